/- A deterministic heap for the model, proved sound, and walks of the program over it: part 5. No condition. -/
import Derived.Test.YtgdkekdedgkglaaDoorAb1
import Derived.Test.YtgdkekdedgkglaaDoorAb2
import Derived.Test.YtgdkekdedgkglaaDoorAb4
import Derived.Test.YtgdkekdedgkglaaDoorAb3
import Derived.ProofKit
import Derived.Conc.Holds
import Derived.Lib.LaidTab
import Derived.Deep.DeepHandedRow
import Derived.Stop.LaidErr
import Derived.Carry
import Derived.ChangeArms
set_option linter.unusedVariables false
set_option linter.unusedSimpArgs false
set_option linter.unusedSectionVars false
section
/- Sizes, depths, what may be; lines built piece by piece. No Go in it. -/
namespace Go.Abs
variable {h h' : AW} {μ μ' : Paint} {P : Program} {ρ0 ρ ρ' : Store} {ns : List Nat} {rs : List Res} {c : Nat}
/-- Two pieces that a call made anew. -/
theorem Pcs.adopt2 {d : Nat} {r s : Res} (W : Pcs ρ0 ρ ns rs) (V : Pcs ρ ρ' [c, d] [r, s]) (hc : ρ c = Option.none) (hd : ρ d = Option.none) : Pcs ρ0 ρ' (c :: d :: ns) (r :: s :: rs) := by
  have V2 : Pcs ρ ρ' [d] [s] := V.tail hc
  have W2 := W.adopt V2 hd
  have hn := V.nodup
  simp at hn
  refine ⟨?_, by have := W2.len; simpa using this, fun i e t he ht => ?_, fun e t he ht => W2.fra e t (fun x => he (List.mem_cons_of_mem _ x)) ht⟩
  · refine List.nodup_cons.2 ⟨fun hm => ?_, W2.nodup⟩
    rcases List.mem_cons.1 hm with x | x
    · exact hn x
    · exact W.notin hc x
  · cases i with
    | zero => exact V.at_ 0 e t (by simpa using he) (by simpa using ht)
    | succ i => exact W2.at_ i e t (by simpa using he) (by simpa using ht)
end Go.Abs
namespace Go.Abs.Fo
open Go.Abs
namespace F
def size : F → Nat
  | nil => 0
  | cons _ _ _ b r => 1 + b.size + r.size
/-- Without the statements themselves. -/
def more : F → Nat
  | nil => 0
  | cons _ _ _ b r => b.size + r.more
theorem size_more : ∀ f : F, f.size = f.len + f.more
  | nil => rfl
  | cons _ _ _ b r => by simp only [size, len, more, size_more r]; omega
def deep : F → Nat
  | nil => 0
  | cons op _ _ b r => max (if opensM op = true then 1 + b.deep else 0) r.deep
def fine (op : Int) (args : Nat) (n : Int) : Bool := decide (1 ≤ op) && decide (op ≤ 12) && fitsM op args && decide (0 ≤ n) && decide (n ≤ 1000) && (decide (n = 0) || decide (op = 10))
/-- Each statement is as it must be. -/
def right : F → Nat → Bool
  | nil, _ => true
  | cons op args n b r, d => fine op args.length n && !(opensM op && decide (d = 8)) && (opensM op || decide (b.len = 0)) && b.right (d + 1) && r.right d
def may (f : F) : Bool := f.right 0 && decide (f.size ≤ 256)
theorem len_le : ∀ f : F, f.len ≤ f.size := fun f => by rw [size_more]; omega
theorem size_full : ∀ f : F, f.size ≤ full f
  | nil => Nat.le_refl _
  | cons _ args _ b r => by
    have h1 := size_full b
    have h2 := size_full r
    simp only [size, full]; omega
theorem deep_size : ∀ f : F, f.deep ≤ f.size
  | nil => Nat.le_refl _
  | cons op _ _ b r => by
    have h1 := deep_size b
    have h2 := deep_size r
    simp only [deep, size]
    split <;> omega
end F
end Go.Abs.Fo
end

section
/- Statements as lines, and read again. No Go in it. -/
namespace Go.Abs.Fo
open Go.Abs
/-- The line of a statement. -/
def lineM (op : Int) (args : List Str) (n : Int) : Line := wordM op :: (args ++ (if op = 10 then [digS n.toNat] else []))
namespace F
def lines : F → List Line
  | nil => []
  | cons op args n b r => lineM op args n :: ((if opensM op = true then b.lines ++ [[wEnd]] else []) ++ r.lines)
/-- What is as it must be, whatever its depth. -/
def wf : F → Bool
  | nil => true
  | cons op args n b r => fine op args.length n && (opensM op || decide (b.len = 0)) && b.wf && r.wf
theorem len_zero {f : F} (h : f.len = 0) : f = nil := by
  cases f with
  | nil => rfl
  | cons _ _ _ _ _ => simp [len] at h
theorem right_wf : ∀ (f : F) (d : Nat), d ≤ 8 → f.right d = (f.wf && decide (d + f.deep ≤ 8))
  | nil, d, hd => by simp [right, wf, deep, hd]
  | cons op args n b r, d, hd => by
    simp only [right, wf, deep]
    rw [right_wf r d hd]
    cases hf : fine op args.length n with
    | false => simp
    | true =>
      by_cases ho : opensM op = true
      · simp only [ho, Bool.true_and, Bool.true_or, if_true]
        by_cases h8 : d = 8
        · subst h8
          simp
          intro _ _
          omega
        · rw [right_wf b (d + 1) (by omega)]
          simp only [h8, decide_false, Bool.not_false, Bool.true_and]
          rw [Bool.eq_iff_iff]
          simp only [Bool.and_eq_true, decide_eq_true_eq]
          constructor
          · rintro ⟨⟨a1, a2⟩, a3, a4⟩; exact ⟨⟨a1, a3⟩, by omega⟩
          · rintro ⟨⟨a1, a3⟩, a4⟩; exact ⟨⟨a1, by omega⟩, a3, by omega⟩
      · have ho : opensM op = false := by simpa using ho
        simp only [ho, Bool.false_and, Bool.not_false, Bool.true_and, Bool.false_or, if_false, Bool.false_eq_true]
        by_cases hb : b.len = 0
        · rw [len_zero hb]
          simp [right, wf, len]
        · simp [hb]
theorem may_iff {f : F} : f.may = true ↔ f.wf = true ∧ f.deep ≤ 8 ∧ f.size ≤ 256 := by
  unfold may
  rw [right_wf f 0 (by omega)]
  simp only [Bool.and_eq_true, decide_eq_true_eq, Nat.zero_add]
  constructor
  · rintro ⟨⟨a, b⟩, c⟩; exact ⟨a, b, c⟩
  · rintro ⟨a, b, c⟩; exact ⟨⟨a, b⟩, c⟩
theorem wf_app : ∀ (f g : F), (f.app g).wf = (f.wf && g.wf)
  | nil, g => by simp [app, wf]
  | cons op args n b r, g => by simp only [app, wf, wf_app r g, Bool.and_assoc]
theorem size_app : ∀ (f g : F), (f.app g).size = f.size + g.size
  | nil, g => by simp [app, size]
  | cons op args n b r, g => by simp only [app, size, size_app r g]; omega
theorem deep_app : ∀ (f g : F), (f.app g).deep = max f.deep g.deep
  | nil, g => by simp [app, deep]
  | cons op args n b r, g => by simp only [app, deep, deep_app r g]; omega
theorem lines_app : ∀ (f g : F), (f.app g).lines = f.lines ++ g.lines
  | nil, g => by simp [app, lines]
  | cons op args n b r, g => by simp only [app, lines, lines_app r g, List.cons_append, List.append_assoc]
theorem lines_len : ∀ f : F, f.lines.length ≤ 2 * f.size
  | nil => by simp [lines]
  | cons op args n b r => by
    have h1 := lines_len b
    have h2 := lines_len r
    simp only [lines, size, List.length_cons, List.length_append]
    split
    · simp; omega
    · simp; omega
end F
theorem numM_dig : ∀ k : Fin 1001, numM (digS k.1) = (k.1 : Int) := by decide +kernel
theorem opOf_word' : ∀ k : Fin 13, 1 ≤ k.1 → opOf (wordM (k.1 : Int)) = k.1 := by decide +kernel
/-- A statement's line says just the statement. -/
theorem stmt_line {op : Int} {args : List Str} {n : Int} (h : F.fine op args.length n = true) : stmtM (lineM op args n) = ⟨op, args, n, true⟩ ∧ lineM op args n ≠ [wEnd] := by
  unfold F.fine at h
  simp only [Bool.and_eq_true, Bool.or_eq_true, decide_eq_true_eq] at h
  obtain ⟨⟨⟨⟨⟨h1, h2⟩, h3⟩, h4⟩, h5⟩, h6⟩ := h
  obtain ⟨k, rfl⟩ : ∃ k : Nat, op = k := ⟨op.toNat, by omega⟩
  have ho := opOf_word' ⟨k, by omega⟩ (by simp only; omega)
  simp only at ho
  unfold lineM
  refine ⟨?_, fun e => ?_⟩
  · show (if opOf (wordM (k : Int)) = 10 then _ else _) = _
    rw [ho]
    by_cases hk : k = 10
    · subst hk
      rw [if_pos rfl]
      have ha : args = [] := by
        unfold fitsM argsM at h3
        simp at h3
        exact List.eq_nil_of_length_eq_zero (by omega)
      subst ha
      simp only [List.nil_append]
      rw [if_pos (by rfl)]
      obtain ⟨m, rfl⟩ : ∃ m : Nat, n = m := ⟨n.toNat, by omega⟩
      have hn := numM_dig ⟨m, by omega⟩
      simp only at hn
      show (⟨10, [], numM (digS m), decide (numM (digS m) ≥ 0)⟩ : X) = _
      rw [hn]
      simp
    · rw [if_neg hk, if_neg (by omega), List.append_nil]
      have hn : n = 0 := by omega
      subst hn
      rw [h3, decide_eq_true (show 0 < k by omega)]
      rfl
  · have e1 := (List.cons.inj e).1
    rw [e1] at ho
    have : opOf wEnd = 0 := by decide
    omega
theorem bd_fuel : ∀ (n m deep : Nat) (r : List Line) (s : PS), r.length < n → r.length < m → bd n deep r s = bd m deep r s
  | 0, m, deep, r, s => fun h => by omega
  | n + 1, 0, deep, r, s => fun _ h => by omega
  | n + 1, m + 1, deep, r, s => fun hn hm => by
    by_cases he : s.err ≠ 0
    · rw [bd_err he, bd_err he]
    cases r with
    | nil => rw [bd, bd]
    | cons l r =>
      simp only [List.length_cons] at hn hm
      rw [bd, bd, if_neg he, if_neg he]
      simp only
      have h1 := bd_fuel n m (deep + 1) r ⟨s.i + 1, s.many + 1, 0, s.bad⟩ (by omega) (by omega)
      have hl := bd_len n (deep + 1) r ⟨s.i + 1, s.many + 1, 0, s.bad⟩
      have h2 := bd_fuel n m deep (bd n (deep + 1) r ⟨s.i + 1, s.many + 1, 0, s.bad⟩).2.1 (bd n (deep + 1) r ⟨s.i + 1, s.many + 1, 0, s.bad⟩).2.2 (by omega) (by omega)
      have h3 := bd_fuel n m deep r ⟨s.i + 1, s.many + 1, 0, s.bad⟩ (by omega) (by omega)
      rw [h2, h3, h1]
theorem bd_stmt {n deep : Nat} {l : Line} {r : List Line} {s : PS} (he : s.err = 0) (hl : l ≠ [wEnd]) (hx : (stmtM l).ok = true) : bd (n + 1) deep (l :: r) s =
    if s.many + 1 > 256 then (.cons (stmtM l).op (stmtM l).args (stmtM l).n .nil .nil, r, ⟨s.i + 1, s.many + 1, 3, s.i⟩)
    else if opensM (stmtM l).op = true then
      if deep = 8 then (.cons (stmtM l).op (stmtM l).args (stmtM l).n .nil .nil, r, ⟨s.i + 1, s.many + 1, 132, s.i⟩)
      else (.cons (stmtM l).op (stmtM l).args (stmtM l).n (bd n (deep + 1) r ⟨s.i + 1, s.many + 1, 0, s.bad⟩).1 (bd n deep (bd n (deep + 1) r ⟨s.i + 1, s.many + 1, 0, s.bad⟩).2.1 (bd n (deep + 1) r ⟨s.i + 1, s.many + 1, 0, s.bad⟩).2.2).1,
        (bd n deep (bd n (deep + 1) r ⟨s.i + 1, s.many + 1, 0, s.bad⟩).2.1 (bd n (deep + 1) r ⟨s.i + 1, s.many + 1, 0, s.bad⟩).2.2).2)
    else (.cons (stmtM l).op (stmtM l).args (stmtM l).n .nil (bd n deep r ⟨s.i + 1, s.many + 1, 0, s.bad⟩).1, (bd n deep r ⟨s.i + 1, s.many + 1, 0, s.bad⟩).2) := by
  rw [bd, if_neg (by simp [he])]
  simp only
  rw [if_neg hl, if_neg (by simp [hx])]
/-- Lines of statements, and more: the statements are read, or there are too many, or they stand too deep. -/
theorem bd_lines : ∀ (f : F) (d : Nat) (rest : List Line) (s : PS) (n : Nat), f.wf = true → d ≤ 8 → s.err = 0 → s.many ≤ 256 → (f.lines ++ rest).length < n →
    (d + f.deep ≤ 8 → s.many + f.size ≤ 256 → bd n d (f.lines ++ rest) s = (f.app (bd n d rest ⟨s.i + f.lines.length, s.many + f.size, 0, s.bad⟩).1, (bd n d rest ⟨s.i + f.lines.length, s.many + f.size, 0, s.bad⟩).2)) ∧
    (¬ (d + f.deep ≤ 8 ∧ s.many + f.size ≤ 256) → ((bd n d (f.lines ++ rest) s).2.2.err = 3 ∨ (bd n d (f.lines ++ rest) s).2.2.err = 132) ∧ (d + f.deep ≤ 8 → (bd n d (f.lines ++ rest) s).2.2.err = 3))
  | .nil, d, rest, s, n => fun hw hd he hm hn => by
    have hs : (⟨s.i + F.nil.lines.length, s.many + F.nil.size, 0, s.bad⟩ : PS) = s := by
      rw [← he]; rfl
    refine ⟨fun _ _ => ?_, fun h => absurd ⟨by simp [F.deep]; omega, by simp [F.size]; omega⟩ h⟩
    rw [hs]; rfl
  | .cons op args kk b r, d, rest, s, n => fun hw hd he hm hn => by
    simp only [F.wf, Bool.and_eq_true] at hw
    obtain ⟨⟨⟨w1, w2⟩, w3⟩, w4⟩ := hw
    obtain ⟨hs, hne⟩ := stmt_line w1
    obtain ⟨n, rfl⟩ : ∃ m, n = m + 1 := ⟨n - 1, by omega⟩
    have hlen : (F.cons op args kk b r).lines ++ rest = lineM op args kk :: ((if opensM op = true then b.lines ++ [[wEnd]] else []) ++ (r.lines ++ rest)) := by
      simp only [F.lines, List.cons_append, List.append_assoc]
    rw [hlen] at hn ⊢
    simp only [List.length_cons, List.length_append] at hn
    rw [bd_stmt he hne (by rw [hs]), hs]
    simp only [F.deep, F.size]
    by_cases h1 : s.many + 1 > 256
    · rw [if_pos h1]
      exact ⟨fun _ h => by omega, fun _ => ⟨.inl rfl, fun _ => rfl⟩⟩
    rw [if_neg h1]
    by_cases ho : opensM op = true
    · rw [if_pos ho, if_pos ho, if_pos ho] at *
      simp only [List.length_append, List.length_cons, List.length_nil] at hn
      by_cases h8 : d = 8
      · rw [if_pos h8]
        exact ⟨fun h => by omega, fun _ => ⟨.inr rfl, fun h => by omega⟩⟩
      rw [if_neg h8]
      have ass : b.lines ++ [[wEnd]] ++ (r.lines ++ rest) = b.lines ++ ([wEnd] :: (r.lines ++ rest)) := by simp
      rw [ass]
      obtain ⟨B1, B2⟩ := bd_lines b (d + 1) ([wEnd] :: (r.lines ++ rest)) ⟨s.i + 1, s.many + 1, 0, s.bad⟩ n w3 (by omega) rfl (by simp only; omega) (by simp; omega)
      by_cases hb : d + 1 + b.deep ≤ 8 ∧ s.many + 1 + b.size ≤ 256
      · rw [B1 hb.1 hb.2]
        simp only
        obtain ⟨n, rfl⟩ : ∃ m, n = m + 1 := ⟨n - 1, by omega⟩
        rw [show bd (n + 1) (d + 1) ([wEnd] :: (r.lines ++ rest)) ⟨s.i + 1 + b.lines.length, s.many + 1 + b.size, 0, s.bad⟩ = (.nil, r.lines ++ rest, ⟨s.i + 1 + b.lines.length + 1, s.many + 1 + b.size, 0, s.bad⟩) from by
          rw [bd, if_neg (by simp)]
          simp only
          rw [if_pos trivial, if_neg (by omega)]]
        simp only [F.app_nil]
        obtain ⟨R1, R2⟩ := bd_lines r d rest ⟨s.i + 1 + b.lines.length + 1, s.many + 1 + b.size, 0, s.bad⟩ (n + 1) w4 hd rfl (by simp only; omega) (by simp; omega)
        refine ⟨fun g1 g2 => ?_, fun g => ?_⟩
        · rw [R1 (by omega) (by simp only; omega)]
          have e1 : (⟨s.i + 1 + b.lines.length + 1 + r.lines.length, s.many + 1 + b.size + r.size, 0, s.bad⟩ : PS) = ⟨s.i + (F.cons op args kk b r).lines.length, s.many + (1 + b.size + r.size), 0, s.bad⟩ := by
            simp only [F.lines, ho, if_true, List.length_cons, List.length_append, List.length_nil]
            congr 1 <;> omega
          simp only [e1]
          rw [bd_fuel (n + 1) (n + 1 + 1) d rest _ (by omega) (by omega)]
          rfl
        · have := R2 (by simp only; omega)
          exact ⟨this.1, fun g1 => this.2 (by omega)⟩
      · have hB := B2 hb
        refine ⟨fun g1 g2 => by omega, fun _ => ?_⟩
        have hne2 : (bd n (d + 1) (b.lines ++ ([wEnd] :: (r.lines ++ rest))) ⟨s.i + 1, s.many + 1, 0, s.bad⟩).2.2.err ≠ 0 := by
          rcases hB.1 with x | x <;> rw [x] <;> decide
        rw [bd_err hne2]
        exact ⟨hB.1, fun g => hB.2 (by omega)⟩
    · have hb0 : b = .nil := by
        simp only [Bool.not_eq_true] at ho
        rw [ho] at w2
        simp at w2
        exact F.len_zero w2
      subst hb0
      rw [if_neg ho, if_neg ho, if_neg ho] at *
      simp only [List.nil_append, List.length_nil] at hn ⊢
      obtain ⟨R1, R2⟩ := bd_lines r d rest ⟨s.i + 1, s.many + 1, 0, s.bad⟩ n w4 hd rfl (by simp only; omega) (by simp; omega)
      simp only [F.size]
      refine ⟨fun g1 g2 => ?_, fun g => ?_⟩
      · rw [R1 (by omega) (by simp only; omega)]
        have e1 : (⟨s.i + 1 + r.lines.length, s.many + 1 + r.size, 0, s.bad⟩ : PS) = ⟨s.i + (F.cons op args kk .nil r).lines.length, s.many + (1 + 0 + r.size), 0, s.bad⟩ := by
          simp only [F.lines, List.length_cons, List.length_append]
          rw [if_neg ho]
          simp only [List.length_nil]
          congr 1 <;> omega
        simp only [e1]
        rw [bd_fuel n (n + 1) d rest _ (by omega) (by omega)]
        rfl
      · have := R2 (by simp only; omega)
        exact ⟨this.1, fun g1 => this.2 (by omega)⟩
theorem bd_end0 {n : Nat} {s : PS} (he : s.err = 0) : bd (n + 1) 0 [] s = (.nil, [], s) := by
  rw [bd, if_neg (by simp [he])]
  simp
/-- The lines of an action are read as it. -/
theorem parse_lines {f : F} (hw : f.wf = true) : (f.deep ≤ 8 → f.size ≤ 256 → parseM f.lines = (f, 0, 0)) ∧
    (¬ (f.deep ≤ 8 ∧ f.size ≤ 256) → (parseM f.lines).1 = .nil ∧ ((parseM f.lines).2.1 = 3 ∨ (parseM f.lines).2.1 = 132) ∧ (f.deep ≤ 8 → (parseM f.lines).2.1 = 3)) := by
  obtain ⟨A, B⟩ := bd_lines f 0 [] ps0 (f.lines.length + 1) hw (by omega) rfl (by simp [ps0]) (by simp)
  rw [List.append_nil] at A B
  unfold parseM
  simp only
  refine ⟨fun h1 h2 => ?_, fun h => ?_⟩
  · rw [A (by omega) (by simp [ps0]; omega), bd_end0 rfl]
    simp [F.app_nil]
  · have := B (by simp only [ps0]; omega)
    rw [if_pos (by rcases this.1 with x | x <;> rw [x] <;> decide)]
    exact ⟨rfl, this.1, fun g => this.2 (by omega)⟩
end Go.Abs.Fo
end

section
/- Lines of statements are mild; their numbers are digits. No Go in it. -/
namespace Go.Abs
theorem lies_one {V : Option Addr → List Value → Prop} : ∀ {f : Fo.F} {cells : List Value}, Fo.Lies V f cells → allOne cells = true
  | .nil, _, h => by
    have h : _ = [] := h
    rw [h]; rfl
  | .cons _ _ _ _ _, _, ⟨aa, ac, ba, bc, bcells, rcells, h1, h2, h3, h4, h5⟩ => by
    rw [h1, allOne_append, lies_one h5]; rfl
end Go.Abs
namespace Go.Abs.Fo
open Go.Abs
theorem word_len : ∀ k : Fin 13, (wordM (k.1 : Int)).size ≤ 10 := by decide +kernel
theorem digS_len' : ∀ k : Fin 1001, (digS k.1).size ≤ 4 ∧ 1 ≤ (digS k.1).size ∧ (numL (digS k.1).data.toList 0).isSome = true := by decide +kernel
theorem sum_memS {l : List Str} {s : Str} (h : s ∈ l) : s.size ≤ (l.map fun s => 1 + s.size).sum := by
  induction l with
  | nil => cases h
  | cons a l ih =>
    simp only [List.map_cons, List.sum_cons]
    rcases List.mem_cons.1 h with rfl | h
    · omega
    · have := ih h; omega
theorem sum_lenS (l : List Str) : l.length ≤ (l.map fun s => 1 + s.size).sum := by
  induction l with
  | nil => simp
  | cons a l ih => simp only [List.map_cons, List.sum_cons, List.length_cons]; omega
theorem fine_of {op : Int} {n : Nat} {kk : Int} (h : F.fine op n kk = true) : ∃ k m : Nat, op = k ∧ kk = m ∧ 1 ≤ k ∧ k ≤ 12 ∧ m ≤ 1000 ∧ fitsM op n = true ∧ (m = 0 ∨ k = 10) := by
  unfold F.fine at h
  simp only [Bool.and_eq_true, Bool.or_eq_true, decide_eq_true_eq] at h
  obtain ⟨⟨⟨⟨⟨h1, h2⟩, h3⟩, h4⟩, h5⟩, h6⟩ := h
  exact ⟨op.toNat, kk.toNat, by omega, by omega, by omega, by omega, by omega, h3, by omega⟩
/-- What is true of each line of statements. -/
def Good1 (l : Line) : Prop := l.length ≤ 262144 ∧ (∀ s, s ∈ l → s.size ≤ 262144) ∧ ∀ w s, l = [w, s] → opOf w = 10 → 1 ≤ s.size ∧ s.size < 19 ∧ ∃ v, numL s.data.toList 0 = some v
theorem good_end : Good1 [wEnd] := ⟨by simp, fun s hs => by simp at hs; subst hs; decide, fun w s h => by cases h⟩
theorem good_stmt {op : Int} {args : List Str} {kk : Int} (h : F.fine op args.length kk = true) (hf : (args.map fun s => 1 + s.size).sum ≤ 262142) : Good1 (lineM op args kk) := by
  obtain ⟨k, m, rfl, rfl, h1, h2, h3, h4, h5⟩ := fine_of h
  have hw := word_len ⟨k, by omega⟩
  have ho := opOf_word' ⟨k, by omega⟩ h1
  have hd := digS_len' ⟨m, by omega⟩
  simp only at hw ho hd
  have hl := sum_lenS args
  unfold lineM
  refine ⟨?_, fun s hs => ?_, fun w s e h10 => ?_⟩
  · simp only [List.length_cons, List.length_append]
    split <;> simp <;> omega
  · simp only [List.mem_cons, List.mem_append] at hs
    rcases hs with rfl | hs | hs
    · omega
    · have := sum_memS hs; omega
    · split at hs
      · simp at hs; subst hs; omega
      · cases hs
  · obtain ⟨e1, e2⟩ := List.cons.inj e
    subst e1
    rw [ho] at h10
    subst h10
    have ha : args = [] := by
      unfold fitsM argsM at h4
      simp at h4
      exact List.eq_nil_of_length_eq_zero (by omega)
    subst ha
    simp at e2
    subst e2
    exact ⟨hd.2.1, by omega, Option.isSome_iff_exists.1 hd.2.2⟩
theorem good_lines : ∀ {f : F}, f.wf = true → full f ≤ 262143 → ∀ l, l ∈ f.lines → Good1 l
  | .nil, _, _, l, hl => by cases hl
  | .cons op args kk b r, hw, hf, l, hl => by
    simp only [F.wf, Bool.and_eq_true] at hw
    obtain ⟨⟨⟨w1, w2⟩, w3⟩, w4⟩ := hw
    simp only [full] at hf
    simp only [F.lines, List.mem_cons, List.mem_append] at hl
    rcases hl with rfl | hl | hl
    · exact good_stmt w1 (by omega)
    · split at hl
      · rcases List.mem_append.1 hl with x | x
        · exact good_lines w3 (by omega) l x
        · simp at x; subst x; exact good_end
      · cases hl
    · exact good_lines w4 (by omega) l hl
theorem fits_app : ∀ {f g : F}, Fits f → Fits g → Fits (f.app g)
  | .nil, _, _, h => h
  | .cons _ _ _ _ _, _, ⟨a, b, c, d, e⟩, h => ⟨a, b, c, d, fits_app e h⟩
theorem mild_of {ls : List Line} (h : ∀ l, l ∈ ls → Good1 l) (hl : ls.length ≤ 262144) : Mild ls := ⟨hl, fun l hm => (h l hm).1, fun l hm => (h l hm).2.1⟩
/-- An action in a loop. -/
def oneM (m : Nat) (f : F) : F := .cons 10 [] m f .nil
theorem one_lines (m : Nat) (f : F) : (oneM m f).lines = [[wRepeat, digS m]] ++ f.lines ++ [[wEnd]] := by
  simp [oneM, F.lines, lineM, opensM, wordM, kinds]
theorem one_wf {m : Nat} {f : F} (hm : m ≤ 1000) (hf : f.wf = true) : (oneM m f).wf = true := by
  simp only [oneM, F.wf, hf, Bool.and_true]
  have : F.fine 10 ([] : List Str).length (m : Int) = true := by
    unfold F.fine fitsM argsM
    simp; omega
  rw [this]; rfl
theorem one_size (m : Nat) (f : F) : (oneM m f).size = f.size + 1 := by simp [oneM, F.size]; omega
theorem one_deep (m : Nat) (f : F) : (oneM m f).deep = f.deep + 1 := by simp [oneM, F.deep, opensM]; omega
end Go.Abs.Fo
end

section
/- The scheduler as it is said: tasks, slots, a queue, who waits in which order. No Go in it. -/
namespace Go.Abs.Sch
open Go.Abs

structure Tk where
  key : Str
  st : Nat
  on : Str
  since : Nat
  starts : Nat
structure M where
  tasks : List Tk
  slots : List Str
  queue : List Str
  clock : Nat

def tix (l : List Tk) (k : Str) : Option Nat := l.findIdx? fun t => bEq t.key k
def tget (l : List Tk) (k : Str) : Option Tk := l.find? fun t => bEq t.key k
theorem tix_cases (l : List Tk) (k : Str) : (tix l k = none ∧ tget l k = none ∧ ∀ t, t ∈ l → t.key ≠ k) ∨
    ∃ j t, tix l k = some j ∧ l[j]? = some t ∧ tget l k = some t ∧ t.key = k ∧ j < l.length ∧ ∀ i t', i < j → l[i]? = some t' → t'.key ≠ k := by
  unfold tix tget
  induction l with
  | nil => exact .inl ⟨rfl, rfl, fun t h => by simp at h⟩
  | cons x l ih =>
    by_cases e : x.key = k
    · refine .inr ⟨0, x, ?_, rfl, ?_, e, by simp, fun i t' hi => by omega⟩
      · simp [List.findIdx?_cons, e]
      · simp [e]
    · have hb : bEq x.key k = false := bEq_false.2 e
      rcases ih with ⟨h1, h2, h3⟩ | ⟨j, t, h1, h2, h3, h4, h5, h6⟩
      · refine .inl ⟨?_, ?_, ?_⟩
        · rw [List.findIdx?_cons, hb, h1]; rfl
        · rw [List.find?_cons, hb, h2]
        · intro t ht
          rcases List.mem_cons.1 ht with rfl | hm
          · exact e
          · exact h3 t hm
      · refine .inr ⟨j + 1, t, ?_, by simpa using h2, ?_, h4, by simp; omega, ?_⟩
        · rw [List.findIdx?_cons, hb, h1]; rfl
        · rw [List.find?_cons, hb, h3]
        · intro i t' hi ht
          cases i with
          | zero => simp at ht; subst ht; exact e
          | succ i => simp at ht; exact h6 i t' (by omega) ht
def tixI (l : List Tk) (k : Str) : Int := match tix l k with | some j => (j : Int) | none => -1
def stOf (l : List Tk) (k : Str) : Nat := match tget l k with | some t => t.st | none => 0
def startsOf (l : List Tk) (k : Str) : Nat := match tget l k with | some t => t.starts | none => 0
def newT (k : Str) : Tk := ⟨k, 1, e0, 0, 0⟩
def want1 (m : M) (k : Str) : M := match tix m.tasks k with
  | some _ => m
  | none => { m with tasks := m.tasks ++ [newT k], queue := m.queue ++ [k] }
def wantL (m : M) (ks : List Str) : M := ks.foldl want1 m
/-- The task of a key, turned. -/
def upL (l : List Tk) (k : Str) (f : Tk → Tk) : List Tk := l.map fun t => if t.key = k then f t else t
def upT (m : M) (k : Str) (f : Tk → Tk) : M := { m with tasks := upL m.tasks k f }
def keys (l : List Tk) : List Str := l.map Tk.key
theorem upL_len {l : List Tk} {k : Str} {f : Tk → Tk} : (upL l k f).length = l.length := by simp [upL]
theorem upL_keys {k : Str} {f : Tk → Tk} (hf : ∀ t, (f t).key = t.key) (l : List Tk) : keys (upL l k f) = keys l := by
  unfold keys upL
  rw [List.map_map]
  refine List.map_congr_left fun t _ => ?_
  simp only [Function.comp]
  split
  · exact hf t
  · rfl
theorem tix_keys : ∀ {l l' : List Tk} (k : Str), keys l = keys l' → tix l k = tix l' k
  | [], [], k, _ => rfl
  | t :: l, t' :: l', k, h => by
    simp only [keys, List.map_cons, List.cons.injEq] at h
    have := tix_keys (l := l) (l' := l') k h.2
    unfold tix at *
    rw [List.findIdx?_cons, List.findIdx?_cons, h.1, this]
  | [], _ :: _, k, h => by simp [keys] at h
  | _ :: _, [], k, h => by simp [keys] at h
theorem tget_upL {k : Str} {f : Tk → Tk} (hf : ∀ t, (f t).key = t.key) (k' : Str) : ∀ (l : List Tk), tget (upL l k f) k' = if k' = k then (tget l k').map f else tget l k'
  | [] => by simp [tget, upL]
  | t :: l => by
    have ih := tget_upL (k := k) hf k' l
    have hkey : (if t.key = k then f t else t).key = t.key := by split; exact hf t; rfl
    unfold tget upL at *
    rw [List.map_cons, List.find?_cons, List.find?_cons, hkey]
    by_cases e : t.key = k'
    · subst e
      simp only [bEq_self]
      split <;> simp_all
    · rw [bEq_false.2 e]
      simp only
      rw [ih]
theorem upL_set {l : List Tk} {k : Str} {f : Tk → Tk} (hn : (keys l).Nodup) {j : Nat} {t : Tk} (ht : l[j]? = some t) (hk : t.key = k) : l.set j (f t) = upL l k f := by
  apply List.ext_getElem?
  intro i
  rw [List.getElem?_set]
  unfold upL
  rw [List.getElem?_map]
  obtain ⟨hj, ej⟩ := List.getElem?_eq_some_iff.1 ht
  by_cases e : j = i
  · subst e
    rw [if_pos rfl, if_pos hj, ht]; simp [hk]
  · rw [if_neg e]
    cases hi : l[i]? with
    | none => rfl
    | some t' =>
      have : t'.key ≠ k := fun e2 => by
        obtain ⟨hi', ei⟩ := List.getElem?_eq_some_iff.1 hi
        have h1 : i < (keys l).length := by simpa [keys] using hi'
        have h2 : j < (keys l).length := by simpa [keys] using hj
        have := (List.getElem_inj (h₀ := h1) (h₁ := h2) hn).1 (by simp [keys, ei, ej, e2, hk])
        exact e this.symm
      simp [this]
def fillAt (m : M) (out : List Str) (i : Nat) : M × List Str :=
  match m.slots[i]? with
  | some s => if s = e0 then match m.queue with
    | k :: q => (upT { m with slots := m.slots.set i k, queue := q } k fun t => { t with st := 2, starts := t.starts + 1 }, out ++ [k])
    | [] => (m, out)
    else (m, out)
  | none => (m, out)
/-- From slot i on, n slots. -/
def fillFrom : Nat → M → List Str → Nat → M × List Str
  | 0, m, out, _ => (m, out)
  | n + 1, m, out, i => fillFrom n (fillAt m out i).1 (fillAt m out i).2 (i + 1)
/-- The first slot that is not idle, from a place on, around. -/
def pickFrom (slots : List Str) (a : Nat) : Nat → Nat → Option Str
  | 0, _ => none
  | n + 1, i => if slots.getD ((a + i) % slots.length) e0 = e0 then pickFrom slots a n (i + 1) else some (slots.getD ((a + i) % slots.length) e0)
def pickAt (w : Nat) (n : Int) : Nat := (n % (w : Int)).toNat
def pick (m : M) (n : Int) : Option Str := pickFrom m.slots (pickAt m.slots.length n) m.slots.length 0
def leaveL (slots : List Str) (k : Str) : List Str := slots.map fun s => if s = k then e0 else s
/-! Circles. -/
def chase (l : List Tk) (key : Str) : Nat → Str → List Str → Option (List Str)
  | 0, _, _ => none
  | n + 1, at_, out => match tget l at_ with
    | some t => if t.st = 3 then (if t.on = key then some (out ++ [at_]) else chase l key n t.on (out ++ [at_])) else none
    | none => none
def less (x y : Str) : Bool := Op.bytesLess x.data.toList y.data.toList
def least (x : List Str) : Nat → Nat → Nat → Nat
  | 0, _, cur => cur
  | n + 1, k, cur => least x n (k + 1) (if less (x.getD k e0) (x.getD cur e0) then k else cur)
def turnL (x : List Str) : List Str := x.drop (least x (x.length - 1) 1 0) ++ x.take (least x (x.length - 1) 1 0)
def circleR (l : List Tk) (key : Str) : List Str := match chase l key (l.length + 1) key [] with
  | some x => turnL x
  | none => []
theorem least_lt {x : List Str} : ∀ (n k cur : Nat), k + n ≤ x.length → cur < x.length → least x n k cur < x.length
  | 0, _, _, _, h => h
  | n + 1, k, cur, h, hc => by
    rw [least]
    refine least_lt n (k + 1) _ (by omega) ?_
    split <;> omega
theorem tmod_nat {a w : Nat} : Int.tmod (a : Int) (w : Int) = ((a % w : Nat) : Int) := (Int.ofNat_tmod a w).symm
theorem pickAt_lt {w : Nat} (hw : 0 < w) (n : Int) : pickAt w n < w := by
  unfold pickAt
  have h1 := Int.emod_nonneg n (show (w : Int) ≠ 0 by omega)
  have h2 := Int.emod_lt_of_pos n (show (0 : Int) < w by omega)
  omega
theorem pickAt_eq {w : Nat} (hw : 0 < w) (n : Int) : (pickAt w n : Int) = n % (w : Int) := by
  unfold pickAt
  exact Int.toNat_of_nonneg (Int.emod_nonneg n (by omega))
/-- A remainder made right. -/
theorem tmod_fix {w : Nat} (hw : 0 < w) (n : Int) : (if Int.tmod n w < 0 then Int.tmod n w + w else Int.tmod n w) = (pickAt w n : Int) := by
  rw [pickAt_eq hw]
  have h1 := Int.emod_nonneg n (show (w : Int) ≠ 0 by omega)
  have h2 := Int.emod_lt_of_pos n (show (0 : Int) < w by omega)
  have h3 := Int.tmod_eq_emod (a := n) (b := w)
  split at h3
  · rw [if_neg (by omega)]; omega
  · rename_i hd
    have : n % (w : Int) ≠ 0 := fun e => hd (.inr (Int.dvd_of_emod_eq_zero e))
    rw [if_pos (by simp at h3; omega)]; simp at h3; omega
theorem tmod_range {w : Nat} (hw : 0 < w) (n : Int) : -(w : Int) < Int.tmod n w ∧ Int.tmod n w < w := by
  have h1 := Int.emod_nonneg n (show (w : Int) ≠ 0 by omega)
  have h2 := Int.emod_lt_of_pos n (show (0 : Int) < w by omega)
  have h3 := Int.tmod_eq_emod (a := n) (b := w)
  split at h3
  · omega
  · rename_i hd
    have : n % (w : Int) ≠ 0 := fun e => hd (.inr (Int.dvd_of_emod_eq_zero e))
    simp at h3; omega
/-! Waiting, and ending. -/
def waitR (m : M) (key on : Str) : List Str × Nat × M :=
  if on = e0 then ([], 2, m) else if stOf m.tasks key ≠ 2 then ([], 4, m) else if stOf m.tasks on = 4 then ([], 0, m) else
    let m1 := want1 m on
    let l := upL m1.tasks key fun t => { t with st := 3, on := on, since := m.clock + 1 }
    (circleR l key, 0, ⟨l, leaveL m1.slots key, m1.queue, m.clock + 1⟩)
/-- Who waits for a key, and began to ahead of the one found so far. -/
def ahead (l : List Tk) (f : Option Nat) (t : Tk) : Bool := match f with
  | some j => decide (t.since < ((l[j]?).map Tk.since).getD 0)
  | none => true
def scan (l : List Tk) (key : Str) : Nat → Nat → Option Nat → Option Nat
  | 0, _, f => f
  | n + 1, i, f => match l[i]? with
    | some t => if t.st = 3 ∧ t.on = key ∧ ahead l f t = true then scan l key n (i + 1) (some i) else scan l key n (i + 1) f
    | none => f
def fI : Option Nat → Int
  | some j => (j : Int)
  | none => -1
def release (key : Str) : Nat → List Tk → List Str → List Tk × List Str
  | 0, l, q => (l, q)
  | n + 1, l, q => match scan l key l.length 0 none with
    | some j => match l[j]? with
      | some t => release key n (l.set j { t with st := 1 }) (q ++ [t.key])
      | none => (l, q)
    | none => (l, q)
def waitN (l : List Tk) (key : Str) : Nat := l.countP fun t => t.st == 3 && bEq t.on key
def doneR (m : M) (key : Str) : Nat × M :=
  if stOf m.tasks key = 2 ∨ stOf m.tasks key = 3 then
    let l := upL m.tasks key fun t => { t with st := 4 }
    let r := release key (l.length + 1) l m.queue
    (0, ⟨r.1, leaveL m.slots key, r.2, m.clock⟩)
  else (4, m)
theorem scan_ok {l : List Tk} {key : Str} : ∀ (n i : Nat) (f : Option Nat), i + n = l.length → (∀ j, f = some j → ∃ t, l[j]? = some t ∧ t.st = 3 ∧ t.on = key) →
    ∀ j, scan l key n i f = some j → ∃ t, l[j]? = some t ∧ t.st = 3 ∧ t.on = key
  | 0, i, f, _, hf, j, h => hf j h
  | n + 1, i, f, hi, hf, j, h => by
    rw [scan] at h
    have hlt : i < l.length := by omega
    rw [List.getElem?_eq_getElem hlt] at h
    simp only at h
    split at h
    · rename_i hc
      exact scan_ok n (i + 1) _ (by omega) (fun k hk => by cases hk; exact ⟨_, List.getElem?_eq_getElem hlt, hc.1, hc.2.1⟩) j h
    · exact scan_ok n (i + 1) f (by omega) hf j h
theorem waitN_set {l : List Tk} {key : Str} {j : Nat} {t : Tk} (h : l[j]? = some t) (h1 : t.st = 3) (h2 : t.on = key) : waitN l key = waitN (l.set j { t with st := 1 }) key + 1 := by
  unfold waitN
  induction l generalizing j with
  | nil => simp at h
  | cons x l ih =>
    cases j with
    | zero => simp at h; subst h; subst h2; simp [h1]
    | succ j =>
      simp at h
      simp only [List.set_cons_succ, List.countP_cons]
      have := ih h
      omega
end Go.Abs.Sch
end

section
/- The scheduler as it is made: a task knows who waits for it; how many tasks are in each state is counted. No Go in it. -/
namespace Go.Abs.Sch
open Go.Abs
structure MT where
  key : Str
  st : Nat
  on : Str
  ws : List Str
  starts : Nat
structure MI where
  tasks : List MT
  slots : List Str
  queue : List Str
def mix (l : List MT) (k : Str) : Option Nat := l.findIdx? fun t => bEq t.key k
def mget (l : List MT) (k : Str) : Option MT := l.find? fun t => bEq t.key k
def mst (l : List MT) (k : Str) : Nat := match mget l k with | some t => t.st | none => 0
def mstarts (l : List MT) (k : Str) : Nat := match mget l k with | some t => t.starts | none => 0
def mkeys (l : List MT) : List Str := l.map MT.key
def manyOf (l : List MT) (s : Nat) : Int := if s = 0 then -(l.length : Int) else (l.countP fun t => t.st == s : Nat)
def mupL (l : List MT) (k : Str) (f : MT → MT) : List MT := l.map fun t => if t.key = k then f t else t
def newMT (k : Str) : MT := ⟨k, 1, e0, [], 0⟩
def iwant1 (m : MI) (k : Str) : MI := match mget m.tasks k with
  | some _ => m
  | none => { m with tasks := m.tasks ++ [newMT k], queue := m.queue ++ [k] }
def iwant (m : MI) (ks : List Str) : Nat × MI := if memB e0 ks then (2, m) else (0, ks.foldl iwant1 m)
def ifillAt (m : MI) (out : List Str) (i : Nat) : MI × List Str :=
  match m.slots[i]? with
  | some s => if s = e0 then match m.queue with
    | k :: q => ({ tasks := mupL m.tasks k fun t => { t with st := 2, starts := t.starts + 1 }, slots := m.slots.set i k, queue := q }, out ++ [k])
    | [] => (m, out)
    else (m, out)
  | none => (m, out)
def ifillFrom : Nat → MI → List Str → Nat → MI × List Str
  | 0, m, out, _ => (m, out)
  | n + 1, m, out, i => ifillFrom n (ifillAt m out i).1 (ifillAt m out i).2 (i + 1)
def ready (m : MI) (k : Str) : MI := { m with tasks := mupL m.tasks k fun t => { t with st := 1 }, queue := m.queue ++ [k] }
/-- The circle of a waiting task. -/
def ichase (l : List MT) (key : Str) : Nat → Str → List Str → Option (List Str)
  | 0, _, _ => none
  | n + 1, at_, out => match mget l at_ with
    | some t => if t.st = 3 then (if memB at_ out then none else if t.on = key then some (out ++ [at_]) else ichase l key n t.on (out ++ [at_])) else none
    | none => none
theorem countP_set {l : List MT} {j : Nat} {t t' : MT} (h : l[j]? = some t) (p : MT → Bool) : (l.set j t').countP p + (if p t then 1 else 0) = l.countP p + (if p t' then 1 else 0) := by
  induction l generalizing j with
  | nil => simp at h
  | cons x l ih =>
    cases j with
    | zero => simp at h; subst h; simp only [List.set_cons_zero, List.countP_cons]; omega
    | succ j =>
      simp at h
      simp only [List.set_cons_succ, List.countP_cons]
      have := ih h
      omega
theorem manyOf_set {l : List MT} {j : Nat} {t t' : MT} (h : l[j]? = some t) (ha : t.st ≠ 0) (hb : t'.st ≠ 0) (s : Nat) :
    manyOf (l.set j t') s = manyOf l s - (if t.st = s then 1 else 0) + (if t'.st = s then 1 else 0) := by
  unfold manyOf
  by_cases h0 : s = 0
  · subst h0; simp [ha, hb]
  · have := countP_set (t' := t') h fun t => t.st == s
    simp only [beq_iff_eq] at this
    rw [if_neg h0, if_neg h0]
    split at this <;> split at this <;> simp_all <;> omega
theorem manyOf_le {l : List MT} {B : Nat} (h : l.length ≤ B) (s : Nat) : -(B : Int) ≤ manyOf l s ∧ manyOf l s ≤ B := by
  unfold manyOf
  split
  · omega
  · have := List.countP_le_length (p := fun t : MT => t.st == s) (l := l)
    omega
theorem manyOf_snoc {l : List MT} {t : MT} {s : Nat} : manyOf (l ++ [t]) s = manyOf l s + (if s = 0 then -1 else if t.st = s then 1 else 0) := by
  unfold manyOf
  by_cases h0 : s = 0
  · subst h0; simp; omega
  · rw [if_neg h0, if_neg h0, if_neg h0, List.countP_append, List.countP_singleton]
    by_cases e : t.st = s <;> simp [e]
def ileave (slots : List Str) (k : Str) : List Str := match slots.findIdx? (fun t => bEq k t) with
  | some j => slots.set j e0
  | none => slots
def iadd (m : MI) (on key : Str) : MI := { m with tasks := mupL m.tasks on fun t => { t with ws := t.ws ++ [key] } }
def idxN (s : Str) (x : List Str) : Nat := (x.findIdx? (fun t => bEq s t)).getD 0
def leqS (x y : Str) : Bool := Op.bytesLess x.data.toList y.data.toList || x.data.toList == y.data.toList
def minS (x : List Str) : Str := (x.drop 1).foldl (fun c t => if leqS c t then c else t) (x.headD e0)
theorem foldl_min_mem : ∀ (l : List Str) (c : Str), l.foldl (fun c t => if leqS c t then c else t) c ∈ c :: l
  | [], c => by simp
  | y :: l, c => by
    rw [List.foldl_cons]
    have := foldl_min_mem l (if leqS c y then c else y)
    rcases List.mem_cons.1 this with h | h
    · rw [h]; split <;> simp
    · simp [h]
theorem minS_mem {x : List Str} (h : 0 < x.length) : minS x ∈ x := by
  cases x with
  | nil => simp at h
  | cons y x => exact foldl_min_mem x y
def rotL (x : List Str) : List Str := x.drop (idxN (minS x) x) ++ x.take (idxN (minS x) x)
def icircle (l : List MT) (key : Str) : List Str := match ichase l key (l.length + 1) key [] with
  | some x => rotL x
  | none => []
def iwait (m : MI) (key on : Str) : List Str × Nat × MI :=
  if on = e0 then ([], 2, m) else if mst m.tasks key ≠ 2 then ([], 4, m) else if mst m.tasks on = 4 then ([], 0, m) else
    let m1 := iwant1 m on
    let l := mupL (mupL m1.tasks key fun t => { t with st := 3, on := on }) on fun t => { t with ws := t.ws ++ [key] }
    (icircle l key, 0, ⟨l, ileave m1.slots key, m1.queue⟩)
def idone (m : MI) (key : Str) : Nat × MI :=
  match mget m.tasks key with
  | none => (4, m)
  | some t =>
    if t.st = 2 ∨ t.st = 3 then
      let l1 := if t.st = 3 then mupL m.tasks t.on fun t => { t with ws := t.ws.filter fun k => !bEq k key } else m.tasks
      let s1 := if t.st = 2 then ileave m.slots key else m.slots
      let l2 := mupL l1 key fun t => { t with st := 4 }
      let ws := match mget l2 key with | some t => t.ws | none => []
      let m3 := ws.foldl (fun m k => if k = key then m else ready m k) ⟨l2, s1, m.queue⟩
      (0, { m3 with tasks := mupL m3.tasks key fun t => { t with ws := [] } })
    else (4, m)
end Go.Abs.Sch
end

section
/- A region whose order is open, joined. -/
open Go.RowKit
namespace Go.Abs
variable {B0 : Zn} {w0 : World} {φ ψ : Map} {h h' h0 : AW} {w : World} {P : Program}

structure Inv (P : Program) (B0 : Zn) (w0 : World) (ops : Array Oper) (tr : List St) (h0 : AW) (F0 : Fr) (ψ : Map) (listed : Array Bool) (k : Nat) (a : Act) (w : World) : Prop where
  size : listed.size = ops.size
  down : ∀ (j : Nat) (oj : Oper), ops.toList[j]? = some oj → listed[j]? = some true → ∀ e, e ∈ oj.after.toList → Region.binds .any e = true → listed[e.on]? = some true
  kle : k ≤ (acts 0 tr).length
  kth : ∀ (m i : Nat) (x : AW), (acts 0 tr)[m]? = some (i, x) → (listed[i]? = some true ↔ m < k)
  heap : HRel B0 w0 ψ (hAt h0 (acts 0 tr) k) w
  glob : Glob P ψ
  n : a.tmps.size = F0.n
  vals : ∀ (j : Nat) (s : St), tr[j]? = some s → listed[j]? = some true → ∀ t : Nat, s.o.dst = some t → VRel ψ s.v (a.eval (.tmp t))
  rest : ∀ t : Nat, (∀ (j : Nat) (s : St), tr[j]? = some s → listed[j]? = some true → s.o.dst ≠ some t) → VRel ψ (F0.ev (.tmp t)) (a.eval (.tmp t))

theorem eval_put {a : Act} {d : Option Tmp} {v : Value} (hd : ∀ x : Nat, d = some x → x < a.tmps.size) (t : Nat) : (a.put d v).eval (.tmp t) = if d = some t then v else a.eval (.tmp t) := by
  cases d with
  | none => simp [Act.put]
  | some d =>
    have hlt := hd d rfl
    by_cases htd : d = t
    · subst htd
      rw [if_pos rfl]
      simp only [Act.put, Act.eval]
      rw [Array.getD_eq_getD_getElem?, Array.getElem?_setIfInBounds_self, if_pos hlt]
      rfl
    · rw [if_neg (fun e => htd (Option.some.inj e))]
      simp only [Act.put, Act.eval]
      rw [Array.getD_eq_getD_getElem?, Array.getElem?_setIfInBounds_ne htd, ← Array.getD_eq_getD_getElem?]

theorem lst_set {listed : Array Bool} {j : Nat} (hj : j < listed.size) (i : Nat) : (listed.setIfInBounds j true)[i]? = some true ↔ i = j ∨ listed[i]? = some true := by
  by_cases h : i = j
  · subst h; simp [hj]
  · rw [Array.getElem?_setIfInBounds_ne (Ne.symm h)]; simp [h]

theorem bef_listed {ops : List Oper} (S : Static ops) {listed : Array Bool} (hdown : ∀ (j : Nat) (oj : Oper), ops[j]? = some oj → listed[j]? = some true → ∀ e, e ∈ oj.after.toList → Region.binds .any e = true → listed[e.on]? = some true) :
    ∀ (n j : Nat), j < n → ∀ oj, ops[j]? = some oj → (∀ e, e ∈ oj.after.toList → Region.binds .any e = true → listed[e.on]? = some true) → ∀ i, bef (masks ops []) i j = true → listed[i]? = some true := by
  intro n
  induction n with
  | zero => intro j hj; omega
  | succ n ih =>
    intro j hj oj hoj he i hb
    obtain ⟨e, hm, hbi, hc⟩ := S.mask j oj i hoj hb
    rcases hc with rfl | hc
    · exact he e hm hbi
    · have hlt := S.edge j oj hoj e hm hbi
      have hlen : j < ops.length := by
        rcases Nat.lt_or_ge j ops.length with hx | hx
        · exact hx
        · rw [List.getElem?_eq_none hx] at hoj; cases hoj
      obtain ⟨oe, hoe⟩ : ∃ oe, ops[e.on]? = some oe := ⟨_, List.getElem?_eq_getElem (by omega)⟩
      exact ih e.on (by omega) oe hoe (hdown e.on oe hoe (he e hm hbi)) i hc

/-- What is known of the trace of a region. -/
structure Trace (P : Program) (call : FuncId → List Value → AW → Option (Value × AW)) (ops : Array Oper) (tr : List St) (F0 F' : Fr) (h0 h' : AW) : Prop where
  len : tr.length = ops.toList.length
  at_ : ∀ (j : Nat) (s : St), tr[j]? = some s → ops.toList[j]? = some s.o ∧ StSpec P call ops.toList s ∧ s.F.n = F0.n
  n : F'.n = F0.n
  fr : ∀ (j : Nat) (s : St), tr[j]? = some s → ∀ t : Nat, (∃ (i : Nat) (s' : St), i < j ∧ tr[i]? = some s' ∧ s'.o.dst = some t ∧ s.F.ev (.tmp t) = s'.v) ∨ ((∀ (i : Nat) (s' : St), i < j → tr[i]? = some s' → s'.o.dst ≠ some t) ∧ s.F.ev (.tmp t) = F0.ev (.tmp t))
  fin : ∀ t : Nat, (∃ (i : Nat) (s' : St), tr[i]? = some s' ∧ s'.o.dst = some t ∧ F'.ev (.tmp t) = s'.v) ∨ ((∀ (i : Nat) (s' : St), tr[i]? = some s' → s'.o.dst ≠ some t) ∧ F'.ev (.tmp t) = F0.ev (.tmp t))
  hp : ∀ (j : Nat) (s : St), tr[j]? = some s → s.h = hAt h0 (acts 0 tr) (acts 0 (tr.take j)).length ∧ (∀ h2, s.act = some h2 → (acts 0 tr)[(acts 0 (tr.take j)).length]? = some (j, h2))
  last : h' = hAt h0 (acts 0 tr) (acts 0 tr).length

theorem trace_of {call : FuncId → List Value → AW → Option (Value × AW)} {ops : Array Oper} {F F' : Fr} {tr : List St} (ht : traceOps P call ops.toList ops.toList F h = some (tr, F', h')) : Trace P call ops tr F F' h h' := by
  obtain ⟨q1, q2, q3, q4, q5, q6, q7⟩ := trace_spec ops.toList F h tr F' h' ht
  refine ⟨q1, q2, q3, fun j s hj t => ?_, fun t => ?_, fun j s hj => ?_, q7 0⟩
  · rcases q4 j s hj t with ⟨i, s', a, b, c, d, _⟩ | b
    · exact .inl ⟨i, s', a, b, c, d⟩
    · exact .inr b
  · rcases q5 t with ⟨i, s', b, c, d, _⟩ | b
    · exact .inl ⟨i, s', b, c, d⟩
    · exact .inr b
  · have := q6 j s hj 0
    exact ⟨this.1, fun h2 e => by have := this.2 h2 e; rwa [Nat.zero_add] at this⟩

variable {call : FuncId → List Value → AW → Option (Value × AW)} {ops : Array Oper} {tr : List St} {F0 F' : Fr}

theorem Inv.step {B1 : Zn} {w1 : World} {listed : Array Bool} {k : Nat} {a : Act} (S : Static ops.toList) (T : Trace P call ops tr F0 F' h0 h') (I : Inv P B1 w1 ops tr h0 F0 ψ listed k a w) {j : Nat} {s : St} (hj : tr[j]? = some s)
    (hre : ∀ e, e ∈ s.o.after.toList → Region.binds .any e = true → listed[e.on]? = some true) (hnl : listed[j]? = some false) {ψ' : Map} (hle : ψ.le ψ') {v' : Value} (hv : VRel ψ' s.v v') {k' : Nat}
    (hk : (s.act = none ∧ k' = k) ∨ (∃ x, (acts 0 tr)[k]? = some (j, x) ∧ k' = k + 1)) {w' : World} (H' : HRel B0 w0 ψ' (hAt h0 (acts 0 tr) k') w') :
    Inv P B0 w0 ops tr h0 F0 ψ' (listed.setIfInBounds j true) k' (a.put s.o.dst v') w' := by
  obtain ⟨hoj, hspec, hsn⟩ := T.at_ j s hj
  have hjs : j < listed.size := by
    rcases Nat.lt_or_ge j listed.size with hx | hx
    · exact hx
    · rw [Array.getElem?_eq_none hx] at hnl; cases hnl
  have hroom : ∀ x : Nat, s.o.dst = some x → x < a.tmps.size := fun x hx => by have := hspec.room x hx; rw [hsn] at this; rw [I.n]; exact this
  refine ⟨by simpa using I.size, ?_, ?_, ?_, H', I.glob.mono hle, ?_, ?_, ?_⟩
  · intro i oi hi hl e he hb
    rw [lst_set hjs] at hl ⊢
    rcases hl with rfl | hl
    · rw [hoj] at hi; cases hi
      exact .inr (hre e he hb)
    · exact .inr (I.down i oi hi hl e he hb)
  · rcases hk with ⟨_, rfl⟩ | ⟨x, hx, rfl⟩
    · exact I.kle
    · rcases Nat.lt_or_ge k (acts 0 tr).length with hy | hy
      · exact hy
      · rw [List.getElem?_eq_none hy] at hx; cases hx
  · intro m i x hm
    rw [lst_set hjs]
    have hI := I.kth m i x hm
    rcases hk with ⟨hn, rfl⟩ | ⟨y, hy, rfl⟩
    · have hne : i ≠ j := by
        rintro rfl
        obtain ⟨_, ⟨s', a1, a2⟩, _⟩ := acts_at tr 0 m i x hm
        rw [Nat.sub_zero, hj] at a1
        cases a1
        rw [hn] at a2; cases a2
      simp only [hne, false_or]
      exact hI
    · by_cases hij : i = j
      · subst hij
        have e1 := (acts_at tr 0 m i x hm).2.2
        have e2 := (acts_at tr 0 k i y hy).2.2
        have : m = k := e1.trans e2.symm
        subst this
        simp
      · simp only [hij, false_or, hI]
        constructor
        · intro hx; omega
        · intro hx
          rcases Nat.lt_or_ge m k with hz | hz
          · exact hz
          · have : m = k := by omega
            subst this
            rw [hm] at hy; cases hy; exact absurd rfl hij
  · have : (a.put s.o.dst v').tmps.size = a.tmps.size := by cases s.o.dst <;> simp [Act.put]
    rw [this]; exact I.n
  · intro i si hi hl t ht
    rw [eval_put hroom]
    rw [lst_set hjs] at hl
    by_cases hij : i = j
    · subst hij
      rw [hj] at hi; cases hi
      rw [if_pos ht]; exact hv
    · have hl' : listed[i]? = some true := by simpa [hij] using hl
      have hne := (S.pair i j si.o s.o (T.at_ i si hi).1 hoj hij t ht).1
      rw [if_neg hne]
      exact (I.vals i si hi hl' t ht).mono hle
  · intro t ht
    rw [eval_put hroom]
    have hnj : s.o.dst ≠ some t := ht j s hj (by rw [lst_set hjs]; exact .inl rfl)
    rw [if_neg hnj]
    exact (I.rest t fun i si hi hl => ht i si hi (by rw [lst_set hjs]; exact .inr hl)).mono hle

/-- What an operation that may come next looks at is what the text's own order shows it. -/
theorem Inv.reads {listed : Array Bool} {k : Nat} {a : Act} (S : Static ops.toList) (T : Trace P call ops tr F0 F' h0 h') (I : Inv P B0 w0 ops tr h0 F0 ψ listed k a w) {j : Nat} {s : St} (hj : tr[j]? = some s)
    (hre : ∀ e, e ∈ s.o.after.toList → Region.binds .any e = true → listed[e.on]? = some true) (hnl : listed[j]? = some false) :
    ∀ t, t ∈ readsOf ops.toList s.o → VRel ψ (s.F.ev (.tmp t)) (a.eval (.tmp t)) := by
  intro t ht
  obtain ⟨hoj, hspec, hsn⟩ := T.at_ j s hj
  rcases T.fr j s hj t with ⟨i, si, a1, a2, a3, a4⟩ | ⟨b1, b2⟩
  · have hb := ((S.pair i j si.o s.o (T.at_ i si a2).1 hoj (by omega) t a3).2 ht).1 a1
    have hl := bef_listed S I.down (j + 1) j (by omega) s.o hoj hre i hb
    rw [a4]
    exact I.vals i si a2 hl t a3
  · rw [b2]
    refine I.rest t fun i si hi hl hd => ?_
    rcases Nat.lt_or_ge i j with hlt | hge
    · exact b1 i si hlt hi hd
    · have hne : i ≠ j := by rintro rfl; rw [hnl] at hl; cases hl
      have hb := ((S.pair i j si.o s.o (T.at_ i si hi).1 hoj hne t hd).2 ht).2 (by omega)
      have := bef_listed S I.down (i + 1) i (by omega) si.o (T.at_ i si hi).1 (I.down i si.o (T.at_ i si hi).1 hl) j hb
      rw [hnl] at this; cases this

theorem ready_spec {listed : Array Bool} (hsz : listed.size = ops.size) {i : Nat} (hi : i ∈ Region.ready .any ops listed) :
    listed[i]? = some false ∧ ∃ o, ops[i]? = some o ∧ ∀ e, e ∈ o.after.toList → Region.binds .any e = true → listed[e.on]? = some true := by
  unfold Region.ready at hi
  simp only [List.mem_filter, List.mem_range, Bool.and_eq_true, Bool.not_eq_true'] at hi
  obtain ⟨h1, h2, h3⟩ := hi
  rw [Array.getD_eq_getD_getElem?, Array.getElem?_eq_getElem (by omega)] at h2
  refine ⟨by rw [Array.getElem?_eq_getElem (by omega)]; exact congrArg some h2, ?_⟩
  rw [Array.getElem?_eq_getElem h1] at h3
  simp only [Option.map_some, Option.getD_some] at h3
  refine ⟨ops[i], Array.getElem?_eq_getElem h1, fun e he hb => ?_⟩
  rw [Array.all_eq_true'] at h3
  have := h3 e (by simpa using he)
  rw [hb] at this
  simp only [Bool.not_true, Bool.false_or] at this
  rw [Array.getD_eq_getD_getElem?] at this
  cases hx : listed[e.on]? with
  | none => rw [hx] at this; cases this
  | some b => rw [hx] at this; simp only [Option.getD_some] at this; rw [this]

theorem all_listed {listed : Array Bool} (hsz : listed.size = ops.size) (S : Static ops.toList) (hr : Region.ready .any ops listed = []) : ∀ (n i : Nat), i < n → i < ops.size → listed[i]? = some true := by
  intro n
  induction n with
  | zero => intro i hi; omega
  | succ n ih =>
    intro i hi hlt
    cases hl : listed[i]? with
    | none => rw [Array.getElem?_eq_getElem (by omega)] at hl; cases hl
    | some b =>
      cases b with
      | true => rfl
      | false =>
        exfalso
        have hmem : i ∈ Region.ready .any ops listed := by
          unfold Region.ready
          simp only [List.mem_filter, List.mem_range, Bool.and_eq_true, Bool.not_eq_true']
          refine ⟨hlt, ?_, ?_⟩
          · rw [Array.getD_eq_getD_getElem?, hl]; rfl
          · rw [Array.getElem?_eq_getElem hlt]
            simp only [Option.map_some, Option.getD_some]
            rw [Array.all_eq_true']
            intro e he
            cases hb : Region.binds .any e with
            | false => rfl
            | true =>
              have hlt' := S.edge i ops[i] (by rw [Array.getElem?_toList]; exact Array.getElem?_eq_getElem hlt) e (by simpa using he) hb
              rw [Array.getD_eq_getD_getElem?, ih e.on (by omega) (by omega)]; rfl
        rw [hr] at hmem; cases hmem

theorem drawn_any (hcall : CallOk P B0 w0 call) (hok : opersOk P.globals.size ops.toList = true) (S : Static ops.toList) (T : Trace P call ops tr F0 F' h0 h') (hch : chainOk (masks ops.toList []) (acts 0 tr) = true) (hst : stsOk P (masks ops.toList []) h0 (acts 0 tr) 0 0 tr = true) {Q : Exit → Act → World → Prop} {φ : Map} {a0 : Act}
    (hQ : ∀ ψ a' w', φ.le ψ → FRel ψ F' a' → HRel B0 w0 ψ h' w' → a'.defers = a0.defers → Q .normal a' w') :
    ∀ (fuel : Nat) (listed : Array Bool) (k : Nat) (ψ : Map) (a : Act) (w : World), Inv P B0 w0 ops tr h0 F0 ψ listed k a w → unl listed ≤ fuel → φ.le ψ → a.defers = a0.defers → wpAny P .any ops Q fuel listed a w := by
  have hdef : ∀ (a : Act) d v, (a.put d v).defers = a.defers := fun a d v => by cases d <;> rfl
  have fin : ∀ (listed : Array Bool) (k : Nat) (ψ : Map) (a : Act) (w : World), Inv P B0 w0 ops tr h0 F0 ψ listed k a w → φ.le ψ → a.defers = a0.defers → Region.ready .any ops listed = [] → Q .normal a w := by
    intro listed k ψ a w I hle hd hr
    have hall : ∀ i, i < ops.size → listed[i]? = some true := fun i hi => all_listed I.size S hr (i + 1) i (by omega) hi
    have hlt : ∀ (i : Nat) (s : St), tr[i]? = some s → i < ops.size := fun i s hi => by
      have : i < tr.length := by
        rcases Nat.lt_or_ge i tr.length with hx | hx
        · exact hx
        · rw [List.getElem?_eq_none hx] at hi; cases hi
      rw [T.len] at this; simpa using this
    refine hQ ψ a w hle ⟨by rw [I.n, T.n], fun t => ?_⟩ ?_ hd
    · rcases T.fin t with ⟨i, si, a1, a2, a3⟩ | ⟨b1, b2⟩
      · rw [a3]; exact I.vals i si a1 (hall i (hlt i si a1)) t a2
      · rw [b2]; exact I.rest t fun i si hi _ => b1 i si hi
    · have hk : k = (acts 0 tr).length := by
        rcases Nat.lt_or_ge k (acts 0 tr).length with hx | hx
        · obtain ⟨⟨i, x⟩, hix⟩ : ∃ p, (acts 0 tr)[k]? = some p := ⟨_, List.getElem?_eq_getElem hx⟩
          obtain ⟨_, ⟨s, a1, _⟩, _⟩ := acts_at tr 0 k i x hix
          have := (I.kth k i x hix).1 (hall i (hlt i s (by simpa using a1)))
          omega
        · exact Nat.le_antisymm I.kle hx
      rw [T.last, ← hk]
      exact I.heap
  intro fuel
  induction fuel with
  | zero =>
    intro listed k ψ a w I hu hle hd
    have hr : Region.ready .any ops listed = [] := by
      cases hx : Region.ready .any ops listed with
      | nil => rfl
      | cons i l =>
        have := (ready_spec I.size (i := i) (by rw [hx]; simp)).1
        have := unl_set this
        omega
    exact ⟨hr, fin listed k ψ a w I hle hd hr⟩
  | succ fuel ih =>
    intro listed k ψ a w I hu hle hd
    refine ⟨fin listed k ψ a w I hle hd, fun j hj => ?_⟩
    obtain ⟨hnl, o, ho, hre⟩ := ready_spec I.size hj
    have huu := unl_set hnl
    have hol : ops.toList[j]? = some o := by simpa using ho
    obtain ⟨s, hs⟩ : ∃ s, tr[j]? = some s := by
      have : j < tr.length := by
        rw [T.len]
        rcases Nat.lt_or_ge j ops.toList.length with hx | hx
        · exact hx
        · rw [List.getElem?_eq_none hx] at hol; cases hol
      exact ⟨_, List.getElem?_eq_getElem this⟩
    obtain ⟨hoj, hspec, hsn⟩ := T.at_ j s hs
    rw [hol] at hoj
    obtain rfl := Option.some.inj hoj
    have hreads := I.reads S T hs hre hnl
    have hmem : s.o ∈ ops.toList := List.mem_of_getElem? hol
    have hops := opersOk_spec hok s.o hmem
    have hrev : Rev ψ s.F a.eval s.o.op.operands.toList := rev_of hops I.glob fun t ht => hreads t (List.mem_append_left _ ht)
    have hwant := guard_ok' (ops := ops) (o := s.o) (a := a) (fun g want og d h1 h2 h3 => hreads d (by
      unfold readsOf
      refine List.mem_append_right _ ?_
      rw [h1]
      simp only [h2, h3, List.mem_singleton])) hspec.guard
    have next : ∀ (ψ' : Map) (v' : Value) (w' : World) (k' : Nat), ψ.le ψ' → VRel ψ' s.v v' → ((s.act = none ∧ k' = k) ∨ (∃ x, (acts 0 tr)[k]? = some (j, x) ∧ k' = k + 1)) → HRel B0 w0 ψ' (hAt h0 (acts 0 tr) k') w' →
        wpAny P .any ops Q fuel (listed.setIfInBounds j true) (a.put s.o.dst v') w' := fun ψ' v' w' k' hle' hv hk H' =>
      ih _ k' ψ' _ w' (I.step S T hs hre hnl hle' hv hk H') (by omega) (Map.le_trans hle hle') ((hdef _ _ _).trans hd)
    unfold wpOp
    rw [ho]
    simp only
    rw [hwant]
    cases hw : s.want with
    | false =>
      rw [if_neg (by simp)]
      obtain ⟨e1, e2⟩ := hspec.off hw
      exact next ψ undef w k ψ.le_refl (by rw [e2]; exact VRel.undef) (.inl ⟨e1, rfl⟩) I.heap
    | true =>
      rw [if_pos rfl]
      refine .inl ?_
      have hbl : ∀ i, bef (masks ops.toList []) i j = true → listed[i]? = some true := fun i hb => bef_listed S I.down (j + 1) j (by omega) s.o hol hre i hb
      cases ha : s.act with
      | none =>
        have hq := hspec.quiet hw ha
        have same : ∃ v, opQ P s.F (hAt h0 (acts 0 tr) k) s.o.op = some v ∧ v = s.v := by
          cases hlk : looks s.o.op with
          | false => exact ⟨s.v, by rw [opQ_still hlk]; exact hq, rfl⟩
          | true =>
            have hst' := sts_spec hst j s hs
            rw [Nat.zero_add, Nat.zero_add] at hst'
            unfold stOk at hst'
            rw [ha, hw, hlk] at hst'
            simp only [Bool.not_true, Bool.false_or] at hst'
            have hchk := chk_spec (acts 0 tr) 0 h0 k hst' I.kle
              (fun m p hm hp => by
                cases hb : bef (masks ops.toList []) j p.1 with
                | false => rfl
                | true =>
                  obtain ⟨i, x⟩ := p
                  have hl := (I.kth m i x hp).2 hm
                  obtain ⟨_, ⟨si, a1, _⟩, _⟩ := acts_at tr 0 m i x hp
                  rw [Nat.sub_zero] at a1
                  have hoi := (T.at_ i si a1).1
                  have := bef_listed S I.down (i + 1) i (by omega) si.o hoi (I.down i si.o hoi hl) j hb
                  rw [hnl] at this; cases this)
              (fun m p hm hp => by
                cases hb : bef (masks ops.toList []) p.1 j with
                | false => rfl
                | true =>
                  obtain ⟨i, x⟩ := p
                  have := (I.kth m i x hp).1 (hbl i hb)
                  omega)
            rcases hchk with e | e
            · have := (T.hp j s hs).1
              rw [Nat.zero_add] at e
              rw [e, ← this]
              exact ⟨s.v, hq, rfl⟩
            · split at e
              · rename_i v hv
                exact ⟨v, hv, beqV_ok _ _ _ e⟩
              · cases e
        obtain ⟨v, hv, rfl⟩ := same
        obtain ⟨v', hrun, hvr⟩ := opQ_ok (P := P) I.heap hrev hv
        unfold Oper.wp
        rw [hrun, Oper.upon_value]
        exact next ψ v' w k ψ.le_refl hvr (.inl ⟨ha, rfl⟩) I.heap
      | some h2 =>
        obtain ⟨_, hact⟩ := hspec.turn h2 ha
        obtain ⟨hsh, hm⟩ := T.hp j s hs
        have hm := hm h2 ha
        generalize (acts 0 (tr.take j)).length = m at hsh hm
        have hmk : m = k := by
          have hnot : ¬ m < k := fun hlt => by
            have := (I.kth m j h2 hm).2 hlt
            rw [hnl] at this; cases this
          rcases Nat.lt_or_ge k m with hlt | hge
          · exfalso
            obtain ⟨m', rfl⟩ : ∃ m', m = m' + 1 := ⟨m - 1, by omega⟩
            obtain ⟨⟨i, x⟩, hix⟩ : ∃ p, (acts 0 tr)[m']? = some p := by
              have : m' < (acts 0 tr).length := by
                rcases Nat.lt_or_ge m' (acts 0 tr).length with hx | hx
                · exact hx
                · rw [List.getElem?_eq_none (by omega)] at hm; cases hm
              exact ⟨_, List.getElem?_eq_getElem this⟩
            have := (I.kth m' i x hix).1 (hbl i (chain_spec hch m' (i, x) (j, h2) hix hm))
            omega
          · omega
        subst hmk
        rw [hsh] at hact
        refine act_ok hcall hrev I.heap I.glob hact _ Q fun ψ' v' w' hle' hv H' => ?_
        refine next ψ' v' w' (m + 1) hle' hv (.inr ⟨h2, hm, rfl⟩) ?_
        rw [hAt_succ _ _ _ _ hm]
        exact H'

/-- One operation that may come next. -/
theorem exec_one (hcall : CallOk P B0 w0 call) (hok : opersOk P.globals.size ops.toList = true) (S : Static ops.toList) (T : Trace P call ops tr F0 F' h0 h') (hst : stsOk P (masks ops.toList []) h0 (acts 0 tr) 0 0 tr = true)
    {listed : Array Bool} {k : Nat} {a0 a : Act} (I : Inv P B0 w0 ops tr h0 F0 ψ listed k a0 w) {j : Nat} {s : St} (hs : tr[j]? = some s) (hre : ∀ e, e ∈ s.o.after.toList → Region.binds .any e = true → listed[e.on]? = some true) (hnl : listed[j]? = some false)
    (hea : ∀ t, t ∈ readsOf ops.toList s.o → a.eval (.tmp t) = a0.eval (.tmp t)) (hact : ∀ h2, s.act = some h2 → ∃ x, (acts 0 tr)[k]? = some (j, x)) {K : Act → World → Prop} {Q : Exit → Act → World → Prop}
    (next : ∀ ψ' v' w' k', ψ.le ψ' → VRel ψ' s.v v' → ((s.act = none ∧ k' = k) ∨ (∃ x, (acts 0 tr)[k]? = some (j, x) ∧ k' = k + 1)) → HRel B0 w0 ψ' (hAt h0 (acts 0 tr) k') w' → K (a.put s.o.dst v') w') : wpOp P ops Q j K a w := by
  obtain ⟨hol, hspec, hsn⟩ := T.at_ j s hs
  have ho : ops[j]? = some s.o := by simpa using hol
  have hreads0 := I.reads S T hs hre hnl
  have hreads : ∀ t, t ∈ readsOf ops.toList s.o → VRel ψ (s.F.ev (.tmp t)) (a.eval (.tmp t)) := fun t ht => by rw [hea t ht]; exact hreads0 t ht
  have hmem : s.o ∈ ops.toList := List.mem_of_getElem? hol
  have hops := opersOk_spec hok s.o hmem
  have hrev : Rev ψ s.F a.eval s.o.op.operands.toList := rev_of hops I.glob fun t ht => hreads t (List.mem_append_left _ ht)
  have hwant := guard_ok' (ops := ops) (o := s.o) (a := a) (fun g want og d h1 h2 h3 => hreads d (by
    unfold readsOf
    refine List.mem_append_right _ ?_
    rw [h1]
    simp only [h2, h3, List.mem_singleton])) hspec.guard
  unfold wpOp
  rw [ho]
  simp only
  rw [hwant]
  cases hw : s.want with
  | false =>
    rw [if_neg (by simp)]
    obtain ⟨e1, e2⟩ := hspec.off hw
    exact next ψ undef w k ψ.le_refl (by rw [e2]; exact VRel.undef) (.inl ⟨e1, rfl⟩) I.heap
  | true =>
    rw [if_pos rfl]
    refine .inl ?_
    have hbl : ∀ i, bef (masks ops.toList []) i j = true → listed[i]? = some true := fun i hb => bef_listed S I.down (j + 1) j (by omega) s.o hol hre i hb
    cases ha : s.act with
    | none =>
      have hq := hspec.quiet hw ha
      have same : ∃ v, opQ P s.F (hAt h0 (acts 0 tr) k) s.o.op = some v ∧ v = s.v := by
        cases hlk : looks s.o.op with
        | false => exact ⟨s.v, by rw [opQ_still hlk]; exact hq, rfl⟩
        | true =>
          have hst' := sts_spec hst j s hs
          rw [Nat.zero_add, Nat.zero_add] at hst'
          unfold stOk at hst'
          rw [ha, hw, hlk] at hst'
          simp only [Bool.not_true, Bool.false_or] at hst'
          have hchk := chk_spec (acts 0 tr) 0 h0 k hst' I.kle
            (fun m p hm hp => by
              cases hb : bef (masks ops.toList []) j p.1 with
              | false => rfl
              | true =>
                obtain ⟨i, x⟩ := p
                have hl := (I.kth m i x hp).2 hm
                obtain ⟨_, ⟨si, a1, _⟩, _⟩ := acts_at tr 0 m i x hp
                rw [Nat.sub_zero] at a1
                have hoi := (T.at_ i si a1).1
                have := bef_listed S I.down (i + 1) i (by omega) si.o hoi (I.down i si.o hoi hl) j hb
                rw [hnl] at this; cases this)
            (fun m p hm hp => by
              cases hb : bef (masks ops.toList []) p.1 j with
              | false => rfl
              | true =>
                obtain ⟨i, x⟩ := p
                have := (I.kth m i x hp).1 (hbl i hb)
                omega)
          rcases hchk with e | e
          · have := (T.hp j s hs).1
            rw [Nat.zero_add] at e
            rw [e, ← this]
            exact ⟨s.v, hq, rfl⟩
          · split at e
            · rename_i v hv
              exact ⟨v, hv, beqV_ok _ _ _ e⟩
            · cases e
      obtain ⟨v, hv, hvs⟩ := same
      obtain ⟨v', hrun, hvr⟩ := opQ_ok (P := P) I.heap hrev hv
      unfold Oper.wp
      rw [hrun, Oper.upon_value]
      exact next ψ v' w k ψ.le_refl (by rw [← hvs]; exact hvr) (.inl ⟨ha, rfl⟩) I.heap
    | some h2 =>
      obtain ⟨_, hact2⟩ := hspec.turn h2 ha
      obtain ⟨hsh, hm⟩ := T.hp j s hs
      have hm := hm h2 ha
      generalize (acts 0 (tr.take j)).length = m at hsh hm
      obtain ⟨x, hx⟩ := hact h2 ha
      have hmk : m = k := (acts_at tr 0 m j h2 hm).2.2.trans (acts_at tr 0 k j x hx).2.2.symm
      subst hmk
      rw [hsh] at hact2
      refine act_ok hcall hrev I.heap I.glob hact2 _ Q fun ψ' v' w' hle' hv H' => ?_
      refine next ψ' v' w' (m + 1) hle' hv (.inr ⟨h2, hm, rfl⟩) ?_
      rw [hAt_succ _ _ _ _ hm]
      exact H'

theorem befAll_spec {M : List Nat} {j : Nat} : ∀ {l : List Nat}, befAll M l j = true → ∀ i, i ∈ l → bef M i j = true
  | x :: l, h, i, hi => by
    simp only [befAll, Bool.and_eq_true] at h
    rcases List.mem_cons.1 hi with rfl | hm
    · exact h.1
    · exact befAll_spec h.2 i hm
theorem pairsBut_spec {M : List Nat} {z : Nat} : ∀ {As : List (Nat × AW)} {pre : List Nat}, pairsBut M z pre As = true → (∀ (m : Nat) (p : Nat × AW), As[m]? = some p → p.1 ≠ z → ∀ i, i ∈ pre → bef M i p.1 = true) ∧
    ∀ (m1 m2 : Nat) (p1 p2 : Nat × AW), m1 < m2 → As[m1]? = some p1 → As[m2]? = some p2 → p2.1 ≠ z → bef M p1.1 p2.1 = true
  | [], pre, h => ⟨fun m p hp => by simp at hp, fun m1 m2 p1 p2 _ h1 => by simp at h1⟩
  | (j, x) :: l, pre, h => by
    simp only [pairsBut, Bool.and_eq_true, Bool.or_eq_true] at h
    obtain ⟨a, b⟩ := pairsBut_spec h.2
    refine ⟨fun m p hp hz i hi => ?_, fun m1 m2 p1 p2 hlt h1 h2 hz => ?_⟩
    · cases m with
      | zero =>
        simp at hp; subst hp
        rcases h.1 with e | e
        · exact absurd (beq_true e) hz
        · exact befAll_spec e i hi
      | succ m => exact a m p (by simpa using hp) hz i (List.mem_cons_of_mem _ hi)
    · cases m2 with
      | zero => omega
      | succ m2 =>
        have h2 : l[m2]? = some p2 := by simpa using h2
        cases m1 with
        | zero =>
          simp at h1; subst h1
          exact a m2 p2 h2 hz j (by simp)
        | succ m1 => exact b m1 m2 p1 p2 (by omega) (by simpa using h1) h2 hz
theorem preOf_spec {z : Nat} : ∀ {As : List (Nat × AW)} {m m' : Nat} {p : Nat × AW}, m' < m → As[m']? = some p → (∀ (q : Nat) (r : Nat × AW), q < m → As[q]? = some r → r.1 ≠ z) → p.1 ∈ preOf z As
  | [], m, m', p, _, h, _ => by simp at h
  | (i, x) :: l, m, m', p, hlt, h, hn => by
    have h0 : i ≠ z := hn 0 (i, x) (by omega) rfl
    have hb : Nat.beq i z = false := by
      cases hb : Nat.beq i z with
      | false => rfl
      | true => exact absurd (beq_true hb) h0
    simp only [preOf, hb]
    cases m' with
    | zero => simp at h; subst h; exact List.mem_cons_self ..
    | succ m' =>
      refine List.mem_cons_of_mem _ (preOf_spec (m := m - 1) (m' := m') (by omega) (by simpa using h) fun q r hq hr => hn (q + 1) r (by omega) (by simpa using hr))
theorem edgeTo_spec {z : Nat} : ∀ {l : List Edge} {e : Edge}, e ∈ l → e.on = z → edgeTo z l = true
  | x :: l, e, h, hz => by
    simp only [edgeTo, Bool.or_eq_true]
    rcases List.mem_cons.1 h with rfl | hm
    · left; rw [hz]; exact Nat.beq_refl z
    · exact .inr (edgeTo_spec hm hz)
theorem depsOk_spec {M : List Nat} {z : Nat} {pre : List Nat} : ∀ {l : List Oper} {k : Nat}, depsOk M z pre k l = true → ∀ (j : Nat) (o : Oper), l[j]? = some o → (bef M z (k + j) = true ∨ ∃ e, e ∈ o.after.toList ∧ e.on = z) → ∀ i, i ∈ pre → bef M i (k + j) = true
  | [], k, h, j, o, hj => by simp at hj
  | x :: l, k, h, j, o, hj => by
    simp only [depsOk, Bool.and_eq_true] at h
    cases j with
    | zero =>
      simp at hj; subst hj
      intro hd i hi
      have h1 := h.1
      have : (bef M z k || edgeTo z x.after.toList) = true := by
        rw [Bool.or_eq_true]
        rcases hd with e | ⟨e, a, b⟩
        · exact .inl e
        · exact .inr (edgeTo_spec a b)
      rw [this] at h1
      exact befAll_spec (by simpa using h1) i hi
    | succ j =>
      simp at hj
      have := depsOk_spec h.2 j o hj
      rwa [show k + 1 + j = k + (j + 1) from by omega] at this

/-- What is known of the one operation that may come early. -/
structure Free (ops : Array Oper) (tr : List St) (z m : Nat) (sz : St) (dz : Nat) (x : AW) : Prop where
  at_ : tr[z]? = some sz
  ix : (acts 0 tr)[m]? = some (z, x)
  dst : sz.o.dst = some dz
  new : (∃ t, sz.o.op = .alloc t) ∨ ∃ t len parts, sz.o.op = .buildSlice t len parts
  pairs : ∀ (m1 m2 : Nat) (p1 p2 : Nat × AW), m1 < m2 → (acts 0 tr)[m1]? = some p1 → (acts 0 tr)[m2]? = some p2 → p2.1 ≠ z → bef (masks ops.toList []) p1.1 p2.1 = true
  deps : ∀ (j : Nat) (o : Oper), ops.toList[j]? = some o → (bef (masks ops.toList []) z j = true ∨ ∃ e, e ∈ o.after.toList ∧ e.on = z) → ∀ (m1 : Nat) (p : Nat × AW), m1 < m → (acts 0 tr)[m1]? = some p → bef (masks ops.toList []) p.1 j = true
theorem free_of (T : Trace P call ops tr F0 F' h0 h') : ∀ {l : List (Nat × AW)}, (∀ p, p ∈ l → p ∈ acts 0 tr) → freeAny ops.toList (masks ops.toList []) (acts 0 tr) l = true → ∃ z m sz dz x, Free ops tr z m sz dz x
  | [], _, h => by simp [freeAny] at h
  | (z, x) :: l, hm, h => by
    simp only [freeAny, Bool.or_eq_true] at h
    rcases h with h | h
    · obtain ⟨m, hmm⟩ := List.mem_iff_getElem?.1 (hm (z, x) (by simp))
      obtain ⟨_, ⟨sz, h1, h2⟩, _⟩ := acts_at tr 0 m z x hmm
      rw [Nat.sub_zero] at h1
      have hoz := (T.at_ z sz h1).1
      unfold freeOne at h
      simp only [Bool.and_eq_true] at h
      obtain ⟨⟨e1, e2⟩, e3⟩ := h
      have hn : (∃ dz, sz.o.dst = some dz) ∧ ((∃ t, sz.o.op = .alloc t) ∨ ∃ t len parts, sz.o.op = .buildSlice t len parts) := by
        unfold isNew at e1
        rw [hoz] at e1
        simp only at e1
        split at e1
        · rename_i t ht; exact ⟨Option.isSome_iff_exists.1 e1, .inl ⟨t, ht⟩⟩
        · rename_i t len parts ht; exact ⟨Option.isSome_iff_exists.1 e1, .inr ⟨t, len, parts, ht⟩⟩
        · cases e1
      obtain ⟨⟨dz, hd⟩, hnew⟩ := hn
      refine ⟨z, m, sz, dz, x, h1, hmm, hd, hnew, (pairsBut_spec e2).2, fun j o hj hd m1 p hlt hp => ?_⟩
      have := depsOk_spec (k := 0) e3 j o hj (by rwa [Nat.zero_add]) p.1 (preOf_spec hlt hp fun q r hq hr e => ?_)
      · rwa [Nat.zero_add] at this
      · obtain ⟨i, y⟩ := r
        simp only at e
        subst e
        have := (acts_at tr 0 q i y hr).2.2.trans (acts_at tr 0 m i x hmm).2.2.symm
        omega
    · exact free_of T (fun p hp => hm p (List.mem_cons_of_mem _ hp)) h

/-- A block that nobody knows of. -/
theorem HRel.skip (H : HRel B0 w0 ψ h w) (x : Obj) : HRel ⟨B0.R, fun k => B0.Z k ∨ k = w.heap.size, fun k e => .inl (B0.sub k e)⟩ (w.alloc x) ψ h (w.alloc x) := by
  refine ⟨fun k hk => ?_, BelowZ.refl _ _, H.dom, fun i o y ho hy => ?_, fun i o ho => ?_, H.fam, H.sep⟩
  · rcases hk with hk | rfl
    · have := H.inn k hk; simp; omega
    · simp
  · have := H.lto i o y ho hy; simp; omega
  · obtain ⟨b, σ, κ, hp, hr⟩ := H.obj i o ho
    have hlt := H.lt ho hp
    have hr := hr.same (w' := w.alloc x) (by simp only [World.alloc, Array.getElem?_push]; rw [if_neg (Nat.ne_of_lt hlt)])
    refine ⟨b, σ, κ, hp, ?_⟩
    cases o with
    | var cs n ro =>
      obtain ⟨a1, a2, a3, a4, a5⟩ := hr
      exact ⟨a1, a2, a3, fun e => ⟨fun hz => hz.elim (a4 e).1 (Nat.ne_of_lt hlt), (a4 e).2⟩, a5⟩
    | row f g lo hi sz cs =>
      intro fm h2 h3
      obtain ⟨a1, a2⟩ := hr fm h2 h3
      exact ⟨fun hz => hz.elim a1 (Nat.ne_of_lt hlt), a2⟩
    | map es =>
      obtain ⟨a1, a2, a3, a4⟩ := hr
      exact ⟨a1, a2, fun hz => hz.elim a3 (Nat.ne_of_lt hlt), a4⟩
theorem put_comm {a : Act} {d : Option Tmp} {dz : Tmp} {v vz : Value} (h : d ≠ some dz) : (a.put (some dz) vz).put d v = (a.put d v).put (some dz) vz := by
  cases d with
  | none => rfl
  | some d =>
    have hne : dz ≠ d := fun e => h (by rw [e])
    simp only [Act.put]
    rw [Array.setIfInBounds_comm _ _ hne]

/-- The one operation has come early: its block is there, and nobody knows of it. -/
def Early (P : Program) (B0 : Zn) (w0 : World) (ops : Array Oper) (tr : List St) (h0 : AW) (F0 : Fr) (z m : Nat) (sz : St) (dz : Nat) (ψ : Map) (listed : Array Bool) (k : Nat) (a : Act) (w : World) : Prop :=
  ∃ B1 w1 l0 a0 v', listed = l0.setIfInBounds z true ∧ l0[z]? = some false ∧ a = a0.put (some dz) v' ∧ Inv P B1 w1 ops tr h0 F0 ψ l0 k a0 w ∧ k < m ∧ (∀ e, e ∈ sz.o.after.toList → Region.binds .any e = true → l0[e.on]? = some true) ∧
    ∀ ψ' W, ψ.le ψ' → HRel B1 w1 ψ' (hAt h0 (acts 0 tr) m) W → ∃ ψ'', ψ'.le ψ'' ∧ VRel ψ'' sz.v v' ∧ HRel B0 w0 ψ'' (hAt h0 (acts 0 tr) (m + 1)) W

theorem drawn_free (hcall : ∀ B w, CallOk P B w call) (hok : opersOk P.globals.size ops.toList = true) (S : Static ops.toList) (T : Trace P call ops tr F0 F' h0 h') {z m : Nat} {sz : St} {dz : Nat} {xz : AW} (Z : Free ops tr z m sz dz xz)
    (hst : stsOk P (masks ops.toList []) h0 (acts 0 tr) 0 0 tr = true) {Q : Exit → Act → World → Prop} {φ : Map} {a0 : Act}
    (hQ : ∀ ψ a' w', φ.le ψ → FRel ψ F' a' → HRel B0 w0 ψ h' w' → a'.defers = a0.defers → Q .normal a' w') :
    ∀ (fuel : Nat) (listed : Array Bool) (k : Nat) (ψ : Map) (a : Act) (w : World), Inv P B0 w0 ops tr h0 F0 ψ listed k a w ∨ Early P B0 w0 ops tr h0 F0 z m sz dz ψ listed k a w → unl listed ≤ fuel → φ.le ψ → a.defers = a0.defers → wpAny P .any ops Q fuel listed a w := by
  have hdef : ∀ (a : Act) d v, (a.put d v).defers = a.defers := fun a d v => by cases d <;> rfl
  obtain ⟨hoz, hzspec, hzn⟩ := T.at_ z sz Z.at_
  have hlt : ∀ (i : Nat) (s : St), tr[i]? = some s → i < ops.size := fun i s hi => by
    have : i < tr.length := by
      rcases Nat.lt_or_ge i tr.length with hx | hx
      · exact hx
      · rw [List.getElem?_eq_none hx] at hi; cases hi
    rw [T.len] at this; simpa using this
  have same : ∀ {q i : Nat} {y : AW} {q' : Nat} {y' : AW}, (acts 0 tr)[q]? = some (i, y) → (acts 0 tr)[q']? = some (i, y') → q = q' := fun hq hq' => (acts_at tr 0 _ _ _ hq).2.2.trans (acts_at tr 0 _ _ _ hq').2.2.symm
  have actIn : ∀ {q : Nat}, q < m → ∃ i y, (acts 0 tr)[q]? = some (i, y) ∧ i ≠ z := by
    intro q hq
    have hml : m < (acts 0 tr).length := (List.getElem?_eq_some_iff.1 Z.ix).1
    obtain ⟨⟨i, y⟩, hi⟩ : ∃ p, (acts 0 tr)[q]? = some p := ⟨_, List.getElem?_eq_getElem (by omega)⟩
    refine ⟨i, y, hi, ?_⟩
    rintro rfl
    have := same hi Z.ix
    omega
  have esize : ∀ {listed : Array Bool} {k : Nat} {ψ : Map} {a : Act} {w : World}, Inv P B0 w0 ops tr h0 F0 ψ listed k a w ∨ Early P B0 w0 ops tr h0 F0 z m sz dz ψ listed k a w → listed.size = ops.size := by
    rintro listed k ψ a w (I | ⟨B1, w1, l0, b0, v', rfl, _, _, I, _⟩)
    · exact I.size
    · rw [Array.size_setIfInBounds]; exact I.size
  have fin : ∀ (listed : Array Bool) (k : Nat) (ψ : Map) (a : Act) (w : World), Inv P B0 w0 ops tr h0 F0 ψ listed k a w ∨ Early P B0 w0 ops tr h0 F0 z m sz dz ψ listed k a w → φ.le ψ → a.defers = a0.defers → Region.ready .any ops listed = [] → Q .normal a w := by
    intro listed k ψ a w St hle hd hr
    have hall : ∀ i, i < ops.size → listed[i]? = some true := fun i hi => all_listed (esize St) S hr (i + 1) i (by omega) hi
    rcases St with I | ⟨B1, w1, l0, b0, v', rfl, hzl, rfl, I, hkm, _, _⟩
    · refine hQ ψ a w hle ⟨by rw [I.n, T.n], fun t => ?_⟩ ?_ hd
      · rcases T.fin t with ⟨i, si, a1, a2, a3⟩ | ⟨b1, b2⟩
        · rw [a3]; exact I.vals i si a1 (hall i (hlt i si a1)) t a2
        · rw [b2]; exact I.rest t fun i si hi _ => b1 i si hi
      · have hk : k = (acts 0 tr).length := by
          rcases Nat.lt_or_ge k (acts 0 tr).length with hx | hx
          · obtain ⟨⟨i, x⟩, hix⟩ : ∃ p, (acts 0 tr)[k]? = some p := ⟨_, List.getElem?_eq_getElem hx⟩
            obtain ⟨_, ⟨s, a1, _⟩, _⟩ := acts_at tr 0 k i x hix
            have := (I.kth k i x hix).1 (hall i (hlt i s (by simpa using a1)))
            omega
          · exact Nat.le_antisymm I.kle hx
        rw [T.last, ← hk]
        exact I.heap
    · exfalso
      obtain ⟨i, y, hi, hne⟩ := actIn hkm
      obtain ⟨_, ⟨s, a1, _⟩, _⟩ := acts_at tr 0 k i y hi
      have h1 := hall i (hlt i s (by simpa using a1))
      rw [Array.getElem?_setIfInBounds_ne (Ne.symm hne)] at h1
      have := (I.kth k i y hi).1 h1
      omega
  intro fuel
  induction fuel with
  | zero =>
    intro listed k ψ a w St hu hle hd
    have hr : Region.ready .any ops listed = [] := by
      cases hx : Region.ready .any ops listed with
      | nil => rfl
      | cons i l =>
        have := (ready_spec (esize St) (i := i) (by rw [hx]; simp)).1
        have := unl_set this
        omega
    exact ⟨hr, fin listed k ψ a w St hle hd hr⟩
  | succ fuel ih =>
    intro listed k ψ a w St hu hle hd
    refine ⟨fin listed k ψ a w St hle hd, fun j hj => ?_⟩
    obtain ⟨hnl, o, ho, hre⟩ := ready_spec (esize St) hj
    have huu := unl_set hnl
    have hol : ops.toList[j]? = some o := by simpa using ho
    obtain ⟨s, hs⟩ : ∃ s, tr[j]? = some s := by
      have : j < tr.length := by
        rw [T.len]
        rcases Nat.lt_or_ge j ops.toList.length with hx | hx
        · exact hx
        · rw [List.getElem?_eq_none hx] at hol; cases hol
      exact ⟨_, List.getElem?_eq_getElem this⟩
    obtain ⟨hoj, hspec, hsn⟩ := T.at_ j s hs
    rw [hol] at hoj
    obtain rfl := Option.some.inj hoj
    rcases St with I | ⟨B1, w1, l0, b0, vz, rfl, hzl, rfl, I, hkm, hrz, had⟩
    · -- nothing is pending
      have hidx : ∀ h2, s.act = some h2 → (∃ x, (acts 0 tr)[k]? = some (j, x)) ∨ (j = z ∧ k < m) := by
        intro h2 ha
        obtain ⟨_, hm⟩ := T.hp j s hs
        have hm := hm h2 ha
        generalize (acts 0 (tr.take j)).length = mj at hm
        have hnot : ¬ mj < k := fun hlt => by
          have := (I.kth mj j h2 hm).2 hlt
          rw [hnl] at this; cases this
        rcases Nat.lt_or_ge k mj with hlt2 | hge
        · by_cases hjz : j = z
          · subst hjz
            have := same hm Z.ix
            exact .inr ⟨rfl, by omega⟩
          · exfalso
            have hml : mj < (acts 0 tr).length := (List.getElem?_eq_some_iff.1 hm).1
            obtain ⟨⟨i, x⟩, hix⟩ : ∃ p, (acts 0 tr)[k]? = some p := ⟨_, List.getElem?_eq_getElem (by omega)⟩
            have hb := Z.pairs k mj (i, x) (j, h2) hlt2 hix hm hjz
            have := (I.kth k i x hix).1 (bef_listed S I.down (j + 1) j (by omega) s.o hol hre i hb)
            omega
        · have : mj = k := by omega
          subst this
          exact .inl ⟨h2, hm⟩
      by_cases hnow : ∀ h2, s.act = some h2 → ∃ x, (acts 0 tr)[k]? = some (j, x)
      · refine exec_one (hcall _ _) hok S T hst I hs hre hnl (fun t _ => rfl) hnow fun ψ' v' w' k' hle' hv hk H' => ?_
        exact ih _ k' ψ' _ w' (.inl (I.step S T hs hre hnl hle' hv hk H')) (by omega) (Map.le_trans hle hle') ((hdef _ _ _).trans hd)
      · -- it comes early
        obtain ⟨h2, ha, hno⟩ : ∃ h2, s.act = some h2 ∧ ¬ ∃ x, (acts 0 tr)[k]? = some (j, x) := by
          rcases hc : s.act with _ | h2
          · exact absurd (fun h2 e => by rw [hc] at e; cases e) hnow
          · refine ⟨h2, rfl, fun hx => hnow fun _ _ => hx⟩
        obtain ⟨hjz, hkm⟩ := (hidx h2 ha).resolve_left hno
        subst hjz
        obtain rfl : s = sz := Option.some.inj (hs.symm.trans Z.at_)
        obtain ⟨hwt, hact2⟩ := hspec.turn h2 ha
        obtain ⟨hsh, hmm⟩ := T.hp j s hs
        have hmm := hmm h2 ha
        generalize (acts 0 (tr.take j)).length = mj at hsh hmm
        obtain rfl := same hmm Z.ix
        have hreads := I.reads S T hs hre hnl
        have hops := opersOk_spec hok s.o (List.mem_of_getElem? hol)
        have hrev : Rev ψ s.F a.eval s.o.op.operands.toList := rev_of hops I.glob fun t ht => hreads t (List.mem_append_left _ ht)
        have hwant := guard_ok' (ops := ops) (o := s.o) (a := a) (fun g want og d h1 h2 h3 => hreads d (by
          unfold readsOf
          refine List.mem_append_right _ ?_
          rw [h1]
          simp only [h2, h3, List.mem_singleton])) hspec.guard
        have hA : opA P s.F s.h s.o.op = some (s.v, h2) := by
          have := hact2
          unfold actV at this
          rcases Z.new with ⟨t, e⟩ | ⟨t, len, parts, e⟩
          · rw [e] at this ⊢; exact this
          · rw [e] at this ⊢; exact this
        obtain ⟨i, cells, cells', e, f, hn, hl, hvv, hrun⟩ := new_run (P := P) Z.new hrev hA
        unfold wpOp
        rw [ho]
        simp only
        rw [hwant, hwt, if_pos rfl]
        refine .inl ?_
        unfold Oper.wp
        rw [hrun, Oper.upon_value, Z.dst]
        refine ih _ k ψ _ _ (.inr ⟨_, _, listed, a, f w.heap.size, rfl, hnl, rfl, ⟨I.size, I.down, I.kle, I.kth, I.heap.skip _, I.glob, I.n, I.vals, I.rest⟩, hkm, hre, fun ψ' W hle' H' => ?_⟩) (by omega) hle ((hdef _ _ _).trans hd)
        rw [hsh] at hn
        obtain ⟨ψ'', l1, l2, l3⟩ := H'.adopt I.heap.base (I.heap.below.alloc I.heap.inn _) (fun _ h => .inl h) (fun _ h => h) (b := w.heap.size) (.inr rfl) I.heap.newZ (fun k => by rw [cell_new]; simp) (fun k => World.frozen?_alloc_new _ _ _ _) hn (hl.mono hle')
        refine ⟨ψ'', l1, hvv _ _ l2, ?_⟩
        rw [hAt_succ _ _ _ _ hmm]
        exact l3
    · -- it is pending
      have hzs : z < l0.size := by
        rcases Nat.lt_or_ge z l0.size with hx | hx
        · exact hx
        · rw [Array.getElem?_eq_none hx] at hzl; cases hzl
      have hjz : j ≠ z := by
        rintro rfl
        have : (l0.setIfInBounds j true)[j]? = some true := (lst_set hzs j).2 (.inl rfl)
        rw [hnl] at this; cases this
      have hnl0 : l0[j]? = some false := by rwa [Array.getElem?_setIfInBounds_ne (Ne.symm hjz)] at hnl
      have down : ∀ (i : Nat) (oi : Oper), ops.toList[i]? = some oi → (l0.setIfInBounds z true)[i]? = some true → ∀ e, e ∈ oi.after.toList → Region.binds .any e = true → (l0.setIfInBounds z true)[e.on]? = some true := by
        intro i oi hi hl e he hb
        rw [lst_set hzs] at hl ⊢
        rcases hl with rfl | hl
        · rw [hoz] at hi; cases hi
          exact .inr (hrz e he hb)
        · exact .inr (I.down i oi hi hl e he hb)
      obtain ⟨ik, yk, hik, hikz⟩ := actIn hkm
      have nodep : ¬ (bef (masks ops.toList []) z j = true ∨ ∃ e, e ∈ s.o.after.toList ∧ e.on = z) := by
        intro hd
        have hb := Z.deps j s.o hol hd k (ik, yk) hkm hik
        have := bef_listed S down (j + 1) j (by omega) s.o hol hre ik hb
        rw [lst_set hzs] at this
        have := (I.kth k ik yk hik).1 (this.resolve_left hikz)
        omega
      have hre0 : ∀ e, e ∈ s.o.after.toList → Region.binds .any e = true → l0[e.on]? = some true := by
        intro e he hb
        have := hre e he hb
        rw [lst_set hzs] at this
        exact this.resolve_left fun h => nodep (.inr ⟨e, he, h⟩)
      have hdz : dz ∉ readsOf ops.toList s.o := by
        intro hm
        obtain ⟨h1, h2⟩ := (S.pair z j sz.o s.o hoz hol (Ne.symm hjz) dz Z.dst).2 hm
        rcases Nat.lt_or_ge z j with hlt2 | hge
        · exact nodep (.inl (h1 hlt2))
        · have hb := h2 (by omega)
          have := bef_listed S I.down (z + 1) z (by omega) sz.o hoz hrz j hb
          rw [hnl0] at this; cases this
      have hdj : s.o.dst ≠ some dz := (S.pair z j sz.o s.o hoz hol (Ne.symm hjz) dz Z.dst).1
      have hroom : ∀ x : Nat, (some dz : Option Tmp) = some x → x < b0.tmps.size := fun x hx => by
        have := hzspec.room x (by rw [Z.dst]; exact hx)
        rw [hzn] at this; rw [I.n]; exact this
      have hea : ∀ t, t ∈ readsOf ops.toList s.o → (b0.put (some dz) vz).eval (.tmp t) = b0.eval (.tmp t) := by
        intro t ht
        rw [eval_put hroom, if_neg (fun e => hdz (by cases e; exact ht))]
      have hact : ∀ h2, s.act = some h2 → ∃ x, (acts 0 tr)[k]? = some (j, x) := by
        intro h2 ha
        obtain ⟨_, hm⟩ := T.hp j s hs
        have hm := hm h2 ha
        generalize (acts 0 (tr.take j)).length = mj at hm
        have hnot : ¬ mj < k := fun hlt => by
          have := (I.kth mj j h2 hm).2 hlt
          rw [hnl0] at this; cases this
        rcases Nat.lt_or_ge k mj with hlt2 | hge
        · exfalso
          have hb := Z.pairs k mj (ik, yk) (j, h2) hlt2 hik hm hjz
          have := (I.kth k ik yk hik).1 (bef_listed S I.down (j + 1) j (by omega) s.o hol hre0 ik hb)
          omega
        · have : mj = k := by omega
          subst this
          exact ⟨h2, hm⟩
      refine exec_one (hcall _ _) hok S T hst I hs hre0 hnl0 hea hact fun ψ' v' w' k' hle' hv hk H' => ?_
      have I' := I.step S T hs hre0 hnl0 hle' hv hk H'
      have hk' : k' ≤ m := by rcases hk with ⟨_, rfl⟩ | ⟨_, _, rfl⟩ <;> omega
      have hjs : j < l0.size := by
        rcases Nat.lt_or_ge j l0.size with hx | hx
        · exact hx
        · rw [Array.getElem?_eq_none hx] at hnl0; cases hnl0
      have hrz' : ∀ e, e ∈ sz.o.after.toList → Region.binds .any e = true → (l0.setIfInBounds j true)[e.on]? = some true := fun e he hb => (lst_set hjs _).2 (.inr (hrz e he hb))
      have hzl' : (l0.setIfInBounds j true)[z]? = some false := by rw [Array.getElem?_setIfInBounds_ne hjz]; exact hzl
      have hput : (b0.put (some dz) vz).put s.o.dst v' = (b0.put s.o.dst v').put (some dz) vz := put_comm hdj
      have hls : (l0.setIfInBounds z true).setIfInBounds j true = (l0.setIfInBounds j true).setIfInBounds z true := Array.setIfInBounds_comm _ _ (Ne.symm hjz)
      have hfu : unl ((l0.setIfInBounds z true).setIfInBounds j true) ≤ fuel := by omega
      have hdd : ((b0.put (some dz) vz).put s.o.dst v').defers = a0.defers := (hdef _ _ _).trans hd
      rw [hput] at hdd ⊢
      rw [hls] at hfu ⊢
      rcases Nat.lt_or_ge k' m with hlt2 | hge
      · exact ih _ k' ψ' _ w' (.inr ⟨B1, w1, _, _, vz, rfl, hzl', rfl, I', hlt2, hrz', fun ψ2 W l H2 => had ψ2 W (Map.le_trans hle' l) H2⟩) hfu (Map.le_trans hle hle') hdd
      · have hkm' : k' = m := by omega
        rw [hkm'] at I' H'
        obtain ⟨ψ'', l1, l2, l3⟩ := had ψ' w' hle' H'
        have I2 := I'.step S T Z.at_ hrz' hzl' l1 l2 (.inr ⟨xz, Z.ix, rfl⟩) l3
        rw [Z.dst] at I2
        exact ih _ (m + 1) ψ'' _ w' (.inl I2) hfu (Map.le_trans hle (Map.le_trans hle' l1)) hdd

theorem drawn_ok (call : FuncId → List Value → AW → Option (Value × AW)) (hcall : ∀ B0 w0, CallOk P B0 w0 call) (B0 : Zn) (w0 : World) : DrawnOk P B0 w0 call := by
  intro ops F F' h h' hr hok hmix φ a w hF H hG id Q hQ
  unfold runDrawn at hr
  split at hr
  · cases hr
  · rename_i hs
    split at hr
    · rename_i tr F1 h1 ht
      split at hr
      · rename_i hc
        simp only [Option.some.injEq, Prod.mk.injEq] at hr
        obtain ⟨rfl, rfl⟩ := hr
        rw [Bool.and_eq_true] at hc
        have hnone : ∀ i, (Array.replicate ops.size false)[i]? ≠ some true := fun i e => by
          rw [Array.getElem?_replicate] at e
          split at e <;> cases e
        have I0 : Inv P B0 w0 ops tr h F φ (Array.replicate ops.size false) 0 a w.drew := by
          refine ⟨by simp, fun j oj _ hl => absurd hl (hnone j), Nat.zero_le _, fun m i x _ => ⟨fun hl => absurd hl (hnone i), fun hl => by omega⟩, ?_, hG, hF.1, fun j s _ hl => absurd hl (hnone j), fun t _ => hF.2 t⟩
          rw [hAt_zero]; exact H.drew
        have hu : unl (Array.replicate ops.size false) ≤ ops.size := by
          unfold unl
          rw [Array.toList_replicate, List.countP_replicate]
          simp
        have hord := hc.1
        unfold orderedOk at hord
        rw [Bool.or_eq_true] at hord
        rcases hord with h1 | h1
        · exact wp_region_any hmix (drawn_any (hcall B0 w0) hok (static_of hs) (trace_of ht) h1 hc.2 hQ ops.size (Array.replicate ops.size false) 0 φ a _ I0 hu φ.le_refl rfl)
        · obtain ⟨z, m, sz, dz, x, Z⟩ := free_of (trace_of ht) (fun _ h => h) h1
          exact wp_region_any hmix (drawn_free hcall hok (static_of hs) (trace_of ht) Z hc.2 hQ ops.size (Array.replicate ops.size false) 0 φ a _ (.inl I0) hu φ.le_refl rfl)
      · cases hr
    · cases hr

theorem calls_ok (n : Nat) : CallOk P B0 w0 (callF P n) := callF_ok (fun _ h => drawn_ok _ h) n B0 w0

end Go.Abs
end

section
/- What a run of a function without parameters gives its row. -/
open Go.RowKit
namespace Go.Abs
open Go.ChangeShapes

/-- Every package variable of the program where the program lays it; behind them nothing. -/
def globMap (n : Nat) : Map := fun i => if i < n then some (i, 0, 0) else none

theorem glob_rel {n : Nat} {W : World} (hn : n ≤ W.heap.size) : HRel (Zn.lt W.heap.size) W (globMap n) ⟨n, .nil, .nil⟩ W := by
  refine ⟨fun _ h => h, BelowZ.refl _ _, ?_, ?_, ?_, ?_, ?_⟩
  · intro i x hx
    unfold globMap at hx
    split at hx
    · rename_i hi
      exact hi
    · cases hx
  · intro i o x ho; simp [T.get?] at ho
  · intro i o ho; simp [T.get?] at ho
  · intro i f g lo hi sz cs ho; simp [T.get?] at ho
  · intro i j oi oj b σ κ σ' κ' _ ho; simp [T.get?] at ho

def saysTrue : Option (Value × AW) → Bool
  | some (.bool true, _) => true
  | _ => false

theorem closed_calls {P : Program} {n N : Nat} {f : FuncId} (hN : P.globals.size = N) (h : saysTrue (callF P n f [] ⟨N, .nil, .nil⟩) = true) {W : World} (hW : P.globals.size ≤ W.heap.size) :
    Calls P f #[] W fun e W' => e = .returned (.bool true) ∧ Below W.heap.size W W' := by
  unfold saysTrue at h
  split at h
  · rename_i h' hc
    subst hN
    obtain ⟨_, hcalls⟩ := calls_ok (B0 := Zn.lt W.heap.size) (w0 := W) n f [] _ _ _ hc
    refine (hcalls (globMap P.globals.size) W [] L2.nil (glob_rel hW) (fun g hg => by simp [globMap, hg])).mono fun e W' he => ?_
    obtain ⟨ψ, v', _, rfl, hv, H⟩ := he
    rw [hv.bool_inv]
    exact ⟨rfl, H.below.below⟩
  · cases h

section
variable {H : Type} {enc : TypeId × Value → H} {P : Program}

/-- The row's word behind a call without arguments that answers true and leaves alone what it found. -/
theorem post_closed {f : Func} {s : ChangeSpec} {apart fresh handsOn again : Bool} {W W' : World} {t : TypeId} {ds gs : List (DataW H)} {before : List MemPlace} (hp : f.params = #[]) (hr : f.resultTypes = #[t]) (ht : P.underlying t = some .bool) (hv : s.vars = [])
    (hs : ∀ (K : Type), (s.fn K []).results = [.lit (.bool true)] ∧ (s.fn K []).args = [] ∧ (s.fn K []).vars = []) (hW : DataW.Whole enc P f.params.toList s.vars apart W [] ds gs before) (hB : Below W.heap.size W W') :
    s.post enc P f apart fresh handsOn again W #[] (.bool true) W' := by
  have hW' := hW
  obtain ⟨p, q, hA, hV, rfl, hfz, hnd⟩ := hW
  rw [hp] at hA
  obtain ⟨_, rfl, rfl⟩ := trodAll_nil hA
  rw [hv] at hV
  obtain ⟨rfl, rfl⟩ := trodVars_none hV
  obtain ⟨h1, h2, h3⟩ := hs H
  have hres : ∀ (b : Nat) (sp : Nat → Bool) (hd : Bool), DataW.TrodAll enc P W' b sp hd f.resultTypes.toList ((Value.bool true).resultList f.resultTypes.size) [.lit (.bool true)] [] := by
    intro b sp hd
    rw [hr]
    exact trodAll_mk1 (shut_bool ht _)
  refine ⟨[], [], _, [], [], [], hW', by rw [List.append_nil, h1]; exact hres _ _ _, by rw [List.append_nil, h2, hp]; exact trodAll_mk0, by rw [List.append_nil, h3, hv]; exact rfl, hB.frame _, fun _ => ⟨?_, [.lit (.bool true)], [], [], ⟨[], [], ?_, by rw [hv]; exact rfl, rfl, fun b off hb => (by cases hb), fun _ => ?_⟩, fun p hp' => (by cases hp')⟩⟩
  · rw [hr]; exact ok_one (f := f) hr rfl (okWide_bool_mk ht _) |> fun hh => by rw [hr] at hh; exact hh
  · rw [hp, List.append_nil, List.append_nil]; exact hres _ _ _
  · simp
end

/-- A call that started no goroutine has left nobody behind. -/
theorem leaving_of_handed {a : Assume} {C : Checked} {os : Os} {f : FuncId} {r : Reach} {Pre : World → Array Value → Prop} {Post : World → Array Value → Value → World → Prop} (h : ReturnsInHanded a C os f r Pre Post) : ReturnsInLeavingWide a C os f r Pre Post := fun enter =>
  ReturnsInOpen.mono (fun last _ t hx => by
    obtain ⟨⟨h1, h2⟩, h3, h4⟩ := hx
    refine ⟨h3, ⟨fun g hg => ⟨0, ?_⟩, h2⟩, h4⟩
    have := List.all_eq_true.1 h1 g hg
    exact (by simpa using this : g.status = .finished)) (fun _ x => x) (h enter)

/-- The row of a function without parameters, out of its run. -/
theorem handed_closed {H : Type} {enc : TypeId × Value → H} {a : Assume} {C : Checked} {os : Os} {f : FuncId} {fn : Func} {s : ChangeSpec} {conds : List PathCond} {apart fresh handsOn again : Bool} {t : TypeId} {n N : Nat}
    (own : ownKnob C.prog.godebug = none) (started : os.Started) (noInit : C.prog.inits.idxOf? f = none) (hfn : C.prog.funcs[f]? = some fn)
    (witness : ∃ (w : World) (tape : Tape) (i : Input), w.os = os ∧ (w.forCall tape i).Shaped C.prog ∧ i.vars = [] ∧ Input.okWide C.prog (w.forCall tape i) .any w.heap.size f i ∧
      s.pre6 enc C.prog fn conds apart (w.forCall tape i).memory i.args ∧ a.holds C.prog (lone (Frame.enter C.prog f i.args .normal) [] (w.forCall tape i)))
    (hp : fn.params = #[]) (hr : fn.resultTypes = #[t]) (ht : C.prog.underlying t = some .bool) (hv : s.vars = [])
    (hs : ∀ (K : Type), (s.fn K []).results = [.lit (.bool true)] ∧ (s.fn K []).args = [] ∧ (s.fn K []).vars = [])
    (hN : C.prog.globals.size = N) (hlow : Nat.ble (C.prog.globals.size + 1) (begin C.prog (fun _ _ => 0) default).world.heap.size = true) (h : saysTrue (callF C.prog n f [] ⟨N, .nil, .nil⟩) = true) :
    ReturnsInHanded a C os f .any (s.pre6 enc C.prog fn conds apart) (s.post enc C.prog fn apart fresh handsOn again) := by
  refine returnsInHanded_of_calls own started noInit witness ?_
  intro w tape i _ hsh _ hok hpre _
  obtain ⟨⟨ds, gs, before, hw, hc⟩, _⟩ := hpre
  have hargs : i.args = #[] := by
    obtain ⟨p, q, hA, _⟩ := hw
    rw [hp] at hA
    exact (trodAll_none hA).1
  rw [hargs] at hw ⊢
  have hw' : DataW.Whole enc C.prog fn.params.toList s.vars apart (w.forCall tape i) (#[] : Array Value).toList ds gs before := DataW.Whole.of_heap (w' := w.forCall tape i) (by rfl) hw
  have hsz : C.prog.globals.size ≤ (w.forCall tape i).heap.size := by
    obtain ⟨o, _, ho, _⟩ := hsh.2 C.prog.globals.size (Nat.le_refl _) (Nat.le_of_ble_eq_true hlow)
    rcases Nat.lt_or_ge (w.forCall tape i).heap.size C.prog.globals.size with hx | hx
    · rw [Array.getElem?_eq_none (Nat.le_of_lt hx)] at ho; cases ho
    · exact hx
  refine (closed_calls hN h hsz).mono fun e W' he => ?_
  obtain ⟨rfl, hB⟩ := he
  exact ChangeSpec.post_blind (post_closed hp hr ht hv hs hw' hB)

end Go.Abs
end

section
/- Package variables that are tables of integers: laid into the deterministic heap as they stand. -/
open Go.RowKit
namespace Go.Abs
open Go.ChangeShapes

structure Tab where
  g : Nat
  k : IntKind
  zs : List Int

def Tab.obj (t : Tab) : AObj := .var (T.ofList (t.zs.map fun z => Value.int t.k z)) t.zs.length true

def tabObjs : List Tab → T AObj
  | [] => .nil
  | t :: l => (tabObjs l).set t.g t.obj

theorem tabObjs_get : ∀ {l : List Tab} {i : Nat} {o : AObj}, (tabObjs l).get? i = some o → ∃ t, t ∈ l ∧ t.g = i ∧ o = t.obj
  | [], i, o, h => by simp [tabObjs, T.get?] at h
  | t :: l, i, o, h => by
    simp only [tabObjs] at h
    rw [T.get?_set] at h
    split at h
    · rename_i e
      simp only [Option.some.injEq] at h
      exact ⟨t, by simp, e.symm, h.symm⟩
    · obtain ⟨t', a, b, c⟩ := tabObjs_get h
      exact ⟨t', by simp [a], b, c⟩

def TabStands (W : World) (t : Tab) : Prop := ∀ i, i < t.zs.length → W.cell? ⟨t.g, i, none⟩ = some (.int t.k (t.zs.getD i 0))

theorem tab_rel {n : Nat} {tabs : List Tab} {W : World} (hn : n ≤ W.heap.size) (hg : ∀ t, t ∈ tabs → t.g < n) (ht : ∀ t, t ∈ tabs → TabStands W t) : HRel (Zn.lt W.heap.size) W (globMap n) ⟨n, tabObjs tabs, .nil⟩ W := by
  refine ⟨fun _ h => h, BelowZ.refl _ _, ?_, ?_, ?_, ?_, ?_⟩
  · intro i x hx
    unfold globMap at hx
    split at hx
    · rename_i hi
      exact hi
    · cases hx
  · intro i o x ho hx
    obtain ⟨t, hm, rfl, rfl⟩ := tabObjs_get ho
    simp only [globMap, hg t hm, if_true, Option.some.injEq] at hx
    subst hx
    exact Nat.lt_of_lt_of_le (hg t hm) hn
  · intro i o ho
    obtain ⟨t, hm, rfl, rfl⟩ := tabObjs_get ho
    have hlt := hg t hm
    refine ⟨t.g, 0, 0, by simp [globMap, hlt], rfl, rfl, fun off v hoff hv => ?_, fun e => (by cases e), fun _ => .inl (show t.g < W.heap.size by omega)⟩
    rw [T.get?_ofList, List.getElem?_map] at hv
    rw [List.getElem?_eq_getElem hoff] at hv
    simp only [Option.map_some, Option.some.injEq] at hv
    subst hv
    refine ⟨_, ht t hm off hoff, ?_⟩
    rw [List.getD_eq_getElem?_getD, List.getElem?_eq_getElem hoff]
    exact VRel.int _ _
  · intro i f g lo hi sz cs ho
    obtain ⟨t, hm, rfl, e⟩ := tabObjs_get ho
    cases e
  · intro i j oi oj b σ κ σ' κ' _ hi _ li
    obtain ⟨t, hm, rfl, rfl⟩ := tabObjs_get hi
    cases li

theorem closed_calls_tab {P : Program} {n N : Nat} {tabs : List Tab} {f : FuncId} (hN : P.globals.size = N) (h : saysTrue (callF P n f [] ⟨N, tabObjs tabs, .nil⟩) = true) {W : World} (hW : P.globals.size ≤ W.heap.size)
    (hg : ∀ t, t ∈ tabs → t.g < N) (ht : ∀ t, t ∈ tabs → TabStands W t) :
    Calls P f #[] W fun e W' => e = .returned (.bool true) ∧ Below W.heap.size W W' := by
  unfold saysTrue at h
  split at h
  · rename_i h' hc
    subst hN
    obtain ⟨_, hcalls⟩ := calls_ok (B0 := Zn.lt W.heap.size) (w0 := W) n f [] _ _ _ hc
    refine (hcalls (globMap P.globals.size) W [] L2.nil (tab_rel hW hg ht) (fun g hg => by simp [globMap, hg])).mono fun e W' he => ?_
    obtain ⟨ψ, v', _, rfl, hv, H⟩ := he
    rw [hv.bool_inv]
    exact ⟨rfl, H.below.below⟩
  · cases h

theorem shaped_size {P : Program} {W : World} (hlow : Nat.ble (P.globals.size + 1) (begin P (fun _ _ => 0) default).world.heap.size = true) (hsh : W.ShapedOpen P) : P.globals.size ≤ W.heap.size := by
  obtain ⟨o, _, ho, _⟩ := hsh.2 P.globals.size (Nat.le_refl _) (Nat.le_of_ble_eq_true hlow)
  rcases Nat.lt_or_ge W.heap.size P.globals.size with hx | hx
  · rw [Array.getElem?_eq_none (Nat.le_of_lt hx)] at ho; cases ho
  · exact hx

theorem stands_of {P : Program} {W : World} {name : String} {t : Tab} (h : Lib.TabIs P W name t.k t.zs) (hg : P.globalNamed name = some t.g) : TabStands W t := fun i hi => h.cell hg i hi

end Go.Abs
end

section
/- What a function's arguments are in the deterministic heap: all that stood when the call began may be read. -/
open Go.RowKit
namespace Go.Abs
open Go.ChangeShapes

/-- A value as the deterministic heap sees it: an empty slice without room lies nowhere. -/
def norm (S : Nat) : Value → Value
  | .slice (some _) 0 0 => .slice (some ⟨S, 0, none⟩) 0 0
  | v => v
def argMap (S : Nat) : Map := fun i => if i < S then some (i, 0, 0) else if i = S then some (0, 0, 0) else none
def T.ofFn {α : Type} (g : Nat → Option α) : Nat → T α
  | 0 => .nil
  | n + 1 => match g n with
    | some a => (T.ofFn g n).set n a
    | none => T.ofFn g n
theorem T.get?_ofFn {α : Type} (g : Nat → Option α) : ∀ (n m : Nat), (T.ofFn g n).get? m = if m < n then g m else none
  | 0, m => by simp [T.ofFn, T.get?]
  | n + 1, m => by
    have ih := T.get?_ofFn g n m
    unfold T.ofFn
    split
    · rename_i a ha
      rw [T.get?_set]
      by_cases e : m = n
      · subst e; rw [if_pos rfl, if_pos (by omega), ha]
      · rw [if_neg e, ih]
        by_cases hl : m < n
        · rw [if_pos hl, if_pos (by omega)]
        · rw [if_neg hl, if_neg (by omega)]
    · rename_i ha
      rw [ih]
      by_cases e : m = n
      · subst e; rw [if_neg (by omega), if_pos (by omega), ha]
      · by_cases hl : m < n
        · rw [if_pos hl, if_pos (by omega)]
        · rw [if_neg hl, if_neg (by omega)]
open Classical in
noncomputable def seen (W : World) (b off : Nat) : Option Value :=
  match W.cell? ⟨b, off, none⟩ with
  | some v => if VRel (argMap W.heap.size) (norm W.heap.size v) v then some (norm W.heap.size v) else none
  | none => none
def cellsIn (W : World) (b : Nat) : Nat := match W.heap[b]? with
  | some (.cells c _ _) => c.size
  | _ => 0
noncomputable def mir (W : World) : AW :=
  ⟨W.heap.size + 1, T.ofFn (fun b => some (.var (T.ofFn (seen W b) (cellsIn W b)) (cellsIn W b) true)) W.heap.size, .nil⟩
theorem seen_some {W : World} {b off : Nat} {v : Value} (h : seen W b off = some v) : ∃ v', W.cell? ⟨b, off, none⟩ = some v' ∧ VRel (argMap W.heap.size) v v' := by
  unfold seen at h
  split at h
  · rename_i v' hc
    split at h
    · rename_i hr; cases h; exact ⟨v', hc, hr⟩
    · cases h
  · cases h
theorem mir_obj {W : World} {i : Nat} {o : AObj} (h : (mir W).objs.get? i = some o) : i < W.heap.size ∧ o = .var (T.ofFn (seen W i) (cellsIn W i)) (cellsIn W i) true := by
  unfold mir at h
  simp only at h
  rw [T.get?_ofFn] at h
  split at h
  · rename_i hi; exact ⟨hi, (Option.some.inj h).symm⟩
  · cases h
theorem argMap_lt {S i : Nat} (h : i < S) : argMap S i = some (i, 0, 0) := by simp [argMap, h]
theorem argMap_S {S : Nat} : argMap S S = some (0, 0, 0) := by simp [argMap]
theorem mir_rel (W : World) : HRel (Zn.lt W.heap.size) W (argMap W.heap.size) (mir W) W := by
  refine ⟨fun _ h => h, BelowZ.refl _ _, fun i x hx => ?_, fun i o x ho hx => ?_, fun i o ho => ?_, fun i f g lo hi sz cs ho => ?_, fun i j oi oj b σ κ σ' κ' _ hi _ li => ?_⟩
  · show i < W.heap.size + 1
    unfold argMap at hx
    split at hx
    · omega
    · split at hx
      · omega
      · cases hx
  · obtain ⟨hi, _⟩ := mir_obj ho
    rw [argMap_lt hi] at hx; cases hx; exact hi
  · obtain ⟨hi, rfl⟩ := mir_obj ho
    refine ⟨i, 0, 0, argMap_lt hi, rfl, rfl, fun off v hoff hv => ?_, fun e => (by cases e), fun _ => .inl hi⟩
    rw [T.get?_ofFn, if_pos hoff] at hv
    exact seen_some hv
  · obtain ⟨_, e⟩ := mir_obj ho; cases e
  · obtain ⟨_, rfl⟩ := mir_obj hi; cases li
theorem mir_rd {W : World} {b off : Nat} {v : Value} (hc : W.cell? ⟨b, off, none⟩ = some v) (hv : VRel (argMap W.heap.size) (norm W.heap.size v) v) : (mir W).rd b off = some (norm W.heap.size v) := by
  have hb : ∃ c t fr, W.heap[b]? = some (.cells c t fr) ∧ c[off]? = some v := by
    unfold World.cell? at hc
    split at hc
    · rename_i c t fr hh
      exact ⟨c, t, fr, hh, by simpa using hc⟩
    · cases hc
  obtain ⟨c, t, fr, hh, hco⟩ := hb
  have hlt : b < W.heap.size := (Array.getElem?_eq_some_iff.1 hh).1
  have hoff : off < cellsIn W b := by unfold cellsIn; rw [hh]; exact (Array.getElem?_eq_some_iff.1 hco).1
  unfold AW.rd mir
  simp only
  rw [T.get?_ofFn, if_pos hlt]
  simp only
  rw [Nat.ble_eq_true_of_le hoff]
  simp only
  rw [T.get?_ofFn, if_pos hoff]
  unfold seen
  rw [hc]
  simp only
  rw [if_pos hv]

section
variable {H : Type} {enc : TypeId × Value → H} {P : Program} {W : World}

/-- Names of all that may be read at the start: one name. -/
def argStore (l : List (Option Addr × List Value)) : Store := fun c => if c = 0 then some (.ro l) else none
theorem arg_own {l : List (Option Addr × List Value)} (hl : ∀ a vs, (a, vs) ∈ l → (a = none ∧ vs = []) ∨ ∃ i off, a = some ⟨i, off, none⟩ ∧ i < W.heap.size + 1 ∧ ∀ j, j < vs.length → (mir W).rd i (off + j) = vs[j]?) : Own (mir W) (fun _ => 0) (argStore l) := by
  refine ⟨⟨1, fun c hc => by unfold argStore; rw [if_neg (by omega)]⟩, fun c r hc => ?_⟩
  unfold argStore at hc
  split at hc
  · rename_i e; subst e
    cases hc
    intro a vs hm
    rcases hl a vs hm with x | ⟨i, off, e, hi, hr⟩
    · exact .inl x
    · refine .inr ⟨i, off, e, hi, rfl, fun f g lo hi z t ho => ?_, hr⟩
      obtain ⟨_, e⟩ := mir_obj ho; cases e
  · cases hc

/-- A law whose arguments read behind the call as they read before. -/
theorem post_args {f : Func} {s : ChangeSpec} {apart handsOn : Bool} {args : Array Value} {t : TypeId} {ds gs : List (DataW H)} {before : List MemPlace} {W' : World} (hlaid : laidOutB P = true)
    (hparams : ∀ t', t' ∈ f.params.toList → P.readableRec t' = true ∧ t' < P.types.size) (hr : f.resultTypes = #[t]) (ht : P.underlying t = some .bool) (hv : s.vars = [])
    (hs : ∀ (K : Type) (ds : List (DataW K)), ds.length = f.params.size → (s.fn K ds).results = [.lit (.bool true)] ∧ (s.fn K ds).args = ds ∧ (s.fn K ds).vars = []) (hW : DataW.Whole enc P f.params.toList s.vars apart W args.toList ds gs before) (hB : Below W.heap.size W W') :
    s.post enc P f apart true handsOn false W args (.bool true) W' := by
  have hW' := hW
  have hlt := hW.lt
  obtain ⟨p, q, hA, hV, rfl, hfz, hnd⟩ := hW
  rw [hv] at hV
  obtain ⟨rfl, rfl⟩ := trodVars_none hV
  have hlen : ∀ {ts : List TypeId} {vs : List Value} {ds : List (DataW H)} {ps : List MemPlace}, DataW.TrodAll enc P W 0 (fun _ => true) true ts vs ds ps → ds.length = ts.length := by
    intro ts
    induction ts with
    | nil => intro vs ds ps h; obtain ⟨_, rfl, _⟩ := trodAll_nil h; rfl
    | cons t ts ih => intro vs ds ps h; obtain ⟨v, vs1, d, ds1, a, b, rfl, rfl, rfl, _, h2⟩ := trodAll_cons h; simp [ih h2]
  obtain ⟨h1, h2, h3⟩ := hs H ds (by rw [hlen hA]; simp)
  have stays : ∀ {ts : List TypeId} {vs : List Value} {ds : List (DataW H)} {ps : List MemPlace}, (∀ t', t' ∈ ts → P.readableRec t' = true ∧ t' < P.types.size) → (∀ x ∈ ps, x.block < W.heap.size) → DataW.TrodAll enc P W 0 (fun _ => true) true ts vs ds ps → DataW.TrodAll enc P W' 0 (fun b => decide (b < W.heap.size)) true ts vs ds ps := by
    intro ts
    induction ts with
    | nil => intro vs ds ps _ _ h; obtain ⟨rfl, rfl, rfl⟩ := trodAll_nil h; exact rfl
    | cons t ts ih =>
      intro vs ds ps hp hb h
      obtain ⟨v, vs1, d, ds1, a, b, rfl, rfl, rfl, ha, hb2⟩ := trodAll_cons h
      refine ⟨a, b, Below.trod hlaid (hp t (by simp)).1 (hp t (by simp)).2 ha hB (fun x hx => hb x (List.mem_append_left _ hx)), ih (fun t' h' => hp t' (by simp [h'])) (fun x hx => hb x (List.mem_append_right _ hx)) hb2, rfl⟩
  have hres : ∀ (b : Nat) (sp : Nat → Bool) (hd : Bool), DataW.TrodAll enc P W' b sp hd f.resultTypes.toList ((Value.bool true).resultList f.resultTypes.size) [.lit (.bool true)] [] := by
    intro b sp hd
    rw [hr]
    exact trodAll_mk1 (shut_bool ht _)
  refine ⟨ds, [], _, [], p, [], hW', by rw [List.append_nil, h1]; exact hres _ _ _, by rw [List.append_nil, h2]; exact stays hparams (fun x hx => hlt x (by simp [hx])) hA, by rw [List.append_nil, h3, hv]; exact rfl, hB.frame _, fun e => (by cases e)⟩
end

/-- The row of a function, out of what it comes to. -/
theorem handed_args {H : Type} {enc : TypeId × Value → H} {a : Assume} {C : Checked} {os : Os} {f : FuncId} {fn : Func} {s : ChangeSpec} {conds : List PathCond} {apart handsOn : Bool} {t : TypeId}
    (own : ownKnob C.prog.godebug = none) (started : os.Started) (noInit : C.prog.inits.idxOf? f = none) (hfn : C.prog.funcs[f]? = some fn)
    (witness : ∃ (w : World) (tape : Tape) (i : Input), w.os = os ∧ (w.forCall tape i).Shaped C.prog ∧ i.vars = [] ∧ Input.okWide C.prog (w.forCall tape i) .any w.heap.size f i ∧
      s.pre6 enc C.prog fn conds apart (w.forCall tape i).memory i.args ∧ a.holds C.prog (lone (Frame.enter C.prog f i.args .normal) [] (w.forCall tape i)))
    (hlaid : laidOutB C.prog = true) (hparams : ∀ t', t' ∈ fn.params.toList → C.prog.readableRec t' = true ∧ t' < C.prog.types.size)
    (hr : fn.resultTypes = #[t]) (ht : C.prog.underlying t = some .bool) (hv : s.vars = [])
    (hs : ∀ (K : Type) (ds : List (DataW K)), ds.length = fn.params.size → (s.fn K ds).results = [.lit (.bool true)] ∧ (s.fn K ds).args = ds ∧ (s.fn K ds).vars = [])
    (hlow : Nat.ble (C.prog.globals.size + 1) (begin C.prog (fun _ _ => 0) default).world.heap.size = true)
    (run : ∀ (W : World) (base : Nat) (args : Array Value) (ds : List (DataW H)) (p : List MemPlace), (∀ (j : Nat) t v, fn.params[j]? = some t → args[j]? = some v → Value.okWide C.prog W .any base t v) → W.ShapedOpen C.prog → C.prog.globals.size ≤ W.heap.size → DataW.TrodAll enc C.prog W 0 (fun _ => true) true fn.params.toList args.toList ds p →
      LRel (argMap W.heap.size) (args.toList.map (norm W.heap.size)) args.toList ∧ EvQ C.prog f (args.toList.map (norm W.heap.size)) (mir W) fun v _ => v = .bool true) :
    ReturnsInHanded a C os f .any (s.pre6 enc C.prog fn conds apart) (s.post enc C.prog fn apart true handsOn false) := by
  refine returnsInHanded_of_calls own started noInit witness ?_
  intro w tape i _ hsh _ hok hpre _
  obtain ⟨⟨ds, gs, before, hw, hc⟩, _⟩ := hpre
  obtain ⟨_, _, _, fn', hfn', _, _, _, _, hval⟩ := hok
  rw [Option.some.inj (hfn'.symm.trans hfn)] at hval
  have hw' : DataW.Whole enc C.prog fn.params.toList s.vars apart (w.forCall tape i) i.args.toList ds gs before := DataW.Whole.of_heap (w' := w.forCall tape i) (by rfl) hw
  have hsz := shaped_size hlow hsh
  obtain ⟨p, q, hA, _⟩ := hw'
  obtain ⟨hrel, v, h', ⟨n, hev⟩, hq⟩ := run _ _ _ _ _ hval hsh hsz hA
  subst hq
  have hw' : DataW.Whole enc C.prog fn.params.toList s.vars apart (w.forCall tape i) i.args.toList ds gs before := DataW.Whole.of_heap (w' := w.forCall tape i) (by rfl) hw
  obtain ⟨_, hcalls⟩ := calls_ok (B0 := Zn.lt (w.forCall tape i).heap.size) (w0 := w.forCall tape i) n f _ _ _ _ hev
  have hglob : Glob C.prog (argMap (w.forCall tape i).heap.size) := fun g hg => argMap_lt (Nat.lt_of_lt_of_le hg hsz)
  have hargs : (⟨i.args.toList⟩ : Array Value) = i.args := by simp
  have := hcalls _ _ _ hrel (mir_rel _) hglob
  rw [hargs] at this
  refine this.mono fun e W' he => ?_
  obtain ⟨ψ, v', _, rfl, hv', HR⟩ := he
  rw [hv'.bool_inv]
  exact ChangeSpec.post_blind (post_args hlaid hparams hr ht hv hs hw' HR.below.below)
end Go.Abs
end

section
/- Arguments opened: what their reading says of the memory. -/
open Go.RowKit
namespace Go.Abs
open Go.ChangeShapes
section
variable {H : Type} {enc : TypeId × Value → H} {P : Program} {W : World} {fuel : Nat} {t e : TypeId} {cs : List Value} {x : DataW H × List MemPlace} {held : Bool}

theorem cell_block {a : Addr} {v : Value} (h : W.cell? a = some v) : a.block < W.heap.size ∧ a.spot = none := by
  unfold World.cell? at h
  split at h
  · rename_i c t fr hh
    refine ⟨(Array.getElem?_eq_some_iff.1 hh).1, ?_⟩
    split at h
    · cases h
    · rename_i hs; simpa using hs
  · cases h
theorem cells_get {base : Nat} {a : Addr} {n : Nat} {l : List Value} (h : W.cells? base a n = some l) : l.length = n ∧ ∀ (j : Nat) u, l[j]? = some u → W.cell? (a.add j) = some u := by
  unfold World.cells? at h
  split at h
  · have hl : l.length = n := by simpa using mapM_some_length h
    refine ⟨hl, fun j u hu => ?_⟩
    have hj : j < n := by rw [← hl]; exact (List.getElem?_eq_some_iff.1 hu).1
    have := mapM_some_get h j j (by simp [hj])
    rw [this]; exact hu
  · cases h
theorem add_zero (a : Addr) : a.add 0 = a := by simp [Addr.add]
/-- A slice opened. -/
theorem open_sl (ht : P.underlying t = some (.slice e)) (hk : 0 < P.cellsOf e) (h : DataW.trod enc P W 0 (fun _ => true) held fuel t cs = some x) :
    ∃ (v : Value) (a' : Option Addr) (len cap : Nat) (css : List (List Value)) (n : Nat), cs = [v] ∧ VRel (argMap W.heap.size) (norm W.heap.size v) v ∧ norm W.heap.size v = .slice a' len cap ∧ css.length = len ∧ len ≤ cap ∧ cap ≤ maxLen ∧
      (∀ (i : Nat) c, css[i]? = some c → c.length = P.cellsOf e ∧ ∃ y, DataW.trod enc P W 0 (fun _ => true) held n e c = some y) ∧ n + 1 = fuel ∧
      ((a' = none ∧ len = 0) ∨ ∃ b off, a' = some ⟨b, off, none⟩ ∧ b < W.heap.size + 1 ∧ ∀ (i : Nat) c (j : Nat) u, css[i]? = some c → c[j]? = some u → W.cell? ⟨b, off + i * P.cellsOf e + j, none⟩ = some u) := by
  rcases DataW.trod_slice ht h with ⟨rfl, _⟩ | ⟨a, len, cap, elems, rest, n, hf, rfl, _, _, hlc, hcm, hel, he, hr, _⟩
  · obtain ⟨n, rfl⟩ : ∃ n, fuel = n + 1 := by
      cases fuel with
      | zero => simp [DataW.trod] at h
      | succ n => exact ⟨n, rfl⟩
    exact ⟨_, none, 0, 0, [], n, rfl, .sliceN 0 0, rfl, rfl, Nat.le_refl _, Nat.zero_le _, fun i c hc => by simp at hc, rfl, .inl ⟨rfl, rfl⟩⟩
  · -- the elements' cells
    have hex : ∀ i, i < len → ∃ c, W.cells? 0 (a.add (i * P.cellsOf e)) (P.cellsOf e) = some c ∧ ∃ y, DataW.trod enc P W 0 (fun _ => true) held n e c = some y := by
      intro i hi
      have := he i hi
      rw [List.getElem?_eq_getElem (by omega)] at this
      obtain ⟨c, h1, h2⟩ := Option.bind_eq_some_iff.1 this
      exact ⟨c, h1, _, h2⟩
    let css : List (List Value) := (List.range len).map fun i => (W.cells? 0 (a.add (i * P.cellsOf e)) (P.cellsOf e)).getD []
    have hcs : ∀ (i : Nat) c, css[i]? = some c → W.cells? 0 (a.add (i * P.cellsOf e)) (P.cellsOf e) = some c ∧ ∃ y, DataW.trod enc P W 0 (fun _ => true) held n e c = some y := by
      intro i c hc
      have hi : i < len := by have := (List.getElem?_eq_some_iff.1 hc).1; simpa [css] using this
      obtain ⟨c', h1, h2⟩ := hex i hi
      have : css[i]? = some c' := by simp [css, hi, h1]
      rw [this] at hc; cases hc
      exact ⟨h1, h2⟩
    have hclen : css.length = len := by simp [css]
    have hcell : 0 < len ∨ 0 < cap → a.block < W.heap.size ∧ a.spot = none := by
      intro h0
      by_cases hl : 0 < len
      · obtain ⟨c, h1, _⟩ := hex 0 hl
        obtain ⟨hl1, hg⟩ := cells_get h1
        have := hg 0 c[0] (List.getElem?_eq_getElem (by omega))
        rw [Nat.zero_mul, add_zero, add_zero] at this
        exact cell_block this
      · have hc0 : 0 < cap := by omega
        obtain ⟨hrl, hrj⟩ := hr rfl
        have := hrj 0 (by omega)
        rw [List.getElem?_eq_getElem (by omega)] at this
        obtain ⟨c, h1, _⟩ := Option.bind_eq_some_iff.1 this
        obtain ⟨hl1, hg⟩ := cells_get h1
        have := hg 0 c[0] (List.getElem?_eq_getElem (by omega))
        rw [show len + 0 = 0 from by omega, Nat.zero_mul, add_zero, add_zero] at this
        exact cell_block this
    by_cases h0 : len = 0 ∧ cap = 0
    · obtain ⟨rfl, rfl⟩ := h0
      refine ⟨_, some ⟨W.heap.size, 0, none⟩, 0, 0, css, n, rfl, ?_, rfl, hclen, hlc, hcm, fun i c hc => ⟨(cells_get (hcs i c hc).1).1, (hcs i c hc).2⟩, hf.symm, .inr ⟨W.heap.size, 0, rfl, Nat.lt_succ_self _, fun i c j u hc => ?_⟩⟩
      · exact VRel.slice (κ := 0) argMap_S (Nat.zero_le _) (.inr ⟨rfl, rfl⟩)
      · have := (List.getElem?_eq_some_iff.1 hc).1; omega
    · obtain ⟨hb, hs⟩ := hcell (by omega)
      obtain ⟨b, off, sp⟩ := a
      simp only at hs hb
      subst hs
      have hn : norm W.heap.size (.slice (some ⟨b, off, none⟩) len cap) = .slice (some ⟨b, off, none⟩) len cap := by
        unfold norm
        split
        · rename_i e1; cases e1; exact absurd ⟨rfl, rfl⟩ h0
        · rfl
      refine ⟨_, some ⟨b, off, none⟩, len, cap, css, n, rfl, ?_, hn, hclen, hlc, hcm, fun i c hc => ⟨(cells_get (hcs i c hc).1).1, (hcs i c hc).2⟩, hf.symm, .inr ⟨b, off, rfl, by omega, fun i c j u hc hu => ?_⟩⟩
      · rw [hn]
        exact VRel.slice (κ := 0) (argMap_lt hb) (Nat.zero_le _) (.inl rfl)
      · have := (cells_get (hcs i c hc).1).2 j u hu
        rw [Addr.add_lit, Addr.add_lit] at this
        exact this
theorem open_str (ht : P.underlying t = some .string) (h : DataW.trod enc P W 0 (fun _ => true) held fuel t cs = some x) : ∃ s : ByteArray, cs = [.string s] ∧ s.size ≤ maxLen := by
  obtain ⟨s, h1, _, h2⟩ := DataW.trod_string ht h
  exact ⟨s, h1, h2⟩
theorem open_i64 (ht : P.underlying t = some (.int .i64)) (h : DataW.trod enc P W 0 (fun _ => true) held fuel t cs = some x) : ∃ n : Int, cs = [.int .i64 n] ∧ -9223372036854775808 ≤ n ∧ n < 9223372036854775808 := by
  obtain ⟨n, h1, _, h2⟩ := DataW.trod_int ht h
  refine ⟨n, h1, ?_⟩
  simp only [Lit.wf, Bool.and_eq_true, decide_eq_true_eq, IntKind.min, IntKind.max, IntKind.signed, IntKind.bits] at h2
  simp at h2
  omega
/-- What stands at the elements, in the deterministic heap. -/
theorem view_of {α : Type} {f : α → List Value} {b off k : Nat} {css : List (List Value)} {l : List α} (hl : css = l.map f) (hk : ∀ x, (f x).length = k) (hn : ∀ x, x ∈ l → ∀ u, u ∈ f x → norm W.heap.size u = u ∧ VRel (argMap W.heap.size) u u)
    (hc : ∀ (i : Nat) c (j : Nat) u, css[i]? = some c → c[j]? = some u → W.cell? ⟨b, off + i * k + j, none⟩ = some u) : ∀ j, j < (l.flatMap f).length → (mir W).rd b (off + j) = (l.flatMap f)[j]? := by
  intro j hj
  rcases Nat.eq_zero_or_pos k with h0 | h0
  · rw [flat_len hk, h0] at hj; omega
  rw [flat_len hk] at hj
  have hq : j / k < l.length := Nat.div_lt_of_lt_mul (by rw [Nat.mul_comm]; exact hj)
  have hr : j % k < k := Nat.mod_lt _ h0
  have hjj : j / k * k + j % k = j := by rw [Nat.mul_comm]; exact Nat.div_add_mod j k
  have hget : (l.flatMap f)[j]? = (f l[j / k])[j % k]? := by
    conv => lhs; rw [← hjj]
    rw [flat_get hk hr, List.getElem?_eq_getElem hq]; rfl
  have hu : (f l[j / k])[j % k]? = some ((f l[j / k])[j % k]'(by rw [hk]; exact hr)) := List.getElem?_eq_getElem _
  generalize (f l[j / k])[j % k]'(by rw [hk]; exact hr) = u at hu
  have hcell := hc (j / k) (f l[j / k]) (j % k) u (by rw [hl, List.getElem?_map, List.getElem?_eq_getElem hq]; rfl) hu
  have hnn := hn _ (List.getElem_mem hq) u (List.mem_of_getElem? hu)
  rw [hget, hu]
  have := mir_rd hcell (by rw [hnn.1]; exact hnn.2)
  rw [hnn.1] at this
  rw [← this, Nat.add_assoc, hjj]
/-- Each list of a kind. -/
theorem each_ex {α : Type} {f : α → List Value} : ∀ {css : List (List Value)}, (∀ (i : Nat) c, css[i]? = some c → ∃ x : α, c = f x) → ∃ l : List α, css = l.map f
  | [], _ => ⟨[], rfl⟩
  | c :: css, h => by
    obtain ⟨x, hx⟩ := h 0 c rfl
    obtain ⟨l, hl⟩ := each_ex (css := css) fun i c hc => h (i + 1) c (by simpa using hc)
    exact ⟨x :: l, by rw [hx, hl]; rfl⟩
/-- A slice of plain elements opened: what it shows. -/
theorem open_view {α : Type} (f : α → List Value) (hf : ∀ x, (f x).length = P.cellsOf e) (p : α → Prop) (hp : ∀ x, p x → ∀ u, u ∈ f x → norm W.heap.size u = u ∧ VRel (argMap W.heap.size) u u)
    (hop : ∀ n c y, DataW.trod enc P W 0 (fun _ => true) held n e c = some y → ∃ x, c = f x ∧ p x) (ht : P.underlying t = some (.slice e)) (hk : 0 < P.cellsOf e) (h : DataW.trod enc P W 0 (fun _ => true) held fuel t cs = some x) :
    ∃ (v : Value) (a' : Option Addr) (cap : Nat) (l : List α), cs = [v] ∧ VRel (argMap W.heap.size) (norm W.heap.size v) v ∧ norm W.heap.size v = .slice a' l.length cap ∧ l.length ≤ cap ∧ cap ≤ maxLen ∧ (∀ x, x ∈ l → p x) ∧
      ((a' = none ∧ l.flatMap f = []) ∨ ∃ i off, a' = some ⟨i, off, none⟩ ∧ i < W.heap.size + 1 ∧ ∀ j, j < (l.flatMap f).length → (mir W).rd i (off + j) = (l.flatMap f)[j]?) := by
  obtain ⟨v, a', len, cap, css, n, rfl, hv, hn, hl, hlc, hcm, hc, _, hw⟩ := open_sl ht hk h
  obtain ⟨l, hcl⟩ := each_ex (f := fun x : {x // p x} => f x.1) (css := css) fun i c hi => by
    obtain ⟨_, y, hy⟩ := hc i c hi
    obtain ⟨x, h1, h2⟩ := hop _ _ _ hy
    exact ⟨⟨x, h2⟩, h1⟩
  have hll : (l.map (·.1)).length = len := by rw [← hl, hcl]; simp
  have hcl' : css = (l.map (·.1)).map f := by rw [hcl, List.map_map]; rfl
  have hpl : ∀ x, x ∈ l.map (·.1) → p x := by
    intro x hx
    obtain ⟨y, _, rfl⟩ := List.mem_map.1 hx
    exact y.2
  refine ⟨v, a', cap, l.map (·.1), rfl, hv, by rw [hn, hll], by omega, hcm, hpl, ?_⟩
  rcases hw with ⟨h1, h2⟩ | ⟨b, off, h1, h2, h3⟩
  · refine .inl ⟨h1, ?_⟩
    have : l = [] := by
      have : l.length = 0 := by rw [← h2, ← hll]; simp
      exact List.eq_nil_of_length_eq_zero this
    rw [this]; rfl
  · exact .inr ⟨b, off, h1, h2, view_of hcl' hf (fun x hx => hp x (hpl x hx)) h3⟩
/-- The fields of a struct opened. -/
theorem open_struct {fs : Array Field} (ht : P.underlying t = some (.struct fs)) (h : DataW.trod enc P W 0 (fun _ => true) held fuel t cs = some x) :
    cs.length = P.cellsOf t ∧ ∃ n, ∀ (i : Nat) (f : Field), fs[i]? = some f → ∃ y, DataW.trod enc P W 0 (fun _ => true) held n f.type ((cs.drop f.offset).take (P.cellsOf f.type)) = some y := by
  obtain ⟨xs, n, _, _, hl, hx, hf⟩ := DataW.trod_struct ht h
  refine ⟨hl, n, fun i f hi => ?_⟩
  have hlt : i < xs.length := by rw [hx]; exact (Array.getElem?_eq_some_iff.1 hi).1
  rw [hf i f hi, List.getElem?_eq_getElem hlt]
  exact ⟨_, rfl⟩
end
end Go.Abs
end

section
/- Lists of statements, and lines of words, that came in as arguments: what they show. -/
open Go.RowKit
namespace Go.Abs
open Go.ChangeShapes
section
variable {H : Type} {enc : TypeId × Value → H} {P : Program} {W : World} {fuel : Nat} {t e : TypeId} {cs : List Value} {x : DataW H × List MemPlace} {held : Bool}
/-- A slice opened. -/
theorem open_slW (ht : P.underlying t = some (.slice e)) (hk : 0 < P.cellsOf e) (h : DataW.trod enc P W 0 (fun _ => true) held fuel t cs = some x) :
    ∃ (v : Value) (a' : Option Addr) (len cap : Nat) (css : List (List Value)) (n : Nat), cs = [v] ∧ VRel (argMap W.heap.size) (norm W.heap.size v) v ∧ norm W.heap.size v = .slice a' len cap ∧ css.length = len ∧ len ≤ cap ∧ cap ≤ maxLen ∧
      (∀ (i : Nat) c, css[i]? = some c → c.length = P.cellsOf e ∧ ∃ y, DataW.trod enc P W 0 (fun _ => true) held n e c = some y ∧ ∀ z, z ∈ y.1.weights P e → z ∈ x.1.weights P t) ∧ n + 1 = fuel ∧ (len = 0 ∨ ∃ z, z ∈ x.1.weights P t ∧ len * P.bytesOf e ≤ z) ∧
      ((a' = none ∧ len = 0) ∨ ∃ b off, a' = some ⟨b, off, none⟩ ∧ b < W.heap.size + 1 ∧ ∀ (i : Nat) c (j : Nat) u, css[i]? = some c → c[j]? = some u → W.cell? ⟨b, off + i * P.cellsOf e + j, none⟩ = some u) := by
  rcases DataW.trod_slice ht h with ⟨rfl, _⟩ | ⟨a, len, cap, elems, rest, n, hf, rfl, hx, _, hlc, hcm, hel, he, hr, _⟩
  · obtain ⟨n, rfl⟩ : ∃ n, fuel = n + 1 := by
      cases fuel with
      | zero => simp [DataW.trod] at h
      | succ n => exact ⟨n, rfl⟩
    exact ⟨_, none, 0, 0, [], n, rfl, .sliceN 0 0, rfl, rfl, Nat.le_refl _, Nat.zero_le _, fun i c hc => by simp at hc, rfl, .inl rfl, .inl ⟨rfl, rfl⟩⟩
  · have hw : x.1.weights P t = ((elems.map (·.1)).length + (rest.map (·.1)).length) * P.bytesOf e :: (DataW.weightsAll P e (elems.map (·.1)) ++ DataW.weightsAll P e (rest.map (·.1))) := by
      rw [hx]; simp only [DataW.weights, ht]
    have hall : ∀ (l : List (DataW H)) (d : DataW H), d ∈ l → ∀ z, z ∈ d.weights P e → z ∈ DataW.weightsAll P e l := by
      intro l
      induction l with
      | nil => intro d hd; simp at hd
      | cons d' l ih =>
        intro d hd z hz
        rw [DataW.weightsAll]
        rcases List.mem_cons.1 hd with rfl | hd
        · exact List.mem_append_left _ hz
        · exact List.mem_append_right _ (ih d hd z hz)
    have hel2 : ∀ y, y ∈ elems → ∀ z, z ∈ y.1.weights P e → z ∈ x.1.weights P t := fun y hy z hz => by
      rw [hw]
      exact List.mem_cons_of_mem _ (List.mem_append_left _ (hall _ _ (List.mem_map_of_mem hy) z hz))
    have hlw : len = 0 ∨ ∃ z, z ∈ x.1.weights P t ∧ len * P.bytesOf e ≤ z := by
      refine .inr ⟨_, by rw [hw]; exact List.mem_cons_self, Nat.mul_le_mul_right _ ?_⟩
      simp; omega
    -- the elements' cells
    have hex : ∀ i, i < len → ∃ c, W.cells? 0 (a.add (i * P.cellsOf e)) (P.cellsOf e) = some c ∧ ∃ y, DataW.trod enc P W 0 (fun _ => true) held n e c = some y ∧ ∀ z, z ∈ y.1.weights P e → z ∈ x.1.weights P t := by
      intro i hi
      have := he i hi
      rw [List.getElem?_eq_getElem (by omega)] at this
      obtain ⟨c, h1, h2⟩ := Option.bind_eq_some_iff.1 this
      exact ⟨c, h1, _, h2, hel2 _ (List.getElem_mem _)⟩
    let css : List (List Value) := (List.range len).map fun i => (W.cells? 0 (a.add (i * P.cellsOf e)) (P.cellsOf e)).getD []
    have hcs : ∀ (i : Nat) c, css[i]? = some c → W.cells? 0 (a.add (i * P.cellsOf e)) (P.cellsOf e) = some c ∧ ∃ y, DataW.trod enc P W 0 (fun _ => true) held n e c = some y ∧ ∀ z, z ∈ y.1.weights P e → z ∈ x.1.weights P t := by
      intro i c hc
      have hi : i < len := by have := (List.getElem?_eq_some_iff.1 hc).1; simpa [css] using this
      obtain ⟨c', h1, h2⟩ := hex i hi
      have : css[i]? = some c' := by simp [css, hi, h1]
      rw [this] at hc; cases hc
      exact ⟨h1, h2⟩
    have hclen : css.length = len := by simp [css]
    have hcell : 0 < len ∨ 0 < cap → a.block < W.heap.size ∧ a.spot = none := by
      intro h0
      by_cases hl : 0 < len
      · obtain ⟨c, h1, _⟩ := hex 0 hl
        obtain ⟨hl1, hg⟩ := cells_get h1
        have := hg 0 c[0] (List.getElem?_eq_getElem (by omega))
        rw [Nat.zero_mul, add_zero, add_zero] at this
        exact cell_block this
      · have hc0 : 0 < cap := by omega
        obtain ⟨hrl, hrj⟩ := hr rfl
        have := hrj 0 (by omega)
        rw [List.getElem?_eq_getElem (by omega)] at this
        obtain ⟨c, h1, _⟩ := Option.bind_eq_some_iff.1 this
        obtain ⟨hl1, hg⟩ := cells_get h1
        have := hg 0 c[0] (List.getElem?_eq_getElem (by omega))
        rw [show len + 0 = 0 from by omega, Nat.zero_mul, add_zero, add_zero] at this
        exact cell_block this
    by_cases h0 : len = 0 ∧ cap = 0
    · obtain ⟨rfl, rfl⟩ := h0
      refine ⟨_, some ⟨W.heap.size, 0, none⟩, 0, 0, css, n, rfl, ?_, rfl, hclen, hlc, hcm, fun i c hc => ⟨(cells_get (hcs i c hc).1).1, (hcs i c hc).2⟩, hf.symm, hlw, .inr ⟨W.heap.size, 0, rfl, Nat.lt_succ_self _, fun i c j u hc => ?_⟩⟩
      · exact VRel.slice (κ := 0) argMap_S (Nat.zero_le _) (.inr ⟨rfl, rfl⟩)
      · have := (List.getElem?_eq_some_iff.1 hc).1; omega
    · obtain ⟨hb, hs⟩ := hcell (by omega)
      obtain ⟨b, off, sp⟩ := a
      simp only at hs hb
      subst hs
      have hn : norm W.heap.size (.slice (some ⟨b, off, none⟩) len cap) = .slice (some ⟨b, off, none⟩) len cap := by
        unfold norm
        split
        · rename_i e1; cases e1; exact absurd ⟨rfl, rfl⟩ h0
        · rfl
      refine ⟨_, some ⟨b, off, none⟩, len, cap, css, n, rfl, ?_, hn, hclen, hlc, hcm, fun i c hc => ⟨(cells_get (hcs i c hc).1).1, (hcs i c hc).2⟩, hf.symm, hlw, .inr ⟨b, off, rfl, by omega, fun i c j u hc hu => ?_⟩⟩
      · rw [hn]
        exact VRel.slice (κ := 0) (argMap_lt hb) (Nat.zero_le _) (.inl rfl)
      · have := (cells_get (hcs i c hc).1).2 j u hu
        rw [Addr.add_lit, Addr.add_lit] at this
        exact this
end
end Go.Abs
namespace Go.Abs.Fo
open Go.Abs Go.ChangeShapes
section
variable {H : Type} {enc : TypeId × Value → H} {P : Program} {W : World} {held : Bool}

/-- What may be seen of the memory at the start. -/
def GoodV (W : World) (vs : List (Option Addr × List Value)) : Prop := ∀ a l, (a, l) ∈ vs → ∃ b off, a = some ⟨b, off, none⟩ ∧ b < W.heap.size + 1 ∧ ∀ j, j < l.length → (mir W).rd b (off + j) = l[j]?
def Vin (vs : List (Option Addr × List Value)) (a : Option Addr) (l : List Value) : Prop := (a = none ∧ l = []) ∨ (a, l) ∈ vs
theorem GoodV.app {vs ws : List (Option Addr × List Value)} (h : GoodV W vs) (k : GoodV W ws) : GoodV W (vs ++ ws) := fun a l hm => by
  rcases List.mem_append.1 hm with x | x
  · exact h a l x
  · exact k a l x
theorem GoodV.cons {vs : List (Option Addr × List Value)} {b off : Nat} {l : List Value} (hb : b < W.heap.size + 1) (hr : ∀ j, j < l.length → (mir W).rd b (off + j) = l[j]?) (k : GoodV W vs) : GoodV W ((some ⟨b, off, none⟩, l) :: vs) := fun a l' hm => by
  rcases List.mem_cons.1 hm with x | x
  · cases x; exact ⟨b, off, rfl, hb, hr⟩
  · exact k a l' x
theorem GoodV.nil : GoodV W [] := fun _ _ h => by simp at h
theorem Vin.mono {vs ws : List (Option Addr × List Value)} {a : Option Addr} {l : List Value} (h : Vin vs a l) (hs : ∀ x, x ∈ vs → x ∈ ws) : Vin ws a l := h.imp id fun x => hs _ x
theorem Vin.vw {vs : List (Option Addr × List Value)} (G : GoodV W vs) {a : Option Addr} {l : List Value} (h : Vin vs a l) : Vw (argStore vs) [] a l := by
  rcases h with x | x
  · exact .inl x
  · refine .inr (Rd.of_ro (c := 0) (by simp) rfl x (SubOf.self ?_))
    obtain ⟨b, off, rfl, _⟩ := G a l x
    intro b' e; cases e; rfl
theorem good_own {vs : List (Option Addr × List Value)} (G : GoodV W vs) : Own (mir W) (fun _ => 0) (argStore vs) := arg_own fun a l hm => .inr (G a l hm)
/-- Cells at places, as the deterministic heap shows them. -/
theorem rd_of {b off k : Nat} {css : List (List Value)} (hk : ∀ c, c ∈ css → c.length = k) (hn : ∀ c, c ∈ css → ∀ u, u ∈ c → VRel (argMap W.heap.size) (norm W.heap.size u) u)
    (hc : ∀ (i : Nat) c (j : Nat) u, css[i]? = some c → c[j]? = some u → W.cell? ⟨b, off + i * k + j, none⟩ = some u) : ∀ j, j < (css.flatten.map (norm W.heap.size)).length → (mir W).rd b (off + j) = (css.flatten.map (norm W.heap.size))[j]? := by
  induction css generalizing off with
  | nil => intro j hj; simp at hj
  | cons c css ih =>
    intro j hj
    have hl := hk c (by simp)
    rw [List.flatten_cons, List.map_append] at hj ⊢
    by_cases hjl : j < c.length
    · rw [List.getElem?_append_left (by simpa using hjl), List.getElem?_map, List.getElem?_eq_getElem hjl]
      have := hc 0 c j c[j] rfl (List.getElem?_eq_getElem hjl)
      rw [Nat.zero_mul, Nat.add_zero] at this
      exact mir_rd this (hn c (by simp) _ (List.getElem_mem hjl))
    · rw [List.getElem?_append_right (by simp; omega), List.length_map]
      rw [List.length_append, List.length_map, List.length_map] at hj
      have := ih (off := off + k) (fun c' h' => hk c' (by simp [h'])) (fun c' h' => hn c' (by simp [h'])) (fun i c' j' u h1 h2 => by
        have := hc (i + 1) c' j' u (by simpa using h1) h2
        rw [show off + k + i * k + j' = off + (i + 1) * k + j' from by rw [Nat.add_mul]; omega]; exact this) (j - c.length) (by simp only [List.length_map]; omega)
      rw [← this, show off + j = off + k + (j - c.length) from by omega]
theorem str_same (s : Str) (u : Value) (hu : u ∈ [Value.string s]) : norm W.heap.size u = u ∧ VRel (argMap W.heap.size) u u := by
  simp at hu; subst hu; exact ⟨rfl, .string _⟩
theorem flat_strs : ∀ l : List Str, l.flatMap (fun s : Str => [Value.string s]) = strs l
  | [] => rfl
  | s :: l => by rw [List.flatMap_cons, flat_strs l]; rfl
/-- No part of a datum is greater than the machine. -/
abbrev Light (P : Program) (t : TypeId) (d : DataW H) : Prop := ∀ z, z ∈ d.weights P t → z ≤ 140737488351232
/-- A slice of strings opened. -/
theorem open_words {tA tS : TypeId} (hA : P.underlying tA = some (.slice tS)) (hS : P.underlying tS = some .string) (cS : P.cellsOf tS = 1) (bS : 1 ≤ P.bytesOf tS) {fuel : Nat} {cs : List Value} {x : DataW H × List MemPlace} (h : DataW.trod enc P W 0 (fun _ => true) held fuel tA cs = some x) (hz : Light P tA x.1) :
    ∃ v a cap l vs, cs = [v] ∧ VRel (argMap W.heap.size) (norm W.heap.size v) v ∧ norm W.heap.size v = .slice a (l : List Str).length cap ∧ l.length ≤ cap ∧ cap ≤ maxLen ∧ l.length ≤ 140737488351232 ∧ (∀ s, s ∈ l → s.size ≤ 140737488351232) ∧ GoodV W vs ∧ Vin vs a (strs l) := by
  obtain ⟨v, a', len, cap, css, n, e, hv, hn, hl, hlc, hcm, hc, _, hlw, hw⟩ := open_slW hA (by rw [cS]; decide) h
  obtain ⟨l0, hl0⟩ := each_ex (f := fun s : {s : Str // s.size ≤ 140737488351232} => [Value.string s.1]) (css := css) fun i c hi => by
    obtain ⟨_, y, hy, hyz⟩ := hc i c hi
    obtain ⟨s, e1, e2, _⟩ := DataW.trod_string hS hy
    refine ⟨⟨s, hz _ (hyz _ ?_)⟩, e1⟩
    rw [e2]
    simp only [DataW.weights]
    exact List.mem_singleton.2 rfl
  have hlen : (l0.map (·.1)).length = len := by rw [← hl, hl0]; simp
  have hle : len ≤ 140737488351232 := by
    rcases hlw with h0 | ⟨z, h1, h2⟩
    · omega
    · have := hz z h1
      have : len * 1 ≤ len * P.bytesOf tS := Nat.mul_le_mul_left _ bS
      omega
  have hs : ∀ s, s ∈ l0.map (·.1) → s.size ≤ 140737488351232 := by
    intro s hs
    obtain ⟨y, _, rfl⟩ := List.mem_map.1 hs
    exact y.2
  have hfl : css.flatten.map (norm W.heap.size) = strs (l0.map (·.1)) := by
    rw [hl0]
    clear hl0 hlen hs
    induction l0 with
    | nil => rfl
    | cons s l ih =>
      rw [List.map_cons, List.flatten_cons, List.map_append, ih]
      rfl
  rcases hw with ⟨ha, h0⟩ | ⟨b, off, ha, hb, hr⟩
  · refine ⟨v, a', cap, l0.map (·.1), [], e, hv, by rw [hn, hlen], by omega, hcm, by omega, hs, GoodV.nil, .inl ⟨ha, ?_⟩⟩
    have : l0.map (·.1) = [] := List.eq_nil_of_length_eq_zero (by omega)
    rw [this]; rfl
  · subst ha
    refine ⟨v, _, cap, l0.map (·.1), [(some ⟨b, off, none⟩, strs (l0.map (·.1)))], e, hv, by rw [hn, hlen], by omega, hcm, by omega, hs, GoodV.nil.cons hb ?_, .inr (by simp)⟩
    rw [← hfl]
    rw [cS] at hr hc
    refine rd_of (k := 1) (fun c hcm => ?_) (fun c hcm u hu => ?_) hr
    · obtain ⟨i, hi⟩ := List.getElem?_of_mem hcm
      exact (hc i c hi).1
    · rw [hl0] at hcm
      obtain ⟨s, _, rfl⟩ := List.mem_map.1 hcm
      simp at hu; subst hu
      exact .string _
structure StT (P : Program) (tL tE tI tA tS : TypeId) (fs : Array Field) : Prop where
  list : P.underlying tL = some (.slice tE)
  elem : P.underlying tE = some (.struct fs)
  int : P.underlying tI = some (.int .i64)
  words : P.underlying tA = some (.slice tS)
  str : P.underlying tS = some .string
  cE : P.cellsOf tE = 4
  cI : P.cellsOf tI = 1
  cA : P.cellsOf tA = 1
  cL : P.cellsOf tL = 1
  cS : P.cellsOf tS = 1
  bS : 1 ≤ P.bytesOf tS
  bE : 1 ≤ P.bytesOf tE
  f0 : ∃ f, fs[0]? = some f ∧ f.type = tI ∧ f.offset = 0
  f1 : ∃ f, fs[1]? = some f ∧ f.type = tA ∧ f.offset = 1
  f2 : ∃ f, fs[2]? = some f ∧ f.type = tI ∧ f.offset = 2
  f3 : ∃ f, fs[3]? = some f ∧ f.type = tL ∧ f.offset = 3
/-- A slice of statements, as it is opened. -/
def OpenL (W : World) (v : Value) : Prop :=
  ∃ a cap f cells vs, VRel (argMap W.heap.size) (norm W.heap.size v) v ∧ norm W.heap.size v = .slice a (f : F).len cap ∧ f.len ≤ cap ∧ cap ≤ maxLen ∧ f.len ≤ 140737488351232 ∧ Fits f ∧ GoodV W vs ∧ Vin vs a cells ∧ Lies (Vin vs) f cells
theorem light_at {ts : List TypeId} {ds : List (DataW H)} (h : (DataW.weightsEach P ts ds).all (· ≤ reachBytes) = true) {i : Nat} {t : TypeId} {d : DataW H} (h1 : ts[i]? = some t) (h2 : ds[i]? = some d) : Light P t d := by
  intro z hz
  have each : ∀ (ts : List TypeId) (ds : List (DataW H)) (i : Nat), ts[i]? = some t → ds[i]? = some d → z ∈ DataW.weightsEach P ts ds := by
    intro ts
    induction ts with
    | nil => intro ds i h1; simp at h1
    | cons t' ts ih =>
      intro ds i h1 h2
      cases ds with
      | nil => simp at h2
      | cons d' ds =>
        rw [DataW.weightsEach]
        cases i with
        | zero => simp at h1 h2; subst h1 h2; exact List.mem_append_left _ hz
        | succ i => exact List.mem_append_right _ (ih ds i (by simpa using h1) (by simpa using h2))
  have := List.all_eq_true.1 h z (each ts ds i h1 h2)
  have := of_decide_eq_true this
  exact this
variable {tL tE tI tA tS : TypeId} {fs : Array Field}
theorem open_structF {t : TypeId} {fuel : Nat} {cs : List Value} {x : DataW H × List MemPlace} (ht : P.underlying t = some (.struct fs)) (h : DataW.trod enc P W 0 (fun _ => true) held fuel t cs = some x) :
    ∃ n, n + 1 = fuel ∧ ∀ (i : Nat) (f : Field), fs[i]? = some f → ∃ y, DataW.trod enc P W 0 (fun _ => true) held n f.type ((cs.drop f.offset).take (P.cellsOf f.type)) = some y ∧ ∀ z, z ∈ y.1.weights P f.type → z ∈ x.1.weights P t := by
  obtain ⟨xs, n, hn, hxx, hl, hx, hf⟩ := DataW.trod_struct ht h
  refine ⟨n, by omega, fun i f hi => ?_⟩
  have hlt : i < xs.length := by rw [hx]; exact (Array.getElem?_eq_some_iff.1 hi).1
  rw [hf i f hi, List.getElem?_eq_getElem hlt]
  refine ⟨_, rfl, fun z hz => ?_⟩
  have each : ∀ (ts : List TypeId) (ds : List (DataW H)) (i : Nat) (t : TypeId) (d : DataW H), ts[i]? = some t → ds[i]? = some d → z ∈ d.weights P t → z ∈ DataW.weightsEach P ts ds := by
    intro ts
    induction ts with
    | nil => intro ds i t d h1; simp at h1
    | cons t' ts ih =>
      intro ds i t d h1 h2 h3
      cases ds with
      | nil => simp at h2
      | cons d' ds =>
        rw [DataW.weightsEach]
        cases i with
        | zero => simp at h1 h2; subst h1 h2; exact List.mem_append_left _ h3
        | succ i => exact List.mem_append_right _ (ih ds i t d (by simpa using h1) (by simpa using h2) h3)
  rw [hxx]
  simp only [DataW.weights, ht]
  refine each _ _ i f.type xs[i].1 ?_ ?_ hz
  · rw [List.getElem?_map, Array.getElem?_toList, hi]; rfl
  · rw [List.getElem?_map, List.getElem?_eq_getElem hlt]; rfl
theorem open_each (S : StT P tL tE tI tA tS fs) {N : Nat} (ih : ∀ fuel', fuel' < N → ∀ {cs : List Value} {x : DataW H × List MemPlace}, DataW.trod enc P W 0 (fun _ => true) held fuel' tL cs = some x → Light P tL x.1 → ∃ v, cs = [v] ∧ OpenL W v) :
    ∀ (css : List (List Value)), (∀ c, c ∈ css → c.length = 4 ∧ ∃ n y, n < N ∧ DataW.trod enc P W 0 (fun _ => true) held n tE c = some y ∧ Light P tE y.1) →
      ∃ f vs, (f : F).len = css.length ∧ Fits f ∧ GoodV W vs ∧ Lies (Vin vs) f (css.flatten.map (norm W.heap.size)) ∧ ∀ c, c ∈ css → ∀ u, u ∈ c → VRel (argMap W.heap.size) (norm W.heap.size u) u
  | [], _ => ⟨.nil, [], rfl, trivial, GoodV.nil, rfl, fun c hc => by simp at hc⟩
  | c :: css, hc => by
    obtain ⟨hl, n, y, hN, hy, hyz⟩ := hc c (by simp)
    obtain ⟨m, hm, hf⟩ := open_structF S.elem hy
    obtain ⟨f0, g0, t0, o0⟩ := S.f0
    obtain ⟨f1, g1, t1, o1⟩ := S.f1
    obtain ⟨f2, g2, t2, o2⟩ := S.f2
    obtain ⟨f3, g3, t3, o3⟩ := S.f3
    obtain ⟨y0, h0, z0⟩ := hf 0 _ g0
    obtain ⟨y1, h1, z1⟩ := hf 1 _ g1
    obtain ⟨y2, h2, z2⟩ := hf 2 _ g2
    obtain ⟨y3, h3, z3⟩ := hf 3 _ g3
    rw [t0, o0, S.cI] at h0
    rw [t1, o1, S.cA] at h1
    rw [t1] at z1
    rw [t2, o2, S.cI] at h2
    rw [t3, o3, S.cL] at h3
    rw [t3] at z3
    match c, hl with
    | [x0, x1, x2, x3], _ =>
      obtain ⟨op, e0, _⟩ := open_i64 S.int h0
      obtain ⟨v1, aa, ac, args, ws, e1, r1, n1, k1, k2, k2', k3, k4, k5⟩ := open_words S.words S.str S.cS S.bS h1 (fun z hz => hyz z (z1 z hz))
      obtain ⟨kk, e2, _⟩ := open_i64 S.int h2
      obtain ⟨v3, e3, ba, bc, body, bcells, us, r3, n3, l1, l2, l2', l3, l4, l5, l6⟩ := ih m (by omega) h3 (fun z hz => hyz z (z3 z hz))
      have e0 : [x0] = [_] := e0
      have e1 : [x1] = [_] := e1
      have e2 : [x2] = [_] := e2
      have e3 : [x3] = [_] := e3
      cases e0; cases e1; cases e2; cases e3
      obtain ⟨f, vs, q1, q2, q3, q4, q5⟩ := open_each S ih css fun c' h' => hc c' (by simp [h'])
      refine ⟨.cons op args kk body f, ws ++ us ++ vs, by simp [F.len, q1], ⟨by omega, fun s hs => by have := k3 s hs; omega, by omega, l3, q2⟩, (k4.app l4).app q3, ?_, ?_⟩
      · refine ⟨aa, ac, ba, bc, bcells, css.flatten.map (norm W.heap.size), ?_, k5.mono fun x hx => by simp [hx], l5.mono fun x hx => by simp [hx], l6.mono fun _ _ z => z.mono fun x hx => by simp [hx], q4.mono fun _ _ z => z.mono fun x hx => by simp [hx]⟩
        rw [List.flatten_cons, List.map_append]
        simp only [List.map_cons, List.map_nil, n1, n3]
        rfl
      · intro c' hc' u hu
        rcases List.mem_cons.1 hc' with rfl | hc'
        · simp only [List.mem_cons, List.not_mem_nil, or_false] at hu
          rcases hu with rfl | rfl | rfl | rfl
          · exact .int _ _
          · exact r1
          · exact .int _ _
          · exact r3
        · exact q5 c' hc' u hu
/-- A slice of statements opened. -/
theorem open_stmts (S : StT P tL tE tI tA tS fs) : ∀ (fuel : Nat) {cs : List Value} {x : DataW H × List MemPlace}, DataW.trod enc P W 0 (fun _ => true) held fuel tL cs = some x → Light P tL x.1 → ∃ v, cs = [v] ∧ OpenL W v := by
  intro fuel
  induction fuel using Nat.strongRecOn with
  | ind fuel ih =>
    intro cs x h hz
    obtain ⟨v, a', len, cap, css, n, e, hv, hn, hl, hlc, hcm, hc, hnf, hlw, hw⟩ := open_slW S.list (by rw [S.cE]; decide) h
    have hle : len ≤ 140737488351232 := by
      rcases hlw with h0 | ⟨z, h1, h2⟩
      · omega
      · have := hz z h1
        have : len * 1 ≤ len * P.bytesOf tE := Nat.mul_le_mul_left _ S.bE
        omega
    rw [S.cE] at hc hw
    obtain ⟨f, vs, q1, q2, q3, q4, q5⟩ := open_each S (N := fuel) (fun fuel' hf {cs} {x} h' hz' => ih fuel' hf h' hz') css fun c hcm => by
      obtain ⟨i, hi⟩ := List.getElem?_of_mem hcm
      obtain ⟨h1, y, h2, h3⟩ := hc i c hi
      exact ⟨h1, n, y, by omega, h2, fun z hz' => hz z (h3 z hz')⟩
    refine ⟨v, e, ?_⟩
    rcases hw with ⟨ha, h0⟩ | ⟨b, off, ha, hb, hr⟩
    · have hcss : css = [] := List.eq_nil_of_length_eq_zero (by omega)
      subst hcss
      have hf : f = .nil := by
        cases f with
        | nil => rfl
        | cons _ _ _ _ _ => simp [F.len] at q1
      subst hf
      refine ⟨a', cap, .nil, [], [], hv, ?_, Nat.zero_le _, hcm, Nat.zero_le _, trivial, GoodV.nil, .inl ⟨ha, rfl⟩, rfl⟩
      rw [hn, h0]; rfl
    · refine ⟨a', cap, f, css.flatten.map (norm W.heap.size), (a', css.flatten.map (norm W.heap.size)) :: vs, hv, by rw [hn, q1, hl], by omega, hcm, by omega, q2, ?_, .inr (by simp), q4.mono fun _ _ z => z.mono fun x hx => by simp [hx]⟩
      subst ha
      refine q3.cons hb (rd_of (k := 4) (fun c hcm => ?_) q5 hr)
      obtain ⟨i, hi⟩ := List.getElem?_of_mem hcm
      exact (hc i c hi).1
end
end Go.Abs.Fo
end

section
/- A row with arguments, and with listed package variables, out of what the function comes to. -/
open Go.RowKit
namespace Go.Abs
open Go.ChangeShapes
section
variable {H : Type} {enc : TypeId × Value → H} {P : Program} {f : FuncId} {fn : Func} {s : ChangeSpec} {apart handsOn : Bool} {t : TypeId}

/-- What the model's call does, for a law whose arguments read behind the call as they read before. -/
theorem calls_args (hlaid : laidOutB P = true) (hparams : ∀ t', t' ∈ fn.params.toList → P.readableRec t' = true ∧ t' < P.types.size)
    (hr : fn.resultTypes = #[t]) (ht : P.underlying t = some .bool) (hv : s.vars = [])
    (hs : ∀ (K : Type) (ds : List (DataW K)), ds.length = fn.params.size → (s.fn K ds).results = [.lit (.bool true)] ∧ (s.fn K ds).args = ds ∧ (s.fn K ds).vars = [])
    (hlow : Nat.ble (P.globals.size + 1) (begin P (fun _ _ => 0) default).world.heap.size = true)
    {W : World} {args : Array Value} {ds gs : List (DataW H)} {before : List MemPlace} (hW : DataW.Whole enc P fn.params.toList s.vars apart W args.toList ds gs before) (hsh : W.ShapedOpen P)
    (run : ∀ (p : List MemPlace), DataW.TrodAll enc P W 0 (fun _ => true) true fn.params.toList args.toList ds p →
      LRel (argMap W.heap.size) (args.toList.map (norm W.heap.size)) args.toList ∧ EvQ P f (args.toList.map (norm W.heap.size)) (mir W) fun v _ => v = .bool true) :
    Calls P f args W fun e W' => ∃ v, e = .returned v ∧ s.post enc P fn apart true handsOn false W args v W' := by
  have hsz := shaped_size hlow hsh
  have hW0 := hW
  obtain ⟨p, q, hA, _⟩ := hW
  obtain ⟨hrel, v, h', ⟨n, hev⟩, hq⟩ := run _ hA
  subst hq
  obtain ⟨_, hcalls⟩ := calls_ok (B0 := Zn.lt W.heap.size) (w0 := W) n f _ _ _ _ hev
  have hglob : Glob P (argMap W.heap.size) := fun g hg => argMap_lt (Nat.lt_of_lt_of_le hg hsz)
  have hargs : (⟨args.toList⟩ : Array Value) = args := by simp
  have := hcalls _ _ _ hrel (mir_rel _) hglob
  rw [hargs] at this
  refine this.mono fun e W' he => ?_
  obtain ⟨ψ, v', _, rfl, hv', HR⟩ := he
  rw [hv'.bool_inv]
  exact ⟨_, rfl, post_args hlaid hparams hr ht hv hs hW0 HR.below.below⟩
end
/-- The cells of a table as a row lists it. -/
def tabCells : DataW Unit → Array Value
  | .agg l => (l.map fun
    | .lit (.int k z) => Value.int k z
    | _ => .bool false).toArray
  | _ => #[]
def putTab (h : Array Obj) : List (Nat × DataW Unit) → Array Obj
  | [] => h
  | (g, d) :: l => (putTab h l).modify g fun
    | .cells _ t frozen => .cells (tabCells d) t frozen
    | o => o
end Go.Abs
end
