/- A deterministic heap for the model, proved sound, and walks of the program over it: part 6. No condition. -/
import Derived.Test.YtamoepfiodgbbaaGreatDoorAb1
import Derived.Test.YtamoepfiodgbbaaGreatDoorAb2
import Derived.Test.YtamoepfiodgbbaaGreatDoorAb3
import Derived.Test.YtamoepfiodgbbaaGreatDoorAb4
import Derived.Test.YtamoepfiodgbbaaGreatDoorProg
import Derived.Test.YtamoepfiodgbbaaGreatDoorAb5
set_option linter.unusedVariables false
set_option linter.unusedSimpArgs false
set_option linter.unusedSectionVars false
section
/- Names of functions and types. -/
namespace Go.Proofs.YtamoepfiodgbbaaGreatDoor
open Go.Abs
noncomputable abbrev P : Program := Tryz.prog
def f_brickyardlaw15_works : Nat := 8
def f_brickyardref15_Texts : Nat := 16
def f_path_Is : Nat := 22
def f_slices_Clone_sl_string_string : Nat := 46
def f_strings_Cut : Nat := 49
def f_path_segment : Nat := 50
def f_brickyardref13_Same : Nat := 51
def f_stringslite_Cut : Nat := 89
def f_path_may : Nat := 90
def f_stringslite_Index : Nat := 122
def f_stringslite_IndexByte : Nat := 141
def f_bytealg_IndexString : Nat := 146
def f_math_bits_Len64 : Nat := 163
def f_bytealg_IndexByteString : Nat := 165
def ty_sl_string : Nat := 22
end Go.Proofs.YtamoepfiodgbbaaGreatDoor
end

section
/- Rules of walks, printed by a program of ours: group Lib. -/
namespace Go.Proofs.YtamoepfiodgbbaaGreatDoor
open Go.Abs
set_option maxRecDepth 100000
theorem r_slices_Clone_sl_string_string {p1 : Option Addr} {m2 : Nat} {m3 : Nat} {h : AW} {Q : Value → AW → Prop} (H : bC (Option.isNone p1) (Q (Value.slice none 0 0) h) (oP (appendB P (AW.addVar h [])
  (Array.mk [ty_sl_string, ty_sl_string]) [Value.slice (some (Addr.mk (AW.next h) 0 none)) 0 0, Value.slice p1 m2 m3]) fun v4 h5 => vSl v4 fun p6 m7 m8 => Q (Value.slice p6 m7 m8) h5)) : EvQ P
  f_slices_Clone_sl_string_string [Value.slice p1 m2 m3] h Q := fn_ok (n := 400) (ann := annOf []) (Eq.mp (by kernel_rfl) H)
end Go.Proofs.YtamoepfiodgbbaaGreatDoor
end

section
/- What the library's functions on slices of strings come to. -/
namespace Go.Proofs.YtamoepfiodgbbaaGreatDoor
open Go.Abs Go.Abs.Sch
set_option maxRecDepth 100000
attribute [local irreducible] unitAt EvQ
variable {h : AW} {μ : Paint} {ρ : Store} {Q : Value → AW → Prop}
/-- Slices behind one another. -/
structure Part where
  a : Option Addr
  cap : Nat
  x : List Str
def Part.cell (p : Part) : Value := .slice p.a p.x.length p.cap
/-- A test of strings. -/
def Tests (f : FuncId) (l1 l2 : List Value) (p : Str → Bool) (c : Nat) (ρ : Store) : Prop :=
  ∀ h' μ' ρ' s Q', Own h' μ' ρ' → Fra [c] ρ ρ' → Q' (.bool (p s)) h' → EvQ P f (l1 ++ .string s :: l2) h' Q'
end Go.Proofs.YtamoepfiodgbbaaGreatDoor
end

section
/- Rules of walks, printed by a program of ours: group Act. -/
namespace Go.Proofs.YtamoepfiodgbbaaGreatDoor
open Go.Abs
set_option maxRecDepth 100000
attribute [local irreducible] kFn kUnit EvQ unitAt
end Go.Proofs.YtamoepfiodgbbaaGreatDoor
end

section
/- Rules of walks, printed by a program of ours: group ARef. -/
namespace Go.Proofs.YtamoepfiodgbbaaGreatDoor
open Go.Abs
set_option maxRecDepth 100000
theorem r_brickyardref13_Same {p1 : Option Addr} {m2 : Nat} {m3 : Nat} {p4 : Option Addr} {m5 : Nat} {m6 : Nat} {h : AW} {Q : Value → AW → Prop} (H : bC ((↑m2 : Int) != (↑m5 : Int)) (Q
  (Value.bool false) h) (unitAt P f_brickyardref13_Same 4 [0, 1, 5] [Value.slice p1 m2 m3, Value.slice p4 m5 m6, Value.int IntKind.i64 0] h Q)) : EvQ P f_brickyardref13_Same [Value.slice p1 m2 m3, Value.slice p4 m5
  m6] h Q := fn_ok (n := 400) (ann := annOf [(4, [0, 1, 5]), (10, [0, 1, 5, 6, 7, 8])]) (Eq.mp (by kernel_rfl) H)
theorem r_brickyardref13_Same_4 {p1 : Option Addr} {m2 : Nat} {m3 : Nat} {p4 : Option Addr} {m5 : Nat} {m6 : Nat} {n7 : Int} {h : AW} {Q : Value → AW → Prop} (H : bC (decide (n7 < (↑m2 : Int)))
  (aP p1 fun m8 m9 => oB (natIdx n7 m2) fun m10 => oB (AW.rd h m8 (m9 + m10 * 4)) fun v11 => vInt IntKind.i64 v11 fun n12 => oB (AW.rd h m8 (m9 + m10 * 4 + 1)) fun v13 => vSl v13
  fun p14 m15 m16 => oB (AW.rd h m8 (m9 + m10 * 4 + 1 + 1)) fun v17 => vInt IntKind.i64 v17 fun n18 => oB (AW.rd h m8 (m9 + m10 * 4 + 1 + 1 + 1)) fun v19 => vSl v19 fun p20 m21 m22
  => aP p4 fun m23 m24 => oB (natIdx n7 m5) fun m25 => oB (AW.rd h m23 (m24 + m25 * 4)) fun v26 => vInt IntKind.i64 v26 fun n27 => oB (AW.rd h m23 (m24 + m25 * 4 + 1)) fun v28 =>
  vSl v28 fun p29 m30 m31 => oB (AW.rd h m23 (m24 + m25 * 4 + 1 + 1)) fun v32 => vInt IntKind.i64 v32 fun n33 => oB (AW.rd h m23 (m24 + m25 * 4 + 1 + 1 + 1)) fun v34 => vSl v34 fun
  p35 m36 m37 => oB (AW.wrL (AW.addVar (AW.addVar h [Value.int IntKind.i64 0, Value.slice none 0 0, Value.int IntKind.i64 0, Value.slice none 0 0]) [Value.int IntKind.i64 0,
  Value.slice none 0 0, Value.int IntKind.i64 0, Value.slice none 0 0]) (AW.next h) 0 [Value.int IntKind.i64 n12, Value.slice p14 m15 m16, Value.int IntKind.i64 n18, Value.slice
  p20 m21 m22]) fun h38 => oB (AW.wrL h38 (AW.next (AW.addVar h [Value.int IntKind.i64 0, Value.slice none 0 0, Value.int IntKind.i64 0, Value.slice none 0 0])) 0 [Value.int
  IntKind.i64 n27, Value.slice p29 m30 m31, Value.int IntKind.i64 n33, Value.slice p35 m36 m37]) fun h39 => oB (AW.rd (AW.addVar h [Value.int IntKind.i64 0, Value.slice none 0 0,
  Value.int IntKind.i64 0, Value.slice none 0 0]) m8 (m9 + m10 * 4)) fun v40 => vInt IntKind.i64 v40 fun n41 => oB (AW.rd (AW.addVar h [Value.int IntKind.i64 0, Value.slice none 0
  0, Value.int IntKind.i64 0, Value.slice none 0 0]) m8 (m9 + m10 * 4 + 1)) fun v42 => vSl v42 fun p43 m44 m45 => oB (AW.rd (AW.addVar h [Value.int IntKind.i64 0, Value.slice none
  0 0, Value.int IntKind.i64 0, Value.slice none 0 0]) m8 (m9 + m10 * 4 + 1 + 1)) fun v46 => vInt IntKind.i64 v46 fun n47 => oB (AW.rd (AW.addVar h [Value.int IntKind.i64 0,
  Value.slice none 0 0, Value.int IntKind.i64 0, Value.slice none 0 0]) m8 (m9 + m10 * 4 + 1 + 1 + 1)) fun v48 => vSl v48 fun p49 m50 m51 => Value.agg (Array.mk [Value.int
  IntKind.i64 n41, Value.slice p43 m44 m45, Value.int IntKind.i64 n47, Value.slice p49 m50 m51]) = Value.agg (Array.mk [Value.int IntKind.i64 n12, Value.slice p14 m15 m16,
  Value.int IntKind.i64 n18, Value.slice p20 m21 m22]) ∧ oB (AW.rd (AW.addVar (AW.addVar h [Value.int IntKind.i64 0, Value.slice none 0 0, Value.int IntKind.i64 0, Value.slice none
  0 0]) [Value.int IntKind.i64 0, Value.slice none 0 0, Value.int IntKind.i64 0, Value.slice none 0 0]) m8 (m9 + m10 * 4)) fun v52 => vInt IntKind.i64 v52 fun n53 => oB (AW.rd
  (AW.addVar (AW.addVar h [Value.int IntKind.i64 0, Value.slice none 0 0, Value.int IntKind.i64 0, Value.slice none 0 0]) [Value.int IntKind.i64 0, Value.slice none 0 0, Value.int
  IntKind.i64 0, Value.slice none 0 0]) m8 (m9 + m10 * 4 + 1)) fun v54 => vSl v54 fun p55 m56 m57 => oB (AW.rd (AW.addVar (AW.addVar h [Value.int IntKind.i64 0, Value.slice none 0
  0, Value.int IntKind.i64 0, Value.slice none 0 0]) [Value.int IntKind.i64 0, Value.slice none 0 0, Value.int IntKind.i64 0, Value.slice none 0 0]) m8 (m9 + m10 * 4 + 1 + 1)) fun
  v58 => vInt IntKind.i64 v58 fun n59 => oB (AW.rd (AW.addVar (AW.addVar h [Value.int IntKind.i64 0, Value.slice none 0 0, Value.int IntKind.i64 0, Value.slice none 0 0])
  [Value.int IntKind.i64 0, Value.slice none 0 0, Value.int IntKind.i64 0, Value.slice none 0 0]) m8 (m9 + m10 * 4 + 1 + 1 + 1)) fun v60 => vSl v60 fun p61 m62 m63 => Value.agg
  (Array.mk [Value.int IntKind.i64 n53, Value.slice p55 m56 m57, Value.int IntKind.i64 n59, Value.slice p61 m62 m63]) = Value.agg (Array.mk [Value.int IntKind.i64 n12, Value.slice
  p14 m15 m16, Value.int IntKind.i64 n18, Value.slice p20 m21 m22]) ∧ oB (AW.rd (AW.addVar h [Value.int IntKind.i64 0, Value.slice none 0 0, Value.int IntKind.i64 0, Value.slice
  none 0 0]) m23 (m24 + m25 * 4)) fun v64 => vInt IntKind.i64 v64 fun n65 => oB (AW.rd (AW.addVar h [Value.int IntKind.i64 0, Value.slice none 0 0, Value.int IntKind.i64 0,
  Value.slice none 0 0]) m23 (m24 + m25 * 4 + 1)) fun v66 => vSl v66 fun p67 m68 m69 => oB (AW.rd (AW.addVar h [Value.int IntKind.i64 0, Value.slice none 0 0, Value.int IntKind.i64
  0, Value.slice none 0 0]) m23 (m24 + m25 * 4 + 1 + 1)) fun v70 => vInt IntKind.i64 v70 fun n71 => oB (AW.rd (AW.addVar h [Value.int IntKind.i64 0, Value.slice none 0 0, Value.int
  IntKind.i64 0, Value.slice none 0 0]) m23 (m24 + m25 * 4 + 1 + 1 + 1)) fun v72 => vSl v72 fun p73 m74 m75 => Value.agg (Array.mk [Value.int IntKind.i64 n65, Value.slice p67 m68
  m69, Value.int IntKind.i64 n71, Value.slice p73 m74 m75]) = Value.agg (Array.mk [Value.int IntKind.i64 n27, Value.slice p29 m30 m31, Value.int IntKind.i64 n33, Value.slice p35
  m36 m37]) ∧ oB (AW.rd (AW.addVar (AW.addVar h [Value.int IntKind.i64 0, Value.slice none 0 0, Value.int IntKind.i64 0, Value.slice none 0 0]) [Value.int IntKind.i64 0,
  Value.slice none 0 0, Value.int IntKind.i64 0, Value.slice none 0 0]) m23 (m24 + m25 * 4)) fun v76 => vInt IntKind.i64 v76 fun n77 => oB (AW.rd (AW.addVar (AW.addVar h [Value.int
  IntKind.i64 0, Value.slice none 0 0, Value.int IntKind.i64 0, Value.slice none 0 0]) [Value.int IntKind.i64 0, Value.slice none 0 0, Value.int IntKind.i64 0, Value.slice none 0
  0]) m23 (m24 + m25 * 4 + 1)) fun v78 => vSl v78 fun p79 m80 m81 => oB (AW.rd (AW.addVar (AW.addVar h [Value.int IntKind.i64 0, Value.slice none 0 0, Value.int IntKind.i64 0,
  Value.slice none 0 0]) [Value.int IntKind.i64 0, Value.slice none 0 0, Value.int IntKind.i64 0, Value.slice none 0 0]) m23 (m24 + m25 * 4 + 1 + 1)) fun v82 => vInt IntKind.i64
  v82 fun n83 => oB (AW.rd (AW.addVar (AW.addVar h [Value.int IntKind.i64 0, Value.slice none 0 0, Value.int IntKind.i64 0, Value.slice none 0 0]) [Value.int IntKind.i64 0,
  Value.slice none 0 0, Value.int IntKind.i64 0, Value.slice none 0 0]) m23 (m24 + m25 * 4 + 1 + 1 + 1)) fun v84 => vSl v84 fun p85 m86 m87 => Value.agg (Array.mk [Value.int
  IntKind.i64 n77, Value.slice p79 m80 m81, Value.int IntKind.i64 n83, Value.slice p85 m86 m87]) = Value.agg (Array.mk [Value.int IntKind.i64 n27, Value.slice p29 m30 m31,
  Value.int IntKind.i64 n33, Value.slice p35 m36 m37]) ∧ oB (AW.rd h38 m23 (m24 + m25 * 4)) fun v88 => vInt IntKind.i64 v88 fun n89 => oB (AW.rd h38 m23 (m24 + m25 * 4 + 1)) fun
  v90 => vSl v90 fun p91 m92 m93 => oB (AW.rd h38 m23 (m24 + m25 * 4 + 1 + 1)) fun v94 => vInt IntKind.i64 v94 fun n95 => oB (AW.rd h38 m23 (m24 + m25 * 4 + 1 + 1 + 1)) fun v96 =>
  vSl v96 fun p97 m98 m99 => Value.agg (Array.mk [Value.int IntKind.i64 n89, Value.slice p91 m92 m93, Value.int IntKind.i64 n95, Value.slice p97 m98 m99]) = Value.agg (Array.mk
  [Value.int IntKind.i64 n27, Value.slice p29 m30 m31, Value.int IntKind.i64 n33, Value.slice p35 m36 m37]) ∧ oB (AW.rd h39 (AW.next h) 0) fun v100 => vInt IntKind.i64 v100 fun
  n101 => oB (AW.rd h39 (AW.next (AW.addVar h [Value.int IntKind.i64 0, Value.slice none 0 0, Value.int IntKind.i64 0, Value.slice none 0 0])) 0) fun v102 => vInt IntKind.i64 v102
  fun n103 => bC (n101 != n103) (Q (Value.bool false) h39) (oB (AW.rd h39 (AW.next h) 2) fun v104 => vInt IntKind.i64 v104 fun n105 => oB (AW.rd h39 (AW.next (AW.addVar h
  [Value.int IntKind.i64 0, Value.slice none 0 0, Value.int IntKind.i64 0, Value.slice none 0 0])) 2) fun v106 => vInt IntKind.i64 v106 fun n107 => bC (n105 != n107) (Q (Value.bool
  false) h39) (oB (AW.rd h39 (AW.next h) 1) fun v108 => vSl v108 fun p109 m110 m111 => oB (AW.rd h39 (AW.next (AW.addVar h [Value.int IntKind.i64 0, Value.slice none 0 0, Value.int
  IntKind.i64 0, Value.slice none 0 0])) 1) fun v112 => vSl v112 fun p113 m114 m115 => bC ((↑m110 : Int) != (↑m114 : Int)) (Q (Value.bool false) h39) (oB (AW.rd h39 (AW.next h) 3)
  fun v116 => vSl v116 fun p117 m118 m119 => oB (AW.rd h39 (AW.next (AW.addVar h [Value.int IntKind.i64 0, Value.slice none 0 0, Value.int IntKind.i64 0, Value.slice none 0 0])) 3)
  fun v120 => vSl v120 fun p121 m122 m123 => EvQ P f_brickyardref13_Same [Value.slice p117 m118 m119, Value.slice p121 m122 m123] h39 fun v124 h125 => vBool v124 fun b126 => bC (!b126) (Q
  (Value.bool false) h125) (unitAt P f_brickyardref13_Same 10 [0, 1, 5, 6, 7, 8] [Value.slice p1 m2 m3, Value.slice p4 m5 m6, Value.int IntKind.i64 n7, Value.pointer (some (Addr.mk (AW.next h) 0
  none)), Value.pointer (some (Addr.mk (AW.next (AW.addVar h [Value.int IntKind.i64 0, Value.slice none 0 0, Value.int IntKind.i64 0, Value.slice none 0 0])) 0 none)), Value.int
  IntKind.i64 0] h125 Q))))) (Q (Value.bool true) h)) : unitAt P f_brickyardref13_Same 4 [0, 1, 5] [Value.slice p1 m2 m3, Value.slice p4 m5 m6, Value.int IntKind.i64 n7] h Q := unit_ok (n := 400)
  (ann := annOf [(4, [0, 1, 5]), (10, [0, 1, 5, 6, 7, 8])]) (Eq.mp (by kernel_rfl) H)
theorem r_brickyardref13_Same_10 {p1 : Option Addr} {m2 : Nat} {m3 : Nat} {p4 : Option Addr} {m5 : Nat} {m6 : Nat} {n7 : Int} {m8 : Nat} {m9 : Nat} {n10 : Int} {h : AW} {Q : Value → AW → Prop} (H
  : oB (AW.rd h m8 1) fun v11 => vSl v11 fun p12 m13 m14 => bC (decide (n10 < (↑m13 : Int))) (oB (AW.rd h m8 1) fun v15 => vSl v15 fun p16 m17 m18 => aP p16 fun m19 m20 => oB
  (natIdx n10 m17) fun m21 => oB (AW.rd h m19 (m20 + m21 * 1)) fun v22 => vStr v22 fun s23 => oB (AW.rd h m9 1) fun v24 => vSl v24 fun p25 m26 m27 => aP p25 fun m28 m29 => oB
  (natIdx n10 m26) fun m30 => oB (AW.rd h m28 (m29 + m30 * 1)) fun v31 => vStr v31 fun s32 => bC (!bEq s23 s32) (Q (Value.bool false) h) (unitAt P f_brickyardref13_Same 10 [0, 1, 5, 6, 7, 8]
  [Value.slice p1 m2 m3, Value.slice p4 m5 m6, Value.int IntKind.i64 n7, Value.pointer (some (Addr.mk m8 0 none)), Value.pointer (some (Addr.mk m9 0 none)), Value.int IntKind.i64
  (IntKind.wrap IntKind.i64 (n10 + 1))] h Q)) (unitAt P f_brickyardref13_Same 4 [0, 1, 5] [Value.slice p1 m2 m3, Value.slice p4 m5 m6, Value.int IntKind.i64 (IntKind.wrap IntKind.i64 (n7 + 1))] h
  Q)) : unitAt P f_brickyardref13_Same 10 [0, 1, 5, 6, 7, 8] [Value.slice p1 m2 m3, Value.slice p4 m5 m6, Value.int IntKind.i64 n7, Value.pointer (some (Addr.mk m8 0 none)), Value.pointer (some
  (Addr.mk m9 0 none)), Value.int IntKind.i64 n10] h Q := unit_ok (n := 400) (ann := annOf [(4, [0, 1, 5]), (10, [0, 1, 5, 6, 7, 8])]) (Eq.mp (by kernel_rfl) H)
end Go.Proofs.YtamoepfiodgbbaaGreatDoor
end

section
/- Layer 13: kinds, numbers and words. -/
namespace Go.Proofs.YtamoepfiodgbbaaGreatDoor
open Go.Abs Go.Abs.Fo
set_option maxRecDepth 100000
attribute [local irreducible] unitAt EvQ
variable {h : AW} {μ : Paint} {ρ : Store} {Q : Value → AW → Prop}

theorem nb {b : Bool} (e : (!b) = true) : b = false := by cases b <;> simp_all
theorem nb' {b : Bool} (e : (!b) = false) : b = true := by cases b <;> simp_all
end Go.Proofs.YtamoepfiodgbbaaGreatDoor
end

section
/- Rules of walks, printed by a program of ours: group Law. -/
namespace Go.Proofs.YtamoepfiodgbbaaGreatDoor
open Go.Abs
set_option maxRecDepth 100000
theorem r_brickyardref15_Texts {p1 : Option Addr} {m2 : Nat} {m3 : Nat} {p4 : Option Addr} {m5 : Nat} {m6 : Nat} {h : AW} {Q : Value → AW → Prop} (H : bC ((↑m2 : Int) != (↑m5 : Int)) (Q
  (Value.bool false) h) (unitAt P f_brickyardref15_Texts 4 [0, 1, 5] [Value.slice p1 m2 m3, Value.slice p4 m5 m6, Value.int IntKind.i64 0] h Q)) : EvQ P f_brickyardref15_Texts [Value.slice p1 m2 m3, Value.slice p4 m5
  m6] h Q := fn_ok (n := 400) (ann := annOf [(4, [0, 1, 5])]) (Eq.mp (by kernel_rfl) H)
theorem r_brickyardref15_Texts_4 {p1 : Option Addr} {m2 : Nat} {m3 : Nat} {p4 : Option Addr} {m5 : Nat} {m6 : Nat} {n7 : Int} {h : AW} {Q : Value → AW → Prop} (H : bC (decide (n7 < (↑m2 : Int)))
  (aP p1 fun m8 m9 => oB (natIdx n7 m2) fun m10 => oB (AW.rd h m8 (m9 + m10 * 1)) fun v11 => vStr v11 fun s12 => aP p4 fun m13 m14 => oB (natIdx n7 m5) fun m15 => oB (AW.rd h m13
  (m14 + m15 * 1)) fun v16 => vStr v16 fun s17 => bC (!bEq s12 s17) (Q (Value.bool false) h) (unitAt P f_brickyardref15_Texts 4 [0, 1, 5] [Value.slice p1 m2 m3, Value.slice p4 m5 m6, Value.int
  IntKind.i64 (IntKind.wrap IntKind.i64 (n7 + 1))] h Q)) (Q (Value.bool true) h)) : unitAt P f_brickyardref15_Texts 4 [0, 1, 5] [Value.slice p1 m2 m3, Value.slice p4 m5 m6, Value.int IntKind.i64 n7]
  h Q := unit_ok (n := 400) (ann := annOf [(4, [0, 1, 5])]) (Eq.mp (by kernel_rfl) H)
end Go.Proofs.YtamoepfiodgbbaaGreatDoor
end

section
/- Rules of walks, printed by a program of ours: group Elab. -/
namespace Go.Proofs.YtamoepfiodgbbaaGreatDoor
open Go.Abs
set_option maxRecDepth 100000
end Go.Proofs.YtamoepfiodgbbaaGreatDoor
end

section
/- Rules of walks, printed by a program of ours: group Path. -/
namespace Go.Proofs.YtamoepfiodgbbaaGreatDoor
open Go.Abs
set_option maxRecDepth 100000
theorem r_path_Is {s1 : ByteArray} {h : AW} {Q : Value → AW → Prop} (H : bC (decide ((↑(ByteArray.size s1) : Int) > 60)) (Q (Value.bool false) h) (unitAt P f_path_Is 3 [0] [Value.string
  s1] h Q)) : EvQ P f_path_Is [Value.string s1] h Q := fn_ok (n := 400) (ann := annOf [(3, [0])]) (Eq.mp (by kernel_rfl) H)
theorem r_path_Is_3 {s1 : ByteArray} {h : AW} {Q : Value → AW → Prop} (H : EvQ P f_strings_Cut [Value.string s1, Value.string (ByteArray.mk #[47])] h fun v2 h3 => vTup v2 fun l4 => lC l4 fun
  v5 l6 => vStr v5 fun s7 => lC l6 fun v8 l9 => vStr v8 fun s10 => lC l9 fun v11 l12 => vBool v11 fun b13 => lN l12 (EvQ P f_path_segment [Value.string s7] h3 fun v14 h15 => vBool v14 fun
  b16 => bC (!b16) (Q (Value.bool false) h15) (bC (!b13) (Q (Value.bool true) h15) (unitAt P f_path_Is 3 [0] [Value.string s10] h15 Q)))) : unitAt P f_path_Is 3 [0] [Value.string s1] h Q :=
  unit_ok (n := 400) (ann := annOf [(3, [0])]) (Eq.mp (by kernel_rfl) H)
theorem r_path_segment {s1 : ByteArray} {h : AW} {Q : Value → AW → Prop} (H : bC (bEq s1 (ByteArray.mk #[])) (Q (Value.bool false) h) (bC (decide ((↑(ByteArray.size s1) : Int) > 32)) (Q
  (Value.bool false) h) (bC (bEq s1 (ByteArray.mk #[46])) (Q (Value.bool false) h) (bC (bEq s1 (ByteArray.mk #[46, 46])) (Q (Value.bool false) h) (unitAt P f_path_segment 4 [0, 20, 21]
  [Value.string s1, Value.int IntKind.i64 (↑(ByteArray.size s1) : Int), Value.int IntKind.i64 0] h Q))))) : EvQ P f_path_segment [Value.string s1] h Q := fn_ok (n := 400) (ann := annOf [(4,
  [0, 20, 21])]) (Eq.mp (by kernel_rfl) H)
theorem r_path_segment_4 {s1 : ByteArray} {n2 : Int} {n3 : Int} {h : AW} {Q : Value → AW → Prop} (H : bC (decide (n3 < n2)) (oB (natIdx n3 (ByteArray.size s1)) fun m4 => oB (bAt s1 m4) fun
  n5 => EvQ P f_path_may [Value.int IntKind.u8 n5] h fun v6 h7 => vBool v6 fun b8 => bC (!b8) (Q (Value.bool false) h7) (unitAt P f_path_segment 4 [0, 20, 21] [Value.string s1, Value.int
  IntKind.i64 n2, Value.int IntKind.i64 (IntKind.wrap IntKind.i64 (n3 + 1))] h7 Q)) (Q (Value.bool true) h)) : unitAt P f_path_segment 4 [0, 20, 21] [Value.string s1, Value.int IntKind.i64
  n2, Value.int IntKind.i64 n3] h Q := unit_ok (n := 400) (ann := annOf [(4, [0, 20, 21])]) (Eq.mp (by kernel_rfl) H)
theorem r_path_may {n1 : Int} {h : AW} {Q : Value → AW → Prop} (H : bC (decide (n1 ≥ 97)) (bC (decide (n1 ≤ 122)) (Q (Value.bool true) h) (bC (decide (n1 ≥ 48)) (bC (decide (n1 ≤ 57))
  (Q (Value.bool true) h) (bC (n1 == 95) (Q (Value.bool true) h) (bC (n1 == 46) (Q (Value.bool true) h) (bC (n1 == 45) (Q (Value.bool true) h) (Q (Value.bool false) h))))) (bC (n1
  == 95) (Q (Value.bool true) h) (bC (n1 == 46) (Q (Value.bool true) h) (bC (n1 == 45) (Q (Value.bool true) h) (Q (Value.bool false) h)))))) (bC (decide (n1 ≥ 48)) (bC (decide (n1
  ≤ 57)) (Q (Value.bool true) h) (bC (n1 == 95) (Q (Value.bool true) h) (bC (n1 == 46) (Q (Value.bool true) h) (bC (n1 == 45) (Q (Value.bool true) h) (Q (Value.bool false) h)))))
  (bC (n1 == 95) (Q (Value.bool true) h) (bC (n1 == 46) (Q (Value.bool true) h) (bC (n1 == 45) (Q (Value.bool true) h) (Q (Value.bool false) h)))))) : EvQ P f_path_may [Value.int
  IntKind.u8 n1] h Q := fn_ok (n := 400) (ann := annOf []) (Eq.mp (by kernel_rfl) H)
theorem r_strings_Cut {s1 : ByteArray} {s2 : ByteArray} {h : AW} {Q : Value → AW → Prop} (H : EvQ P f_stringslite_Cut [Value.string s1, Value.string s2] h fun v3 h4 => vTup v3 fun l5 => lC l5 fun v6
  l7 => vStr v6 fun s8 => lC l7 fun v9 l10 => vStr v9 fun s11 => lC l10 fun v12 l13 => vBool v12 fun b14 => lN l13 (Q (Value.tuple (Array.mk [Value.string s8, Value.string s11,
  Value.bool b14])) h4)) : EvQ P f_strings_Cut [Value.string s1, Value.string s2] h Q := fn_ok (n := 400) (ann := annOf []) (Eq.mp (by kernel_rfl) H)
theorem r_stringslite_Cut {s1 : ByteArray} {s2 : ByteArray} {h : AW} {Q : Value → AW → Prop} (H : EvQ P f_stringslite_Index [Value.string s1, Value.string s2] h fun v3 h4 => vInt IntKind.i64 v3 fun n5 =>
  bC (decide (n5 ≥ 0)) (oB (natBnd n5 (ByteArray.size s1)) fun m6 => oB (natBnd (IntKind.wrap IntKind.i64 (n5 + (↑(ByteArray.size s2) : Int))) (ByteArray.size s1)) fun m7 => Q
  (Value.tuple (Array.mk [Value.string (bSub s1 0 m6), Value.string (bSub s1 m7 (ByteArray.size s1)), Value.bool true])) h4) (Q (Value.tuple (Array.mk [Value.string s1,
  Value.string (ByteArray.mk #[]), Value.bool false])) h4)) : EvQ P f_stringslite_Cut [Value.string s1, Value.string s2] h Q := fn_ok (n := 400) (ann := annOf []) (Eq.mp (by kernel_rfl) H)
theorem r_stringslite_Index {s1 : ByteArray} {s2 : ByteArray} {h : AW} {Q : Value → AW → Prop} (H : bC ((↑(ByteArray.size s2) : Int) == 0) (Q (Value.int IntKind.i64 0) h) (bC (bEq s2 s1) (Q
  (Value.int IntKind.i64 0) h) (bC ((↑(ByteArray.size s2) : Int) == 1) (oB (natIdx 0 (ByteArray.size s2)) fun m3 => oB (bAt s2 m3) fun n4 => EvQ P f_stringslite_IndexByte [Value.string s1, Value.int
  IntKind.u8 n4] h fun v5 h6 => vInt IntKind.i64 v5 fun n7 => Q (Value.int IntKind.i64 n7) h6) (bC (decide ((↑(ByteArray.size s2) : Int) ≥ (↑(ByteArray.size s1) : Int))) (Q
  (Value.int IntKind.i64 (Int.negSucc 0)) h) (oB (AW.rd h 0 0) fun v8 => vInt IntKind.i64 v8 fun n9 => bC (decide ((↑(ByteArray.size s2) : Int) ≤ n9)) (bC (decide
  ((↑(ByteArray.size s1) : Int) ≤ 64)) (EvQ P f_bytealg_IndexString [Value.string s1, Value.string s2] h fun v10 h11 => vInt IntKind.i64 v10 fun n12 => Q (Value.int IntKind.i64 n12) h11) (oB
  (natIdx 0 (ByteArray.size s2)) fun m13 => oB (bAt s2 m13) fun n14 => oB (natIdx 1 (ByteArray.size s2)) fun m15 => oB (bAt s2 m15) fun n16 => unitAt P f_stringslite_Index 15 [0, 1, 5, 6, 7, 8,
  9, 10] [Value.string s1, Value.string s2, Value.int IntKind.i64 (↑(ByteArray.size s2) : Int), Value.int IntKind.u8 n14, Value.int IntKind.u8 n16, Value.int IntKind.i64 0,
  Value.int IntKind.i64 (IntKind.wrap IntKind.i64 (IntKind.wrap IntKind.i64 ((↑(ByteArray.size s1) : Int) - (↑(ByteArray.size s2) : Int)) + 1)), Value.int IntKind.i64 0] h Q)) (oB
  (natIdx 0 (ByteArray.size s2)) fun m17 => oB (bAt s2 m17) fun n18 => oB (natIdx 1 (ByteArray.size s2)) fun m19 => oB (bAt s2 m19) fun n20 => unitAt P f_stringslite_Index 15 [0, 1, 5, 6, 7, 8,
  9, 10] [Value.string s1, Value.string s2, Value.int IntKind.i64 (↑(ByteArray.size s2) : Int), Value.int IntKind.u8 n18, Value.int IntKind.u8 n20, Value.int IntKind.i64 0,
  Value.int IntKind.i64 (IntKind.wrap IntKind.i64 (IntKind.wrap IntKind.i64 ((↑(ByteArray.size s1) : Int) - (↑(ByteArray.size s2) : Int)) + 1)), Value.int IntKind.i64 0] h Q))))))
  : EvQ P f_stringslite_Index [Value.string s1, Value.string s2] h Q := fn_ok (n := 400) (ann := annOf [(15, [0, 1, 5, 6, 7, 8, 9, 10]), (21, [0, 1, 5, 6, 7, 8, 9, 10])]) (Eq.mp (by kernel_rfl)
  H)
end Go.Proofs.YtamoepfiodgbbaaGreatDoor
end

section
/- The law's own rules, under one name. -/
end

section
/- What is played: how great lists and lines are. -/
namespace Go.Proofs.YtamoepfiodgbbaaGreatDoor
open Go.Abs Go.Abs.Fo
set_option maxRecDepth 100000
attribute [local irreducible] unitAt EvQ
variable {h : AW} {μ : Paint} {ρ : Store} {Q : Value → AW → Prop}

end Go.Proofs.YtamoepfiodgbbaaGreatDoor
end

section
/- Two lists of statements: the same? -/
namespace Go.Proofs.YtamoepfiodgbbaaGreatDoor
open Go.Abs Go.Abs.Fo
set_option maxRecDepth 100000
attribute [local irreducible] unitAt EvQ
variable {h : AW} {μ : Paint} {ρ : Store} {Q : Value → AW → Prop}

theorem rsame_words (O : Own h μ ρ) {ρ0 : Store} {c1 c2 p1 p2 : Nat} {l1 l2 : List Value} {aa aa' : Option Addr} {ac ac' : Nat} {args args' : List Str} (W : Pcs ρ0 ρ [c2, c1] [.var p2 l2, .var p1 l1]) (g1 : l1[1]? = some (.slice aa args.length ac)) (g2 : l2[1]? = some (.slice aa' args'.length ac'))
    (va : Vw ρ [] aa (strs args)) (va' : Vw ρ [] aa' (strs args')) (hlen : args.length = args'.length) (hl : args.length ≤ 140737488355328) {a b : Option Addr} {na ca mb cb i : Nat} (hi : i ≤ 140737488355328)
    (hf : decide (args = args') = false → Q (.bool false) h) (ht : args = args' → unitAt P f_brickyardref13_Same 4 [0, 1, 5] [.slice a na ca, .slice b mb cb, .int .i64 ((i + 1 : Nat) : Int)] h Q) :
    ∀ (d k : Nat), args.length - k = d → k ≤ args.length → args.take k = args'.take k →
      unitAt P f_brickyardref13_Same 10 [0, 1, 5, 6, 7, 8] [.slice a na ca, .slice b mb cb, .int .i64 (i : Int), .pointer (some ⟨p1, 0, none⟩), .pointer (some ⟨p2, 0, none⟩), .int .i64 (k : Int)] h Q := by
  intro d
  induction d with
  | zero =>
    intro k hd hk he
    refine r_brickyardref13_Same_10 ?_
    refine w_rd O W 1 rfl g1 ?_
    simp only [oB_some, bC_true, bC_false, vInt_int, vBool_bool, vStr_string, vPtr_pointer, vSl_slice, vMap_map, vFun_func, vAgg_agg, vTup_tuple, vIfc_nil, vIfc_iface, lC_cons, lN_nil, aP_some, shO_none, shO_some, Option.isNone_none, Option.isNone_some, Bool.not_true, Bool.not_false]
    rw [geI (by omega)]
    simp only [oB_some, bC_true, bC_false, vInt_int, vBool_bool, vStr_string, vPtr_pointer, vSl_slice, vMap_map, vFun_func, vAgg_agg, vTup_tuple, vIfc_nil, vIfc_iface, lC_cons, lN_nil, aP_some, shO_none, shO_some, Option.isNone_none, Option.isNone_some, Bool.not_true, Bool.not_false]
    rw [wrapS (by omega)]
    have : k = args.length := by omega
    subst this
    rw [List.take_length, hlen, List.take_length] at he
    exact ht he
  | succ d ih =>
    intro k hd hk he
    have hlt : k < args.length := by omega
    refine r_brickyardref13_Same_10 ?_
    refine w_rd O W 1 rfl g1 ?_
    simp only [oB_some, bC_true, bC_false, vInt_int, vBool_bool, vStr_string, vPtr_pointer, vSl_slice, vMap_map, vFun_func, vAgg_agg, vTup_tuple, vIfc_nil, vIfc_iface, lC_cons, lN_nil, aP_some, shO_none, shO_some, Option.isNone_none, Option.isNone_some, Bool.not_true, Bool.not_false]
    rw [ltI hlt]
    simp only [oB_some, bC_true, bC_false, vInt_int, vBool_bool, vStr_string, vPtr_pointer, vSl_slice, vMap_map, vFun_func, vAgg_agg, vTup_tuple, vIfc_nil, vIfc_iface, lC_cons, lN_nil, aP_some, shO_none, shO_some, Option.isNone_none, Option.isNone_some, Bool.not_true, Bool.not_false]
    refine w_rd O W 1 rfl g1 ?_
    simp only [oB_some, bC_true, bC_false, vInt_int, vBool_bool, vStr_string, vPtr_pointer, vSl_slice, vMap_map, vFun_func, vAgg_agg, vTup_tuple, vIfc_nil, vIfc_iface, lC_cons, lN_nil, aP_some, shO_none, shO_some, Option.isNone_none, Option.isNone_some, Bool.not_true, Bool.not_false]
    refine wd_at O va rfl rfl hlt ?_
    refine w_rd O W 0 rfl g2 ?_
    simp only [oB_some, bC_true, bC_false, vInt_int, vBool_bool, vStr_string, vPtr_pointer, vSl_slice, vMap_map, vFun_func, vAgg_agg, vTup_tuple, vIfc_nil, vIfc_iface, lC_cons, lN_nil, aP_some, shO_none, shO_some, Option.isNone_none, Option.isNone_some, Bool.not_true, Bool.not_false]
    refine wd_at O va' rfl rfl (by omega) ?_
    refine bC_iff (fun e => ?_) (fun e => ?_)
    · have e' : args[k] ≠ args'[k] := bEq_false.1 (nb e)
      refine hf (decide_eq_false fun e2 => ?_)
      subst e2; exact e' rfl
    · have e' : args[k] = args'[k] := bEq_iff.1 (nb' e)
      rw [wrapS (by omega)]
      exact ih (k + 1) (by omega) (by omega) (by rw [List.take_succ_eq_append_getElem hlt, List.take_succ_eq_append_getElem (by omega), he, e'])
theorem rsame_of (O : Own h μ ρ) {f g : F} {a b : Option Addr} {ca cb : Nat} (X : Ly ρ f a) (Y : Ly ρ g b)
    (loop : ∀ {c c' : List Value}, Vw ρ [] a c → Lies (Vw ρ []) f c → Vw ρ [] b c' → Lies (Vw ρ []) g c' → f.len = g.len → RdQ Q ρ (.bool (F.eqB f g)) → unitAt P f_brickyardref13_Same 4 [0, 1, 5] [.slice a f.len ca, .slice b g.len cb, .int .i64 0] h Q)
    (hq : RdQ Q ρ (.bool (F.eqB f g))) : EvQ P f_brickyardref13_Same [.slice a f.len ca, .slice b g.len cb] h Q := by
  refine r_brickyardref13_Same ?_
  refine bC_iff (fun e => ?_) (fun e => ?_)
  · have e : f.len ≠ g.len := by simp at e; omega
    rw [F.eqB_len e] at hq
    exact hq.now O
  · have e : f.len = g.len := by simp at e; omega
    obtain ⟨d, v1, l1⟩ := X
    obtain ⟨d', v1', l1'⟩ := Y
    exact loop v1 l1 v1' l1' e hq
theorem rsame_loop : ∀ (rest : F) {h : AW} {μ : Paint} {ρ : Store} {Q : Value → AW → Prop}, Own h μ ρ → ∀ {pre pre' rest' : F} {a a' : Option Addr} {c c' : List Value} {cap cap' : Nat}, Vw ρ [] a c → Lies (Vw ρ []) (pre.app rest) c → Vw ρ [] a' c' → Lies (Vw ρ []) (pre'.app rest') c' →
    pre.len = pre'.len → rest.len = rest'.len → (pre.app rest).len ≤ 140737488355328 → Fits rest → RdQ Q ρ (.bool (F.eqB rest rest')) →
    unitAt P f_brickyardref13_Same 4 [0, 1, 5] [.slice a (pre.app rest).len cap, .slice a' (pre'.app rest').len cap', .int .i64 (pre.len : Int)] h Q
  | .nil, h, μ, ρ, Q, O, pre, pre', .nil, a, a', c, c', cap, cap', X, L, X', L', hp, hr, hl, hf, hq => by
    refine r_brickyardref13_Same_4 ?_
    rw [F.app_nil, geI (Nat.le_refl _)]
    simp only [oB_some, bC_true, bC_false, vInt_int, vBool_bool, vStr_string, vPtr_pointer, vSl_slice, vMap_map, vFun_func, vAgg_agg, vTup_tuple, vIfc_nil, vIfc_iface, lC_cons, lN_nil, aP_some, shO_none, shO_some, Option.isNone_none, Option.isNone_some, Bool.not_true, Bool.not_false]
    exact hq.now O
  | .nil, h, μ, ρ, Q, O, pre, pre', .cons _ _ _ _ _, a, a', c, c', cap, cap', X, L, X', L', hp, hr, hl, hf, hq => by
    simp [F.len] at hr
  | .cons _ _ _ _ _, h, μ, ρ, Q, O, pre, pre', .nil, a, a', c, c', cap, cap', X, L, X', L', hp, hr, hl, hf, hq => by
    simp [F.len] at hr
  | .cons op args kk body rest, h, μ, ρb, Q, Ob, pre, pre', .cons op' args' kk' body' rest', a, a', c, c', cap, cap', X, L, X', L', hp, hr, hl, hf, hq => by
    obtain ⟨f1, f2, f3, f4, f5⟩ := hf
    simp only [F.len, Nat.add_right_cancel_iff] at hr
    have hlt : pre.len < (pre.app (.cons op args kk body rest)).len := app_lt
    refine r_brickyardref13_Same_4 ?_
    rw [ltI hlt]
    simp only [oB_some, bC_true, bC_false, vInt_int, vBool_bool, vStr_string, vPtr_pointer, vSl_slice, vMap_map, vFun_func, vAgg_agg, vTup_tuple, vIfc_nil, vIfc_iface, lC_cons, lN_nil, aP_some, shO_none, shO_some, Option.isNone_none, Option.isNone_some, Bool.not_true, Bool.not_false]
    obtain ⟨μ1, ρ1, c1, O1, W1, hc1⟩ := w_new Ob p00 [.int .i64 0, .slice none 0 0, .int .i64 0, .slice none 0 0]
    obtain ⟨μ2, ρ2, c2, O2, W2, hc2⟩ := w_new O1 W1 [.int .i64 0, .slice none 0 0, .int .i64 0, .slice none 0 0]
    have hcs : ∀ c, c ∈ [c2, c1] → ρb c = none := fun c hc => by
      simp at hc; rcases hc with rfl | rfl <;> assumption
    have F1 : Fra [] ρb ρ1 := W1.fra0 fun c hc => by
      simp at hc; rw [hc]; exact hc1
    have F2 : Fra [] ρb ρ2 := W2.fra0 hcs
    refine st_open Ob X L rfl rfl fun i off aa ac ba bc va la SA => ?_
    have S0 := SA Ob Fra.refl
    have S1 := SA O1 F1
    have S2 := SA O2 F2
    repeat (first | refine ⟨rfl, ?_⟩ | refine ⟨trivial, ?_⟩ | simp only [oB_some, bC_true, bC_false, vInt_int, vBool_bool, vStr_string, vPtr_pointer, vSl_slice, vMap_map, vFun_func, vAgg_agg, vTup_tuple, vIfc_nil, vIfc_iface, lC_cons, lN_nil, aP_some, shO_none, shO_some, Option.isNone_none, Option.isNone_some, Bool.not_true, Bool.not_false] | refine w_rd (by assumption) (by assumption) 0 (by rfl) (by rfl) ?_ | refine w_rd (by assumption) (by assumption) 1 (by rfl) (by rfl) ?_ | refine w_wrL (by assumption) (by assumption) 0 (by rfl) (Nat.le_of_ble_eq_true (by rfl)) (by rfl) fun h ρz O W => ?_ | refine w_wrL (by assumption) (by assumption) 1 (by rfl) (Nat.le_of_ble_eq_true (by rfl)) (by rfl) fun h ρz O W => ?_ | refine w_wr (by assumption) (by assumption) 0 (by rfl) (Nat.le_of_ble_eq_true (by rfl)) (by rfl) fun h ρz O W => ?_ | refine w_wr (by assumption) (by assumption) 1 (by rfl) (Nat.le_of_ble_eq_true (by rfl)) (by rfl) fun h ρz O W => ?_ | refine oB_bind (StAt.r0 (by assumption)) ?_ | refine oB_bind (StAt.r1 (by assumption)) ?_ | refine oB_bind (StAt.r2 (by assumption)) ?_ | refine oB_bind (StAt.r3 (by assumption)) ?_)
    refine st_open Ob X' L' (by rw [hp]) rfl fun i2 off2 aa' ac' ba' bc' va' la' SB => ?_
    have T0 := SB Ob Fra.refl
    have T1 := SB O1 F1
    have T2 := SB O2 F2
    repeat (first | refine ⟨rfl, ?_⟩ | refine ⟨trivial, ?_⟩ | simp only [oB_some, bC_true, bC_false, vInt_int, vBool_bool, vStr_string, vPtr_pointer, vSl_slice, vMap_map, vFun_func, vAgg_agg, vTup_tuple, vIfc_nil, vIfc_iface, lC_cons, lN_nil, aP_some, shO_none, shO_some, Option.isNone_none, Option.isNone_some, Bool.not_true, Bool.not_false] | refine w_rd (by assumption) (by assumption) 0 (by rfl) (by rfl) ?_ | refine w_rd (by assumption) (by assumption) 1 (by rfl) (by rfl) ?_ | refine w_wrL (by assumption) (by assumption) 0 (by rfl) (Nat.le_of_ble_eq_true (by rfl)) (by rfl) fun h ρz O W => ?_ | refine w_wrL (by assumption) (by assumption) 1 (by rfl) (Nat.le_of_ble_eq_true (by rfl)) (by rfl) fun h ρz O W => ?_ | refine w_wr (by assumption) (by assumption) 0 (by rfl) (Nat.le_of_ble_eq_true (by rfl)) (by rfl) fun h ρz O W => ?_ | refine w_wr (by assumption) (by assumption) 1 (by rfl) (Nat.le_of_ble_eq_true (by rfl)) (by rfl) fun h ρz O W => ?_ | refine oB_bind (StAt.r0 (by assumption)) ?_ | refine oB_bind (StAt.r1 (by assumption)) ?_ | refine oB_bind (StAt.r2 (by assumption)) ?_ | refine oB_bind (StAt.r3 (by assumption)) ?_ | refine oB_bind (StAt.r0 (SB (by assumption) (Pcs.fra0 (by assumption) hcs))) ?_ | refine oB_bind (StAt.r1 (SB (by assumption) (Pcs.fra0 (by assumption) hcs))) ?_ | refine oB_bind (StAt.r2 (SB (by assumption) (Pcs.fra0 (by assumption) hcs))) ?_ | refine oB_bind (StAt.r3 (SB (by assumption) (Pcs.fra0 (by assumption) hcs))) ?_)
    have F3 := W.fra0 hcs
    have no : ∀ {h' : AW} {μ' : Paint} {ρ' : Store}, Own h' μ' ρ' → Fra [] ρb ρ' → F.eqB (.cons op args kk body rest) (.cons op' args' kk' body' rest') = false → Q (.bool false) h' := fun O' F' e => by
      have := hq _ _ _ O' F'
      rw [e] at this; exact this
    refine bC_iff (fun e => ?_) (fun e => ?_)
    · have e : op ≠ op' := by simpa using e
      exact no O F3 (by simp [F.eqB, e])
    have e : op = op' := by simpa using e
    subst e
    repeat (first | refine ⟨rfl, ?_⟩ | refine ⟨trivial, ?_⟩ | simp only [oB_some, bC_true, bC_false, vInt_int, vBool_bool, vStr_string, vPtr_pointer, vSl_slice, vMap_map, vFun_func, vAgg_agg, vTup_tuple, vIfc_nil, vIfc_iface, lC_cons, lN_nil, aP_some, shO_none, shO_some, Option.isNone_none, Option.isNone_some, Bool.not_true, Bool.not_false] | refine w_rd (by assumption) (by assumption) 0 (by rfl) (by rfl) ?_ | refine w_rd (by assumption) (by assumption) 1 (by rfl) (by rfl) ?_ | refine w_wrL (by assumption) (by assumption) 0 (by rfl) (Nat.le_of_ble_eq_true (by rfl)) (by rfl) fun h ρz O W => ?_ | refine w_wrL (by assumption) (by assumption) 1 (by rfl) (Nat.le_of_ble_eq_true (by rfl)) (by rfl) fun h ρz O W => ?_ | refine w_wr (by assumption) (by assumption) 0 (by rfl) (Nat.le_of_ble_eq_true (by rfl)) (by rfl) fun h ρz O W => ?_ | refine w_wr (by assumption) (by assumption) 1 (by rfl) (Nat.le_of_ble_eq_true (by rfl)) (by rfl) fun h ρz O W => ?_)
    refine bC_iff (fun e => ?_) (fun e => ?_)
    · have e : kk ≠ kk' := by simpa using e
      exact no O F3 (by simp [F.eqB, e])
    have e : kk = kk' := by simpa using e
    subst e
    repeat (first | refine ⟨rfl, ?_⟩ | refine ⟨trivial, ?_⟩ | simp only [oB_some, bC_true, bC_false, vInt_int, vBool_bool, vStr_string, vPtr_pointer, vSl_slice, vMap_map, vFun_func, vAgg_agg, vTup_tuple, vIfc_nil, vIfc_iface, lC_cons, lN_nil, aP_some, shO_none, shO_some, Option.isNone_none, Option.isNone_some, Bool.not_true, Bool.not_false] | refine w_rd (by assumption) (by assumption) 0 (by rfl) (by rfl) ?_ | refine w_rd (by assumption) (by assumption) 1 (by rfl) (by rfl) ?_ | refine w_wrL (by assumption) (by assumption) 0 (by rfl) (Nat.le_of_ble_eq_true (by rfl)) (by rfl) fun h ρz O W => ?_ | refine w_wrL (by assumption) (by assumption) 1 (by rfl) (Nat.le_of_ble_eq_true (by rfl)) (by rfl) fun h ρz O W => ?_ | refine w_wr (by assumption) (by assumption) 0 (by rfl) (Nat.le_of_ble_eq_true (by rfl)) (by rfl) fun h ρz O W => ?_ | refine w_wr (by assumption) (by assumption) 1 (by rfl) (Nat.le_of_ble_eq_true (by rfl)) (by rfl) fun h ρz O W => ?_)
    refine bC_iff (fun e => ?_) (fun e => ?_)
    · have e : args.length ≠ args'.length := by simp at e; omega
      have e2 : args ≠ args' := fun x => e (by rw [x])
      exact no O F3 (by simp [F.eqB, e2])
    have hlen : args.length = args'.length := by simp at e; omega
    repeat (first | refine ⟨rfl, ?_⟩ | refine ⟨trivial, ?_⟩ | simp only [oB_some, bC_true, bC_false, vInt_int, vBool_bool, vStr_string, vPtr_pointer, vSl_slice, vMap_map, vFun_func, vAgg_agg, vTup_tuple, vIfc_nil, vIfc_iface, lC_cons, lN_nil, aP_some, shO_none, shO_some, Option.isNone_none, Option.isNone_some, Bool.not_true, Bool.not_false] | refine w_rd (by assumption) (by assumption) 0 (by rfl) (by rfl) ?_ | refine w_rd (by assumption) (by assumption) 1 (by rfl) (by rfl) ?_ | refine w_wrL (by assumption) (by assumption) 0 (by rfl) (Nat.le_of_ble_eq_true (by rfl)) (by rfl) fun h ρz O W => ?_ | refine w_wrL (by assumption) (by assumption) 1 (by rfl) (Nat.le_of_ble_eq_true (by rfl)) (by rfl) fun h ρz O W => ?_ | refine w_wr (by assumption) (by assumption) 0 (by rfl) (Nat.le_of_ble_eq_true (by rfl)) (by rfl) fun h ρz O W => ?_ | refine w_wr (by assumption) (by assumption) 1 (by rfl) (Nat.le_of_ble_eq_true (by rfl)) (by rfl) fun h ρz O W => ?_)
    refine rsame_of O (la.keep F3) (la'.keep F3) (fun v1 l1 v2 l2 e q => rsame_loop body (pre := .nil) (pre' := .nil) O v1 l1 v2 l2 rfl e f3 f4 q) fun h4 μ4 ρ4 O4 F4 => ?_
    simp only [oB_some, bC_true, bC_false, vInt_int, vBool_bool, vStr_string, vPtr_pointer, vSl_slice, vMap_map, vFun_func, vAgg_agg, vTup_tuple, vIfc_nil, vIfc_iface, lC_cons, lN_nil, aP_some, shO_none, shO_some, Option.isNone_none, Option.isNone_some, Bool.not_true, Bool.not_false]
    refine bC_iff (fun e => ?_) (fun e => ?_)
    · have e : F.eqB body body' = false := nb e
      exact no O4 (F3.trans F4) (by simp [F.eqB, e])
    have e : F.eqB body body' = true := nb' e
    have F34 := F3.trans F4
    refine rsame_words O4 (W.keep0 F4) rfl rfl (va.keep F34) (va'.keep F34) hlen f1 (by omega) (fun e2 => no O4 F34 (by simp [F.eqB, e, of_decide_eq_false e2])) (fun e2 => ?_) _ 0 rfl (by omega) rfl
    have e3 : ∀ g : F, (pre.snoc op args kk body).app g = pre.app (.cons op args kk body g) := fun g => F.snoc_app pre op args kk body g
    have e4 : (pre.snoc op args kk body).len = pre.len + 1 := F.snoc_len pre op args kk body
    have e5 : ∀ g : F, (pre'.snoc op args' kk body').app g = pre'.app (.cons op args' kk body' g) := fun g => F.snoc_app pre' op args' kk body' g
    have e6 : (pre'.snoc op args' kk body').len = pre'.len + 1 := F.snoc_len pre' op args' kk body'
    have := rsame_loop rest (Q := Q) O4 (pre := pre.snoc op args kk body) (pre' := pre'.snoc op args' kk body') (rest' := rest') (cap := cap) (cap' := cap') (X.keep F34) (by rw [e3]; exact L.mono fun _ _ x => x.keep F34) (X'.keep F34) (by rw [e5]; exact L'.mono fun _ _ x => x.keep F34)
      (by rw [e4, e6, hp]) hr (by rw [e3]; exact hl) f5 (by
        have := hq.keep F34
        simp only [F.eqB, e, e2, decide_true, Bool.true_and] at this
        exact this)
    rw [e3, e4, e5] at this
    exact this
theorem rsame_ok (O : Own h μ ρ) {f g : F} {a b : Option Addr} {ca cb : Nat} (X : Ly ρ f a) (Y : Ly ρ g b) (hf : Fits f) (hl : f.len ≤ 140737488355328) (hq : RdQ Q ρ (.bool (F.eqB f g))) : EvQ P f_brickyardref13_Same [.slice a f.len ca, .slice b g.len cb] h Q :=
  rsame_of O X Y (fun v1 l1 v2 l2 e q => rsame_loop f (pre := .nil) (pre' := .nil) O v1 l1 v2 l2 rfl e hl hf q) hq
end Go.Proofs.YtamoepfiodgbbaaGreatDoor
end

section
/- Rules of walks, printed by a program of ours: group ALex. -/
namespace Go.Proofs.YtamoepfiodgbbaaGreatDoor
open Go.Abs
set_option maxRecDepth 100000
theorem r_stringslite_IndexByte {s1 : ByteArray} {n2 : Int} {h : AW} {Q : Value → AW → Prop} (H : EvQ P f_bytealg_IndexByteString [Value.string s1, Value.int IntKind.u8 n2] h fun v3 h4 => vInt IntKind.i64 v3 fun n5
  => Q (Value.int IntKind.i64 n5) h4) : EvQ P f_stringslite_IndexByte [Value.string s1, Value.int IntKind.u8 n2] h Q := fn_ok (n := 400) (ann := annOf []) (Eq.mp (by kernel_rfl) H)
end Go.Proofs.YtamoepfiodgbbaaGreatDoor
end

section
/- Jobs: how great one is; paths; rows of texts. -/
namespace Go.Proofs.YtamoepfiodgbbaaGreatDoor
open Go.Abs Go.Abs.Fo
set_option maxRecDepth 100000
attribute [local irreducible] unitAt EvQ
variable {h : AW} {μ : Paint} {ρ0 ρ : Store} {Q : Value → AW → Prop} {ns : List Nat} {rs : List Res}
/-- A byte's first place. -/
theorem idxB_spec (c : UInt8) : ∀ l : List UInt8, (idxB l c = -1 ∧ c ∉ l) ∨ ∃ x y, l = x ++ c :: y ∧ c ∉ x ∧ idxB l c = (x.length : Int)
  | [] => .inl ⟨rfl, by simp⟩
  | b :: l => by
    by_cases e : b = c
    · subst e
      exact .inr ⟨[], l, rfl, by simp, by simp [idxB]⟩
    · have e1 : (b == c) = false := beq_eq_false_iff_ne.2 e
      rcases idxB_spec c l with ⟨h1, h2⟩ | ⟨x, y, h1, h2, h3⟩
      · refine .inl ⟨?_, fun hm => ?_⟩
        · rw [idxB, e1, h1]; rfl
        · rcases List.mem_cons.1 hm with a | a
          · exact e a.symm
          · exact h2 a
      · refine .inr ⟨b :: x, y, by rw [h1]; rfl, fun hm => ?_, ?_⟩
        · rcases List.mem_cons.1 hm with a | a
          · exact e a.symm
          · exact h2 a
        · rw [idxB, e1, h3]
          have : ((x.length : Int) == -1) = false := by rw [beq_eq_false_iff_ne]; omega
          rw [this]
          simp
theorem idx_fn : idxFn P f_bytealg_IndexByteString = true := by kernel_rfl
theorem idx_body : bodyOf P f_bytealg_IndexByteString = none := by kernel_rfl
theorem byteIdx_ok {s : Str} {c : Int} (hq : Q (.int .i64 (idxB s.data.toList c.toNat.toUInt8)) h) : EvQ P f_stringslite_IndexByte [.string s, .int .u8 c] h Q := by
  refine r_stringslite_IndexByte ?_
  unfold EvQ
  refine ⟨.int .i64 (idxB s.data.toList c.toNat.toUInt8), h, ⟨1, ?_⟩, hq⟩
  unfold callF
  rw [idx_body]
  simp only
  unfold noBodyV
  simp only
  unfold sameV
  simp only
  rw [idx_fn]
/-- One byte looked for. -/
theorem index1_ok {s : Str} (c : UInt8) (hq : Q (.int .i64 (idxB s.data.toList c)) h) : EvQ P f_stringslite_Index [.string s, .string ⟨#[c]⟩] h Q := by
  refine r_stringslite_Index ?_
  rw [show (((⟨#[c]⟩ : ByteArray).size : Int) == 0) = false from rfl]
  simp only [oB_some, bC_true, bC_false, vInt_int, vBool_bool, vStr_string, vPtr_pointer, vSl_slice, vMap_map, vFun_func, vAgg_agg, vTup_tuple, vIfc_nil, vIfc_iface, lC_cons, lN_nil, aP_some, shO_none, shO_some, Option.isNone_none, Option.isNone_some, Bool.not_true, Bool.not_false]
  refine bC_iff (fun e => ?_) (fun e => ?_)
  · have e := bEq_iff.1 e
    subst e
    rw [show idxB (⟨#[c]⟩ : ByteArray).data.toList c = 0 from by simp [idxB]] at hq
    exact hq
  · rw [show (((⟨#[c]⟩ : ByteArray).size : Int) == 1) = true from rfl]
    simp only [oB_some, bC_true, bC_false, vInt_int, vBool_bool, vStr_string, vPtr_pointer, vSl_slice, vMap_map, vFun_func, vAgg_agg, vTup_tuple, vIfc_nil, vIfc_iface, lC_cons, lN_nil, aP_some, shO_none, shO_some, Option.isNone_none, Option.isNone_some, Bool.not_true, Bool.not_false]
    refine oB_bind (v := 0) rfl ?_
    refine oB_bind (v := (c.toNat : Int)) rfl ?_
    refine byteIdx_ok ?_
    simp only [oB_some, bC_true, bC_false, vInt_int, vBool_bool, vStr_string, vPtr_pointer, vSl_slice, vMap_map, vFun_func, vAgg_agg, vTup_tuple, vIfc_nil, vIfc_iface, lC_cons, lN_nil, aP_some, shO_none, shO_some, Option.isNone_none, Option.isNone_some, Bool.not_true, Bool.not_false]
    have : ((c.toNat : Int)).toNat.toUInt8 = c := by
      rw [Int.toNat_natCast]
      apply UInt8.toNat_inj.1
      have := c.toNat_lt
      simp [Nat.toUInt8]
    rw [this]
    exact hq
theorem bAt_of1 {s : Str} {k : Nat} (hk : k < s.size) : bAt s k = some ((s.data.toList[k]'hk).toNat : Int) := by
  unfold bAt
  rw [Array.getElem?_eq_getElem (by exact hk)]
  simp
theorem texts_loop {a b : Option Addr} {x y : List Str} {c d : Nat} (O : Own h μ ρ) (X : Vw ρ [] a (strs x)) (Y : Vw ρ [] b (strs y)) (hl : x.length = y.length) (hx : x.length ≤ 1000000000) (hq : Q (.bool (decide (x = y))) h) :
    ∀ (m k : Nat), x.length - k = m → k ≤ x.length → x.take k = y.take k → unitAt P f_brickyardref15_Texts 4 [0, 1, 5] [.slice a x.length c, .slice b y.length d, .int .i64 (k : Int)] h Q := by
  intro m
  induction m with
  | zero =>
    intro k hd hk hp
    have : k = x.length := by omega
    subst this
    refine r_brickyardref15_Texts_4 ?_
    rw [geI (by omega)]
    simp only [oB_some, bC_true, bC_false, vInt_int, vBool_bool, vStr_string, vPtr_pointer, vSl_slice, vMap_map, vFun_func, vAgg_agg, vTup_tuple, vIfc_nil, vIfc_iface, lC_cons, lN_nil, aP_some, shO_none, shO_some, Option.isNone_none, Option.isNone_some, Bool.not_true, Bool.not_false]
    rw [List.take_length, hl, List.take_length] at hp
    rw [decide_eq_true hp] at hq
    exact hq
  | succ m ih =>
    intro k hd hk hp
    have hlt : k < x.length := by omega
    refine r_brickyardref15_Texts_4 ?_
    rw [ltI hlt]
    simp only [oB_some, bC_true, bC_false, vInt_int, vBool_bool, vStr_string, vPtr_pointer, vSl_slice, vMap_map, vFun_func, vAgg_agg, vTup_tuple, vIfc_nil, vIfc_iface, lC_cons, lN_nil, aP_some, shO_none, shO_some, Option.isNone_none, Option.isNone_some, Bool.not_true, Bool.not_false]
    refine wd_at O X rfl rfl hlt ?_
    refine wd_at O Y rfl rfl (show k < y.length from hl ▸ hlt) ?_
    refine bC_iff (fun e => ?_) (fun e => ?_)
    · rw [decide_eq_false] at hq
      · exact hq
      · intro e2
        subst e2
        rw [show bEq x[k] x[k] = true from bEq_self] at e
        cases e
    · have e : bEq x[k] (y[k]'(hl ▸ hlt)) = true := by simpa using e
      rw [wrapS (by omega)]
      refine ih (k + 1) (by omega) (by omega) ?_
      rw [List.take_succ_eq_append_getElem hlt, List.take_succ_eq_append_getElem (hl ▸ hlt), hp, bEq_iff.1 e]
theorem texts_ok {a b : Option Addr} {x y : List Str} {c d : Nat} (O : Own h μ ρ) (X : Vw ρ [] a (strs x)) (Y : Vw ρ [] b (strs y)) (hx : x.length ≤ 1000000000) (hq : Q (.bool (decide (x = y))) h) : EvQ P f_brickyardref15_Texts [.slice a x.length c, .slice b y.length d] h Q := by
  refine r_brickyardref15_Texts ?_
  refine bC_iff (fun e => ?_) (fun e => ?_)
  · rw [decide_eq_false] at hq
    · exact hq
    · rintro rfl; simp at e
  · have hl : x.length = y.length := by simp at e; omega
    exact texts_loop O X Y hl hx hq _ 0 rfl (Nat.zero_le _) (by rw [List.take_zero, List.take_zero])
/-- A job as it lies. -/
structure JobAt (ρ : Store) (y x : List Str) (f : F) (b a c : Option Addr) : Prop where
  ts : Vw ρ [] b (strs y)
  ds : Vw ρ [] a (strs x)
  code : Ly ρ f c
theorem JobAt.keep {y x : List Str} {f : F} {a b c : Option Addr} (J : JobAt ρ y x f b a c) {ρ' : Store} (F : Fra [] ρ ρ') : JobAt ρ' y x f b a c := ⟨J.ts.keep F, J.ds.keep F, J.code.keep F⟩
end Go.Proofs.YtamoepfiodgbbaaGreatDoor
end

section
/- Names of functions and types, more of them. -/
namespace Go.Proofs.YtamoepfiodgbbaaGreatDoor
open Go.Abs
def f_brickyardlaw15_ElabNone : Nat := 6
def f_elab_New : Nat := 10
def f_p_elab_Plan_Files : Nat := 17
def f_p_elab_Plan_Find : Nat := 20
def f_brickyardlaw15_ElabNone_fn1 : Nat := 21
def f_brickyardlaw15_jobs : Nat := 23
def f_brickyardref15_Same : Nat := 24
def f_p_elab_Plan_Is : Nat := 25
def f_p_elab_Plan_Len : Nat := 26
def f_p_elab_Plan_Jobs : Nat := 33
def f_elab_copied : Nat := 47
def f_elab_pattern_makes : Nat := 48
def f_p_elab_Plan_Jobs_fn1 : Nat := 63
def f_slices_Sorted_string : Nat := 64
def f_maps_Keys_map_string_api_Job_string_api_Job : Nat := 65
def f_slices_Collect_string : Nat := 100
def f_slices_Sort_sl_string_string : Nat := 101
def f_maps_Keys_map_string_api_Job_string_api_Job_fn1 : Nat := 102
def f_slices_AppendSeq_sl_string_string : Nat := 133
def f_slices_pdqsortOrdered_string : Nat := 134
def f_math_bits_Len : Nat := 135
def f_slices_insertionSortOrdered_string : Nat := 153
def f_slices_heapSortOrdered_string : Nat := 154
def f_slices_breakPatternsOrdered_string : Nat := 155
def ty_p_elab_Plan : Nat := 25
def ty_2_p_elab_Plan : Nat := 73
def f_p_elab_reader_file : Nat := 35
theorem ti_ty_2_p_elab_Plan : tiOf P ty_2_p_elab_Plan = some (TI.mk (TypeDesc.array 2 ty_p_elab_Plan) true 2 16 (some (Value.agg (Array.mk [Value.pointer none, Value.pointer none])))) := by kernel_rfl
end Go.Proofs.YtamoepfiodgbbaaGreatDoor
end

section
/- Rules of walks, printed by a program of ours: group None. -/
namespace Go.Proofs.YtamoepfiodgbbaaGreatDoor
open Go.Abs
set_option maxRecDepth 100000
theorem r_brickyardlaw15_ElabNone {s1 : ByteArray} {h : AW} {Q : Value → AW → Prop} (H : EvQ P f_brickyardlaw15_works [] h fun v2 h3 => vBool v2 fun b4 => bC (!b4) (Q (Value.bool false) h3) (EvQ P f_elab_New [Value.nilFunc,
  Value.string s1] h3 fun v5 h6 => vTup v5 fun l7 => lC l7 fun v8 l9 => vPtr v8 fun p10 => lC l9 fun v11 l12 => vAgg v11 fun l13 => lC l13 fun v14 l15 => vInt IntKind.i64 v14 fun
  n16 => lC l15 fun v17 l18 => vStr v17 fun s19 => lC l18 fun v20 l21 => vInt IntKind.i64 v20 fun n22 => lC l21 fun v23 l24 => vInt IntKind.i64 v23 fun n25 => lN l24 (lN l12 (oB
  (AW.wrL (AW.addVar h6 [Value.int IntKind.i64 0, Value.string (ByteArray.mk #[]), Value.int IntKind.i64 0, Value.int IntKind.i64 0]) (AW.next h6) 0 [Value.int IntKind.i64 n16,
  Value.string s19, Value.int IntKind.i64 n22, Value.int IntKind.i64 n25]) fun h26 => EvQ P f_elab_New [Value.func (Fn.func f_brickyardlaw15_ElabNone_fn1) (Array.mk []) (Array.mk []), Value.string s1] h26 fun
  v27 h28 => vTup v27 fun l29 => lC l29 fun v30 l31 => vPtr v30 fun p32 => lC l31 fun v33 l34 => vAgg v33 fun l35 => lC l35 fun v36 l37 => vInt IntKind.i64 v36 fun n38 => lC l37
  fun v39 l40 => vStr v39 fun s41 => lC l40 fun v42 l43 => vInt IntKind.i64 v42 fun n44 => lC l43 fun v45 l46 => vInt IntKind.i64 v45 fun n47 => lN l46 (lN l34 (oB (AW.wrL
  (AW.addVar h28 [Value.int IntKind.i64 0, Value.string (ByteArray.mk #[]), Value.int IntKind.i64 0, Value.int IntKind.i64 0]) (AW.next h28) 0 [Value.int IntKind.i64 n38,
  Value.string s41, Value.int IntKind.i64 n44, Value.int IntKind.i64 n47]) fun h48 => bC (!Option.isNone p10) (Q (Value.bool false) h48) (bC (!Option.isNone p32) (Q (Value.bool
  false) h48) (oB (AW.rd h48 (AW.next h6) 0) fun v49 => vInt IntKind.i64 v49 fun n50 => oB (AW.rd h48 (AW.next h6) 1) fun v51 => vStr v51 fun s52 => oB (AW.rd h48 (AW.next h6) 2)
  fun v53 => vInt IntKind.i64 v53 fun n54 => oB (AW.rd h48 (AW.next h6) 3) fun v55 => vInt IntKind.i64 v55 fun n56 => bC (!(n50 == 1 && (bEq s52 (ByteArray.mk #[]) && (n54 == 0 &&
  (n56 == 0 && true))))) (Q (Value.bool false) h48) (oB (AW.rd h48 (AW.next h28) 1) fun v57 => vStr v57 fun s58 => bC (!bEq s58 s1) (Q (Value.bool false) h48) (oB (AW.rd h48
  (AW.next h28) 0) fun v59 => vInt IntKind.i64 v59 fun n60 => bC (n60 != 2) (oB (AW.rd h48 (AW.next h28) 0) fun v61 => vInt IntKind.i64 v61 fun n62 => bC (n62 != 4) (Q (Value.bool
  false) h48) (oB (AW.rd h48 (AW.next h28) 0) fun v63 => vInt IntKind.i64 v63 fun n64 => EvQ P f_path_Is [Value.string s1] h48 fun v65 h66 => vBool v65 fun b67 => oB (AW.rd h66 (AW.next
  h28) 0) fun v68 => vInt IntKind.i64 v68 fun n69 => Value.int IntKind.i64 n69 = Value.int IntKind.i64 n64 ∧ bC (!(n64 == 4) == b67) (Q (Value.bool false) h66) (unitAt P f_brickyardlaw15_ElabNone 9 [0,
  63, 64] [Value.string s1, Value.agg (Array.mk [Value.pointer none, Value.pointer (some (Addr.mk (AW.next h66) 0 none))]), Value.int IntKind.i64 0] (AW.addVar h66 [Value.map none,
  Value.map none, Value.slice none 0 0, Value.slice none 0 0]) Q))) (oB (AW.rd h48 (AW.next h28) 0) fun v70 => vInt IntKind.i64 v70 fun n71 => EvQ P f_path_Is [Value.string s1] h48 fun
  v72 h73 => vBool v72 fun b74 => oB (AW.rd h73 (AW.next h28) 0) fun v75 => vInt IntKind.i64 v75 fun n76 => Value.int IntKind.i64 n76 = Value.int IntKind.i64 n71 ∧ bC (!(n71 == 4)
  == b74) (Q (Value.bool false) h73) (unitAt P f_brickyardlaw15_ElabNone 9 [0, 63, 64] [Value.string s1, Value.agg (Array.mk [Value.pointer none, Value.pointer (some (Addr.mk (AW.next h73) 0 none))]),
  Value.int IntKind.i64 0] (AW.addVar h73 [Value.map none, Value.map none, Value.slice none 0 0, Value.slice none 0 0]) Q)))))))))))) : EvQ P f_brickyardlaw15_ElabNone [Value.string s1] h Q := fn_ok (n
  := 400) (ann := annOf [(9, [0, 63, 64])]) (Eq.mp (by kernel_rfl) H)
theorem r_brickyardlaw15_ElabNone_9 {s1 : ByteArray} {m2 : Nat} {n3 : Int} {h : AW} {Q : Value → AW → Prop} (H : bC (decide (n3 < 2)) (oB (indexV P ty_2_p_elab_Plan (Value.agg (Array.mk [Value.pointer none,
  Value.pointer (some (Addr.mk m2 0 none))])) (Value.int IntKind.i64 n3)) fun v4 => vPtr v4 fun p5 => EvQ P f_brickyardlaw15_jobs [Value.pointer p5] h fun v6 h7 => vTup v6 fun l8 => lC l8 fun v9
  l10 => vSl v9 fun p11 m12 m13 => lC l10 fun v14 l15 => vBool v14 fun b16 => lN l15 (EvQ P f_p_elab_Plan_Find [Value.pointer p5, Value.string s1] h7 fun v17 h18 => vTup v17 fun l19 => lC l19
  fun v20 l21 => vAgg v20 fun l22 => lC l22 fun v23 l24 => vStr v23 fun s25 => lC l24 fun v26 l27 => vSl v26 fun p28 m29 m30 => lC l27 fun v31 l32 => vSl v31 fun p33 m34 m35 => lC
  l32 fun v36 l37 => vSl v36 fun p38 m39 m40 => lN l37 (lC l21 fun v41 l42 => vBool v41 fun b43 => lN l42 (oB (AW.wrL (AW.addVar h18 [Value.string (ByteArray.mk #[]), Value.slice
  none 0 0, Value.slice none 0 0, Value.slice none 0 0]) (AW.next h18) 0 [Value.string s25, Value.slice p28 m29 m30, Value.slice p33 m34 m35, Value.slice p38 m39 m40]) fun h44 =>
  bC (!b16) (Q (Value.bool false) h44) (bC ((↑m12 : Int) != 0) (Q (Value.bool false) h44) (bC b43 (Q (Value.bool false) h44) (oB (AW.rd h44 (AW.next h18) 0) fun v45 => vStr v45 fun
  s46 => oB (AW.rd h44 (AW.next h18) 1) fun v47 => vSl v47 fun p48 m49 m50 => oB (AW.rd h44 (AW.next h18) 2) fun v51 => vSl v51 fun p52 m53 m54 => oB (AW.rd h44 (AW.next h18) 3)
  fun v55 => vSl v55 fun p56 m57 m58 => EvQ P f_brickyardref15_Same [Value.agg (Array.mk [Value.string s46, Value.slice p48 m49 m50, Value.slice p52 m53 m54, Value.slice p56 m57 m58]), Value.agg
  (Array.mk [Value.string (ByteArray.mk #[]), Value.slice none 0 0, Value.slice none 0 0, Value.slice none 0 0])] h44 fun v59 h60 => vBool v59 fun b61 => bC (!b61) (Q (Value.bool
  false) h60) (EvQ P f_p_elab_Plan_Is [Value.pointer p5, Value.string s1] h60 fun v62 h63 => vBool v62 fun b64 => bC b64 (Q (Value.bool false) h63) (EvQ P f_p_elab_Plan_Len [Value.pointer p5] h63 fun v65
  h66 => vInt IntKind.i64 v65 fun n67 => bC (n67 != 0) (Q (Value.bool false) h66) (EvQ P f_p_elab_Plan_Files [Value.pointer p5] h66 fun v68 h69 => vSl v68 fun p70 m71 m72 => bC ((↑m71 : Int) !=
  0) (Q (Value.bool false) h69) (unitAt P f_brickyardlaw15_ElabNone 9 [0, 63, 64] [Value.string s1, Value.agg (Array.mk [Value.pointer none, Value.pointer (some (Addr.mk m2 0 none))]), Value.int
  IntKind.i64 (IntKind.wrap IntKind.i64 (n3 + 1))] h69 Q))))))))))) (Q (Value.bool true) h)) : unitAt P f_brickyardlaw15_ElabNone 9 [0, 63, 64] [Value.string s1, Value.agg (Array.mk [Value.pointer none,
  Value.pointer (some (Addr.mk m2 0 none))]), Value.int IntKind.i64 n3] h Q := unit_ok (n := 400) (ann := annOf [(9, [0, 63, 64])]) (Eq.mp (by kernel_rfl) H)
theorem r_p_elab_Plan_Find {p1 : Option Addr} {s2 : ByteArray} {h : AW} {Q : Value → AW → Prop} (H : bC (Option.isNone p1) (oB (AW.wrL (AW.addVar h [Value.string (ByteArray.mk #[]),
  Value.slice none 0 0, Value.slice none 0 0, Value.slice none 0 0]) (AW.next h) 0 [Value.string (ByteArray.mk #[]), Value.slice none 0 0, Value.slice none 0 0, Value.slice none 0
  0]) fun h3 => oB (AW.rd h3 (AW.next h) 0) fun v4 => vStr v4 fun s5 => oB (AW.rd h3 (AW.next h) 1) fun v6 => vSl v6 fun p7 m8 m9 => oB (AW.rd h3 (AW.next h) 2) fun v10 => vSl v10
  fun p11 m12 m13 => oB (AW.rd h3 (AW.next h) 3) fun v14 => vSl v14 fun p15 m16 m17 => Q (Value.tuple (Array.mk [Value.agg (Array.mk [Value.string s5, Value.slice p7 m8 m9,
  Value.slice p11 m12 m13, Value.slice p15 m16 m17]), Value.bool false])) h3) (EvQ P f_path_Is [Value.string s2] (AW.addVar h [Value.string (ByteArray.mk #[]), Value.slice none 0 0,
  Value.slice none 0 0, Value.slice none 0 0]) fun v18 h19 => vBool v18 fun b20 => bC (!b20) (oB (AW.wrL h19 (AW.next h) 0 [Value.string (ByteArray.mk #[]), Value.slice none 0 0,
  Value.slice none 0 0, Value.slice none 0 0]) fun h21 => oB (AW.rd h21 (AW.next h) 0) fun v22 => vStr v22 fun s23 => oB (AW.rd h21 (AW.next h) 1) fun v24 => vSl v24 fun p25 m26
  m27 => oB (AW.rd h21 (AW.next h) 2) fun v28 => vSl v28 fun p29 m30 m31 => oB (AW.rd h21 (AW.next h) 3) fun v32 => vSl v32 fun p33 m34 m35 => Q (Value.tuple (Array.mk [Value.agg
  (Array.mk [Value.string s23, Value.slice p25 m26 m27, Value.slice p29 m30 m31, Value.slice p33 m34 m35]), Value.bool false])) h21) (aP p1 fun m36 m37 => oB (AW.rd h19 m36 (m37 +
  1)) fun v38 => vMap v38 fun p39 => oB (AW.mapL h19 p39) fun l40 => oB (Abs.look TypeDesc.string (Value.string s2) l40) fun p41 => vStr (Option.getD p41 (Value.string
  (ByteArray.mk #[]))) fun s42 => bC (Option.isSome p41) (aP p1 fun m43 m44 => oB (AW.rd h19 m43 m44) fun v45 => vMap v45 fun p46 => oB (AW.mapL h19 p46) fun l47 => oB (Abs.look
  TypeDesc.string (Value.string s42) l47) fun p48 => vAgg (Option.getD p48 (Value.agg (Array.mk [Value.string (ByteArray.mk #[]), Value.slice none 0 0, Value.slice none 0 0,
  Value.slice none 0 0]))) fun l49 => lC l49 fun v50 l51 => vStr v50 fun s52 => lC l51 fun v53 l54 => vSl v53 fun p55 m56 m57 => lC l54 fun v58 l59 => vSl v58 fun p60 m61 m62 => lC
  l59 fun v63 l64 => vSl v63 fun p65 m66 m67 => lN l64 (EvQ P f_elab_copied [Value.agg (Array.mk [Value.string s52, Value.slice p55 m56 m57, Value.slice p60 m61 m62, Value.slice p65 m66
  m67])] h19 fun v68 h69 => vAgg v68 fun l70 => lC l70 fun v71 l72 => vStr v71 fun s73 => lC l72 fun v74 l75 => vSl v74 fun p76 m77 m78 => lC l75 fun v79 l80 => vSl v79 fun p81 m82
  m83 => lC l80 fun v84 l85 => vSl v84 fun p86 m87 m88 => lN l85 (oB (AW.wrL h69 (AW.next h) 0 [Value.string s73, Value.slice p76 m77 m78, Value.slice p81 m82 m83, Value.slice p86
  m87 m88]) fun h89 => oB (AW.rd h89 (AW.next h) 0) fun v90 => vStr v90 fun s91 => oB (AW.rd h89 (AW.next h) 1) fun v92 => vSl v92 fun p93 m94 m95 => oB (AW.rd h89 (AW.next h) 2)
  fun v96 => vSl v96 fun p97 m98 m99 => oB (AW.rd h89 (AW.next h) 3) fun v100 => vSl v100 fun p101 m102 m103 => Q (Value.tuple (Array.mk [Value.agg (Array.mk [Value.string s91,
  Value.slice p93 m94 m95, Value.slice p97 m98 m99, Value.slice p101 m102 m103]), Value.bool true])) h89))) (aP p1 fun m104 m105 => oB (AW.rd h19 m104 (m105 + 2)) fun v106 => vSl
  v106 fun p107 m108 m109 => unitAt P f_p_elab_Plan_Find 7 [1, 4, 40, 41, 42] [Value.string s2, Value.pointer (some (Addr.mk (AW.next h) 0 none)), Value.slice p107 m108 m109, Value.int
  IntKind.i64 (↑m108 : Int), Value.int IntKind.i64 0] h19 Q)))) : EvQ P f_p_elab_Plan_Find [Value.pointer p1, Value.string s2] h Q := fn_ok (n := 400) (ann := annOf [(7, [1, 4, 40, 41, 42])])
  (Eq.mp (by kernel_rfl) H)
theorem r_p_elab_Plan_Find_7 {s1 : ByteArray} {m2 : Nat} {p3 : Option Addr} {m4 : Nat} {m5 : Nat} {n6 : Int} {n7 : Int} {h : AW} {Q : Value → AW → Prop} (H : bC (decide (n7 < n6)) (aP p3 fun
  m8 m9 => oB (natIdx n7 m4) fun m10 => oB (AW.rd h m8 (m9 + m10 * 3)) fun v11 => vStr v11 fun s12 => oB (AW.rd h m8 (m9 + m10 * 3 + 1)) fun v13 => vSl v13 fun p14 m15 m16 => oB
  (AW.rd h m8 (m9 + m10 * 3 + 1 + 1)) fun v17 => vSl v17 fun p18 m19 m20 => oB (AW.wrL (AW.addVar h [Value.string (ByteArray.mk #[]), Value.slice none 0 0, Value.slice none 0 0])
  (AW.next h) 0 [Value.string s12, Value.slice p14 m15 m16, Value.slice p18 m19 m20]) fun h21 => oB (AW.rd h21 (AW.next h) 0) fun v22 => vStr v22 fun s23 => oB (AW.rd h21 (AW.next
  h) 1) fun v24 => vSl v24 fun p25 m26 m27 => oB (AW.rd h21 (AW.next h) 2) fun v28 => vSl v28 fun p29 m30 m31 => EvQ P f_elab_pattern_makes [Value.agg (Array.mk [Value.string s23, Value.slice p25
  m26 m27, Value.slice p29 m30 m31]), Value.string s1] h21 fun v32 h33 => vTup v32 fun l34 => lC l34 fun v35 l36 => vAgg v35 fun l37 => lC l37 fun v38 l39 => vStr v38 fun s40 => lC
  l39 fun v41 l42 => vSl v41 fun p43 m44 m45 => lC l42 fun v46 l47 => vSl v46 fun p48 m49 m50 => lC l47 fun v51 l52 => vSl v51 fun p53 m54 m55 => lN l52 (lC l36 fun v56 l57 =>
  vBool v56 fun b58 => lN l57 (oB (AW.wrL (AW.addVar h33 [Value.string (ByteArray.mk #[]), Value.slice none 0 0, Value.slice none 0 0, Value.slice none 0 0]) (AW.next h33) 0
  [Value.string s40, Value.slice p43 m44 m45, Value.slice p48 m49 m50, Value.slice p53 m54 m55]) fun h59 => bC b58 (oB (AW.rd h59 (AW.next h33) 0) fun v60 => vStr v60 fun s61 => oB
  (AW.rd h59 (AW.next h33) 1) fun v62 => vSl v62 fun p63 m64 m65 => oB (AW.rd h59 (AW.next h33) 2) fun v66 => vSl v66 fun p67 m68 m69 => oB (AW.rd h59 (AW.next h33) 3) fun v70 =>
  vSl v70 fun p71 m72 m73 => oB (AW.wrL h59 m2 0 [Value.string s61, Value.slice p63 m64 m65, Value.slice p67 m68 m69, Value.slice p71 m72 m73]) fun h74 => oB (AW.rd h74 m2 0) fun
  v75 => vStr v75 fun s76 => oB (AW.rd h74 m2 1) fun v77 => vSl v77 fun p78 m79 m80 => oB (AW.rd h74 m2 2) fun v81 => vSl v81 fun p82 m83 m84 => oB (AW.rd h74 m2 3) fun v85 => vSl
  v85 fun p86 m87 m88 => Q (Value.tuple (Array.mk [Value.agg (Array.mk [Value.string s76, Value.slice p78 m79 m80, Value.slice p82 m83 m84, Value.slice p86 m87 m88]), Value.bool
  true])) h74) (unitAt P f_p_elab_Plan_Find 7 [1, 4, 40, 41, 42] [Value.string s1, Value.pointer (some (Addr.mk m2 0 none)), Value.slice p3 m4 m5, Value.int IntKind.i64 n6, Value.int IntKind.i64
  (IntKind.wrap IntKind.i64 (n7 + 1))] h59 Q)))) (oB (AW.wrL h m2 0 [Value.string (ByteArray.mk #[]), Value.slice none 0 0, Value.slice none 0 0, Value.slice none 0 0]) fun h89 =>
  oB (AW.rd h89 m2 0) fun v90 => vStr v90 fun s91 => oB (AW.rd h89 m2 1) fun v92 => vSl v92 fun p93 m94 m95 => oB (AW.rd h89 m2 2) fun v96 => vSl v96 fun p97 m98 m99 => oB (AW.rd
  h89 m2 3) fun v100 => vSl v100 fun p101 m102 m103 => Q (Value.tuple (Array.mk [Value.agg (Array.mk [Value.string s91, Value.slice p93 m94 m95, Value.slice p97 m98 m99,
  Value.slice p101 m102 m103]), Value.bool false])) h89)) : unitAt P f_p_elab_Plan_Find 7 [1, 4, 40, 41, 42] [Value.string s1, Value.pointer (some (Addr.mk m2 0 none)), Value.slice p3 m4 m5,
  Value.int IntKind.i64 n6, Value.int IntKind.i64 n7] h Q := unit_ok (n := 400) (ann := annOf [(7, [1, 4, 40, 41, 42])]) (Eq.mp (by kernel_rfl) H)
theorem r_brickyardlaw15_ElabNone_fn1 {s1 : ByteArray} {h : AW} {Q : Value → AW → Prop} (H : Q (Value.tuple (Array.mk [Value.string (ByteArray.mk #[]), Value.bool false])) h) : EvQ P f_brickyardlaw15_ElabNone_fn1 [Value.string
  s1] h Q := fn_ok (n := 400) (ann := annOf []) (Eq.mp (by kernel_rfl) H)
theorem r_p_elab_Plan_Files {p1 : Option Addr} {h : AW} {Q : Value → AW → Prop} (H : bC (Option.isNone p1) (Q (Value.slice none 0 0) h) (aP p1 fun m2 m3 => oB (AW.rd h m2 (m3 + 3)) fun v4 =>
  vSl v4 fun p5 m6 m7 => EvQ P f_slices_Clone_sl_string_string [Value.slice p5 m6 m7] h fun v8 h9 => vSl v8 fun p10 m11 m12 => Q (Value.slice p10 m11 m12) h9)) : EvQ P f_p_elab_Plan_Files [Value.pointer p1] h Q := fn_ok (n
  := 400) (ann := annOf []) (Eq.mp (by kernel_rfl) H)
theorem r_brickyardlaw15_jobs {p1 : Option Addr} {h : AW} {Q : Value → AW → Prop} (H : EvQ P f_p_elab_Plan_Jobs [Value.pointer p1] (AW.addVar (AW.addVar (AW.addVar h [Value.slice none 0 0]) [Value.bool false])
  [Value.slice none 0 0]) fun v2 h3 => oB (nilF v2) fun b4 => bC b4 (oB (AW.wr h3 (AW.next h) 0 (Value.slice none 0 0)) fun h5 => oB (AW.wr h5 (AW.next (AW.addVar h [Value.slice
  none 0 0])) 0 (Value.bool false)) fun h6 => oB (AW.rd h6 (AW.next h) 0) fun v7 => vSl v7 fun p8 m9 m10 => oB (AW.rd h6 (AW.next (AW.addVar h [Value.slice none 0 0])) 0) fun v11
  => vBool v11 fun b12 => Q (Value.tuple (Array.mk [Value.slice p8 m9 m10, Value.bool b12])) h6) (vFun v2 fun m13 l14 l15 => bC (hasBody P m13) (EvQ P m13 (l14 ++ Value.chan none
  :: l15) h3 fun v16 h17 => oB (AW.rd h17 (AW.next (AW.addVar (AW.addVar h [Value.slice none 0 0]) [Value.bool false])) 0) fun v18 => vSl v18 fun p19 m20 m21 => oB (AW.wr h17
  (AW.next h) 0 (Value.slice p19 m20 m21)) fun h22 => oB (AW.wr h22 (AW.next (AW.addVar h [Value.slice none 0 0])) 0 (Value.bool true)) fun h23 => oB (AW.rd h23 (AW.next h) 0) fun
  v24 => vSl v24 fun p25 m26 m27 => oB (AW.rd h23 (AW.next (AW.addVar h [Value.slice none 0 0])) 0) fun v28 => vBool v28 fun b29 => Q (Value.tuple (Array.mk [Value.slice p25 m26
  m27, Value.bool b29])) h23) False)) : EvQ P f_brickyardlaw15_jobs [Value.pointer p1] h Q := fn_ok (n := 400) (ann := annOf []) (Eq.mp (by kernel_rfl) H)
theorem r_brickyardref15_Same {s1 : ByteArray} {p2 : Option Addr} {m3 : Nat} {m4 : Nat} {p5 : Option Addr} {m6 : Nat} {m7 : Nat} {p8 : Option Addr} {m9 : Nat} {m10 : Nat} {s11 : ByteArray} {p12 :
  Option Addr} {m13 : Nat} {m14 : Nat} {p15 : Option Addr} {m16 : Nat} {m17 : Nat} {p18 : Option Addr} {m19 : Nat} {m20 : Nat} {h : AW} {Q : Value → AW → Prop} (H : oB (AW.rd
  (AW.addVar (AW.addVar h [Value.string s1, Value.slice p2 m3 m4, Value.slice p5 m6 m7, Value.slice p8 m9 m10]) [Value.string s11, Value.slice p12 m13 m14, Value.slice p15 m16 m17,
  Value.slice p18 m19 m20]) (AW.next h) 0) fun v21 => vStr v21 fun s22 => oB (AW.rd (AW.addVar (AW.addVar h [Value.string s1, Value.slice p2 m3 m4, Value.slice p5 m6 m7,
  Value.slice p8 m9 m10]) [Value.string s11, Value.slice p12 m13 m14, Value.slice p15 m16 m17, Value.slice p18 m19 m20]) (AW.next (AW.addVar h [Value.string s1, Value.slice p2 m3
  m4, Value.slice p5 m6 m7, Value.slice p8 m9 m10])) 0) fun v23 => vStr v23 fun s24 => bC (bEq s22 s24) (oB (AW.rd (AW.addVar (AW.addVar h [Value.string s1, Value.slice p2 m3 m4,
  Value.slice p5 m6 m7, Value.slice p8 m9 m10]) [Value.string s11, Value.slice p12 m13 m14, Value.slice p15 m16 m17, Value.slice p18 m19 m20]) (AW.next h) 1) fun v25 => vSl v25 fun
  p26 m27 m28 => oB (AW.rd (AW.addVar (AW.addVar h [Value.string s1, Value.slice p2 m3 m4, Value.slice p5 m6 m7, Value.slice p8 m9 m10]) [Value.string s11, Value.slice p12 m13 m14,
  Value.slice p15 m16 m17, Value.slice p18 m19 m20]) (AW.next (AW.addVar h [Value.string s1, Value.slice p2 m3 m4, Value.slice p5 m6 m7, Value.slice p8 m9 m10])) 1) fun v29 => vSl
  v29 fun p30 m31 m32 => EvQ P f_brickyardref15_Texts [Value.slice p26 m27 m28, Value.slice p30 m31 m32] (AW.addVar (AW.addVar h [Value.string s1, Value.slice p2 m3 m4, Value.slice p5 m6 m7,
  Value.slice p8 m9 m10]) [Value.string s11, Value.slice p12 m13 m14, Value.slice p15 m16 m17, Value.slice p18 m19 m20]) fun v33 h34 => vBool v33 fun b35 => bC b35 (oB (AW.rd h34
  (AW.next h) 2) fun v36 => vSl v36 fun p37 m38 m39 => oB (AW.rd h34 (AW.next (AW.addVar h [Value.string s1, Value.slice p2 m3 m4, Value.slice p5 m6 m7, Value.slice p8 m9 m10])) 2)
  fun v40 => vSl v40 fun p41 m42 m43 => EvQ P f_brickyardref15_Texts [Value.slice p37 m38 m39, Value.slice p41 m42 m43] h34 fun v44 h45 => vBool v44 fun b46 => bC b46 (oB (AW.rd h45 (AW.next h) 3)
  fun v47 => vSl v47 fun p48 m49 m50 => oB (AW.rd h45 (AW.next (AW.addVar h [Value.string s1, Value.slice p2 m3 m4, Value.slice p5 m6 m7, Value.slice p8 m9 m10])) 3) fun v51 => vSl
  v51 fun p52 m53 m54 => EvQ P f_brickyardref13_Same [Value.slice p48 m49 m50, Value.slice p52 m53 m54] h45 fun v55 h56 => vBool v55 fun b57 => Q (Value.bool b57) h56) (Q (Value.bool false) h45))
  (Q (Value.bool false) h34)) (Q (Value.bool false) (AW.addVar (AW.addVar h [Value.string s1, Value.slice p2 m3 m4, Value.slice p5 m6 m7, Value.slice p8 m9 m10]) [Value.string s11,
  Value.slice p12 m13 m14, Value.slice p15 m16 m17, Value.slice p18 m19 m20]))) : EvQ P f_brickyardref15_Same [Value.agg (Array.mk [Value.string s1, Value.slice p2 m3 m4, Value.slice p5 m6 m7,
  Value.slice p8 m9 m10]), Value.agg (Array.mk [Value.string s11, Value.slice p12 m13 m14, Value.slice p15 m16 m17, Value.slice p18 m19 m20])] h Q := fn_ok (n := 400) (ann := annOf
  []) (Eq.mp (by kernel_rfl) H)
theorem r_p_elab_Plan_Is {p1 : Option Addr} {s2 : ByteArray} {h : AW} {Q : Value → AW → Prop} (H : EvQ P f_p_elab_Plan_Find [Value.pointer p1, Value.string s2] h fun v3 h4 => vTup v3 fun l5 => lC l5 fun
  v6 l7 => vAgg v6 fun l8 => lC l8 fun v9 l10 => vStr v9 fun s11 => lC l10 fun v12 l13 => vSl v12 fun p14 m15 m16 => lC l13 fun v17 l18 => vSl v17 fun p19 m20 m21 => lC l18 fun v22
  l23 => vSl v22 fun p24 m25 m26 => lN l23 (lC l7 fun v27 l28 => vBool v27 fun b29 => lN l28 (oB (AW.wrL (AW.addVar h4 [Value.string (ByteArray.mk #[]), Value.slice none 0 0,
  Value.slice none 0 0, Value.slice none 0 0]) (AW.next h4) 0 [Value.string s11, Value.slice p14 m15 m16, Value.slice p19 m20 m21, Value.slice p24 m25 m26]) fun h30 => Q
  (Value.bool b29) h30))) : EvQ P f_p_elab_Plan_Is [Value.pointer p1, Value.string s2] h Q := fn_ok (n := 400) (ann := annOf []) (Eq.mp (by kernel_rfl) H)
theorem r_p_elab_Plan_Len {p1 : Option Addr} {h : AW} {Q : Value → AW → Prop} (H : bC (Option.isNone p1) (Q (Value.int IntKind.i64 0) h) (aP p1 fun m2 m3 => oB (AW.rd h m2 m3) fun v4 => vMap
  v4 fun p5 => oB (AW.mapL h p5) fun l6 => Q (Value.int IntKind.i64 (↑(List.length l6) : Int)) h)) : EvQ P f_p_elab_Plan_Len [Value.pointer p1] h Q := fn_ok (n := 400) (ann := annOf []) (Eq.mp
  (by kernel_rfl) H)
theorem r_p_elab_Plan_Jobs {p1 : Option Addr} {h : AW} {Q : Value → AW → Prop} (H : Q (Value.func (Fn.func f_p_elab_Plan_Jobs_fn1) (Array.mk []) (Array.mk [Value.pointer (some (Addr.mk (AW.next h) 0 none))]))
  (AW.addVar h [Value.pointer p1])) : EvQ P f_p_elab_Plan_Jobs [Value.pointer p1] h Q := fn_ok (n := 400) (ann := annOf []) (Eq.mp (by kernel_rfl) H)
theorem r_p_elab_Plan_Jobs_fn1 {v1 : Value} {m2 : Nat} {m3 : Nat} {h : AW} {Q : Value → AW → Prop} (H : oB (AW.rd h m2 m3) fun v4 => vPtr v4 fun p5 => bC (Option.isNone p5) (Q (Value.tuple
  (Array.mk [])) h) (oB (AW.rd h m2 m3) fun v6 => vPtr v6 fun p7 => aP p7 fun m8 m9 => oB (AW.rd h m8 m9) fun v10 => vMap v10 fun p11 => EvQ P f_maps_Keys_map_string_api_Job_string_api_Job [Value.map p11] h fun v12 h13 =>
  EvQ P f_slices_Sorted_string [v12] h13 fun v14 h15 => vSl v14 fun p16 m17 m18 => unitAt P f_p_elab_Plan_Jobs_fn1 2 [0, 1, 12, 13, 14] [v1, Value.pointer (some (Addr.mk m2 m3 none)), Value.slice p16 m17 m18,
  Value.int IntKind.i64 (↑m17 : Int), Value.int IntKind.i64 0] h15 Q)) : EvQ P f_p_elab_Plan_Jobs_fn1 [v1, Value.pointer (some (Addr.mk m2 m3 none))] h Q := fn_ok (n := 400) (ann := annOf [(2, [0,
  1, 12, 13, 14])]) (Eq.mp (by kernel_rfl) H)
theorem r_p_elab_Plan_Jobs_fn1_2 {v1 : Value} {m2 : Nat} {m3 : Nat} {p4 : Option Addr} {m5 : Nat} {m6 : Nat} {n7 : Int} {n8 : Int} {h : AW} {Q : Value → AW → Prop} (H : bC (decide (n8 < n7)) (aP
  p4 fun m9 m10 => oB (natIdx n8 m5) fun m11 => oB (AW.rd h m9 (m10 + m11 * 1)) fun v12 => vStr v12 fun s13 => oB (AW.rd h m2 m3) fun v14 => vPtr v14 fun p15 => aP p15 fun m16 m17
  => oB (AW.rd h m16 m17) fun v18 => vMap v18 fun p19 => oB (AW.mapL h p19) fun l20 => oB (Abs.look TypeDesc.string (Value.string s13) l20) fun p21 => vAgg (Option.getD p21
  (Value.agg (Array.mk [Value.string (ByteArray.mk #[]), Value.slice none 0 0, Value.slice none 0 0, Value.slice none 0 0]))) fun l22 => lC l22 fun v23 l24 => vStr v23 fun s25 =>
  lC l24 fun v26 l27 => vSl v26 fun p28 m29 m30 => lC l27 fun v31 l32 => vSl v31 fun p33 m34 m35 => lC l32 fun v36 l37 => vSl v36 fun p38 m39 m40 => lN l37 (EvQ P f_elab_copied [Value.agg
  (Array.mk [Value.string s25, Value.slice p28 m29 m30, Value.slice p33 m34 m35, Value.slice p38 m39 m40])] h fun v41 h42 => vAgg v41 fun l43 => lC l43 fun v44 l45 => vStr v44 fun
  s46 => lC l45 fun v47 l48 => vSl v47 fun p49 m50 m51 => lC l48 fun v52 l53 => vSl v52 fun p54 m55 m56 => lC l53 fun v57 l58 => vSl v57 fun p59 m60 m61 => lN l58 (vFun v1 fun m62
  l63 l64 => EvQ P m62 (l63 ++ Value.agg (Array.mk [Value.string s46, Value.slice p49 m50 m51, Value.slice p54 m55 m56, Value.slice p59 m60 m61]) :: l64) h42 fun v65 h66 => vBool
  v65 fun b67 => bC (!b67) (Q (Value.tuple (Array.mk [])) h66) (unitAt P f_p_elab_Plan_Jobs_fn1 2 [0, 1, 12, 13, 14] [v1, Value.pointer (some (Addr.mk m2 m3 none)), Value.slice p4 m5 m6, Value.int
  IntKind.i64 n7, Value.int IntKind.i64 (IntKind.wrap IntKind.i64 (n8 + 1))] h66 Q)))) (Q (Value.tuple (Array.mk [])) h)) : unitAt P f_p_elab_Plan_Jobs_fn1 2 [0, 1, 12, 13, 14] [v1, Value.pointer
  (some (Addr.mk m2 m3 none)), Value.slice p4 m5 m6, Value.int IntKind.i64 n7, Value.int IntKind.i64 n8] h Q := unit_ok (n := 400) (ann := annOf [(2, [0, 1, 12, 13, 14])]) (Eq.mp
  (by kernel_rfl) H)
theorem r_slices_Sorted_string {v1 : Value} {h : AW} {Q : Value → AW → Prop} (H : EvQ P f_slices_Collect_string [v1] h fun v2 h3 => vSl v2 fun p4 m5 m6 => EvQ P f_slices_Sort_sl_string_string [Value.slice p4 m5 m6] h3 fun v7 h8 => Q
  (Value.slice p4 m5 m6) h8) : EvQ P f_slices_Sorted_string [v1] h Q := fn_ok (n := 400) (ann := annOf []) (Eq.mp (by kernel_rfl) H)
theorem r_maps_Keys_map_string_api_Job_string_api_Job {p1 : Option Nat} {h : AW} {Q : Value → AW → Prop} (H : Q (Value.func (Fn.func f_maps_Keys_map_string_api_Job_string_api_Job_fn1) (Array.mk []) (Array.mk [Value.pointer (some (Addr.mk (AW.next h) 0 none))]))
  (AW.addVar h [Value.map p1])) : EvQ P f_maps_Keys_map_string_api_Job_string_api_Job [Value.map p1] h Q := fn_ok (n := 400) (ann := annOf []) (Eq.mp (by kernel_rfl) H)
theorem r_slices_Collect_string {v1 : Value} {h : AW} {Q : Value → AW → Prop} (H : EvQ P f_slices_AppendSeq_sl_string_string [Value.slice none 0 0, v1] h fun v2 h3 => vSl v2 fun p4 m5 m6 => Q (Value.slice p4 m5 m6) h3) : EvQ P
  f_slices_Collect_string [v1] h Q := fn_ok (n := 400) (ann := annOf []) (Eq.mp (by kernel_rfl) H)
theorem r_slices_Sort_sl_string_string {p1 : Option Addr} {m2 : Nat} {m3 : Nat} {h : AW} {Q : Value → AW → Prop} (H : EvQ P f_math_bits_Len [Value.int IntKind.u64 (IntKind.wrap IntKind.u64 (↑m2 : Int))] h fun v4
  h5 => vInt IntKind.i64 v4 fun n6 => EvQ P f_slices_pdqsortOrdered_string [Value.slice p1 m2 m3, Value.int IntKind.i64 0, Value.int IntKind.i64 (↑m2 : Int), Value.int IntKind.i64 n6] h5 fun v7 h8 => Q
  (Value.tuple (Array.mk [])) h8) : EvQ P f_slices_Sort_sl_string_string [Value.slice p1 m2 m3] h Q := fn_ok (n := 400) (ann := annOf []) (Eq.mp (by kernel_rfl) H)
theorem r_maps_Keys_map_string_api_Job_string_api_Job_fn1 {v1 : Value} {m2 : Nat} {m3 : Nat} {h : AW} {Q : Value → AW → Prop} (H : oB (AW.rd h m2 m3) fun v4 => vMap v4 fun p5 => bC (Option.isNone p5) (unitAt P f_maps_Keys_map_string_api_Job_string_api_Job_fn1 1 [0,
  5] [v1, Value.pointer (some (Addr.mk (AW.next h) 0 none))] (AW.newIter h) Q) False) : EvQ P f_maps_Keys_map_string_api_Job_string_api_Job_fn1 [v1, Value.pointer (some (Addr.mk m2 m3 none))] h Q := fn_ok (n := 400) (ann :=
  annOf [(1, [0, 5])]) (Eq.mp (by kernel_rfl) H)
theorem r_maps_Keys_map_string_api_Job_string_api_Job_fn1_1 {v1 : Value} {m2 : Nat} {h : AW} {Q : Value → AW → Prop} (H : bC (AW.iterAt h m2 0) (Q (Value.tuple (Array.mk [])) h) False) : unitAt P f_maps_Keys_map_string_api_Job_string_api_Job_fn1 1 [0, 5] [v1,
  Value.pointer (some (Addr.mk m2 0 none))] h Q := unit_ok (n := 400) (ann := annOf [(1, [0, 5])]) (Eq.mp (by kernel_rfl) H)
theorem r_slices_AppendSeq_sl_string_string {p1 : Option Addr} {m2 : Nat} {m3 : Nat} {v4 : Value} {h : AW} {Q : Value → AW → Prop} (H : vFun v4 fun m5 l6 l7 => bC (hasBody P m5) (EvQ P m5 (l6 ++ Value.chan
  none :: l7) (AW.addVar h [Value.slice p1 m2 m3]) fun v8 h9 => oB (AW.rd h9 (AW.next h) 0) fun v10 => vSl v10 fun p11 m12 m13 => Q (Value.slice p11 m12 m13) h9) False) : EvQ P
  f_slices_AppendSeq_sl_string_string [Value.slice p1 m2 m3, v4] h Q := fn_ok (n := 400) (ann := annOf []) (Eq.mp (by kernel_rfl) H)
theorem r_slices_pdqsortOrdered_string {p1 : Option Addr} {m2 : Nat} {m3 : Nat} {n4 : Int} {n5 : Int} {n6 : Int} {h : AW} {Q : Value → AW → Prop} (H : unitAt P f_slices_pdqsortOrdered_string 2 [0, 1, 2, 3, 8, 9] [Value.slice p1
  m2 m3, Value.int IntKind.i64 n4, Value.int IntKind.i64 n5, Value.int IntKind.i64 n6, Value.bool true, Value.bool true] h Q) : EvQ P f_slices_pdqsortOrdered_string [Value.slice p1 m2 m3, Value.int
  IntKind.i64 n4, Value.int IntKind.i64 n5, Value.int IntKind.i64 n6] h Q := fn_ok (n := 400) (ann := annOf [(2, [0, 1, 2, 3, 8, 9]), (10, [0, 1, 2, 3, 8, 9, 10]), (15, [0, 1, 2,
  3, 8, 9, 10, 11, 12]), (17, [0, 1, 2, 3, 8, 9, 10, 11])]) (Eq.mp (by kernel_rfl) H)
theorem r_slices_pdqsortOrdered_string_2 {p1 : Option Addr} {m2 : Nat} {m3 : Nat} {n4 : Int} {n5 : Int} {n6 : Int} {b7 : Bool} {b8 : Bool} {h : AW} {Q : Value → AW → Prop} (H : bC (decide (IntKind.wrap
  IntKind.i64 (n5 - n4) ≤ 12)) (EvQ P f_slices_insertionSortOrdered_string [Value.slice p1 m2 m3, Value.int IntKind.i64 n4, Value.int IntKind.i64 n5] h fun v9 h10 => Q (Value.tuple (Array.mk [])) h10) (bC (n6 ==
  0) (EvQ P f_slices_heapSortOrdered_string [Value.slice p1 m2 m3, Value.int IntKind.i64 n4, Value.int IntKind.i64 n5] h fun v11 h12 => Q (Value.tuple (Array.mk [])) h12) (bC (!b7) (EvQ P f_slices_breakPatternsOrdered_string [Value.slice
  p1 m2 m3, Value.int IntKind.i64 n4, Value.int IntKind.i64 n5] h fun v13 h14 => unitAt P f_slices_pdqsortOrdered_string 10 [0, 1, 2, 3, 8, 9, 10] [Value.slice p1 m2 m3, Value.int IntKind.i64 n4, Value.int
  IntKind.i64 n5, Value.int IntKind.i64 (IntKind.wrap IntKind.i64 (n6 - 1)), Value.bool b7, Value.bool b8, Value.int IntKind.i64 (IntKind.wrap IntKind.i64 (n5 - n4))] h14 Q)
  (unitAt P f_slices_pdqsortOrdered_string 10 [0, 1, 2, 3, 8, 9, 10] [Value.slice p1 m2 m3, Value.int IntKind.i64 n4, Value.int IntKind.i64 n5, Value.int IntKind.i64 n6, Value.bool b7, Value.bool b8,
  Value.int IntKind.i64 (IntKind.wrap IntKind.i64 (n5 - n4))] h Q)))) : unitAt P f_slices_pdqsortOrdered_string 2 [0, 1, 2, 3, 8, 9] [Value.slice p1 m2 m3, Value.int IntKind.i64 n4, Value.int IntKind.i64
  n5, Value.int IntKind.i64 n6, Value.bool b7, Value.bool b8] h Q := unit_ok (n := 400) (ann := annOf [(2, [0, 1, 2, 3, 8, 9]), (10, [0, 1, 2, 3, 8, 9, 10]), (15, [0, 1, 2, 3, 8,
  9, 10, 11, 12]), (17, [0, 1, 2, 3, 8, 9, 10, 11])]) (Eq.mp (by kernel_rfl) H)
theorem r_math_bits_Len {n1 : Int} {h : AW} {Q : Value → AW → Prop} (H : EvQ P f_math_bits_Len64 [Value.int IntKind.u64 n1] h fun v2 h3 => vInt IntKind.i64 v2 fun n4 => Q (Value.int IntKind.i64 n4)
  h3) : EvQ P f_math_bits_Len [Value.int IntKind.u64 n1] h Q := fn_ok (n := 400) (ann := annOf []) (Eq.mp (by kernel_rfl) H)
theorem r_slices_insertionSortOrdered_string {p1 : Option Addr} {m2 : Nat} {m3 : Nat} {n4 : Int} {n5 : Int} {h : AW} {Q : Value → AW → Prop} (H : unitAt P f_slices_insertionSortOrdered_string 1 [0, 1, 2, 6] [Value.slice p1 m2 m3, Value.int
  IntKind.i64 n4, Value.int IntKind.i64 n5, Value.int IntKind.i64 (IntKind.wrap IntKind.i64 (n4 + 1))] h Q) : EvQ P f_slices_insertionSortOrdered_string [Value.slice p1 m2 m3, Value.int IntKind.i64 n4, Value.int
  IntKind.i64 n5] h Q := fn_ok (n := 400) (ann := annOf [(1, [0, 1, 2, 6]), (4, [0, 1, 2, 6, 7])]) (Eq.mp (by kernel_rfl) H)
theorem r_slices_insertionSortOrdered_string_1 {p1 : Option Addr} {m2 : Nat} {m3 : Nat} {n4 : Int} {n5 : Int} {n6 : Int} {h : AW} {Q : Value → AW → Prop} (H : bC (decide (n6 < n5)) (unitAt P f_slices_insertionSortOrdered_string 4 [0, 1, 2,
  6, 7] [Value.slice p1 m2 m3, Value.int IntKind.i64 n4, Value.int IntKind.i64 n5, Value.int IntKind.i64 n6, Value.int IntKind.i64 n6] h Q) (Q (Value.tuple (Array.mk [])) h)) :
  unitAt P f_slices_insertionSortOrdered_string 1 [0, 1, 2, 6] [Value.slice p1 m2 m3, Value.int IntKind.i64 n4, Value.int IntKind.i64 n5, Value.int IntKind.i64 n6] h Q := unit_ok (n := 400) (ann := annOf [(1,
  [0, 1, 2, 6]), (4, [0, 1, 2, 6, 7])]) (Eq.mp (by kernel_rfl) H)
end Go.Proofs.YtamoepfiodgbbaaGreatDoor
end

section
/- Rules of walks, printed by a program of ours: group AStr. -/
namespace Go.Proofs.YtamoepfiodgbbaaGreatDoor
open Go.Abs
set_option maxRecDepth 100000
attribute [local irreducible] kFn kUnit EvQ unitAt
theorem r_math_bits_Len64 {n1 : Int} {h : AW} {Q : Value → AW → Prop} (H : bC (decide (n1 ≥ 4294967296)) (unitAt P f_math_bits_Len64 4 [0, 2] [Value.int IntKind.u64 (Int.fdiv n1 4294967296), Value.int
  IntKind.i64 32] h Q) (unitAt P f_math_bits_Len64 4 [0, 2] [Value.int IntKind.u64 n1, Value.int IntKind.i64 0] h Q)) : EvQ P f_math_bits_Len64 [Value.int IntKind.u64 n1] h Q := fn_ok (n := 400) (ann :=
  annOf [(4, [0, 2]), (7, [0, 2])]) (Eq.mp (by kernel_rfl) H)
theorem r_math_bits_Len64_4 {n1 : Int} {n2 : Int} {h : AW} {Q : Value → AW → Prop} (H : bC (decide (n1 ≥ 65536)) (unitAt P f_math_bits_Len64 7 [0, 2] [Value.int IntKind.u64 (Int.fdiv n1 65536),
  Value.int IntKind.i64 (IntKind.wrap IntKind.i64 (n2 + 16))] h Q) (unitAt P f_math_bits_Len64 7 [0, 2] [Value.int IntKind.u64 n1, Value.int IntKind.i64 n2] h Q)) : unitAt P f_math_bits_Len64 4 [0, 2]
  [Value.int IntKind.u64 n1, Value.int IntKind.i64 n2] h Q := unit_ok (n := 400) (ann := annOf [(4, [0, 2]), (7, [0, 2])]) (Eq.mp (by kernel_rfl) H)
theorem r_math_bits_Len64_7 {n1 : Int} {n2 : Int} {h : AW} {Q : Value → AW → Prop} (H : bC (decide (n1 ≥ 256)) (oB (natIdx (IntKind.wrap IntKind.u8 (Int.fdiv n1 256)) 256) fun m3 => oB (bAt
  (ByteArray.mk (List.toArray (List.append (List.append [0, 1, 2, 2, 3, 3, 3, 3, 4, 4, 4, 4, 4, 4, 4, 4, 5, 5, 5, 5, 5, 5, 5, 5, 5, 5, 5, 5, 5, 5, 5, 5, 6, 6, 6, 6, 6, 6, 6, 6, 6,
  6, 6, 6, 6, 6, 6, 6, 6, 6, 6, 6, 6, 6, 6, 6, 6, 6, 6, 6, 6, 6, 6, 6] [7, 7, 7, 7, 7, 7, 7, 7, 7, 7, 7, 7, 7, 7, 7, 7, 7, 7, 7, 7, 7, 7, 7, 7, 7, 7, 7, 7, 7, 7, 7, 7, 7, 7, 7, 7,
  7, 7, 7, 7, 7, 7, 7, 7, 7, 7, 7, 7, 7, 7, 7, 7, 7, 7, 7, 7, 7, 7, 7, 7, 7, 7, 7, 7]) (List.append [8, 8, 8, 8, 8, 8, 8, 8, 8, 8, 8, 8, 8, 8, 8, 8, 8, 8, 8, 8, 8, 8, 8, 8, 8, 8,
  8, 8, 8, 8, 8, 8, 8, 8, 8, 8, 8, 8, 8, 8, 8, 8, 8, 8, 8, 8, 8, 8, 8, 8, 8, 8, 8, 8, 8, 8, 8, 8, 8, 8, 8, 8, 8, 8] [8, 8, 8, 8, 8, 8, 8, 8, 8, 8, 8, 8, 8, 8, 8, 8, 8, 8, 8, 8, 8,
  8, 8, 8, 8, 8, 8, 8, 8, 8, 8, 8, 8, 8, 8, 8, 8, 8, 8, 8, 8, 8, 8, 8, 8, 8, 8, 8, 8, 8, 8, 8, 8, 8, 8, 8, 8, 8, 8, 8, 8, 8, 8, 8])))) m3) fun n4 => Q (Value.int IntKind.i64
  (IntKind.wrap IntKind.i64 (IntKind.wrap IntKind.i64 (n2 + 8) + IntKind.wrap IntKind.i64 n4))) h) (oB (natIdx (IntKind.wrap IntKind.u8 n1) 256) fun m5 => oB (bAt (ByteArray.mk
  (List.toArray (List.append (List.append [0, 1, 2, 2, 3, 3, 3, 3, 4, 4, 4, 4, 4, 4, 4, 4, 5, 5, 5, 5, 5, 5, 5, 5, 5, 5, 5, 5, 5, 5, 5, 5, 6, 6, 6, 6, 6, 6, 6, 6, 6, 6, 6, 6, 6, 6,
  6, 6, 6, 6, 6, 6, 6, 6, 6, 6, 6, 6, 6, 6, 6, 6, 6, 6] [7, 7, 7, 7, 7, 7, 7, 7, 7, 7, 7, 7, 7, 7, 7, 7, 7, 7, 7, 7, 7, 7, 7, 7, 7, 7, 7, 7, 7, 7, 7, 7, 7, 7, 7, 7, 7, 7, 7, 7, 7,
  7, 7, 7, 7, 7, 7, 7, 7, 7, 7, 7, 7, 7, 7, 7, 7, 7, 7, 7, 7, 7, 7, 7]) (List.append [8, 8, 8, 8, 8, 8, 8, 8, 8, 8, 8, 8, 8, 8, 8, 8, 8, 8, 8, 8, 8, 8, 8, 8, 8, 8, 8, 8, 8, 8, 8,
  8, 8, 8, 8, 8, 8, 8, 8, 8, 8, 8, 8, 8, 8, 8, 8, 8, 8, 8, 8, 8, 8, 8, 8, 8, 8, 8, 8, 8, 8, 8, 8, 8] [8, 8, 8, 8, 8, 8, 8, 8, 8, 8, 8, 8, 8, 8, 8, 8, 8, 8, 8, 8, 8, 8, 8, 8, 8, 8,
  8, 8, 8, 8, 8, 8, 8, 8, 8, 8, 8, 8, 8, 8, 8, 8, 8, 8, 8, 8, 8, 8, 8, 8, 8, 8, 8, 8, 8, 8, 8, 8, 8, 8, 8, 8, 8, 8])))) m5) fun n6 => Q (Value.int IntKind.i64 (IntKind.wrap
  IntKind.i64 (n2 + IntKind.wrap IntKind.i64 n6))) h)) : unitAt P f_math_bits_Len64 7 [0, 2] [Value.int IntKind.u64 n1, Value.int IntKind.i64 n2] h Q := unit_ok (n := 400) (ann := annOf [(4,
  [0, 2]), (7, [0, 2])]) (Eq.mp (by kernel_rfl) H)
end Go.Proofs.YtamoepfiodgbbaaGreatDoor
end

section
/- Rules of walks, printed by a program of ours: group NewN. -/
namespace Go.Proofs.YtamoepfiodgbbaaGreatDoor
open Go.Abs
set_option maxRecDepth 100000
theorem r_elab_New_nil {s1 : ByteArray} {h : AW} {Q : Value → AW → Prop} (H : oB (AW.wrL (AW.addVar h [Value.int IntKind.i64 0, Value.string (ByteArray.mk #[]), Value.int IntKind.i64 0,
  Value.int IntKind.i64 0]) (AW.next h) 0 [Value.int IntKind.i64 1, Value.string (ByteArray.mk #[]), Value.int IntKind.i64 0, Value.int IntKind.i64 0]) fun h2 => oB (AW.rd h2
  (AW.next h) 0) fun v3 => vInt IntKind.i64 v3 fun n4 => oB (AW.rd h2 (AW.next h) 1) fun v5 => vStr v5 fun s6 => oB (AW.rd h2 (AW.next h) 2) fun v7 => vInt IntKind.i64 v7 fun n8 =>
  oB (AW.rd h2 (AW.next h) 3) fun v9 => vInt IntKind.i64 v9 fun n10 => Q (Value.tuple (Array.mk [Value.pointer none, Value.agg (Array.mk [Value.int IntKind.i64 n4, Value.string s6,
  Value.int IntKind.i64 n8, Value.int IntKind.i64 n10])])) h2) : EvQ P f_elab_New [Value.nilFunc, Value.string s1] h Q := fn_ok (n := 400) (ann := annOf []) (Eq.mp (by kernel_rfl) H)
end Go.Proofs.YtamoepfiodgbbaaGreatDoor
end

section
/- Rules of walks, printed by a program of ours: group NewF. -/
namespace Go.Proofs.YtamoepfiodgbbaaGreatDoor
open Go.Abs
set_option maxRecDepth 100000
theorem r_elab_New_fun {s1 : ByteArray} {h : AW} {Q : Value → AW → Prop} (H : EvQ P f_path_Is [Value.string s1] (AW.addVar h [Value.int IntKind.i64 0, Value.string (ByteArray.mk #[]), Value.int
  IntKind.i64 0, Value.int IntKind.i64 0]) fun v2 h3 => vBool v2 fun b4 => bC (!b4) (oB (AW.wrL h3 (AW.next h) 0 [Value.int IntKind.i64 2, Value.string s1, Value.int IntKind.i64 0,
  Value.int IntKind.i64 0]) fun h5 => oB (AW.rd h5 (AW.next h) 0) fun v6 => vInt IntKind.i64 v6 fun n7 => oB (AW.rd h5 (AW.next h) 1) fun v8 => vStr v8 fun s9 => oB (AW.rd h5
  (AW.next h) 2) fun v10 => vInt IntKind.i64 v10 fun n11 => oB (AW.rd h5 (AW.next h) 3) fun v12 => vInt IntKind.i64 v12 fun n13 => Q (Value.tuple (Array.mk [Value.pointer none,
  Value.agg (Array.mk [Value.int IntKind.i64 n7, Value.string s9, Value.int IntKind.i64 n11, Value.int IntKind.i64 n13])])) h5) (EvQ P f_brickyardlaw15_ElabNone_fn1 [Value.string s1] h3 fun v14 h15 => vTup
  v14 fun l16 => lC l16 fun v17 l18 => vStr v17 fun s19 => lC l18 fun v20 l21 => vBool v20 fun b22 => lN l21 (bC (!b22) (oB (AW.wrL h15 (AW.next h) 0 [Value.int IntKind.i64 4,
  Value.string s1, Value.int IntKind.i64 0, Value.int IntKind.i64 0]) fun h23 => oB (AW.rd h23 (AW.next h) 0) fun v24 => vInt IntKind.i64 v24 fun n25 => oB (AW.rd h23 (AW.next h)
  1) fun v26 => vStr v26 fun s27 => oB (AW.rd h23 (AW.next h) 2) fun v28 => vInt IntKind.i64 v28 fun n29 => oB (AW.rd h23 (AW.next h) 3) fun v30 => vInt IntKind.i64 v30 fun n31 =>
  Q (Value.tuple (Array.mk [Value.pointer none, Value.agg (Array.mk [Value.int IntKind.i64 n25, Value.string s27, Value.int IntKind.i64 n29, Value.int IntKind.i64 n31])])) h23)
  (EvQ P f_p_elab_reader_file [Value.pointer (some (Addr.mk (AW.next (AW.addMap (AW.addVar (AW.addMap (AW.addMap h15)) [Value.map (some (AW.next h15)), Value.map (some (AW.next (AW.addMap h15))),
  Value.slice none 0 0, Value.slice none 0 0]))) 0 none)), Value.string s1, Value.string s19] (AW.addVar (AW.addMap (AW.addVar (AW.addMap (AW.addMap h15)) [Value.map (some (AW.next
  h15)), Value.map (some (AW.next (AW.addMap h15))), Value.slice none 0 0, Value.slice none 0 0])) [Value.func (Fn.func f_brickyardlaw15_ElabNone_fn1) (Array.mk []) (Array.mk []), Value.pointer (some
  (Addr.mk (AW.next (AW.addMap (AW.addMap h15))) 0 none)), Value.map (some (AW.next (AW.addVar (AW.addMap (AW.addMap h15)) [Value.map (some (AW.next h15)), Value.map (some (AW.next
  (AW.addMap h15))), Value.slice none 0 0, Value.slice none 0 0]))), Value.int IntKind.i64 0, Value.int IntKind.i64 0, Value.slice none 0 0, Value.int IntKind.i64 0, Value.string
  (ByteArray.mk #[]), Value.int IntKind.i64 0, Value.int IntKind.i64 0]) fun v32 h33 => vBool v32 fun b34 => bC (!b34) (oB (AW.rd h33 (AW.next (AW.addMap (AW.addVar (AW.addMap
  (AW.addMap h15)) [Value.map (some (AW.next h15)), Value.map (some (AW.next (AW.addMap h15))), Value.slice none 0 0, Value.slice none 0 0]))) 6) fun v35 => vInt IntKind.i64 v35
  fun n36 => oB (AW.rd h33 (AW.next (AW.addMap (AW.addVar (AW.addMap (AW.addMap h15)) [Value.map (some (AW.next h15)), Value.map (some (AW.next (AW.addMap h15))), Value.slice none
  0 0, Value.slice none 0 0]))) 7) fun v37 => vStr v37 fun s38 => oB (AW.rd h33 (AW.next (AW.addMap (AW.addVar (AW.addMap (AW.addMap h15)) [Value.map (some (AW.next h15)),
  Value.map (some (AW.next (AW.addMap h15))), Value.slice none 0 0, Value.slice none 0 0]))) 8) fun v39 => vInt IntKind.i64 v39 fun n40 => oB (AW.rd h33 (AW.next (AW.addMap
  (AW.addVar (AW.addMap (AW.addMap h15)) [Value.map (some (AW.next h15)), Value.map (some (AW.next (AW.addMap h15))), Value.slice none 0 0, Value.slice none 0 0]))) 9) fun v41 =>
  vInt IntKind.i64 v41 fun n42 => oB (AW.wrL h33 (AW.next h) 0 [Value.int IntKind.i64 n36, Value.string s38, Value.int IntKind.i64 n40, Value.int IntKind.i64 n42]) fun h43 => oB
  (AW.rd h43 (AW.next h) 0) fun v44 => vInt IntKind.i64 v44 fun n45 => oB (AW.rd h43 (AW.next h) 1) fun v46 => vStr v46 fun s47 => oB (AW.rd h43 (AW.next h) 2) fun v48 => vInt
  IntKind.i64 v48 fun n49 => oB (AW.rd h43 (AW.next h) 3) fun v50 => vInt IntKind.i64 v50 fun n51 => Q (Value.tuple (Array.mk [Value.pointer none, Value.agg (Array.mk [Value.int
  IntKind.i64 n45, Value.string s47, Value.int IntKind.i64 n49, Value.int IntKind.i64 n51])])) h43) (oB (AW.rd h33 (AW.next (AW.addMap (AW.addVar (AW.addMap (AW.addMap h15))
  [Value.map (some (AW.next h15)), Value.map (some (AW.next (AW.addMap h15))), Value.slice none 0 0, Value.slice none 0 0]))) 1) fun v52 => vPtr v52 fun p53 => oB (AW.wrL h33
  (AW.next h) 0 [Value.int IntKind.i64 0, Value.string (ByteArray.mk #[]), Value.int IntKind.i64 0, Value.int IntKind.i64 0]) fun h54 => oB (AW.rd h54 (AW.next h) 0) fun v55 =>
  vInt IntKind.i64 v55 fun n56 => oB (AW.rd h54 (AW.next h) 1) fun v57 => vStr v57 fun s58 => oB (AW.rd h54 (AW.next h) 2) fun v59 => vInt IntKind.i64 v59 fun n60 => oB (AW.rd h54
  (AW.next h) 3) fun v61 => vInt IntKind.i64 v61 fun n62 => Q (Value.tuple (Array.mk [Value.pointer p53, Value.agg (Array.mk [Value.int IntKind.i64 n56, Value.string s58, Value.int
  IntKind.i64 n60, Value.int IntKind.i64 n62])])) h54))))) : EvQ P f_elab_New [Value.func (Fn.func f_brickyardlaw15_ElabNone_fn1) (Array.mk []) (Array.mk []), Value.string s1] h Q := fn_ok (n := 400) (ann :=
  annOf []) (Eq.mp (by kernel_rfl) H)
end Go.Proofs.YtamoepfiodgbbaaGreatDoor
end
