/- A deterministic heap for the model, proved sound, and walks of the program over it: part 6. No condition. -/
import Derived.Test.YtamoepfiodgbbaaGreatDoorAb5
import Derived.Test.YtamoepfiodgbbaaGreatDoorProg
set_option linter.unusedVariables false
set_option linter.unusedSimpArgs false
set_option linter.unusedSectionVars false
section
/- Names of functions and types. -/
namespace Go.Proofs.YtamoepfiodgbbaaGreatDoor.E
open Go.Abs
noncomputable abbrev P : Program := Tryz.prog
def f_c3 : Nat := 9
def f_bn : Nat := 10
def f_b4 : Nat := 11
def f_c2 : Nat := 12
def f_dw : Nat := 14
def f_bx : Nat := 15
def f_cb : Nat := 17
def f_b0 : Nat := 18
def f_b1 : Nat := 19
def f_cc : Nat := 20
def f_dl : Nat := 22
def f_bj : Nat := 28
def f_a2 : Nat := 30
def f_c0 : Nat := 34
def f_cg : Nat := 35
def f_b5 : Nat := 36
def f_b7 : Nat := 37
def f_dg : Nat := 38
def f_dh : Nat := 39
def f_df : Nat := 40
def f_bz : Nat := 41
def f_e3 : Nat := 42
def f_dy : Nat := 43
def f_d0 : Nat := 45
def f_e6 : Nat := 46
def f_bq : Nat := 47
def f_br : Nat := 48
def f_f4 : Nat := 49
def f_dt : Nat := 50
def f_fa : Nat := 53
def f_a7 : Nat := 54
def f_fk : Nat := 55
def f_ak : Nat := 58
def f_ab : Nat := 59
def f_c4 : Nat := 66
def f_e7 : Nat := 67
def f_cf : Nat := 68
def f_cp : Nat := 69
def f_bu : Nat := 70
def f_cs : Nat := 71
def f_cu : Nat := 72
def f_di : Nat := 73
def f_f3 : Nat := 74
def f_e0 : Nat := 76
def f_dv : Nat := 77
def f_e1 : Nat := 78
def f_e5 : Nat := 79
def f_d5 : Nat := 80
def f_d8 : Nat := 81
def f_d6 : Nat := 82
def f_d9 : Nat := 83
def f_bo : Nat := 84
def f_dn : Nat := 85
def f_do : Nat := 86
def f_dk : Nat := 87
def f_a3 : Nat := 88
def f_fr : Nat := 89
def f_ds : Nat := 90
def f_db : Nat := 91
def f_a1 : Nat := 92
def f_fm : Nat := 93
def f_ad : Nat := 98
def f_aj : Nat := 99
def f_ea : Nat := 103
def f_ck : Nat := 104
def f_f2 : Nat := 105
def f_cr : Nat := 106
def f_a0 : Nat := 107
def f_fy : Nat := 108
def f_b9 : Nat := 109
def f_f8 : Nat := 110
def f_e8 : Nat := 112
def f_e2 : Nat := 113
def f_f6 : Nat := 114
def f_f9 : Nat := 115
def f_e4 : Nat := 116
def f_f7 : Nat := 117
def f_fh : Nat := 118
def f_a4 : Nat := 119
def f_a5 : Nat := 120
def f_am : Nat := 121
def f_fv : Nat := 122
def f_dj : Nat := 123
def f_af : Nat := 124
def f_fl : Nat := 125
def f_f5 : Nat := 136
def f_ct : Nat := 137
def f_dd : Nat := 138
def f_de : Nat := 139
def f_ft : Nat := 140
def f_fw : Nat := 141
def f_fu : Nat := 142
def f_fg : Nat := 143
def f_ao : Nat := 144
def f_ai : Nat := 145
def f_bd : Nat := 146
def f_bf : Nat := 149
def f_ek : Nat := 150
def f_fs : Nat := 164
def f_bb : Nat := 165
def ty_int : Nat := 3
def ty_bool : Nat := 4
def ty_uint8 : Nat := 5
def ty_string : Nat := 9
def ty_sl_string : Nat := 22
def ty_brickyardref15_File : Nat := 34
def ty_sl_brickyardref15_File : Nat := 35
def ty_sl_api_RuleItem : Nat := 41
def ty_sl_api_Word : Nat := 44
def ty_sl_api_Line : Nat := 45
def ty_api_RuleItem : Nat := 47
def ty_api_Line : Nat := 53
def ty_sl_uint8 : Nat := 58
def ty_sl_api_Stmt : Nat := 60
def ty_api_Job : Nat := 62
def ty_api_Stmt : Nat := 66
def ty_map_string_api_Job : Nat := 68
def ty_map_string_string : Nat := 69
def ty_sl_elab_pattern : Nat := 70
def ty_map_string_sl_string : Nat := 88
def ty_p_strings_Builder : Nat := 93
def ty_strings_Builder : Nat := 95
def ty_api_Word : Nat := 107
def ty_sl_sl_string : Nat := 117
def ty_elab_pattern : Nat := 119
def ty_sl_elab_text : Nat := 140
def ty_p_uint8 : Nat := 145
def ty_elab_text : Nat := 169
def ty_unsafe_Pointer : Nat := 170
theorem ti_ty_uint8 : tiOf P ty_uint8 = some (TI.mk (TypeDesc.int IntKind.u8) false 1 1 (some (Value.int IntKind.u8 (Int.ofNat 0)))) := by kernel_rfl
theorem ti_ty_string : tiOf P ty_string = some (TI.mk TypeDesc.string false 1 16 (some (Value.string (ByteArray.mk (Array.mk []))))) := by kernel_rfl
theorem ti_ty_sl_string : tiOf P ty_sl_string = some (TI.mk (TypeDesc.slice ty_string) false 1 24 (some (Value.slice none 0 0))) := by kernel_rfl
theorem ti_ty_brickyardref15_File : tiOf P ty_brickyardref15_File = some (TI.mk (TypeDesc.struct (Array.mk [Field.mk "Path" ty_string 0 false "" "" 0, Field.mk "Text" ty_string 1 false "" "" 16])) true 2 32 (some (Value.agg (Array.mk [Value.string (ByteArray.mk (Array.mk [])), Value.string (ByteArray.mk (Array.mk []))])))) := by kernel_rfl
theorem ti_ty_sl_brickyardref15_File : tiOf P ty_sl_brickyardref15_File = some (TI.mk (TypeDesc.slice ty_brickyardref15_File) false 1 24 (some (Value.slice none 0 0))) := by kernel_rfl
theorem ti_ty_sl_api_RuleItem : tiOf P ty_sl_api_RuleItem = some (TI.mk (TypeDesc.slice ty_api_RuleItem) false 1 24 (some (Value.slice none 0 0))) := by kernel_rfl
theorem ti_ty_sl_api_Word : tiOf P ty_sl_api_Word = some (TI.mk (TypeDesc.slice ty_api_Word) false 1 24 (some (Value.slice none 0 0))) := by kernel_rfl
theorem ti_ty_sl_api_Line : tiOf P ty_sl_api_Line = some (TI.mk (TypeDesc.slice ty_api_Line) false 1 24 (some (Value.slice none 0 0))) := by kernel_rfl
theorem ti_ty_api_RuleItem : tiOf P ty_api_RuleItem = some (TI.mk (TypeDesc.struct (Array.mk [Field.mk "Kind" ty_int 0 false "" "" 0, Field.mk "Line" ty_int 1 false "" "" 8, Field.mk "Name" ty_string 2 false "" "" 16, Field.mk "Targets" ty_sl_api_Word 3 false "" "" 32, Field.mk "Words" ty_sl_api_Word 4 false "" "" 56, Field.mk "Code" ty_sl_api_Line 5 false "" "" 80])) true 6 104 (some (Value.agg (Array.mk [Value.int IntKind.i64 (Int.ofNat 0), Value.int IntKind.i64 (Int.ofNat 0), Value.string (ByteArray.mk (Array.mk [])), Value.slice none 0 0, Value.slice none 0 0, Value.slice none 0 0])))) := by kernel_rfl
theorem ti_ty_api_Line : tiOf P ty_api_Line = some (TI.mk (TypeDesc.struct (Array.mk [Field.mk "Number" ty_int 0 false "" "" 0, Field.mk "Indented" ty_bool 1 false "" "" 8, Field.mk "Words" ty_sl_api_Word 2 false "" "" 16])) true 3 40 (some (Value.agg (Array.mk [Value.int IntKind.i64 (Int.ofNat 0), Value.bool false, Value.slice none 0 0])))) := by kernel_rfl
theorem ti_ty_sl_uint8 : tiOf P ty_sl_uint8 = some (TI.mk (TypeDesc.slice ty_uint8) false 1 24 (some (Value.slice none 0 0))) := by kernel_rfl
theorem ti_ty_sl_api_Stmt : tiOf P ty_sl_api_Stmt = some (TI.mk (TypeDesc.slice ty_api_Stmt) false 1 24 (some (Value.slice none 0 0))) := by kernel_rfl
theorem ti_ty_api_Stmt : tiOf P ty_api_Stmt = some (TI.mk (TypeDesc.struct (Array.mk [Field.mk "Op" ty_int 0 false "" "" 0, Field.mk "Args" ty_sl_string 1 false "" "" 8, Field.mk "N" ty_int 2 false "" "" 32, Field.mk "Body" ty_sl_api_Stmt 3 false "" "" 40])) true 4 64 (some (Value.agg (Array.mk [Value.int IntKind.i64 (Int.ofNat 0), Value.slice none 0 0, Value.int IntKind.i64 (Int.ofNat 0), Value.slice none 0 0])))) := by kernel_rfl
theorem ti_ty_map_string_api_Job : tiOf P ty_map_string_api_Job = some (TI.mk (TypeDesc.map ty_string ty_api_Job) false 1 8 (some (Value.map none))) := by kernel_rfl
theorem ti_ty_map_string_string : tiOf P ty_map_string_string = some (TI.mk (TypeDesc.map ty_string ty_string) false 1 8 (some (Value.map none))) := by kernel_rfl
theorem ti_ty_sl_elab_pattern : tiOf P ty_sl_elab_pattern = some (TI.mk (TypeDesc.slice ty_elab_pattern) false 1 24 (some (Value.slice none 0 0))) := by kernel_rfl
theorem ti_ty_map_string_sl_string : tiOf P ty_map_string_sl_string = some (TI.mk (TypeDesc.map ty_string ty_sl_string) false 1 8 (some (Value.map none))) := by kernel_rfl
theorem ti_ty_api_Word : tiOf P ty_api_Word = some (TI.mk (TypeDesc.struct (Array.mk [Field.mk "Text" ty_string 0 false "" "" 0, Field.mk "Line" ty_int 1 false "" "" 16, Field.mk "Col" ty_int 2 false "" "" 24, Field.mk "Quoted" ty_bool 3 false "" "" 32, Field.mk "Mark" ty_bool 4 false "" "" 33])) true 5 40 (some (Value.agg (Array.mk [Value.string (ByteArray.mk (Array.mk [])), Value.int IntKind.i64 (Int.ofNat 0), Value.int IntKind.i64 (Int.ofNat 0), Value.bool false, Value.bool false])))) := by kernel_rfl
theorem ti_ty_sl_sl_string : tiOf P ty_sl_sl_string = some (TI.mk (TypeDesc.slice ty_sl_string) false 1 24 (some (Value.slice none 0 0))) := by kernel_rfl
theorem ti_ty_elab_pattern : tiOf P ty_elab_pattern = some (TI.mk (TypeDesc.struct (Array.mk [Field.mk "target" ty_string 0 false "" "brickyard/elab" 0, Field.mk "deps" ty_sl_string 1 false "" "brickyard/elab" 16, Field.mk "code" ty_sl_sl_string 2 false "" "brickyard/elab" 40])) true 3 64 (some (Value.agg (Array.mk [Value.string (ByteArray.mk (Array.mk [])), Value.slice none 0 0, Value.slice none 0 0])))) := by kernel_rfl
theorem ti_ty_sl_elab_text : tiOf P ty_sl_elab_text = some (TI.mk (TypeDesc.slice ty_elab_text) false 1 24 (some (Value.slice none 0 0))) := by kernel_rfl
theorem ti_ty_elab_text : tiOf P ty_elab_text = some (TI.mk (TypeDesc.struct (Array.mk [Field.mk "s" ty_string 0 false "" "brickyard/elab" 0, Field.mk "from" ty_api_Word 1 false "" "brickyard/elab" 16])) true 6 56 (some (Value.agg (Array.mk [Value.string (ByteArray.mk (Array.mk [])), Value.string (ByteArray.mk (Array.mk [])), Value.int IntKind.i64 (Int.ofNat 0), Value.int IntKind.i64 (Int.ofNat 0), Value.bool false, Value.bool false])))) := by kernel_rfl
end Go.Proofs.YtamoepfiodgbbaaGreatDoor.E
end

section
namespace Go.Proofs.YtamoepfiodgbbaaGreatDoor.E
open Go.Abs
end Go.Proofs.YtamoepfiodgbbaaGreatDoor.E
end

section
/- Rules of walks, printed by a program of ours: the law's own function. -/
namespace Go.Proofs.YtamoepfiodgbbaaGreatDoor.E
open Go.Abs
set_option maxRecDepth 100000
variable {h : AW} {Q : Value → AW → Prop}
set_option maxHeartbeats 4000000
def f_ap : Nat := 5
def f_b6 : Nat := 8
attribute [local irreducible] kFn kUnit EvQ unitAt kOwn RunOwn
theorem r_ap (H : EvQ P f_b6 [] h fun v1 h2 => vBool v1 fun b3 => bC (!b3) (Q (.bool false) h2) (unitAt P f_ap 6 [1, 2, 3, 4] [.func
  (Fn.func f_b0) (Array.mk []) (Array.mk []), .string (ByteArray.mk #[]), .string (ByteArray.mk #[]), .int .i64 0] h2 Q)) : RunOwn P f_ap [] h Q := oo [(6,[1,2,3,4]),(10,[1,2,3,5]),(14,[1,2,3,6]),(15,[1,2,3,6,7]),(16,[1,2,3,6,7,8,9]),(18,[1,2,3,6,7,8]),(19,[1,2,3,6,7,8,10]),(20,[1,2,3,6,7,8,10,11,12]),(21,[1,2,3,6,7,10,11,12,13,14]),(23,[1,2,3,6,7])] H (by kernel_rfl)
theorem r_az {s1 s2 : ByteArray} {n3 : Int} (H : bC (decide (n3 < 64)) (bC (Nat.ble (ByteArray.size s1 + 10) 9223372036854775807)
  (unitAt P f_ap 6 [1, 2, 3, 4] [.func (Fn.func f_b0) (Array.mk []) (Array.mk []), .string (s1 ++ ByteArray.mk #[105, 110, 99, 108, 117, 100, 101, 32, 120, 10]),
  .string s2, .int .i64 (IntKind.wrap .i64 (n3 + 1))] h Q) False) (unitAt P f_ap 10 [1, 2, 3, 5] [.func (Fn.func f_b0) (Array.mk []) (Array.mk []),
  .string s1, .string s2, .int .i64 0] h Q)) : unitAt P f_ap 6 [1, 2, 3, 4] [.func (Fn.func f_b0) (Array.mk []) (Array.mk []), .string s1,
  .string s2, .int .i64 n3] h Q := uo [(6,[1,2,3,4]),(10,[1,2,3,5]),(14,[1,2,3,6]),(15,[1,2,3,6,7]),(16,[1,2,3,6,7,8,9]),(18,[1,2,3,6,7,8]),(19,[1,2,3,6,7,8,10]),(20,[1,2,3,6,7,8,10,11,12]),(21,[1,2,3,6,7,10,11,12,13,14]),(23,[1,2,3,6,7])] H (by kernel_rfl)
theorem r_aq {s1 s2 : ByteArray} {n3 : Int} (H : bC (decide (n3 < 256)) (oB (AW.bytes (AW.addVar h [.int .u8
  (IntKind.wrap .u8 (IntKind.wrap .i64 (48 + IntKind.wrap .i64 (Int.tdiv n3 100)))), .int .u8 (IntKind.wrap .u8 (IntKind.wrap .i64
  (48 + Int.tmod (IntKind.wrap .i64 (Int.tdiv n3 10)) 10))), .int .u8 (IntKind.wrap .u8 (IntKind.wrap .i64 (48 + Int.tmod n3 10)))]) (some (Addr.mk
  (AW.next h) 0 none)) 3) fun s4 => bC (Nat.ble (6 + ByteArray.size s4) 9223372036854775807) (bC (Nat.ble (ByteArray.size (ByteArray.mk #[114, 117, 108, 101, 32, 102] ++ s4) + 3)
  9223372036854775807) (bC (Nat.ble (ByteArray.size s2 + ByteArray.size (ByteArray.mk #[114, 117, 108, 101, 32, 102] ++ s4 ++ ByteArray.mk #[32, 58, 10])) 9223372036854775807)
  (unitAt P f_ap 10 [1, 2, 3, 5] [.func (Fn.func f_b0) (Array.mk []) (Array.mk []), .string s1, .string (s2 ++ (ByteArray.mk #[114, 117, 108, 101, 32, 102] ++ s4 ++
  ByteArray.mk #[32, 58, 10])), .int .i64 (IntKind.wrap .i64 (n3 + 1))] (AW.addVar h [.int .u8 (IntKind.wrap .u8 (IntKind.wrap .i64 (48
  + IntKind.wrap .i64 (Int.tdiv n3 100)))), .int .u8 (IntKind.wrap .u8 (IntKind.wrap .i64 (48 + Int.tmod (IntKind.wrap .i64 (Int.tdiv n3
  10)) 10))), .int .u8 (IntKind.wrap .u8 (IntKind.wrap .i64 (48 + Int.tmod n3 10)))]) Q) False) False) False) (unitAt P f_ap 14 [1, 2, 3, 6] [.func
  (Fn.func f_b0) (Array.mk []) (Array.mk []), .string s1, .string s2, .func (Fn.func f_b1) (Array.mk []) (Array.mk [])] h Q)) : unitAt P f_ap 10 [1, 2, 3, 5]
  [.func (Fn.func f_b0) (Array.mk []) (Array.mk []), .string s1, .string s2, .int .i64 n3] h Q := uo [(6,[1,2,3,4]),(10,[1,2,3,5]),(14,[1,2,3,6]),(15,[1,2,3,6,7]),(16,[1,2,3,6,7,8,9]),(18,[1,2,3,6,7,8]),(19,[1,2,3,6,7,8,10]),(20,[1,2,3,6,7,8,10,11,12]),(21,[1,2,3,6,7,10,11,12,13,14]),(23,[1,2,3,6,7])] H (by kernel_rfl)
theorem r_ar {s1 s2 : ByteArray} (H : oB (AW.wrL (AW.addVar h [.int .i64 0, .string (ByteArray.mk #[]),
  .int .i64 0, .int .i64 0]) (AW.next h) 0 [.int .i64 0, .string (ByteArray.mk #[]), .int .i64 0, .int .i64 0]) fun
  h3 => unitAt P f_ap 15 [1, 2, 3, 6, 7] [.func (Fn.func f_b0) (Array.mk []) (Array.mk []), .string s1, .string s2, .func (Fn.func f_b1) (Array.mk []) (Array.mk
  []), .pointer (some ⟨(AW.next h), 0, none⟩)] h3 Q) : unitAt P f_ap 14 [1, 2, 3, 6] [.func (Fn.func f_b0) (Array.mk []) (Array.mk []), .string s1, .string
  s2, .func (Fn.func f_b1) (Array.mk []) (Array.mk [])] h Q := uo [(6,[1,2,3,4]),(10,[1,2,3,5]),(14,[1,2,3,6]),(15,[1,2,3,6,7]),(16,[1,2,3,6,7,8,9]),(18,[1,2,3,6,7,8]),(19,[1,2,3,6,7,8,10]),(20,[1,2,3,6,7,8,10,11,12]),(21,[1,2,3,6,7,10,11,12,13,14]),(23,[1,2,3,6,7])] H (by kernel_rfl)
theorem r_as {s1 s2 : ByteArray} {m3 : Nat} (H : EvQ P f_b4 [.slice (some ⟨(AW.next h), 0, none⟩) 2 2] (AW.addVar h
  [.string (ByteArray.mk #[114]), .string (ByteArray.mk (List.toArray (List.append [105, 110, 99, 108, 117, 100, 101, 32, 120, 10, 105, 110, 99, 108, 117, 100, 101, 32,
  120, 10, 114, 117, 108, 101, 32, 97, 37, 32, 58, 32, 111, 110, 101, 10, 114, 117, 108, 101, 32] [37, 98, 32, 58, 32, 116, 119, 111, 10, 114, 117, 108, 101, 32, 99, 32, 58, 10, 9,
  116, 101, 120, 116, 32, 36, 36, 32, 36, 36, 120, 10, 9, 119, 114, 105, 116, 101, 32, 99, 10]))), .string (ByteArray.mk #[120]), .string (ByteArray.mk #[])]) fun v4 h5
  => EvQ P f_bn [v4, .string (ByteArray.mk #[114])] h5 fun v6 h7 => vTup v6 fun l8 => lC l8 fun v9 l10 => vPtr v9 fun p11 => lC l10 fun v12 l13 => vAgg v12 fun l14 => lC l14
  fun v15 l16 => vInt .i64 v15 fun n17 => lC l16 fun v18 l19 => vStr v18 fun s20 => lC l19 fun v21 l22 => vInt .i64 v21 fun n23 => lC l22 fun v24 l25 => vInt
  .i64 v24 fun n26 => lN l25 (lN l13 (oB (AW.wrL (AW.addVar h7 [.int .i64 0, .string (ByteArray.mk #[]), .int .i64 0, .int .i64 0])
  (AW.next h7) 0 [.int .i64 n17, .string s20, .int .i64 n23, .int .i64 n26]) fun h27 => unitAt P f_ap 16 [1, 2, 3, 6, 7, 8, 9] [.func
  (Fn.func f_b0) (Array.mk []) (Array.mk []), .string s1, .string s2, .func (Fn.func f_b1) (Array.mk []) (Array.mk []), .pointer (some ⟨m3, 0, none⟩),
  .pointer p11, .pointer (some ⟨(AW.next h7), 0, none⟩)] h27 Q))) : unitAt P f_ap 15 [1, 2, 3, 6, 7] [.func (Fn.func f_b0) (Array.mk []) (Array.mk []),
  .string s1, .string s2, .func (Fn.func f_b1) (Array.mk []) (Array.mk []), .pointer (some ⟨m3, 0, none⟩)] h Q := uo [(6,[1,2,3,4]),(10,[1,2,3,5]),(14,[1,2,3,6]),(15,[1,2,3,6,7]),(16,[1,2,3,6,7,8,9]),(18,[1,2,3,6,7,8]),(19,[1,2,3,6,7,8,10]),(20,[1,2,3,6,7,8,10,11,12]),(21,[1,2,3,6,7,10,11,12,13,14]),(23,[1,2,3,6,7])] H (by kernel_rfl)
theorem r_at {s1 s2 : ByteArray} {m3 : Nat} {p4 : Option Addr} {m5 : Nat} (H : oB (AW.rd h m5 0) fun v6 => vInt .i64 v6
  fun n7 => oB (AW.rd h m5 1) fun v8 => vStr v8 fun s9 => oB (AW.rd h m5 2) fun v10 => vInt .i64 v10 fun n11 => oB (AW.rd h m5 3) fun v12 => vInt .i64 v12 fun n13 =>
  oB (AW.rd h m3 0) fun v14 => vInt .i64 v14 fun n15 => oB (AW.rd h m3 1) fun v16 => vStr v16 fun s17 => oB (AW.rd h m3 2) fun v18 => vInt .i64 v18 fun n19 => oB
  (AW.rd h m3 3) fun v20 => vInt .i64 v20 fun n21 => bC (!(n7 == n15 && (bEq s9 s17 && (n11 == n19 && (n13 == n21 && true))))) (Q (.bool false) h) (unitAt P f_ap 18 [1,
  2, 3, 6, 7, 8] [.func (Fn.func f_b0) (Array.mk []) (Array.mk []), .string s1, .string s2, .func (Fn.func f_b1) (Array.mk []) (Array.mk []), .pointer
  (some ⟨m3, 0, none⟩), .pointer p4] h Q)) : unitAt P f_ap 16 [1, 2, 3, 6, 7, 8, 9] [.func (Fn.func f_b0) (Array.mk []) (Array.mk []), .string s1, .string
  s2, .func (Fn.func f_b1) (Array.mk []) (Array.mk []), .pointer (some ⟨m3, 0, none⟩), .pointer p4, .pointer (some ⟨m5, 0, none⟩)] h Q := uo [(6,[1,2,3,4]),(10,[1,2,3,5]),(14,[1,2,3,6]),(15,[1,2,3,6,7]),(16,[1,2,3,6,7,8,9]),(18,[1,2,3,6,7,8]),(19,[1,2,3,6,7,8,10]),(20,[1,2,3,6,7,8,10,11,12]),(21,[1,2,3,6,7,10,11,12,13,14]),(23,[1,2,3,6,7])] H (by kernel_rfl)
theorem r_au {s1 s2 : ByteArray} {m3 : Nat} {p4 : Option Addr} (H : EvQ P f_cb [.pointer p4] h fun v5 h6 => vSl v5 fun p7 m8
  m9 => unitAt P f_ap 19 [1, 2, 3, 6, 7, 8, 10] [.func (Fn.func f_b0) (Array.mk []) (Array.mk []), .string s1, .string s2, .func (Fn.func f_b1) (Array.mk [])
  (Array.mk []), .pointer (some ⟨m3, 0, none⟩), .pointer p4, .slice p7 m8 m9] h6 Q) : unitAt P f_ap 18 [1, 2, 3, 6, 7, 8] [.func (Fn.func f_b0) (Array.mk
  []) (Array.mk []), .string s1, .string s2, .func (Fn.func f_b1) (Array.mk []) (Array.mk []), .pointer (some ⟨m3, 0, none⟩), .pointer p4] h Q := uo [(6,[1,2,3,4]),(10,[1,2,3,5]),(14,[1,2,3,6]),(15,[1,2,3,6,7]),(16,[1,2,3,6,7,8,9]),(18,[1,2,3,6,7,8]),(19,[1,2,3,6,7,8,10]),(20,[1,2,3,6,7,8,10,11,12]),(21,[1,2,3,6,7,10,11,12,13,14]),(23,[1,2,3,6,7])] H (by kernel_rfl)
theorem r_av {s1 s2 : ByteArray} {m3 : Nat} {p4 : Option Addr} {p5 : Option Addr} {m6 m7 : Nat} (H : EvQ P f_cc
  [.pointer p4, .string (ByteArray.mk #[97, 98])] h fun v8 h9 => vTup v8 fun l10 => lC l10 fun v11 l12 => vAgg v11 fun l13 => lC l13 fun v14 l15 => vStr v14 fun s16 => lC
  l15 fun v17 l18 => vSl v17 fun p19 m20 m21 => lC l18 fun v22 l23 => vSl v22 fun p24 m25 m26 => lC l23 fun v27 l28 => vSl v27 fun p29 m30 m31 => lN l28 (lC l12 fun v32 l33 =>
  vBool v32 fun b34 => lN l33 (oB (AW.wrL (AW.addVar h9 [.string (ByteArray.mk #[]), .slice none 0 0, .slice none 0 0, .slice none 0 0]) (AW.next h9) 0
  [.string s16, .slice p19 m20 m21, .slice p24 m25 m26, .slice p29 m30 m31]) fun h35 => unitAt P f_ap 20 [1, 2, 3, 6, 7, 8, 10, 11, 12] [.func (Fn.func
  f_b0) (Array.mk []) (Array.mk []), .string s1, .string s2, .func (Fn.func f_b1) (Array.mk []) (Array.mk []), .pointer (some ⟨m3, 0, none⟩),
  .pointer p4, .slice p5 m6 m7, .pointer (some ⟨(AW.next h9), 0, none⟩), .bool b34] h35 Q))) : unitAt P f_ap 19 [1, 2, 3, 6, 7, 8, 10] [.func (Fn.func
  f_b0) (Array.mk []) (Array.mk []), .string s1, .string s2, .func (Fn.func f_b1) (Array.mk []) (Array.mk []), .pointer (some ⟨m3, 0, none⟩),
  .pointer p4, .slice p5 m6 m7] h Q := uo [(6,[1,2,3,4]),(10,[1,2,3,5]),(14,[1,2,3,6]),(15,[1,2,3,6,7]),(16,[1,2,3,6,7,8,9]),(18,[1,2,3,6,7,8]),(19,[1,2,3,6,7,8,10]),(20,[1,2,3,6,7,8,10,11,12]),(21,[1,2,3,6,7,10,11,12,13,14]),(23,[1,2,3,6,7])] H (by kernel_rfl)
theorem r_aw {s1 s2 : ByteArray} {m3 : Nat} {p4 : Option Addr} {p5 : Option Addr} {m6 m7 m8 : Nat} {b9 : Bool} (H
  : EvQ P f_cc [.pointer p4, .string (ByteArray.mk #[99])] h fun v10 h11 => vTup v10 fun l12 => lC l12 fun v13 l14 => vAgg v13 fun l15 => lC l15 fun v16 l17 => vStr v16
  fun s18 => lC l17 fun v19 l20 => vSl v19 fun p21 m22 m23 => lC l20 fun v24 l25 => vSl v24 fun p26 m27 m28 => lC l25 fun v29 l30 => vSl v29 fun p31 m32 m33 => lN l30 (lC l14 fun
  v34 l35 => vBool v34 fun b36 => lN l35 (oB (AW.wrL (AW.addVar h11 [.string (ByteArray.mk #[]), .slice none 0 0, .slice none 0 0, .slice none 0 0]) (AW.next
  h11) 0 [.string s18, .slice p21 m22 m23, .slice p26 m27 m28, .slice p31 m32 m33]) fun h37 => unitAt P f_ap 21 [1, 2, 3, 6, 7, 10, 11, 12, 13, 14] [.func
  (Fn.func f_b0) (Array.mk []) (Array.mk []), .string s1, .string s2, .func (Fn.func f_b1) (Array.mk []) (Array.mk []), .pointer (some ⟨m3, 0, none⟩),
  .slice p5 m6 m7, .pointer (some ⟨m8, 0, none⟩), .bool b9, .pointer (some ⟨(AW.next h11), 0, none⟩), .bool b36] h37 Q))) : unitAt P f_ap 20 [1,
  2, 3, 6, 7, 8, 10, 11, 12] [.func (Fn.func f_b0) (Array.mk []) (Array.mk []), .string s1, .string s2, .func (Fn.func f_b1) (Array.mk []) (Array.mk []),
  .pointer (some ⟨m3, 0, none⟩), .pointer p4, .slice p5 m6 m7, .pointer (some ⟨m8, 0, none⟩), .bool b9] h Q := uo [(6,[1,2,3,4]),(10,[1,2,3,5]),(14,[1,2,3,6]),(15,[1,2,3,6,7]),(16,[1,2,3,6,7,8,9]),(18,[1,2,3,6,7,8]),(19,[1,2,3,6,7,8,10]),(20,[1,2,3,6,7,8,10,11,12]),(21,[1,2,3,6,7,10,11,12,13,14]),(23,[1,2,3,6,7])] H (by kernel_rfl)
theorem r_ax {s1 s2 : ByteArray} {m3 : Nat} {p4 : Option Addr} {m5 m6 m7 : Nat} {b8 : Bool} {m9 : Nat} {b10 : Bool} (H : bC ((↑m5 : Int) != 2) (Q (.bool false) h) (aP p4 fun m11 m12 => oB (natIdx 0 m5) fun m13 => oB (AW.rd h m11 (m12 + m13 * 1)) fun v14 => vStr v14 fun s15 => bC
  (!bEq s15 (ByteArray.mk #[114])) (Q (.bool false) h) (aP p4 fun m16 m17 => oB (natIdx 1 m5) fun m18 => oB (AW.rd h m16 (m17 + m18 * 1)) fun v19 => vStr v19 fun s20 => bC
  (!bEq s20 (ByteArray.mk #[120])) (Q (.bool false) h) (bC (!b8) (Q (.bool false) h) (oB (AW.rd h m7 2) fun v21 => vSl v21 fun p22 m23 m24 => bC ((↑m23 : Int) != 1) (Q
  (.bool false) h) (oB (AW.rd h m7 2) fun v25 => vSl v25 fun p26 m27 m28 => aP p26 fun m29 m30 => oB (natIdx 0 m27) fun m31 => oB (AW.rd h m29 (m30 + m31 * 1)) fun v32 => vStr
  v32 fun s33 => bC (!bEq s33 (ByteArray.mk #[111, 110, 101])) (Q (.bool false) h) (bC (!b10) (Q (.bool false) h) (oB (AW.rd h m9 3) fun v34 => vSl v34 fun p35 m36 m37 =>
  bC ((↑m36 : Int) != 2) (Q (.bool false) h) (oB (AW.rd h m9 3) fun v38 => vSl v38 fun p39 m40 m41 => aP p39 fun m42 m43 => oB (natIdx 0 m40) fun m44 => oB (AW.rd h m42 (m43 +
  m44 * 4 + 1)) fun v45 => vSl v45 fun p46 m47 m48 => bC ((↑m47 : Int) != 2) (Q (.bool false) h) (oB (AW.rd h m9 3) fun v49 => vSl v49 fun p50 m51 m52 => aP p50 fun m53 m54 =>
  oB (natIdx 0 m51) fun m55 => oB (AW.rd h m53 (m54 + m55 * 4 + 1)) fun v56 => vSl v56 fun p57 m58 m59 => aP p57 fun m60 m61 => oB (natIdx 0 m58) fun m62 => oB (AW.rd h m60 (m61 +
  m62 * 1)) fun v63 => vStr v63 fun s64 => bC (!bEq s64 (ByteArray.mk #[36])) (Q (.bool false) h) (oB (AW.rd h m9 3) fun v65 => vSl v65 fun p66 m67 m68 => aP p66 fun m69 m70
  => oB (natIdx 0 m67) fun m71 => oB (AW.rd h m69 (m70 + m71 * 4 + 1)) fun v72 => vSl v72 fun p73 m74 m75 => aP p73 fun m76 m77 => oB (natIdx 1 m74) fun m78 => oB (AW.rd h m76 (m77
  + m78 * 1)) fun v79 => vStr v79 fun s80 => bC (!bEq s80 (ByteArray.mk #[36, 120])) (Q (.bool false) h) (unitAt P f_ap 23 [1, 2, 3, 6, 7] [.func (Fn.func f_b0) (Array.mk
  []) (Array.mk []), .string s1, .string s2, .func (Fn.func f_b1) (Array.mk []) (Array.mk []), .pointer (some ⟨m3, 0, none⟩)] h Q)))))))))))) : unitAt P
  f_ap 21 [1, 2, 3, 6, 7, 10, 11, 12, 13, 14] [.func (Fn.func f_b0) (Array.mk []) (Array.mk []), .string s1, .string s2, .func (Fn.func f_b1) (Array.mk [])
  (Array.mk []), .pointer (some ⟨m3, 0, none⟩), .slice p4 m5 m6, .pointer (some ⟨m7, 0, none⟩), .bool b8, .pointer (some ⟨m9, 0, none⟩),
  .bool b10] h Q := uo [(6,[1,2,3,4]),(10,[1,2,3,5]),(14,[1,2,3,6]),(15,[1,2,3,6,7]),(16,[1,2,3,6,7,8,9]),(18,[1,2,3,6,7,8]),(19,[1,2,3,6,7,8,10]),(20,[1,2,3,6,7,8,10,11,12]),(21,[1,2,3,6,7,10,11,12,13,14]),(23,[1,2,3,6,7])] H (by kernel_rfl)
theorem r_ay {s1 s2 : ByteArray} {m3 : Nat} (H : EvQ P f_b0 [.string s1] h fun v4 h5 => vAgg v4 fun l6 => lC l6 fun v7 l8 =>
  vInt .i64 v7 fun n9 => lC l8 fun v10 l11 => vStr v10 fun s12 => lC l11 fun v13 l14 => vInt .i64 v13 fun n15 => lC l14 fun v16 l17 => vInt .i64 v16 fun n18 =>
  lN l17 (oB (AW.rd h5 m3 0) fun v19 => vInt .i64 v19 fun n20 => oB (AW.rd h5 m3 1) fun v21 => vStr v21 fun s22 => oB (AW.rd h5 m3 2) fun v23 => vInt .i64 v23 fun n24
  => oB (AW.rd h5 m3 3) fun v25 => vInt .i64 v25 fun n26 => bC (n9 == n20 && (bEq s12 s22 && (n15 == n24 && (n18 == n26 && true)))) (bC (Nat.ble (ByteArray.size s1 + 10)
  9223372036854775807) (EvQ P f_b0 [.string (s1 ++ ByteArray.mk #[105, 110, 99, 108, 117, 100, 101, 32, 120, 10])] h5 fun v27 h28 => vAgg v27 fun l29 => lC l29 fun v30 l31 =>
  vInt .i64 v30 fun n32 => lC l31 fun v33 l34 => vStr v33 fun s35 => lC l34 fun v36 l37 => vInt .i64 v36 fun n38 => lC l37 fun v39 l40 => vInt .i64 v39 fun n41
  => lN l40 (bC (n32 == 3 && (bEq s35 (ByteArray.mk #[114]) && (n38 == 65 && (n41 == 8 && true)))) (EvQ P f_b0 [.string s2] h28 fun v42 h43 => vAgg v42 fun l44 => lC l44 fun
  v45 l46 => vInt .i64 v45 fun n47 => lC l46 fun v48 l49 => vStr v48 fun s50 => lC l49 fun v51 l52 => vInt .i64 v51 fun n53 => lC l52 fun v54 l55 => vInt .i64
  v54 fun n56 => lN l55 (oB (AW.rd h43 m3 0) fun v57 => vInt .i64 v57 fun n58 => oB (AW.rd h43 m3 1) fun v59 => vStr v59 fun s60 => oB (AW.rd h43 m3 2) fun v61 => vInt
  .i64 v61 fun n62 => oB (AW.rd h43 m3 3) fun v63 => vInt .i64 v63 fun n64 => bC (n47 == n58 && (bEq s50 s60 && (n53 == n62 && (n56 == n64 && true)))) (bC (Nat.ble
  (ByteArray.size s2 + 9) 9223372036854775807) (EvQ P f_b0 [.string (s2 ++ ByteArray.mk #[114, 117, 108, 101, 32, 103, 32, 58, 10])] h43 fun v65 h66 => vAgg v65 fun l67 => lC
  l67 fun v68 l69 => vInt .i64 v68 fun n70 => lC l69 fun v71 l72 => vStr v71 fun s73 => lC l72 fun v74 l75 => vInt .i64 v74 fun n76 => lC l75 fun v77 l78 => vInt
  .i64 v77 fun n79 => lN l78 (bC (n70 == 8 && (bEq s73 (ByteArray.mk #[114]) && (n76 == 257 && (n79 == 5 && true)))) (EvQ P f_b1 [.int .i64 8] h66 fun v80 h81 =>
  vAgg v80 fun l82 => lC l82 fun v83 l84 => vInt .i64 v83 fun n85 => lC l84 fun v86 l87 => vStr v86 fun s88 => lC l87 fun v89 l90 => vInt .i64 v89 fun n91 => lC l90
  fun v92 l93 => vInt .i64 v92 fun n94 => lN l93 (oB (AW.rd h81 m3 0) fun v95 => vInt .i64 v95 fun n96 => oB (AW.rd h81 m3 1) fun v97 => vStr v97 fun s98 => oB (AW.rd
  h81 m3 2) fun v99 => vInt .i64 v99 fun n100 => oB (AW.rd h81 m3 3) fun v101 => vInt .i64 v101 fun n102 => bC (n85 == n96 && (bEq s88 s98 && (n91 == n100 && (n94 ==
  n102 && true)))) (EvQ P f_b1 [.int .i64 9] h81 fun v103 h104 => vAgg v103 fun l105 => lC l105 fun v106 l107 => vInt .i64 v106 fun n108 => lC l107 fun v109 l110
  => vStr v109 fun s111 => lC l110 fun v112 l113 => vInt .i64 v112 fun n114 => lC l113 fun v115 l116 => vInt .i64 v115 fun n117 => lN l116 (bC (n108 == 3 && (bEq s111
  (ByteArray.mk #[102, 105]) && (n114 == 1 && (n117 == 8 && true)))) (EvQ P f_b0 [.string (ByteArray.mk #[114, 117, 108, 101, 32, 97, 32, 98, 32, 99, 32, 100, 32, 58])] h104
  fun v118 h119 => vAgg v118 fun l120 => lC l120 fun v121 l122 => vInt .i64 v121 fun n123 => lC l122 fun v124 l125 => vStr v124 fun s126 => lC l125 fun v127 l128 => vInt
  .i64 v127 fun n129 => lC l128 fun v130 l131 => vInt .i64 v130 fun n132 => lN l131 (oB (AW.rd h119 m3 0) fun v133 => vInt .i64 v133 fun n134 => oB (AW.rd h119
  m3 1) fun v135 => vStr v135 fun s136 => oB (AW.rd h119 m3 2) fun v137 => vInt .i64 v137 fun n138 => oB (AW.rd h119 m3 3) fun v139 => vInt .i64 v139 fun n140 => bC
  (n123 == n134 && (bEq s126 s136 && (n129 == n138 && (n132 == n140 && true)))) (EvQ P f_b0 [.string (ByteArray.mk #[114, 117, 108, 101, 32, 97, 32, 98, 32, 99, 32, 100, 32,
  101, 32, 58])] h119 fun v141 h142 => vAgg v141 fun l143 => lC l143 fun v144 l145 => vInt .i64 v144 fun n146 => lC l145 fun v147 l148 => vStr v147 fun s149 => lC l148 fun
  v150 l151 => vInt .i64 v150 fun n152 => lC l151 fun v153 l154 => vInt .i64 v153 fun n155 => lN l154 (bC (n146 == 154 && (bEq s149 (ByteArray.mk #[114]) && (n152 ==
  1 && (n155 == 13 && true)))) (EvQ P f_b0 [.string (ByteArray.mk #[105, 110, 99, 108, 117, 100, 101, 32, 114])] h142 fun v156 h157 => vAgg v156 fun l158 => lC l158 fun v159
  l160 => vInt .i64 v159 fun n161 => lC l160 fun v162 l163 => vStr v162 fun s164 => lC l163 fun v165 l166 => vInt .i64 v165 fun n167 => lC l166 fun v168 l169 => vInt
  .i64 v168 fun n170 => lN l169 (oB (AW.rd h m3 0) fun v171 => vInt .i64 v171 fun n172 => oB (AW.rd h m3 1) fun v173 => vStr v173 fun s174 => oB (AW.rd h m3 2) fun
  v175 => vInt .i64 v175 fun n176 => oB (AW.rd h m3 3) fun v177 => vInt .i64 v177 fun n178 => Value.agg (Array.mk [.int .i64 n172, .string s174,
  .int .i64 n176, .int .i64 n178]) = .agg (Array.mk [.int .i64 n20, .string s22, .int .i64 n24, .int .i64
  n26]) ∧ oB (AW.rd h28 m3 0) fun v179 => vInt .i64 v179 fun n180 => oB (AW.rd h28 m3 1) fun v181 => vStr v181 fun s182 => oB (AW.rd h28 m3 2) fun v183 => vInt .i64
  v183 fun n184 => oB (AW.rd h28 m3 3) fun v185 => vInt .i64 v185 fun n186 => Value.agg (Array.mk [.int .i64 n180, .string s182, .int .i64 n184,
  .int .i64 n186]) = .agg (Array.mk [.int .i64 n58, .string s60, .int .i64 n62, .int .i64 n64]) ∧ oB (AW.rd h66 m3 0) fun
  v187 => vInt .i64 v187 fun n188 => oB (AW.rd h66 m3 1) fun v189 => vStr v189 fun s190 => oB (AW.rd h66 m3 2) fun v191 => vInt .i64 v191 fun n192 => oB (AW.rd h66 m3
  3) fun v193 => vInt .i64 v193 fun n194 => Value.agg (Array.mk [.int .i64 n188, .string s190, .int .i64 n192, .int .i64 n194]) =
  .agg (Array.mk [.int .i64 n96, .string s98, .int .i64 n100, .int .i64 n102]) ∧ oB (AW.rd h104 m3 0) fun v195 => vInt .i64
  v195 fun n196 => oB (AW.rd h104 m3 1) fun v197 => vStr v197 fun s198 => oB (AW.rd h104 m3 2) fun v199 => vInt .i64 v199 fun n200 => oB (AW.rd h104 m3 3) fun v201 => vInt
  .i64 v201 fun n202 => Value.agg (Array.mk [.int .i64 n196, .string s198, .int .i64 n200, .int .i64 n202]) = .agg (Array.mk
  [.int .i64 n134, .string s136, .int .i64 n138, .int .i64 n140]) ∧ Q (.bool (n161 == 150 && (bEq s164 (ByteArray.mk #[114]) && (n167
  == 1 && (n170 == 8 && true))))) h157)) (oB (AW.rd h m3 0) fun v203 => vInt .i64 v203 fun n204 => oB (AW.rd h m3 1) fun v205 => vStr v205 fun s206 => oB (AW.rd h m3 2) fun
  v207 => vInt .i64 v207 fun n208 => oB (AW.rd h m3 3) fun v209 => vInt .i64 v209 fun n210 => Value.agg (Array.mk [.int .i64 n204, .string s206,
  .int .i64 n208, .int .i64 n210]) = .agg (Array.mk [.int .i64 n20, .string s22, .int .i64 n24, .int .i64
  n26]) ∧ oB (AW.rd h28 m3 0) fun v211 => vInt .i64 v211 fun n212 => oB (AW.rd h28 m3 1) fun v213 => vStr v213 fun s214 => oB (AW.rd h28 m3 2) fun v215 => vInt .i64
  v215 fun n216 => oB (AW.rd h28 m3 3) fun v217 => vInt .i64 v217 fun n218 => Value.agg (Array.mk [.int .i64 n212, .string s214, .int .i64 n216,
  .int .i64 n218]) = .agg (Array.mk [.int .i64 n58, .string s60, .int .i64 n62, .int .i64 n64]) ∧ oB (AW.rd h66 m3 0) fun
  v219 => vInt .i64 v219 fun n220 => oB (AW.rd h66 m3 1) fun v221 => vStr v221 fun s222 => oB (AW.rd h66 m3 2) fun v223 => vInt .i64 v223 fun n224 => oB (AW.rd h66 m3
  3) fun v225 => vInt .i64 v225 fun n226 => Value.agg (Array.mk [.int .i64 n220, .string s222, .int .i64 n224, .int .i64 n226]) =
  .agg (Array.mk [.int .i64 n96, .string s98, .int .i64 n100, .int .i64 n102]) ∧ oB (AW.rd h104 m3 0) fun v227 => vInt .i64
  v227 fun n228 => oB (AW.rd h104 m3 1) fun v229 => vStr v229 fun s230 => oB (AW.rd h104 m3 2) fun v231 => vInt .i64 v231 fun n232 => oB (AW.rd h104 m3 3) fun v233 => vInt
  .i64 v233 fun n234 => Value.agg (Array.mk [.int .i64 n228, .string s230, .int .i64 n232, .int .i64 n234]) = .agg (Array.mk
  [.int .i64 n134, .string s136, .int .i64 n138, .int .i64 n140]) ∧ Q (.bool false) h142))) (oB (AW.rd h m3 0) fun v235 => vInt
  .i64 v235 fun n236 => oB (AW.rd h m3 1) fun v237 => vStr v237 fun s238 => oB (AW.rd h m3 2) fun v239 => vInt .i64 v239 fun n240 => oB (AW.rd h m3 3) fun v241 =>
  vInt .i64 v241 fun n242 => Value.agg (Array.mk [.int .i64 n236, .string s238, .int .i64 n240, .int .i64 n242]) = .agg
  (Array.mk [.int .i64 n20, .string s22, .int .i64 n24, .int .i64 n26]) ∧ oB (AW.rd h28 m3 0) fun v243 => vInt .i64 v243 fun n244 =>
  oB (AW.rd h28 m3 1) fun v245 => vStr v245 fun s246 => oB (AW.rd h28 m3 2) fun v247 => vInt .i64 v247 fun n248 => oB (AW.rd h28 m3 3) fun v249 => vInt .i64 v249 fun
  n250 => Value.agg (Array.mk [.int .i64 n244, .string s246, .int .i64 n248, .int .i64 n250]) = .agg (Array.mk [.int .i64
  n58, .string s60, .int .i64 n62, .int .i64 n64]) ∧ oB (AW.rd h66 m3 0) fun v251 => vInt .i64 v251 fun n252 => oB (AW.rd h66 m3 1) fun v253 =>
  vStr v253 fun s254 => oB (AW.rd h66 m3 2) fun v255 => vInt .i64 v255 fun n256 => oB (AW.rd h66 m3 3) fun v257 => vInt .i64 v257 fun n258 => Value.agg (Array.mk
  [.int .i64 n252, .string s254, .int .i64 n256, .int .i64 n258]) = .agg (Array.mk [.int .i64 n96, .string s98,
  .int .i64 n100, .int .i64 n102]) ∧ oB (AW.rd h104 m3 0) fun v259 => vInt .i64 v259 fun n260 => oB (AW.rd h104 m3 1) fun v261 => vStr v261 fun s262
  => oB (AW.rd h104 m3 2) fun v263 => vInt .i64 v263 fun n264 => oB (AW.rd h104 m3 3) fun v265 => vInt .i64 v265 fun n266 => Value.agg (Array.mk [.int
  .i64 n260, .string s262, .int .i64 n264, .int .i64 n266]) = .agg (Array.mk [.int .i64 n134, .string s136, .int
  .i64 n138, .int .i64 n140]) ∧ Q (.bool false) h119))) (oB (AW.rd h m3 0) fun v267 => vInt .i64 v267 fun n268 => oB (AW.rd h m3 1) fun v269 => vStr
  v269 fun s270 => oB (AW.rd h m3 2) fun v271 => vInt .i64 v271 fun n272 => oB (AW.rd h m3 3) fun v273 => vInt .i64 v273 fun n274 => Value.agg (Array.mk [.int
  .i64 n268, .string s270, .int .i64 n272, .int .i64 n274]) = .agg (Array.mk [.int .i64 n20, .string s22, .int
  .i64 n24, .int .i64 n26]) ∧ oB (AW.rd h28 m3 0) fun v275 => vInt .i64 v275 fun n276 => oB (AW.rd h28 m3 1) fun v277 => vStr v277 fun s278 => oB (AW.rd
  h28 m3 2) fun v279 => vInt .i64 v279 fun n280 => oB (AW.rd h28 m3 3) fun v281 => vInt .i64 v281 fun n282 => Value.agg (Array.mk [.int .i64 n276,
  .string s278, .int .i64 n280, .int .i64 n282]) = .agg (Array.mk [.int .i64 n58, .string s60, .int .i64 n62,
  .int .i64 n64]) ∧ oB (AW.rd h66 m3 0) fun v283 => vInt .i64 v283 fun n284 => oB (AW.rd h66 m3 1) fun v285 => vStr v285 fun s286 => oB (AW.rd h66 m3 2) fun v287
  => vInt .i64 v287 fun n288 => oB (AW.rd h66 m3 3) fun v289 => vInt .i64 v289 fun n290 => Value.agg (Array.mk [.int .i64 n284, .string s286,
  .int .i64 n288, .int .i64 n290]) = .agg (Array.mk [.int .i64 n96, .string s98, .int .i64 n100, .int .i64
  n102]) ∧ Q (.bool false) h104))) (oB (AW.rd h m3 0) fun v291 => vInt .i64 v291 fun n292 => oB (AW.rd h m3 1) fun v293 => vStr v293 fun s294 => oB (AW.rd h m3 2) fun
  v295 => vInt .i64 v295 fun n296 => oB (AW.rd h m3 3) fun v297 => vInt .i64 v297 fun n298 => Value.agg (Array.mk [.int .i64 n292, .string s294,
  .int .i64 n296, .int .i64 n298]) = .agg (Array.mk [.int .i64 n20, .string s22, .int .i64 n24, .int .i64
  n26]) ∧ oB (AW.rd h28 m3 0) fun v299 => vInt .i64 v299 fun n300 => oB (AW.rd h28 m3 1) fun v301 => vStr v301 fun s302 => oB (AW.rd h28 m3 2) fun v303 => vInt .i64
  v303 fun n304 => oB (AW.rd h28 m3 3) fun v305 => vInt .i64 v305 fun n306 => Value.agg (Array.mk [.int .i64 n300, .string s302, .int .i64 n304,
  .int .i64 n306]) = .agg (Array.mk [.int .i64 n58, .string s60, .int .i64 n62, .int .i64 n64]) ∧ oB (AW.rd h66 m3 0) fun
  v307 => vInt .i64 v307 fun n308 => oB (AW.rd h66 m3 1) fun v309 => vStr v309 fun s310 => oB (AW.rd h66 m3 2) fun v311 => vInt .i64 v311 fun n312 => oB (AW.rd h66 m3
  3) fun v313 => vInt .i64 v313 fun n314 => Value.agg (Array.mk [.int .i64 n308, .string s310, .int .i64 n312, .int .i64 n314]) =
  .agg (Array.mk [.int .i64 n96, .string s98, .int .i64 n100, .int .i64 n102]) ∧ Q (.bool false) h81))) (oB (AW.rd h m3 0) fun
  v315 => vInt .i64 v315 fun n316 => oB (AW.rd h m3 1) fun v317 => vStr v317 fun s318 => oB (AW.rd h m3 2) fun v319 => vInt .i64 v319 fun n320 => oB (AW.rd h m3 3)
  fun v321 => vInt .i64 v321 fun n322 => Value.agg (Array.mk [.int .i64 n316, .string s318, .int .i64 n320, .int .i64 n322]) =
  .agg (Array.mk [.int .i64 n20, .string s22, .int .i64 n24, .int .i64 n26]) ∧ oB (AW.rd h28 m3 0) fun v323 => vInt .i64 v323
  fun n324 => oB (AW.rd h28 m3 1) fun v325 => vStr v325 fun s326 => oB (AW.rd h28 m3 2) fun v327 => vInt .i64 v327 fun n328 => oB (AW.rd h28 m3 3) fun v329 => vInt
  .i64 v329 fun n330 => Value.agg (Array.mk [.int .i64 n324, .string s326, .int .i64 n328, .int .i64 n330]) = .agg (Array.mk
  [.int .i64 n58, .string s60, .int .i64 n62, .int .i64 n64]) ∧ Q (.bool false) h66))) False) (oB (AW.rd h m3 0) fun v331 => vInt
  .i64 v331 fun n332 => oB (AW.rd h m3 1) fun v333 => vStr v333 fun s334 => oB (AW.rd h m3 2) fun v335 => vInt .i64 v335 fun n336 => oB (AW.rd h m3 3) fun v337 =>
  vInt .i64 v337 fun n338 => Value.agg (Array.mk [.int .i64 n332, .string s334, .int .i64 n336, .int .i64 n338]) = .agg
  (Array.mk [.int .i64 n20, .string s22, .int .i64 n24, .int .i64 n26]) ∧ oB (AW.rd h28 m3 0) fun v339 => vInt .i64 v339 fun n340 =>
  oB (AW.rd h28 m3 1) fun v341 => vStr v341 fun s342 => oB (AW.rd h28 m3 2) fun v343 => vInt .i64 v343 fun n344 => oB (AW.rd h28 m3 3) fun v345 => vInt .i64 v345 fun
  n346 => Value.agg (Array.mk [.int .i64 n340, .string s342, .int .i64 n344, .int .i64 n346]) = .agg (Array.mk [.int .i64
  n58, .string s60, .int .i64 n62, .int .i64 n64]) ∧ Q (.bool false) h43))) (oB (AW.rd h m3 0) fun v347 => vInt .i64 v347 fun n348 => oB
  (AW.rd h m3 1) fun v349 => vStr v349 fun s350 => oB (AW.rd h m3 2) fun v351 => vInt .i64 v351 fun n352 => oB (AW.rd h m3 3) fun v353 => vInt .i64 v353 fun n354 =>
  Value.agg (Array.mk [.int .i64 n348, .string s350, .int .i64 n352, .int .i64 n354]) = .agg (Array.mk [.int .i64 n20,
  .string s22, .int .i64 n24, .int .i64 n26]) ∧ Q (.bool false) h28))) False) (oB (AW.rd h m3 0) fun v355 => vInt .i64 v355 fun n356 => oB
  (AW.rd h m3 1) fun v357 => vStr v357 fun s358 => oB (AW.rd h m3 2) fun v359 => vInt .i64 v359 fun n360 => oB (AW.rd h m3 3) fun v361 => vInt .i64 v361 fun n362 =>
  Value.agg (Array.mk [.int .i64 n356, .string s358, .int .i64 n360, .int .i64 n362]) = .agg (Array.mk [.int .i64 n20,
  .string s22, .int .i64 n24, .int .i64 n26]) ∧ Q (.bool false) h5))) : unitAt P f_ap 23 [1, 2, 3, 6, 7] [.func (Fn.func f_b0) (Array.mk [])
  (Array.mk []), .string s1, .string s2, .func (Fn.func f_b1) (Array.mk []) (Array.mk []), .pointer (some ⟨m3, 0, none⟩)] h Q := uo [(6,[1,2,3,4]),(10,[1,2,3,5]),(14,[1,2,3,6]),(15,[1,2,3,6,7]),(16,[1,2,3,6,7,8,9]),(18,[1,2,3,6,7,8]),(19,[1,2,3,6,7,8,10]),(20,[1,2,3,6,7,8,10,11,12]),(21,[1,2,3,6,7,10,11,12,13,14]),(23,[1,2,3,6,7])] H (by kernel_rfl)
end Go.Proofs.YtamoepfiodgbbaaGreatDoor.E
end

section
/- Bodies that the kernel can run, printed by a program of ours. -/
namespace Go.Proofs.YtamoepfiodgbbaaGreatDoor.E
open Go.Abs
set_option maxRecDepth 100000
set_option maxHeartbeats 4000000
section
noncomputable def d_ap : BodyT := fun C D a h Q => match a with
  | [] => C f_b6 [] h fun v1 h2 => vBoolE v1 fun b3 => bCE (!b3) (Q (.bool false) h2) (D f_ap 6 5372906498 [.func (Fn.func f_b0) (Array.mk []) (Array.mk []), .string (ByteArray.mk #[]), .string (ByteArray.mk #[]), .int .i64 0] h2 Q)
  | _ => False
theorem k_ap : KO P d_ap f_ap := by
  intro C D hC hD a h Q H
  unfold d_ap at H
  split at H
  · show RunOwn P f_ap _ h Q
    refine r_ap ?_
    revert H
    repeat' with_reducible first
 | refine qaf hC fun _ _ => ?_
 | refine qag hD (by decide)
 | refine qbc fun _ => ?_
 | refine qbo ?_
 | refine qbp ?_
 | refine qbq ?_ ?_
 | exact id
  · exact H.elim
noncomputable def e_ap : Ent P := ⟨f_ap, 0, 0, dOwn 8 d_ap, fun _ _ hC hD => own_ent (by kernel_rfl) (k_ap _ _ hC hD)⟩
noncomputable def d_az : BodyT := fun C D a h Q => match a with
  | [.func (Fn.func 18) (Array.mk []) (Array.mk []), .string s1, .string s2, .int .i64 n3] => fI n3 fun n3 => ltC n3 64 (bCE (Nat.ble (szE s1 + 10) 9223372036854775807) (D f_ap 6 5372906498 [.func (Fn.func f_b0) (Array.mk []) (Array.mk []), .string (s1 ++ ByteArray.mk #[105, 110, 99, 108, 117, 100, 101, 32, 120, 10]), .string s2, .int .i64 (wI64 (addI n3 1))] h Q) (False)) (D f_ap 10 6446648322 [.func (Fn.func f_b0) (Array.mk []) (Array.mk []), .string s1, .string s2, .int .i64 0] h Q)
  | _ => False
theorem k_az : KE P d_az f_ap 7 5372906498 := by
  intro C D hC hD a h Q H
  unfold d_az at H
  split at H
  · show unitAt P f_ap 6 (decL 5372906498) _ h Q
    rw [show decL 5372906498 = [1, 2, 3, 4] from by decide]
    refine r_az ?_
    simp only [wI64_eq, addI_eq, szE_eq] at H
    revert H
    repeat' with_reducible first
 | refine qac ?_
 | refine qag hD (by decide)
 | refine qat ?_ ?_
 | refine qbo ?_
 | refine qbp ?_
 | refine qbq ?_ ?_
 | exact id
  · exact H.elim
noncomputable def e_az : Ent P := ⟨f_ap, 7, 5372906498, d_az, k_az⟩
noncomputable def d_aq : BodyT := fun C D a h Q => match a with
  | [.func (Fn.func 18) (Array.mk []) (Array.mk []), .string s1, .string s2, .int .i64 n3] => fI n3 fun n3 => ltC n3 256 (addKL h [.int .u8 (wU8 (wI64 (addI 48 (wI64 (Int.tdiv n3 100))))), .int .u8 (wU8 (wI64 (addI 48 (Int.tmod (wI64 (Int.tdiv n3 10)) 10)))), .int .u8 (wU8 (wI64 (addI 48 (Int.tmod n3 10))))] (.node (.node .nil (some (.int .u8 (wU8 (wI64 (addI 48 (Int.tmod (wI64 (Int.tdiv n3 10)) 10)))))) .nil) (some (.int .u8 (wU8 (wI64 (addI 48 (wI64 (Int.tdiv n3 100))))))) (.node .nil (some (.int .u8 (wU8 (wI64 (addI 48 (Int.tmod n3 10)))))) .nil)) 3 fun h_1 => nxK h fun i_2 => oQ (AW.bytes h_1 (some ⟨i_2, 0, none⟩) 3) fun s4 => bCE (Nat.ble (6 + szE s4) 9223372036854775807) (bCE (Nat.ble (szE (ByteArray.mk #[114, 117, 108, 101, 32, 102] ++ s4) + 3) 9223372036854775807) (bCE (Nat.ble (szE s2 + szE (ByteArray.mk #[114, 117, 108, 101, 32, 102] ++ s4 ++ ByteArray.mk #[32, 58, 10])) 9223372036854775807) (D f_ap 10 6446648322 [.func (Fn.func f_b0) (Array.mk []) (Array.mk []), .string s1, .string (s2 ++ (ByteArray.mk #[114, 117, 108, 101, 32, 102] ++ s4 ++ ByteArray.mk #[32, 58, 10])), .int .i64 (wI64 (addI n3 1))] h_1 Q) (False)) (False)) (False)) (D f_ap 14 7520390146 [.func (Fn.func f_b0) (Array.mk []) (Array.mk []), .string s1, .string s2, .func (Fn.func f_b1) (Array.mk []) (Array.mk [])] h Q)
  | _ => False
theorem k_aq : KE P d_aq f_ap 11 6446648322 := by
  intro C D hC hD a h Q H
  unfold d_aq at H
  split at H
  · show unitAt P f_ap 10 (decL 6446648322) _ h Q
    rw [show decL 6446648322 = [1, 2, 3, 5] from by decide]
    refine r_aq ?_
    simp only [wI64_eq, wU8_eq, addI_eq, szE_eq] at H
    revert H
    repeat' with_reducible first
 | refine qac ?_
 | refine qag hD (by decide)
 | refine qah (by with_unfolding_all rfl) (by with_unfolding_all rfl) ?_
 | refine qai ?_
 | refine qat ?_ ?_
 | refine qbn fun _ => ?_
 | refine qbo ?_
 | refine qbp ?_
 | refine qbq ?_ ?_
 | exact id
  · exact H.elim
noncomputable def e_aq : Ent P := ⟨f_ap, 11, 6446648322, d_aq, k_aq⟩
noncomputable def d_ar : BodyT := fun C D a h Q => match a with
  | [.func (Fn.func 18) (Array.mk []) (Array.mk []), .string s1, .string s2, .func (Fn.func 19) (Array.mk []) (Array.mk [])] => addKL h [.int .i64 0, .string (ByteArray.mk #[]), .int .i64 0, .int .i64 0] (.node (.node (.node .nil (some (.int .i64 0)) .nil) (some (.string (ByteArray.mk #[]))) .nil) (some (.int .i64 0)) (.node .nil (some (.int .i64 0)) .nil)) 4 fun h_1 => nxK h fun i_2 => wrLK i_2 [.int .i64 0, .string (ByteArray.mk #[]), .int .i64 0, .int .i64 0] h_1 0 fun h3 => D f_ap 15 8803613412354 [.func (Fn.func f_b0) (Array.mk []) (Array.mk []), .string s1, .string s2, .func (Fn.func f_b1) (Array.mk []) (Array.mk []), .pointer (some ⟨i_2, 0, none⟩)] h3 Q
  | _ => False
theorem k_ar : KE P d_ar f_ap 15 7520390146 := by
  intro C D hC hD a h Q H
  unfold d_ar at H
  split at H
  · show unitAt P f_ap 14 (decL 7520390146) _ h Q
    rw [show decL 7520390146 = [1, 2, 3, 6] from by decide]
    refine r_ar ?_
    revert H
    repeat' with_reducible first
 | refine qag hD (by decide)
 | refine qah (by with_unfolding_all rfl) (by with_unfolding_all rfl) ?_
 | refine qai ?_
 | refine qao fun _ => ?_
 | exact id
  · exact H.elim
noncomputable def e_ar : Ent P := ⟨f_ap, 15, 7520390146, d_ar, k_ar⟩
noncomputable def d_as : BodyT := fun C D a h Q => match a with
  | [.func (Fn.func 18) (Array.mk []) (Array.mk []), .string s1, .string s2, .func (Fn.func 19) (Array.mk []) (Array.mk []), .pointer (some ⟨m3, 0, none⟩)] => fN m3 fun m3 => nxK h fun i_1 => addKL h [.string (ByteArray.mk #[114]), .string (ByteArray.mk (List.toArray (List.append [105, 110, 99, 108, 117, 100, 101, 32, 120, 10, 105, 110, 99, 108, 117, 100, 101, 32, 120, 10, 114, 117, 108, 101, 32, 97, 37, 32, 58, 32, 111, 110, 101, 10, 114, 117, 108, 101, 32] [37, 98, 32, 58, 32, 116, 119, 111, 10, 114, 117, 108, 101, 32, 99, 32, 58, 10, 9, 116, 101, 120, 116, 32, 36, 36, 32, 36, 36, 120, 10, 9, 119, 114, 105, 116, 101, 32, 99, 10]))), .string (ByteArray.mk #[120]), .string (ByteArray.mk #[])] (.node (.node (.node .nil (some (.string (ByteArray.mk #[]))) .nil) (some (.string (ByteArray.mk (List.toArray (List.append [105, 110, 99, 108, 117, 100, 101, 32, 120, 10, 105, 110, 99, 108, 117, 100, 101, 32, 120, 10, 114, 117, 108, 101, 32, 97, 37, 32, 58, 32, 111, 110, 101, 10, 114, 117, 108, 101, 32] [37, 98, 32, 58, 32, 116, 119, 111, 10, 114, 117, 108, 101, 32, 99, 32, 58, 10, 9, 116, 101, 120, 116, 32, 36, 36, 32, 36, 36, 120, 10, 9, 119, 114, 105, 116, 101, 32, 99, 10]))))) .nil) (some (.string (ByteArray.mk #[114]))) (.node .nil (some (.string (ByteArray.mk #[120]))) .nil)) 4 fun h_2 => C f_b4 [.slice (some ⟨i_1, 0, none⟩) 2 2] h_2 fun v4 h5 => C f_bn [v4, .string (ByteArray.mk #[114])] h5 fun v6 h7 => vTupE v6 fun l8 => lCE l8 fun v9 l10 => vPtrE v9 fun p11 => lCE l10 fun v12 l13 => vAggE v12 fun l14 => lCE l14 fun v15 l16 => vIntE' .i64 v15 fun n17 => lCE l16 fun v18 l19 => vStrE v18 fun s20 => lCE l19 fun v21 l22 => vIntE' .i64 v21 fun n23 => lCE l22 fun v24 l25 => vIntE' .i64 v24 fun n26 => lNE l25 (lNE l13 (addKL h7 [.int .i64 0, .string (ByteArray.mk #[]), .int .i64 0, .int .i64 0] (.node (.node (.node .nil (some (.int .i64 0)) .nil) (some (.string (ByteArray.mk #[]))) .nil) (some (.int .i64 0)) (.node .nil (some (.int .i64 0)) .nil)) 4 fun h_3 => nxK h7 fun i_4 => wrLK i_4 [.int .i64 n17, .string s20, .int .i64 n23, .int .i64 n26] h_3 0 fun h27 => D f_ap 16 11539356948843465730 [.func (Fn.func f_b0) (Array.mk []) (Array.mk []), .string s1, .string s2, .func (Fn.func f_b1) (Array.mk []) (Array.mk []), .pointer (some ⟨m3, 0, none⟩), .pointer p11, .pointer (some ⟨i_4, 0, none⟩)] h27 Q))
  | _ => False
theorem k_as : KE P d_as f_ap 16 8803613412354 := by
  intro C D hC hD a h Q H
  unfold d_as at H
  split at H
  · show unitAt P f_ap 15 (decL 8803613412354) _ h Q
    rw [show decL 8803613412354 = [1, 2, 3, 6, 7] from by decide]
    refine r_as ?_
    revert H
    repeat' with_reducible first
 | refine qad ?_
 | refine qaf hC fun _ _ => ?_
 | refine qag hD (by decide)
 | refine qah (by with_unfolding_all rfl) (by with_unfolding_all rfl) ?_
 | refine qai ?_
 | refine qao fun _ => ?_
 | refine qas fun _ => ?_
 | refine qba fun _ => ?_
 | refine qbd fun _ _ => ?_
 | refine qbe ?_
 | refine qbf fun _ => ?_
 | refine qbi fun _ => ?_
 | refine qbk fun _ => ?_
 | exact id
  · exact H.elim
noncomputable def e_as : Ent P := ⟨f_ap, 16, 8803613412354, d_as, k_as⟩
noncomputable def d_at : BodyT := fun C D a h Q => match a with
  | [.func (Fn.func 18) (Array.mk []) (Array.mk []), .string s1, .string s2, .func (Fn.func 19) (Array.mk []) (Array.mk []), .pointer (some ⟨m3, 0, none⟩), .pointer p4, .pointer (some ⟨m5, 0, none⟩)] => fN m3 fun m3 => fN m5 fun m5 => rdK h m5 0 fun v6 => vIntE' .i64 v6 fun n7 => rdK h m5 1 fun v8 => vStrE v8 fun s9 => rdK h m5 2 fun v10 => vIntE' .i64 v10 fun n11 => rdK h m5 3 fun v12 => vIntE' .i64 v12 fun n13 => rdK h m3 0 fun v14 => vIntE' .i64 v14 fun n15 => rdK h m3 1 fun v16 => vStrE v16 fun s17 => rdK h m3 2 fun v18 => vIntE' .i64 v18 fun n19 => rdK h m3 3 fun v20 => vIntE' .i64 v20 fun n21 => bCE (! (n7 == n15 && (bEq s9 s17 && (n11 == n19 && (n13 == n21 && true))))) (Q (.bool false) h) (D f_ap 18 10141902774995970 [.func (Fn.func f_b0) (Array.mk []) (Array.mk []), .string s1, .string s2, .func (Fn.func f_b1) (Array.mk []) (Array.mk []), .pointer (some ⟨m3, 0, none⟩), .pointer p4] h Q)
  | _ => False
theorem k_at : KE P d_at f_ap 17 11539356948843465730 := by
  intro C D hC hD a h Q H
  unfold d_at at H
  split at H
  · show unitAt P f_ap 16 (decL 11539356948843465730) _ h Q
    rw [show decL 11539356948843465730 = [1, 2, 3, 6, 7, 8, 9] from by decide]
    refine r_at ?_
    revert H
    repeat' with_reducible first
 | refine qad ?_
 | refine qag hD (by decide)
 | refine qam fun _ => ?_
 | refine qas fun _ => ?_
 | refine qba fun _ => ?_
 | refine qbo ?_
 | refine qbp ?_
 | refine qbq ?_ ?_
 | exact id
  · exact H.elim
noncomputable def e_at : Ent P := ⟨f_ap, 17, 11539356948843465730, d_at, k_at⟩
noncomputable def d_au : BodyT := fun C D a h Q => match a with
  | [.func (Fn.func 18) (Array.mk []) (Array.mk []), .string s1, .string s2, .func (Fn.func 19) (Array.mk []) (Array.mk []), .pointer (some ⟨m3, 0, none⟩), .pointer p4] => fN m3 fun m3 => C f_cb [.pointer p4] h fun v5 h6 => vSlE v5 fun p7 m8 m9 => D f_ap 19 12692278453450312706 [.func (Fn.func f_b0) (Array.mk []) (Array.mk []), .string s1, .string s2, .func (Fn.func f_b1) (Array.mk []) (Array.mk []), .pointer (some ⟨m3, 0, none⟩), .pointer p4, .slice p7 m8 m9] h6 Q
  | _ => False
theorem k_au : KE P d_au f_ap 19 10141902774995970 := by
  intro C D hC hD a h Q H
  unfold d_au at H
  split at H
  · show unitAt P f_ap 18 (decL 10141902774995970) _ h Q
    rw [show decL 10141902774995970 = [1, 2, 3, 6, 7, 8] from by decide]
    refine r_au ?_
    revert H
    repeat' with_reducible first
 | refine qad ?_
 | refine qaf hC fun _ _ => ?_
 | refine qag hD (by decide)
 | refine qbb fun _ _ _ => ?_
 | exact id
  · exact H.elim
noncomputable def e_au : Ent P := ⟨f_ap, 19, 10141902774995970, d_au, k_au⟩
noncomputable def d_av : BodyT := fun C D a h Q => match a with
  | [.func (Fn.func 18) (Array.mk []) (Array.mk []), .string s1, .string s2, .func (Fn.func 19) (Array.mk []) (Array.mk []), .pointer (some ⟨m3, 0, none⟩), .pointer p4, .slice p5 m6 m7] => fN m3 fun m3 => fN m6 fun m6 => fN m7 fun m7 => C f_cc [.pointer p4, .string (ByteArray.mk #[97, 98])] h fun v8 h9 => vTupE v8 fun l10 => lCE l10 fun v11 l12 => vAggE v11 fun l13 => lCE l13 fun v14 l15 => vStrE v14 fun s16 => lCE l15 fun v17 l18 => vSlE v17 fun p19 m20 m21 => lCE l18 fun v22 l23 => vSlE v22 fun p24 m25 m26 => lCE l23 fun v27 l28 => vSlE v27 fun p29 m30 m31 => lNE l28 (lCE l12 fun v32 l33 => vBoolE v32 fun b34 => lNE l33 (addKL h9 [.string (ByteArray.mk #[]), .slice none 0 0, .slice none 0 0, .slice none 0 0] (.node (.node (.node .nil (some (.slice none 0 0)) .nil) (some (.slice none 0 0)) .nil) (some (.string (ByteArray.mk #[]))) (.node .nil (some (.slice none 0 0)) .nil)) 4 fun h_1 => nxK h9 fun i_2 => wrLK i_2 [.string s16, .slice p19 m20 m21, .slice p24 m25 m26, .slice p29 m30 m31] h_1 0 fun h35 => D f_ap 20 15730215446717241657134082 [.func (Fn.func f_b0) (Array.mk []) (Array.mk []), .string s1, .string s2, .func (Fn.func f_b1) (Array.mk []) (Array.mk []), .pointer (some ⟨m3, 0, none⟩), .pointer p4, .slice p5 m6 m7, .pointer (some ⟨i_2, 0, none⟩), .bool b34] h35 Q))
  | _ => False
theorem k_av : KE P d_av f_ap 20 12692278453450312706 := by
  intro C D hC hD a h Q H
  unfold d_av at H
  split at H
  · show unitAt P f_ap 19 (decL 12692278453450312706) _ h Q
    rw [show decL 12692278453450312706 = [1, 2, 3, 6, 7, 8, 10] from by decide]
    refine r_av ?_
    revert H
    repeat' with_reducible first
 | refine qad ?_
 | refine qaf hC fun _ _ => ?_
 | refine qag hD (by decide)
 | refine qah (by with_unfolding_all rfl) (by with_unfolding_all rfl) ?_
 | refine qai ?_
 | refine qao fun _ => ?_
 | refine qba fun _ => ?_
 | refine qbb fun _ _ _ => ?_
 | refine qbc fun _ => ?_
 | refine qbd fun _ _ => ?_
 | refine qbe ?_
 | refine qbf fun _ => ?_
 | refine qbk fun _ => ?_
 | exact id
  · exact H.elim
noncomputable def e_av : Ent P := ⟨f_ap, 20, 12692278453450312706, d_av, k_av⟩
noncomputable def d_aw : BodyT := fun C D a h Q => match a with
  | [.func (Fn.func 18) (Array.mk []) (Array.mk []), .string s1, .string s2, .func (Fn.func 19) (Array.mk []) (Array.mk []), .pointer (some ⟨m3, 0, none⟩), .pointer p4, .slice p5 m6 m7, .pointer (some ⟨m8, 0, none⟩), .bool b9] => fN m3 fun m3 => fN m6 fun m6 => fN m7 fun m7 => fN m8 fun m8 => fB b9 fun b9 => C f_cc [.pointer p4, .string (ByteArray.mk #[99])] h fun v10 h11 => vTupE v10 fun l12 => lCE l12 fun v13 l14 => vAggE v13 fun l15 => lCE l15 fun v16 l17 => vStrE v16 fun s18 => lCE l17 fun v19 l20 => vSlE v19 fun p21 m22 m23 => lCE l20 fun v24 l25 => vSlE v24 fun p26 m27 m28 => lCE l25 fun v29 l30 => vSlE v29 fun p31 m32 m33 => lNE l30 (lCE l14 fun v34 l35 => vBoolE v34 fun b36 => lNE l35 (addKL h11 [.string (ByteArray.mk #[]), .slice none 0 0, .slice none 0 0, .slice none 0 0] (.node (.node (.node .nil (some (.slice none 0 0)) .nil) (some (.slice none 0 0)) .nil) (some (.string (ByteArray.mk #[]))) (.node .nil (some (.slice none 0 0)) .nil)) 4 fun h_1 => nxK h11 fun i_2 => wrLK i_2 [.string s18, .slice p21 m22 m23, .slice p26 m27 m28, .slice p31 m32 m33] h_1 0 fun h37 => D f_ap 21 18586040912293830016150539266 [.func (Fn.func f_b0) (Array.mk []) (Array.mk []), .string s1, .string s2, .func (Fn.func f_b1) (Array.mk []) (Array.mk []), .pointer (some ⟨m3, 0, none⟩), .slice p5 m6 m7, .pointer (some ⟨m8, 0, none⟩), .bool b9, .pointer (some ⟨i_2, 0, none⟩), .bool b36] h37 Q))
  | _ => False
theorem k_aw : KE P d_aw f_ap 21 15730215446717241657134082 := by
  intro C D hC hD a h Q H
  unfold d_aw at H
  split at H
  · show unitAt P f_ap 20 (decL 15730215446717241657134082) _ h Q
    rw [show decL 15730215446717241657134082 = [1, 2, 3, 6, 7, 8, 10, 11, 12] from by decide]
    refine r_aw ?_
    revert H
    repeat' with_reducible first
 | refine qad ?_
 | refine qae ?_
 | refine qaf hC fun _ _ => ?_
 | refine qag hD (by decide)
 | refine qah (by with_unfolding_all rfl) (by with_unfolding_all rfl) ?_
 | refine qai ?_
 | refine qao fun _ => ?_
 | refine qba fun _ => ?_
 | refine qbb fun _ _ _ => ?_
 | refine qbc fun _ => ?_
 | refine qbd fun _ _ => ?_
 | refine qbe ?_
 | refine qbf fun _ => ?_
 | refine qbk fun _ => ?_
 | exact id
  · exact H.elim
noncomputable def e_aw : Ent P := ⟨f_ap, 21, 15730215446717241657134082, d_aw, k_aw⟩
noncomputable def d_ax : BodyT := fun C D a h Q => match a with
  | [.func (Fn.func 18) (Array.mk []) (Array.mk []), .string s1, .string s2, .func (Fn.func 19) (Array.mk []) (Array.mk []), .pointer (some ⟨m3, 0, none⟩), .slice p4 m5 m6, .pointer (some ⟨m7, 0, none⟩), .bool b8, .pointer (some ⟨m9, 0, none⟩), .bool b10] => fN m3 fun m3 => fN m5 fun m5 => fN m6 fun m6 => fN m7 fun m7 => fB b8 fun b8 => fN m9 fun m9 => fB b10 fun b10 => neC (↑m5 : Int) 2 (Q (.bool false) h) (aPE p4 fun m11 m12 => nIdx 0 m5 fun m13 => rdK h m11 (m12 + m13 * 1) fun v14 => vStrE v14 fun s15 => bCE (!bEq s15 (ByteArray.mk #[114])) (Q (.bool false) h) (aPE p4 fun m16 m17 => nIdx 1 m5 fun m18 => rdK h m16 (m17 + m18 * 1) fun v19 => vStrE v19 fun s20 => bCE (!bEq s20 (ByteArray.mk #[120])) (Q (.bool false) h) (bCE (!b8) (Q (.bool false) h) (rdK h m7 2 fun v21 => vSlE v21 fun p22 m23 m24 => neC (↑m23 : Int) 1 (Q (.bool false) h) (rdK h m7 2 fun v25 => vSlE v25 fun p26 m27 m28 => aPE p26 fun m29 m30 => nIdx 0 m27 fun m31 => rdK h m29 (m30 + m31 * 1) fun v32 => vStrE v32 fun s33 => bCE (!bEq s33 (ByteArray.mk #[111, 110, 101])) (Q (.bool false) h) (bCE (!b10) (Q (.bool false) h) (rdK h m9 3 fun v34 => vSlE v34 fun p35 m36 m37 => neC (↑m36 : Int) 2 (Q (.bool false) h) (rdK h m9 3 fun v38 => vSlE v38 fun p39 m40 m41 => aPE p39 fun m42 m43 => nIdx 0 m40 fun m44 => rdK h m42 (m43 + m44 * 4 + 1) fun v45 => vSlE v45 fun p46 m47 m48 => neC (↑m47 : Int) 2 (Q (.bool false) h) (rdK h m9 3 fun v49 => vSlE v49 fun p50 m51 m52 => aPE p50 fun m53 m54 => nIdx 0 m51 fun m55 => rdK h m53 (m54 + m55 * 4 + 1) fun v56 => vSlE v56 fun p57 m58 m59 => aPE p57 fun m60 m61 => nIdx 0 m58 fun m62 => rdK h m60 (m61 + m62 * 1) fun v63 => vStrE v63 fun s64 => bCE (!bEq s64 (ByteArray.mk #[36])) (Q (.bool false) h) (rdK h m9 3 fun v65 => vSlE v65 fun p66 m67 m68 => aPE p66 fun m69 m70 => nIdx 0 m67 fun m71 => rdK h m69 (m70 + m71 * 4 + 1) fun v72 => vSlE v72 fun p73 m74 m75 => aPE p73 fun m76 m77 => nIdx 1 m74 fun m78 => rdK h m76 (m77 + m78 * 1) fun v79 => vStrE v79 fun s80 => bCE (!bEq s80 (ByteArray.mk #[36, 120])) (Q (.bool false) h) (D f_ap 23 8803613412354 [.func (Fn.func f_b0) (Array.mk []) (Array.mk []), .string s1, .string s2, .func (Fn.func f_b1) (Array.mk []) (Array.mk []), .pointer (some ⟨m3, 0, none⟩)] h Q)))))))))))
  | _ => False
theorem k_ax : KE P d_ax f_ap 22 18586040912293830016150539266 := by
  intro C D hC hD a h Q H
  unfold d_ax at H
  split at H
  · show unitAt P f_ap 21 (decL 18586040912293830016150539266) _ h Q
    rw [show decL 18586040912293830016150539266 = [1, 2, 3, 6, 7, 10, 11, 12, 13, 14] from by decide]
    refine r_ax ?_
    revert H
    repeat' with_reducible first
 | refine qad ?_
 | refine qae ?_
 | refine qag hD (by decide)
 | refine qam fun _ => ?_
 | refine qaq fun _ => ?_
 | refine qay ?_ ?_
 | refine qba fun _ => ?_
 | refine qbb fun _ _ _ => ?_
 | refine qbh fun _ _ => ?_
 | refine qbo ?_
 | refine qbp ?_
 | refine qbq ?_ ?_
 | exact id
  · exact H.elim
noncomputable def e_ax : Ent P := ⟨f_ap, 22, 18586040912293830016150539266, d_ax, k_ax⟩
noncomputable def d_ay : BodyT := fun C D a h Q => match a with
  | [.func (Fn.func 18) (Array.mk []) (Array.mk []), .string s1, .string s2, .func (Fn.func 19) (Array.mk []) (Array.mk []), .pointer (some ⟨m3, 0, none⟩)] => fN m3 fun m3 => C f_b0 [.string s1] h fun v4 h5 => vAggE v4 fun l6 => lCE l6 fun v7 l8 => vIntE' .i64 v7 fun n9 => lCE l8 fun v10 l11 => vStrE v10 fun s12 => lCE l11 fun v13 l14 => vIntE' .i64 v13 fun n15 => lCE l14 fun v16 l17 => vIntE' .i64 v16 fun n18 => lNE l17 (rdK h5 m3 0 fun v19 => vIntE' .i64 v19 fun n20 => rdK h5 m3 1 fun v21 => vStrE v21 fun s22 => rdK h5 m3 2 fun v23 => vIntE' .i64 v23 fun n24 => rdK h5 m3 3 fun v25 => vIntE' .i64 v25 fun n26 => bCE (n9 == n20 && (bEq s12 s22 && (n15 == n24 && (n18 == n26 && true)))) (bCE (Nat.ble (szE s1 + 10) 9223372036854775807) (C f_b0 [.string (s1 ++ ByteArray.mk #[105, 110, 99, 108, 117, 100, 101, 32, 120, 10])] h5 fun v27 h28 => vAggE v27 fun l29 => lCE l29 fun v30 l31 => vIntE' .i64 v30 fun n32 => lCE l31 fun v33 l34 => vStrE v33 fun s35 => lCE l34 fun v36 l37 => vIntE' .i64 v36 fun n38 => lCE l37 fun v39 l40 => vIntE' .i64 v39 fun n41 => lNE l40 (bCE (n32 == 3 && (bEq s35 (ByteArray.mk #[114]) && (n38 == 65 && (n41 == 8 && true)))) (C f_b0 [.string s2] h28 fun v42 h43 => vAggE v42 fun l44 => lCE l44 fun v45 l46 => vIntE' .i64 v45 fun n47 => lCE l46 fun v48 l49 => vStrE v48 fun s50 => lCE l49 fun v51 l52 => vIntE' .i64 v51 fun n53 => lCE l52 fun v54 l55 => vIntE' .i64 v54 fun n56 => lNE l55 (rdK h43 m3 0 fun v57 => vIntE' .i64 v57 fun n58 => rdK h43 m3 1 fun v59 => vStrE v59 fun s60 => rdK h43 m3 2 fun v61 => vIntE' .i64 v61 fun n62 => rdK h43 m3 3 fun v63 => vIntE' .i64 v63 fun n64 => bCE (n47 == n58 && (bEq s50 s60 && (n53 == n62 && (n56 == n64 && true)))) (bCE (Nat.ble (szE s2 + 9) 9223372036854775807) (C f_b0 [.string (s2 ++ ByteArray.mk #[114, 117, 108, 101, 32, 103, 32, 58, 10])] h43 fun v65 h66 => vAggE v65 fun l67 => lCE l67 fun v68 l69 => vIntE' .i64 v68 fun n70 => lCE l69 fun v71 l72 => vStrE v71 fun s73 => lCE l72 fun v74 l75 => vIntE' .i64 v74 fun n76 => lCE l75 fun v77 l78 => vIntE' .i64 v77 fun n79 => lNE l78 (bCE (n70 == 8 && (bEq s73 (ByteArray.mk #[114]) && (n76 == 257 && (n79 == 5 && true)))) (C f_b1 [.int .i64 8] h66 fun v80 h81 => vAggE v80 fun l82 => lCE l82 fun v83 l84 => vIntE' .i64 v83 fun n85 => lCE l84 fun v86 l87 => vStrE v86 fun s88 => lCE l87 fun v89 l90 => vIntE' .i64 v89 fun n91 => lCE l90 fun v92 l93 => vIntE' .i64 v92 fun n94 => lNE l93 (rdK h81 m3 0 fun v95 => vIntE' .i64 v95 fun n96 => rdK h81 m3 1 fun v97 => vStrE v97 fun s98 => rdK h81 m3 2 fun v99 => vIntE' .i64 v99 fun n100 => rdK h81 m3 3 fun v101 => vIntE' .i64 v101 fun n102 => bCE (n85 == n96 && (bEq s88 s98 && (n91 == n100 && (n94 == n102 && true)))) (C f_b1 [.int .i64 9] h81 fun v103 h104 => vAggE v103 fun l105 => lCE l105 fun v106 l107 => vIntE' .i64 v106 fun n108 => lCE l107 fun v109 l110 => vStrE v109 fun s111 => lCE l110 fun v112 l113 => vIntE' .i64 v112 fun n114 => lCE l113 fun v115 l116 => vIntE' .i64 v115 fun n117 => lNE l116 (bCE (n108 == 3 && (bEq s111 (ByteArray.mk #[102, 105]) && (n114 == 1 && (n117 == 8 && true)))) (C f_b0 [.string (ByteArray.mk #[114, 117, 108, 101, 32, 97, 32, 98, 32, 99, 32, 100, 32, 58])] h104 fun v118 h119 => vAggE v118 fun l120 => lCE l120 fun v121 l122 => vIntE' .i64 v121 fun n123 => lCE l122 fun v124 l125 => vStrE v124 fun s126 => lCE l125 fun v127 l128 => vIntE' .i64 v127 fun n129 => lCE l128 fun v130 l131 => vIntE' .i64 v130 fun n132 => lNE l131 (rdK h119 m3 0 fun v133 => vIntE' .i64 v133 fun n134 => rdK h119 m3 1 fun v135 => vStrE v135 fun s136 => rdK h119 m3 2 fun v137 => vIntE' .i64 v137 fun n138 => rdK h119 m3 3 fun v139 => vIntE' .i64 v139 fun n140 => bCE (n123 == n134 && (bEq s126 s136 && (n129 == n138 && (n132 == n140 && true)))) (C f_b0 [.string (ByteArray.mk #[114, 117, 108, 101, 32, 97, 32, 98, 32, 99, 32, 100, 32, 101, 32, 58])] h119 fun v141 h142 => vAggE v141 fun l143 => lCE l143 fun v144 l145 => vIntE' .i64 v144 fun n146 => lCE l145 fun v147 l148 => vStrE v147 fun s149 => lCE l148 fun v150 l151 => vIntE' .i64 v150 fun n152 => lCE l151 fun v153 l154 => vIntE' .i64 v153 fun n155 => lNE l154 (bCE (n146 == 154 && (bEq s149 (ByteArray.mk #[114]) && (n152 == 1 && (n155 == 13 && true)))) (C f_b0 [.string (ByteArray.mk #[105, 110, 99, 108, 117, 100, 101, 32, 114])] h142 fun v156 h157 => vAggE v156 fun l158 => lCE l158 fun v159 l160 => vIntE' .i64 v159 fun n161 => lCE l160 fun v162 l163 => vStrE v162 fun s164 => lCE l163 fun v165 l166 => vIntE' .i64 v165 fun n167 => lCE l166 fun v168 l169 => vIntE' .i64 v168 fun n170 => lNE l169 (rdK h m3 0 fun v171 => vIntE' .i64 v171 fun n172 => rdK h m3 1 fun v173 => vStrE v173 fun s174 => rdK h m3 2 fun v175 => vIntE' .i64 v175 fun n176 => rdK h m3 3 fun v177 => vIntE' .i64 v177 fun n178 => bCE (sameB (.agg (Array.mk [.int .i64 n172, .string s174, .int .i64 n176, .int .i64 n178])) (.agg (Array.mk [.int .i64 n20, .string s22, .int .i64 n24, .int .i64 n26]))) (rdK h28 m3 0 fun v179 => vIntE' .i64 v179 fun n180 => rdK h28 m3 1 fun v181 => vStrE v181 fun s182 => rdK h28 m3 2 fun v183 => vIntE' .i64 v183 fun n184 => rdK h28 m3 3 fun v185 => vIntE' .i64 v185 fun n186 => bCE (sameB (.agg (Array.mk [.int .i64 n180, .string s182, .int .i64 n184, .int .i64 n186])) (.agg (Array.mk [.int .i64 n58, .string s60, .int .i64 n62, .int .i64 n64]))) (rdK h66 m3 0 fun v187 => vIntE' .i64 v187 fun n188 => rdK h66 m3 1 fun v189 => vStrE v189 fun s190 => rdK h66 m3 2 fun v191 => vIntE' .i64 v191 fun n192 => rdK h66 m3 3 fun v193 => vIntE' .i64 v193 fun n194 => bCE (sameB (.agg (Array.mk [.int .i64 n188, .string s190, .int .i64 n192, .int .i64 n194])) (.agg (Array.mk [.int .i64 n96, .string s98, .int .i64 n100, .int .i64 n102]))) (rdK h104 m3 0 fun v195 => vIntE' .i64 v195 fun n196 => rdK h104 m3 1 fun v197 => vStrE v197 fun s198 => rdK h104 m3 2 fun v199 => vIntE' .i64 v199 fun n200 => rdK h104 m3 3 fun v201 => vIntE' .i64 v201 fun n202 => bCE (sameB (.agg (Array.mk [.int .i64 n196, .string s198, .int .i64 n200, .int .i64 n202])) (.agg (Array.mk [.int .i64 n134, .string s136, .int .i64 n138, .int .i64 n140]))) (Q (.bool (n161 == 150 && (bEq s164 (ByteArray.mk #[114]) && (n167 == 1 && (n170 == 8 && true))))) h157) False) False) False) False)) (rdK h m3 0 fun v203 => vIntE' .i64 v203 fun n204 => rdK h m3 1 fun v205 => vStrE v205 fun s206 => rdK h m3 2 fun v207 => vIntE' .i64 v207 fun n208 => rdK h m3 3 fun v209 => vIntE' .i64 v209 fun n210 => bCE (sameB (.agg (Array.mk [.int .i64 n204, .string s206, .int .i64 n208, .int .i64 n210])) (.agg (Array.mk [.int .i64 n20, .string s22, .int .i64 n24, .int .i64 n26]))) (rdK h28 m3 0 fun v211 => vIntE' .i64 v211 fun n212 => rdK h28 m3 1 fun v213 => vStrE v213 fun s214 => rdK h28 m3 2 fun v215 => vIntE' .i64 v215 fun n216 => rdK h28 m3 3 fun v217 => vIntE' .i64 v217 fun n218 => bCE (sameB (.agg (Array.mk [.int .i64 n212, .string s214, .int .i64 n216, .int .i64 n218])) (.agg (Array.mk [.int .i64 n58, .string s60, .int .i64 n62, .int .i64 n64]))) (rdK h66 m3 0 fun v219 => vIntE' .i64 v219 fun n220 => rdK h66 m3 1 fun v221 => vStrE v221 fun s222 => rdK h66 m3 2 fun v223 => vIntE' .i64 v223 fun n224 => rdK h66 m3 3 fun v225 => vIntE' .i64 v225 fun n226 => bCE (sameB (.agg (Array.mk [.int .i64 n220, .string s222, .int .i64 n224, .int .i64 n226])) (.agg (Array.mk [.int .i64 n96, .string s98, .int .i64 n100, .int .i64 n102]))) (rdK h104 m3 0 fun v227 => vIntE' .i64 v227 fun n228 => rdK h104 m3 1 fun v229 => vStrE v229 fun s230 => rdK h104 m3 2 fun v231 => vIntE' .i64 v231 fun n232 => rdK h104 m3 3 fun v233 => vIntE' .i64 v233 fun n234 => bCE (sameB (.agg (Array.mk [.int .i64 n228, .string s230, .int .i64 n232, .int .i64 n234])) (.agg (Array.mk [.int .i64 n134, .string s136, .int .i64 n138, .int .i64 n140]))) (Q (.bool false) h142) False) False) False) False))) (rdK h m3 0 fun v235 => vIntE' .i64 v235 fun n236 => rdK h m3 1 fun v237 => vStrE v237 fun s238 => rdK h m3 2 fun v239 => vIntE' .i64 v239 fun n240 => rdK h m3 3 fun v241 => vIntE' .i64 v241 fun n242 => bCE (sameB (.agg (Array.mk [.int .i64 n236, .string s238, .int .i64 n240, .int .i64 n242])) (.agg (Array.mk [.int .i64 n20, .string s22, .int .i64 n24, .int .i64 n26]))) (rdK h28 m3 0 fun v243 => vIntE' .i64 v243 fun n244 => rdK h28 m3 1 fun v245 => vStrE v245 fun s246 => rdK h28 m3 2 fun v247 => vIntE' .i64 v247 fun n248 => rdK h28 m3 3 fun v249 => vIntE' .i64 v249 fun n250 => bCE (sameB (.agg (Array.mk [.int .i64 n244, .string s246, .int .i64 n248, .int .i64 n250])) (.agg (Array.mk [.int .i64 n58, .string s60, .int .i64 n62, .int .i64 n64]))) (rdK h66 m3 0 fun v251 => vIntE' .i64 v251 fun n252 => rdK h66 m3 1 fun v253 => vStrE v253 fun s254 => rdK h66 m3 2 fun v255 => vIntE' .i64 v255 fun n256 => rdK h66 m3 3 fun v257 => vIntE' .i64 v257 fun n258 => bCE (sameB (.agg (Array.mk [.int .i64 n252, .string s254, .int .i64 n256, .int .i64 n258])) (.agg (Array.mk [.int .i64 n96, .string s98, .int .i64 n100, .int .i64 n102]))) (rdK h104 m3 0 fun v259 => vIntE' .i64 v259 fun n260 => rdK h104 m3 1 fun v261 => vStrE v261 fun s262 => rdK h104 m3 2 fun v263 => vIntE' .i64 v263 fun n264 => rdK h104 m3 3 fun v265 => vIntE' .i64 v265 fun n266 => bCE (sameB (.agg (Array.mk [.int .i64 n260, .string s262, .int .i64 n264, .int .i64 n266])) (.agg (Array.mk [.int .i64 n134, .string s136, .int .i64 n138, .int .i64 n140]))) (Q (.bool false) h119) False) False) False) False))) (rdK h m3 0 fun v267 => vIntE' .i64 v267 fun n268 => rdK h m3 1 fun v269 => vStrE v269 fun s270 => rdK h m3 2 fun v271 => vIntE' .i64 v271 fun n272 => rdK h m3 3 fun v273 => vIntE' .i64 v273 fun n274 => bCE (sameB (.agg (Array.mk [.int .i64 n268, .string s270, .int .i64 n272, .int .i64 n274])) (.agg (Array.mk [.int .i64 n20, .string s22, .int .i64 n24, .int .i64 n26]))) (rdK h28 m3 0 fun v275 => vIntE' .i64 v275 fun n276 => rdK h28 m3 1 fun v277 => vStrE v277 fun s278 => rdK h28 m3 2 fun v279 => vIntE' .i64 v279 fun n280 => rdK h28 m3 3 fun v281 => vIntE' .i64 v281 fun n282 => bCE (sameB (.agg (Array.mk [.int .i64 n276, .string s278, .int .i64 n280, .int .i64 n282])) (.agg (Array.mk [.int .i64 n58, .string s60, .int .i64 n62, .int .i64 n64]))) (rdK h66 m3 0 fun v283 => vIntE' .i64 v283 fun n284 => rdK h66 m3 1 fun v285 => vStrE v285 fun s286 => rdK h66 m3 2 fun v287 => vIntE' .i64 v287 fun n288 => rdK h66 m3 3 fun v289 => vIntE' .i64 v289 fun n290 => bCE (sameB (.agg (Array.mk [.int .i64 n284, .string s286, .int .i64 n288, .int .i64 n290])) (.agg (Array.mk [.int .i64 n96, .string s98, .int .i64 n100, .int .i64 n102]))) (Q (.bool false) h104) False) False) False))) (rdK h m3 0 fun v291 => vIntE' .i64 v291 fun n292 => rdK h m3 1 fun v293 => vStrE v293 fun s294 => rdK h m3 2 fun v295 => vIntE' .i64 v295 fun n296 => rdK h m3 3 fun v297 => vIntE' .i64 v297 fun n298 => bCE (sameB (.agg (Array.mk [.int .i64 n292, .string s294, .int .i64 n296, .int .i64 n298])) (.agg (Array.mk [.int .i64 n20, .string s22, .int .i64 n24, .int .i64 n26]))) (rdK h28 m3 0 fun v299 => vIntE' .i64 v299 fun n300 => rdK h28 m3 1 fun v301 => vStrE v301 fun s302 => rdK h28 m3 2 fun v303 => vIntE' .i64 v303 fun n304 => rdK h28 m3 3 fun v305 => vIntE' .i64 v305 fun n306 => bCE (sameB (.agg (Array.mk [.int .i64 n300, .string s302, .int .i64 n304, .int .i64 n306])) (.agg (Array.mk [.int .i64 n58, .string s60, .int .i64 n62, .int .i64 n64]))) (rdK h66 m3 0 fun v307 => vIntE' .i64 v307 fun n308 => rdK h66 m3 1 fun v309 => vStrE v309 fun s310 => rdK h66 m3 2 fun v311 => vIntE' .i64 v311 fun n312 => rdK h66 m3 3 fun v313 => vIntE' .i64 v313 fun n314 => bCE (sameB (.agg (Array.mk [.int .i64 n308, .string s310, .int .i64 n312, .int .i64 n314])) (.agg (Array.mk [.int .i64 n96, .string s98, .int .i64 n100, .int .i64 n102]))) (Q (.bool false) h81) False) False) False))) (rdK h m3 0 fun v315 => vIntE' .i64 v315 fun n316 => rdK h m3 1 fun v317 => vStrE v317 fun s318 => rdK h m3 2 fun v319 => vIntE' .i64 v319 fun n320 => rdK h m3 3 fun v321 => vIntE' .i64 v321 fun n322 => bCE (sameB (.agg (Array.mk [.int .i64 n316, .string s318, .int .i64 n320, .int .i64 n322])) (.agg (Array.mk [.int .i64 n20, .string s22, .int .i64 n24, .int .i64 n26]))) (rdK h28 m3 0 fun v323 => vIntE' .i64 v323 fun n324 => rdK h28 m3 1 fun v325 => vStrE v325 fun s326 => rdK h28 m3 2 fun v327 => vIntE' .i64 v327 fun n328 => rdK h28 m3 3 fun v329 => vIntE' .i64 v329 fun n330 => bCE (sameB (.agg (Array.mk [.int .i64 n324, .string s326, .int .i64 n328, .int .i64 n330])) (.agg (Array.mk [.int .i64 n58, .string s60, .int .i64 n62, .int .i64 n64]))) (Q (.bool false) h66) False) False))) (False)) (rdK h m3 0 fun v331 => vIntE' .i64 v331 fun n332 => rdK h m3 1 fun v333 => vStrE v333 fun s334 => rdK h m3 2 fun v335 => vIntE' .i64 v335 fun n336 => rdK h m3 3 fun v337 => vIntE' .i64 v337 fun n338 => bCE (sameB (.agg (Array.mk [.int .i64 n332, .string s334, .int .i64 n336, .int .i64 n338])) (.agg (Array.mk [.int .i64 n20, .string s22, .int .i64 n24, .int .i64 n26]))) (rdK h28 m3 0 fun v339 => vIntE' .i64 v339 fun n340 => rdK h28 m3 1 fun v341 => vStrE v341 fun s342 => rdK h28 m3 2 fun v343 => vIntE' .i64 v343 fun n344 => rdK h28 m3 3 fun v345 => vIntE' .i64 v345 fun n346 => bCE (sameB (.agg (Array.mk [.int .i64 n340, .string s342, .int .i64 n344, .int .i64 n346])) (.agg (Array.mk [.int .i64 n58, .string s60, .int .i64 n62, .int .i64 n64]))) (Q (.bool false) h43) False) False))) (rdK h m3 0 fun v347 => vIntE' .i64 v347 fun n348 => rdK h m3 1 fun v349 => vStrE v349 fun s350 => rdK h m3 2 fun v351 => vIntE' .i64 v351 fun n352 => rdK h m3 3 fun v353 => vIntE' .i64 v353 fun n354 => bCE (sameB (.agg (Array.mk [.int .i64 n348, .string s350, .int .i64 n352, .int .i64 n354])) (.agg (Array.mk [.int .i64 n20, .string s22, .int .i64 n24, .int .i64 n26]))) (Q (.bool false) h28) False))) (False)) (rdK h m3 0 fun v355 => vIntE' .i64 v355 fun n356 => rdK h m3 1 fun v357 => vStrE v357 fun s358 => rdK h m3 2 fun v359 => vIntE' .i64 v359 fun n360 => rdK h m3 3 fun v361 => vIntE' .i64 v361 fun n362 => bCE (sameB (.agg (Array.mk [.int .i64 n356, .string s358, .int .i64 n360, .int .i64 n362])) (.agg (Array.mk [.int .i64 n20, .string s22, .int .i64 n24, .int .i64 n26]))) (Q (.bool false) h5) False))
  | _ => False
theorem k_ay : KE P d_ay f_ap 24 8803613412354 := by
  intro C D hC hD a h Q H
  unfold d_ay at H
  split at H
  · show unitAt P f_ap 23 (decL 8803613412354) _ h Q
    rw [show decL 8803613412354 = [1, 2, 3, 6, 7] from by decide]
    refine r_ay ?_
    simp only [szE_eq] at H
    revert H
    repeat' with_reducible first
 | refine qad ?_
 | refine qaf hC fun _ _ => ?_
 | refine qam fun _ => ?_
 | refine qas fun _ => ?_
 | refine qba fun _ => ?_
 | refine qbd fun _ _ => ?_
 | refine qbe ?_
 | refine qbk fun _ => ?_
 | refine qbo ?_
 | refine qbp ?_
 | refine qbq ?_ ?_
 | exact id
  · exact H.elim
noncomputable def e_ay : Ent P := ⟨f_ap, 24, 8803613412354, d_ay, k_ay⟩
end
end Go.Proofs.YtamoepfiodgbbaaGreatDoor.E
end

section
/- Rules of walks, printed by a program of ours: group E0. -/
namespace Go.Proofs.YtamoepfiodgbbaaGreatDoor.E
open Go.Abs
set_option maxRecDepth 100000
variable {h : AW} {Q : Value → AW → Prop}
theorem r_cu {p1 : Option Addr} {n2 n3 : Int} {s4 : ByteArray} {p5 : Option Addr} {m6 m7 : Nat} {p8 : Option Addr} {m9 m10 : Nat} {p11 : Option Addr} {m12 m13 : Nat} (H : oB (AW.rd (AW.addVar h [.int .i64 n2, .int .i64 n3, .string s4, .slice p5 m6 m7,
  .slice p8 m9 m10, .slice p11 m12 m13]) (AW.next h) 3) fun v14 => vSl v14 fun p15 m16 m17 => EvQ P f_cp [.pointer p1, .slice p15 m16 m17] (AW.addVar h
  [.int .i64 n2, .int .i64 n3, .string s4, .slice p5 m6 m7, .slice p8 m9 m10, .slice p11 m12 m13]) fun v18 h19 => vTup v18 fun l20 => lC
  l20 fun v21 l22 => vSl v21 fun p23 m24 m25 => lC l22 fun v26 l27 => vBool v26 fun b28 => lN l27 (bC (!b28) (Q (.bool false) h19) (oB (AW.rd h19 (AW.next h) 4) fun v29 => vSl
  v29 fun p30 m31 m32 => EvQ P f_cp [.pointer p1, .slice p30 m31 m32] h19 fun v33 h34 => vTup v33 fun l35 => lC l35 fun v36 l37 => vSl v36 fun p38 m39 m40 => lC l37 fun
  v41 l42 => vBool v41 fun b43 => lN l42 (bC (!b43) (Q (.bool false) h34) (oB (AW.rd h34 (AW.next h) 5) fun v44 => vSl v44 fun p45 m46 m47 => unitAt P f_cu 9 [0, 3, 5, 7, 8,
  46, 47, 48] [.pointer p1, .pointer (some ⟨(AW.next h), 0, none⟩), .slice p23 m24 m25, .slice p38 m39 m40, .slice none 0 0, .slice p45 m46 m47,
  .int .i64 (↑m46 : Int), .int .i64 0] h34 Q))))) : EvQ P f_cu [.pointer p1, .agg (Array.mk [.int .i64 n2, .int .i64 n3,
  .string s4, .slice p5 m6 m7, .slice p8 m9 m10, .slice p11 m12 m13])] h Q := fo [(9,[0,3,5,7,8,46,47,48]),(30,[0,3,5,7,8,13]),(32,[0,3,5,7,8,13,15,16]),(47,[0,3,5,7,8,13,15,16,18]),(50,[0,3,7,8,13,15,22])] H (by kernel_rfl)
theorem r_cz {p1 : Option Addr} {m2 : Nat} {p3 : Option Addr} {m4 m5 : Nat} {p6 : Option Addr} {m7 m8 : Nat} {p9 : Option Addr} {m10 m11 : Nat} {p12 : Option Addr} {m13 m14 : Nat} {n15 n16 : Int} (H : bC (decide (n16 < n15)) (aP p12 fun m17 m18 => oB (natIdx n16 m13) fun m19 =>
  oB (AW.rd h m17 (m18 + m19 * 3)) fun v20 => vInt .i64 v20 fun n21 => oB (AW.rd h m17 (m18 + m19 * 3 + 1)) fun v22 => vBool v22 fun b23 => oB (AW.rd h m17 (m18 + m19 * 3 +
  1 + 1)) fun v24 => vSl v24 fun p25 m26 m27 => oB (AW.wrL (AW.addVar h [.int .i64 0, .bool false, .slice none 0 0]) (AW.next h) 0 [.int .i64 n21,
  .bool b23, .slice p25 m26 m27]) fun h28 => oB (AW.rd h28 (AW.next h) 2) fun v29 => vSl v29 fun p30 m31 m32 => EvQ P f_cp [.pointer p1, .slice p30 m31 m32] h28
  fun v33 h34 => vTup v33 fun l35 => lC l35 fun v36 l37 => vSl v36 fun p38 m39 m40 => lC l37 fun v41 l42 => vBool v41 fun b43 => lN l42 (bC (!b43) (Q (.bool false) h34) (EvQ P
  f_bu [.slice p38 m39 m40] h34 fun v44 h45 => vSl v44 fun p46 m47 m48 => oP (appendB P (AW.addVar h45 [.slice p46 m47 m48]) (Array.mk [ty_sl_sl_string, ty_sl_sl_string]) [.slice p9
  m10 m11, .slice (some ⟨(AW.next h45), 0, none⟩) 1 1]) fun v49 h50 => vSl v49 fun p51 m52 m53 => unitAt P f_cu 9 [0, 3, 5, 7, 8, 46, 47, 48] [.pointer p1,
  .pointer (some ⟨m2, 0, none⟩), .slice p3 m4 m5, .slice p6 m7 m8, .slice p51 m52 m53, .slice p12 m13 m14, .int .i64 n15, .int
  .i64 (IntKind.wrap .i64 (n16 + 1))] h50 Q))) (bC ((↑m4 : Int) == 0) (oB (AW.rd h m2 3) fun v54 => vSl v54 fun p55 m56 m57 => aP p55 fun m58 m59 => oB (natIdx 0 m56)
  fun m60 => oB (AW.rd h m58 (m59 + m60 * 5)) fun v61 => vStr v61 fun s62 => oB (AW.rd h m58 (m59 + m60 * 5 + 1)) fun v63 => vInt .i64 v63 fun n64 => oB (AW.rd h m58 (m59 +
  m60 * 5 + 1 + 1)) fun v65 => vInt .i64 v65 fun n66 => oB (AW.rd h m58 (m59 + m60 * 5 + 1 + 1 + 1)) fun v67 => vBool v67 fun b68 => oB (AW.rd h m58 (m59 + m60 * 5 + 1 + 1 +
  1 + 1)) fun v69 => vBool v69 fun b70 => EvQ P f_cf [.pointer p1, .int .i64 154, .agg (Array.mk [.string s62, .int .i64 n64, .int
  .i64 n66, .bool b68, .bool b70])] h fun v71 h72 => vBool v71 fun b73 => Q (.bool b73) h72) (aP p3 fun m74 m75 => oB (natIdx 0 m4) fun m76 => oB (AW.rd h m74
  (m75 + m76 * 6)) fun v77 => vStr v77 fun s78 => EvQ P f_f2 [.string s78, .string (ByteArray.mk #[37])] h fun v79 h80 => vBool v79 fun b81 => bC b81 (aP p3 fun m82 m83
  => oB (natIdx 0 m4) fun m84 => oB (AW.rd h80 m82 (m83 + m84 * 6)) fun v85 => vStr v85 fun s86 => oB (AW.rd h80 m82 (m83 + m84 * 6 + 1)) fun v87 => vStr v87 fun s88 => oB (AW.rd
  h80 m82 (m83 + m84 * 6 + 1 + 1)) fun v89 => vInt .i64 v89 fun n90 => oB (AW.rd h80 m82 (m83 + m84 * 6 + 1 + 1 + 1)) fun v91 => vInt .i64 v91 fun n92 => oB (AW.rd
  h80 m82 (m83 + m84 * 6 + 1 + 1 + 1 + 1)) fun v93 => vBool v93 fun b94 => oB (AW.rd h80 m82 (m83 + m84 * 6 + 1 + 1 + 1 + 1 + 1)) fun v95 => vBool v95 fun b96 => oB (AW.wrL
  (AW.addVar h80 [.string (ByteArray.mk #[]), .string (ByteArray.mk #[]), .int .i64 0, .int .i64 0, .bool false, .bool false]) (AW.next
  h80) 0 [.string s86, .string s88, .int .i64 n90, .int .i64 n92, .bool b94, .bool b96]) fun h97 => bC (decide ((↑m4 : Int) > 1)) (aP p3
  fun m98 m99 => oB (natIdx 1 m4) fun m100 => oB (AW.rd h97 m98 (m99 + m100 * 6 + 1)) fun v101 => vStr v101 fun s102 => oB (AW.rd h97 m98 (m99 + m100 * 6 + 1 + 1)) fun v103 => vInt
  .i64 v103 fun n104 => oB (AW.rd h97 m98 (m99 + m100 * 6 + 1 + 1 + 1)) fun v105 => vInt .i64 v105 fun n106 => oB (AW.rd h97 m98 (m99 + m100 * 6 + 1 + 1 + 1 + 1)) fun
  v107 => vBool v107 fun b108 => oB (AW.rd h97 m98 (m99 + m100 * 6 + 1 + 1 + 1 + 1 + 1)) fun v109 => vBool v109 fun b110 => EvQ P f_cf [.pointer p1, .int .i64 153,
  .agg (Array.mk [.string s102, .int .i64 n104, .int .i64 n106, .bool b108, .bool b110])] h97 fun v111 h112 => vBool v111 fun b113 => Q
  (.bool b113) h112) (oB (AW.rd h97 (AW.next h80) 0) fun v114 => vStr v114 fun s115 => EvQ P f_f3 [.string s115, .string (ByteArray.mk #[37])] h97 fun v116 h117 =>
  vInt .i64 v116 fun n118 => bC (decide (n118 > 1)) (oB (AW.rd h117 (AW.next h80) 1) fun v119 => vStr v119 fun s120 => oB (AW.rd h117 (AW.next h80) 2) fun v121 => vInt
  .i64 v121 fun n122 => oB (AW.rd h117 (AW.next h80) 3) fun v123 => vInt .i64 v123 fun n124 => oB (AW.rd h117 (AW.next h80) 4) fun v125 => vBool v125 fun b126 => oB
  (AW.rd h117 (AW.next h80) 5) fun v127 => vBool v127 fun b128 => EvQ P f_cf [.pointer p1, .int .i64 153, .agg (Array.mk [.string s120, .int
  .i64 n122, .int .i64 n124, .bool b126, .bool b128])] h117 fun v129 h130 => vBool v129 fun b131 => Q (.bool b131) h130) (oB (AW.rd h117 (AW.next
  h80) 0) fun v132 => vStr v132 fun s133 => EvQ P f_dk [.string s133, .string (ByteArray.mk #[120])] h117 fun v134 h135 => vStr v134 fun s136 => EvQ P f_dl [.string
  s136] h135 fun v137 h138 => vBool v137 fun b139 => bC (!b139) (oB (AW.rd h138 (AW.next h80) 1) fun v140 => vStr v140 fun s141 => oB (AW.rd h138 (AW.next h80) 2) fun v142 => vInt
  .i64 v142 fun n143 => oB (AW.rd h138 (AW.next h80) 3) fun v144 => vInt .i64 v144 fun n145 => oB (AW.rd h138 (AW.next h80) 4) fun v146 => vBool v146 fun b147 => oB
  (AW.rd h138 (AW.next h80) 5) fun v148 => vBool v148 fun b149 => EvQ P f_cf [.pointer p1, .int .i64 2, .agg (Array.mk [.string s141, .int
  .i64 n143, .int .i64 n145, .bool b147, .bool b149])] h138 fun v150 h151 => vBool v150 fun b152 => Q (.bool b152) h151) (EvQ P f_cr
  [.pointer p1] h138 fun v153 h154 => vBool v153 fun b155 => bC b155 (oB (AW.rd h154 (AW.next h80) 1) fun v156 => vStr v156 fun s157 => oB (AW.rd h154 (AW.next h80) 2) fun
  v158 => vInt .i64 v158 fun n159 => oB (AW.rd h154 (AW.next h80) 3) fun v160 => vInt .i64 v160 fun n161 => oB (AW.rd h154 (AW.next h80) 4) fun v162 => vBool v162 fun
  b163 => oB (AW.rd h154 (AW.next h80) 5) fun v164 => vBool v164 fun b165 => EvQ P f_cf [.pointer p1, .int .i64 8, .agg (Array.mk [.string s157,
  .int .i64 n159, .int .i64 n161, .bool b163, .bool b165])] h154 fun v166 h167 => vBool v166 fun b168 => Q (.bool b168) h167) (aP p1 fun m169
  m170 => oB (AW.rd h154 m169 (m170 + 1)) fun v171 => vPtr v171 fun p172 => aP p1 fun m173 m174 => oB (AW.rd h154 m173 (m174 + 1)) fun v175 => vPtr v175 fun p176 => aP p176 fun
  m177 m178 => oB (AW.rd h154 m177 (m178 + 2)) fun v179 => vSl v179 fun p180 m181 m182 => aP p3 fun m183 m184 => oB (natIdx 0 m4) fun m185 => oB (AW.rd h154 m183 (m184 + m185 * 6))
  fun v186 => vStr v186 fun s187 => EvQ P f_bu [.slice p6 m7 m8] h154 fun v188 h189 => vSl v188 fun p190 m191 m192 => oP (appendB P (AW.addVar h189 [.string s187,
  .slice p190 m191 m192, .slice p9 m10 m11]) (Array.mk [ty_sl_elab_pattern, ty_sl_elab_pattern]) [.slice p180 m181 m182, .slice (some ⟨(AW.next h189), 0, none⟩) 1 1]) fun v193 h194
  => vSl v193 fun p195 m196 m197 => aP p172 fun m198 m199 => oB (AW.wr h194 m198 (m199 + 2) (.slice p195 m196 m197)) fun h200 => oB (AW.rd h189 m169 (m170 + 1)) fun v201 =>
  vPtr v201 fun p202 => Value.pointer p202 = .pointer p172 ∧ oB (AW.rd (AW.addVar h189 [.string s187, .slice p190 m191 m192, .slice p9 m10 m11]) m169 (m170 +
  1)) fun v203 => vPtr v203 fun p204 => Value.pointer p204 = .pointer p172 ∧ oB (AW.rd h194 m169 (m170 + 1)) fun v205 => vPtr v205 fun p206 => Value.pointer p206 =
  .pointer p172 ∧ oB (AW.rd h189 m173 (m174 + 1)) fun v207 => vPtr v207 fun p208 => Value.pointer p208 = .pointer p176 ∧ oB (AW.rd (AW.addVar h189 [.string s187,
  .slice p190 m191 m192, .slice p9 m10 m11]) m173 (m174 + 1)) fun v209 => vPtr v209 fun p210 => Value.pointer p210 = .pointer p176 ∧ oB (AW.rd h189 m177 (m178 + 2))
  fun v211 => vSl v211 fun p212 m213 m214 => Value.slice p212 m213 m214 = .slice p180 m181 m182 ∧ oB (AW.rd (AW.addVar h189 [.string s187, .slice p190 m191 m192,
  .slice p9 m10 m11]) m177 (m178 + 2)) fun v215 => vSl v215 fun p216 m217 m218 => Value.slice p216 m217 m218 = .slice p180 m181 m182 ∧ oB (AW.rd h189 m183 (m184 + m185 *
  6)) fun v219 => vStr v219 fun s220 => Value.string s220 = .string s187 ∧ unitAt P f_cu 30 [0, 3, 5, 7, 8, 13] [.pointer p1, .pointer (some ⟨m2, 0, none⟩),
  .slice p3 m4 m5, .slice p6 m7 m8, .slice p9 m10 m11, .bool b81] h200 Q))))) (unitAt P f_cu 30 [0, 3, 5, 7, 8, 13] [.pointer p1, .pointer (some
  ⟨m2, 0, none⟩), .slice p3 m4 m5, .slice p6 m7 m8, .slice p9 m10 m11, .bool b81] h80 Q)))) : unitAt P f_cu 9 [0, 3, 5, 7, 8, 46, 47, 48] [.pointer
  p1, .pointer (some ⟨m2, 0, none⟩), .slice p3 m4 m5, .slice p6 m7 m8, .slice p9 m10 m11, .slice p12 m13 m14, .int .i64 n15, .int
  .i64 n16] h Q := uo [(9,[0,3,5,7,8,46,47,48]),(30,[0,3,5,7,8,13]),(32,[0,3,5,7,8,13,15,16]),(47,[0,3,5,7,8,13,15,16,18]),(50,[0,3,7,8,13,15,22])] H (by kernel_rfl)
theorem r_cv {p1 : Option Addr} {m2 : Nat} {p3 : Option Addr} {m4 m5 : Nat} {p6 : Option Addr} {m7 m8 : Nat} {p9 : Option Addr} {m10 m11 : Nat} {b12 : Bool} (H : oB (AW.wrL (AW.addVar h [.string (ByteArray.mk #[]), .slice none 0 0, .slice none 0 0, .slice none 0 0]) (AW.next
  h) 0 [.string (ByteArray.mk #[]), .slice none 0 0, .slice none 0 0, .slice none 0 0]) fun h13 => unitAt P f_cu 32 [0, 3, 5, 7, 8, 13, 15, 16] [.pointer
  p1, .pointer (some ⟨m2, 0, none⟩), .slice p3 m4 m5, .slice p6 m7 m8, .slice p9 m10 m11, .bool b12, .pointer (some (Addr.mk (AW.next h) 0
  none)), .int .i64 0] h13 Q) : unitAt P f_cu 30 [0, 3, 5, 7, 8, 13] [.pointer p1, .pointer (some ⟨m2, 0, none⟩), .slice p3 m4 m5, .slice p6
  m7 m8, .slice p9 m10 m11, .bool b12] h Q := uo [(9,[0,3,5,7,8,46,47,48]),(30,[0,3,5,7,8,13]),(32,[0,3,5,7,8,13,15,16]),(47,[0,3,5,7,8,13,15,16,18]),(50,[0,3,7,8,13,15,22])] H (by kernel_rfl)
theorem r_cw {p1 : Option Addr} {m2 : Nat} {p3 : Option Addr} {m4 m5 : Nat} {p6 : Option Addr} {m7 m8 : Nat} {p9 : Option Addr} {m10 m11 : Nat} {b12 : Bool} {m13 : Nat} {n14 : Int} (H : bC (decide (n14 < (↑m4 : Int))) (bC (!b12) (aP p3 fun m15 m16 => oB (natIdx n14 m4) fun m17 => oB (AW.rd h m15
  (m16 + m17 * 6)) fun v18 => vStr v18 fun s19 => oB (AW.rd h m15 (m16 + m17 * 6 + 1)) fun v20 => vStr v20 fun s21 => oB (AW.rd h m15 (m16 + m17 * 6 + 1 + 1)) fun v22 => vInt
  .i64 v22 fun n23 => oB (AW.rd h m15 (m16 + m17 * 6 + 1 + 1 + 1)) fun v24 => vInt .i64 v24 fun n25 => oB (AW.rd h m15 (m16 + m17 * 6 + 1 + 1 + 1 + 1)) fun v26 =>
  vBool v26 fun b27 => oB (AW.rd h m15 (m16 + m17 * 6 + 1 + 1 + 1 + 1 + 1)) fun v28 => vBool v28 fun b29 => oB (AW.wrL (AW.addVar h [.string (ByteArray.mk #[]), .string
  (ByteArray.mk #[]), .int .i64 0, .int .i64 0, .bool false, .bool false]) (AW.next h) 0 [.string s19, .string s21, .int
  .i64 n23, .int .i64 n25, .bool b27, .bool b29]) fun h30 => oB (AW.rd h30 (AW.next h) 0) fun v31 => vStr v31 fun s32 => EvQ P f_do [.string s32]
  h30 fun v33 h34 => vTup v33 fun l35 => lC l35 fun v36 l37 => vStr v36 fun s38 => lC l37 fun v39 l40 => vInt .i64 v39 fun n41 => lN l40 (aP p1 fun m42 m43 => oB (AW.rd h34
  m42 (m43 + 1)) fun v44 => vPtr v44 fun p45 => aP p45 fun m46 m47 => oB (AW.rd h34 m46 (m47 + 1)) fun v48 => vMap v48 fun p49 => oB (AW.mapL h34 p49) fun l50 => oB (Abs.look
  TypeDesc.string (.string s38) l50) fun p51 => vStr (Option.getD p51 (.string (ByteArray.mk #[]))) fun s52 => bC (n41 != 0) (oB (AW.rd h34 (AW.next h) 1) fun v53 => vStr
  v53 fun s54 => oB (AW.rd h34 (AW.next h) 2) fun v55 => vInt .i64 v55 fun n56 => oB (AW.rd h34 (AW.next h) 3) fun v57 => vInt .i64 v57 fun n58 => oB (AW.rd h34
  (AW.next h) 4) fun v59 => vBool v59 fun b60 => oB (AW.rd h34 (AW.next h) 5) fun v61 => vBool v61 fun b62 => EvQ P f_cf [.pointer p1, .int .i64 n41, .agg
  (Array.mk [.string s54, .int .i64 n56, .int .i64 n58, .bool b60, .bool b62])] h34 fun v63 h64 => vBool v63 fun b65 => Q (.bool b65)
  h64) (bC (Option.isSome p51) (oB (AW.rd h34 (AW.next h) 1) fun v66 => vStr v66 fun s67 => oB (AW.rd h34 (AW.next h) 2) fun v68 => vInt .i64 v68 fun n69 => oB (AW.rd h34
  (AW.next h) 3) fun v70 => vInt .i64 v70 fun n71 => oB (AW.rd h34 (AW.next h) 4) fun v72 => vBool v72 fun b73 => oB (AW.rd h34 (AW.next h) 5) fun v74 => vBool v74 fun b75
  => EvQ P f_cf [.pointer p1, .int .i64 152, .agg (Array.mk [.string s67, .int .i64 n69, .int .i64 n71, .bool b73,
  .bool b75])] h34 fun v76 h77 => vBool v76 fun b78 => Q (.bool b78) h77) (bC (n14 == 4) (oB (AW.rd h34 (AW.next h) 1) fun v79 => vStr v79 fun s80 => oB (AW.rd h34
  (AW.next h) 2) fun v81 => vInt .i64 v81 fun n82 => oB (AW.rd h34 (AW.next h) 3) fun v83 => vInt .i64 v83 fun n84 => oB (AW.rd h34 (AW.next h) 4) fun v85 => vBool
  v85 fun b86 => oB (AW.rd h34 (AW.next h) 5) fun v87 => vBool v87 fun b88 => EvQ P f_cf [.pointer p1, .int .i64 154, .agg (Array.mk [.string s80,
  .int .i64 n82, .int .i64 n84, .bool b86, .bool b88])] h34 fun v89 h90 => vBool v89 fun b91 => Q (.bool b91) h90) (EvQ P f_cr
  [.pointer p1] h34 fun v92 h93 => vBool v92 fun b94 => bC b94 (oB (AW.rd h93 (AW.next h) 1) fun v95 => vStr v95 fun s96 => oB (AW.rd h93 (AW.next h) 2) fun v97 => vInt
  .i64 v97 fun n98 => oB (AW.rd h93 (AW.next h) 3) fun v99 => vInt .i64 v99 fun n100 => oB (AW.rd h93 (AW.next h) 4) fun v101 => vBool v101 fun b102 => oB (AW.rd h93
  (AW.next h) 5) fun v103 => vBool v103 fun b104 => EvQ P f_cf [.pointer p1, .int .i64 8, .agg (Array.mk [.string s96, .int .i64 n98,
  .int .i64 n100, .bool b102, .bool b104])] h93 fun v105 h106 => vBool v105 fun b107 => Q (.bool b107) h106) (bC (n14 == 0) (oB (AW.wr h93 m13 0
  (.string s38)) fun h108 => unitAt P f_cu 47 [0, 3, 5, 7, 8, 13, 15, 16, 18] [.pointer p1, .pointer (some ⟨m2, 0, none⟩), .slice p3 m4 m5, .slice p6
  m7 m8, .slice p9 m10 m11, .bool b12, .pointer (some ⟨m13, 0, none⟩), .int .i64 n14, .string s38] h108 Q) (unitAt P f_cu 47 [0, 3, 5, 7, 8,
  13, 15, 16, 18] [.pointer p1, .pointer (some ⟨m2, 0, none⟩), .slice p3 m4 m5, .slice p6 m7 m8, .slice p9 m10 m11, .bool b12, .pointer
  (some ⟨m13, 0, none⟩), .int .i64 n14, .string s38] h93 Q))))))) (unitAt P f_cu 50 [0, 3, 7, 8, 13, 15, 22] [.pointer p1, .pointer (some (Addr.mk
  m2 0 none)), .slice p6 m7 m8, .slice p9 m10 m11, .bool b12, .pointer (some ⟨m13, 0, none⟩), .int .i64 0] h Q)) (unitAt P f_cu 50 [0, 3, 7,
  8, 13, 15, 22] [.pointer p1, .pointer (some ⟨m2, 0, none⟩), .slice p6 m7 m8, .slice p9 m10 m11, .bool b12, .pointer (some (Addr.mk m13 0
  none)), .int .i64 0] h Q)) : unitAt P f_cu 32 [0, 3, 5, 7, 8, 13, 15, 16] [.pointer p1, .pointer (some ⟨m2, 0, none⟩), .slice p3 m4 m5,
  .slice p6 m7 m8, .slice p9 m10 m11, .bool b12, .pointer (some ⟨m13, 0, none⟩), .int .i64 n14] h Q := uo [(9,[0,3,5,7,8,46,47,48]),(30,[0,3,5,7,8,13]),(32,[0,3,5,7,8,13,15,16]),(47,[0,3,5,7,8,13,15,16,18]),(50,[0,3,7,8,13,15,22])] H (by kernel_rfl)
theorem r_cx {p1 : Option Addr} {m2 : Nat} {p3 : Option Addr} {m4 m5 : Nat} {p6 : Option Addr} {m7 m8 : Nat} {p9 : Option Addr} {m10 m11 : Nat} {b12 : Bool} {m13 : Nat} {n14 : Int} {s15 : ByteArray} (H : oB (AW.rd h m13 1) fun v16 => vSl v16 fun p17 m18 m19 => oP (appendB P (AW.addVar h
  [.string s15]) (Array.mk [ty_sl_string, ty_sl_string]) [.slice p17 m18 m19, .slice (some ⟨(AW.next h), 0, none⟩) 1 1]) fun v20 h21 => vSl v20 fun p22 m23 m24 => oB (AW.wr
  h21 m13 1 (.slice p22 m23 m24)) fun h25 => aP p1 fun m26 m27 => oB (AW.rd h25 m26 (m27 + 1)) fun v28 => vPtr v28 fun p29 => aP p29 fun m30 m31 => oB (AW.rd h25 m30 (m31 +
  1)) fun v32 => vMap v32 fun p33 => oB (AW.rd h25 m13 0) fun v34 => vStr v34 fun s35 => oB (mapUpdV P h25 ty_map_string_string (.map p33) (.string s15) (.string s35)) fun h36 =>
  unitAt P f_cu 32 [0, 3, 5, 7, 8, 13, 15, 16] [.pointer p1, .pointer (some ⟨m2, 0, none⟩), .slice p3 m4 m5, .slice p6 m7 m8, .slice p9 m10 m11,
  .bool b12, .pointer (some ⟨m13, 0, none⟩), .int .i64 (IntKind.wrap .i64 (n14 + 1))] h36 Q) : unitAt P f_cu 47 [0, 3, 5, 7, 8, 13, 15, 16, 18]
  [.pointer p1, .pointer (some ⟨m2, 0, none⟩), .slice p3 m4 m5, .slice p6 m7 m8, .slice p9 m10 m11, .bool b12, .pointer (some (Addr.mk m13
  0 none)), .int .i64 n14, .string s15] h Q := uo [(9,[0,3,5,7,8,46,47,48]),(30,[0,3,5,7,8,13]),(32,[0,3,5,7,8,13,15,16]),(47,[0,3,5,7,8,13,15,16,18]),(50,[0,3,7,8,13,15,22])] H (by kernel_rfl)
theorem r_cy {p1 : Option Addr} {m2 : Nat} {p3 : Option Addr} {m4 m5 : Nat} {p6 : Option Addr} {m7 m8 : Nat} {b9 : Bool} {m10 : Nat} {n11 : Int} (H : bC (decide (n11 < (↑m4 : Int))) (bC (!b9) (aP p3 fun m12 m13 => oB (natIdx n11 m4) fun m14 => oB (AW.rd h m12 (m13 + m14 * 6)) fun v15 => vStr v15 fun s16
  => EvQ P f_do [.string s16] h fun v17 h18 => vTup v17 fun l19 => lC l19 fun v20 l21 => vStr v20 fun s22 => lC l21 fun v23 l24 => vInt .i64 v23 fun n25 => lN l24 (bC
  (n25 != 0) (aP p3 fun m26 m27 => oB (natIdx n11 m4) fun m28 => oB (AW.rd h18 m26 (m27 + m28 * 6 + 1)) fun v29 => vStr v29 fun s30 => oB (AW.rd h18 m26 (m27 + m28 * 6 + 1 + 1))
  fun v31 => vInt .i64 v31 fun n32 => oB (AW.rd h18 m26 (m27 + m28 * 6 + 1 + 1 + 1)) fun v33 => vInt .i64 v33 fun n34 => oB (AW.rd h18 m26 (m27 + m28 * 6 + 1 + 1 + 1
  + 1)) fun v35 => vBool v35 fun b36 => oB (AW.rd h18 m26 (m27 + m28 * 6 + 1 + 1 + 1 + 1 + 1)) fun v37 => vBool v37 fun b38 => EvQ P f_cf [.pointer p1, .int .i64
  n25, .agg (Array.mk [.string s30, .int .i64 n32, .int .i64 n34, .bool b36, .bool b38])] h18 fun v39 h40 => vBool v39 fun b41 => Q
  (.bool b41) h40) (oB (AW.rd h18 m10 2) fun v42 => vSl v42 fun p43 m44 m45 => EvQ P f_e7 [.slice p43 m44 m45, .string s22] h18 fun v46 h47 => vBool v46 fun b48 =>
  bC (!b48) (oB (AW.rd h47 m10 2) fun v49 => vSl v49 fun p50 m51 m52 => oP (appendB P (AW.addVar h47 [.string s22]) (Array.mk [ty_sl_string, ty_sl_string]) [.slice p50 m51 m52,
  .slice (some ⟨(AW.next h47), 0, none⟩) 1 1]) fun v53 h54 => vSl v53 fun p55 m56 m57 => oB (AW.wr h54 m10 2 (.slice p55 m56 m57)) fun h58 => unitAt P f_cu 50 [0,
  3, 7, 8, 13, 15, 22] [.pointer p1, .pointer (some ⟨m2, 0, none⟩), .slice p3 m4 m5, .slice p6 m7 m8, .bool b9, .pointer (some (Addr.mk m10 0
  none)), .int .i64 (IntKind.wrap .i64 (n11 + 1))] h58 Q) (unitAt P f_cu 50 [0, 3, 7, 8, 13, 15, 22] [.pointer p1, .pointer (some ⟨m2, 0, none⟩),
  .slice p3 m4 m5, .slice p6 m7 m8, .bool b9, .pointer (some ⟨m10, 0, none⟩), .int .i64 (IntKind.wrap .i64 (n11 + 1))] h47 Q)))) (EvQ P
  f_a3 [.slice p6 m7 m8] h fun v59 h60 => vTup v59 fun l61 => lC l61 fun v62 l63 => vSl v62 fun p64 m65 m66 => lC l63 fun v67 l68 => vAgg v67 fun l69 => lC l69 fun v70 l71 =>
  vInt .i64 v70 fun n72 => lC l71 fun v73 l74 => vInt .i64 v73 fun n75 => lN l74 (lN l68 (oB (AW.wrL (AW.addVar h60 [.int .i64 0, .int .i64
  0]) (AW.next h60) 0 [.int .i64 n72, .int .i64 n75]) fun h76 => oB (AW.rd h76 (AW.next h60) 0) fun v77 => vInt .i64 v77 fun n78 => bC (n78 != 0) (oB
  (AW.rd h76 (AW.next h60) 0) fun v79 => vInt .i64 v79 fun n80 => oB (AW.rd h76 m2 5) fun v81 => vSl v81 fun p82 m83 m84 => oB (AW.rd h76 (AW.next h60) 1) fun v85 => vInt
  .i64 v85 fun n86 => oB (AW.rd h76 m2 5) fun v87 => vSl v87 fun p88 m89 m90 => aP p82 fun m91 m92 => oB (natIdx (if IntKind.wrap .i64 ((↑m89 : Int) - 1) < n86 then
  IntKind.wrap .i64 ((↑m89 : Int) - 1) else n86) m83) fun m93 => oB (AW.rd h76 m91 (m92 + m93 * 3 + 2)) fun v94 => vSl v94 fun p95 m96 m97 => aP p95 fun m98 m99 => oB
  (natIdx 0 m96) fun m100 => oB (AW.rd h76 m98 (m99 + m100 * 5)) fun v101 => vStr v101 fun s102 => oB (AW.rd h76 m98 (m99 + m100 * 5 + 1)) fun v103 => vInt .i64 v103 fun
  n104 => oB (AW.rd h76 m98 (m99 + m100 * 5 + 1 + 1)) fun v105 => vInt .i64 v105 fun n106 => oB (AW.rd h76 m98 (m99 + m100 * 5 + 1 + 1 + 1)) fun v107 => vBool v107 fun b108
  => oB (AW.rd h76 m98 (m99 + m100 * 5 + 1 + 1 + 1 + 1)) fun v109 => vBool v109 fun b110 => EvQ P f_cf [.pointer p1, .int .i64 n80, .agg (Array.mk
  [.string s102, .int .i64 n104, .int .i64 n106, .bool b108, .bool b110])] h76 fun v111 h112 => vBool v111 fun b113 => Q (.bool b113)
  h112) (oB (AW.wr h76 m10 3 (.slice p64 m65 m66)) fun h114 => bC b9 (Q (.bool true) h114) (oB (AW.rd h114 m10 0) fun v115 => vStr v115 fun s116 => oB (AW.rd h114 m10 1)
  fun v117 => vSl v117 fun p118 m119 m120 => oB (AW.rd h114 m10 2) fun v121 => vSl v121 fun p122 m123 m124 => oB (AW.rd h114 m10 3) fun v125 => vSl v125 fun p126 m127 m128 => EvQ P
  f_bj [.agg (Array.mk [.string s116, .slice p118 m119 m120, .slice p122 m123 m124, .slice p126 m127 m128])] h114 fun v129 h130 => vStr v129 fun s131 => bC
  (decide ((↑(ByteArray.size s131) : Int) > 512)) (oB (AW.rd h130 m2 3) fun v132 => vSl v132 fun p133 m134 m135 => aP p133 fun m136 m137 => oB (natIdx 0 m134) fun m138 => oB (AW.rd
  h130 m136 (m137 + m138 * 5)) fun v139 => vStr v139 fun s140 => oB (AW.rd h130 m136 (m137 + m138 * 5 + 1)) fun v141 => vInt .i64 v141 fun n142 => oB (AW.rd h130 m136 (m137
  + m138 * 5 + 1 + 1)) fun v143 => vInt .i64 v143 fun n144 => oB (AW.rd h130 m136 (m137 + m138 * 5 + 1 + 1 + 1)) fun v145 => vBool v145 fun b146 => oB (AW.rd h130 m136 (m137
  + m138 * 5 + 1 + 1 + 1 + 1)) fun v147 => vBool v147 fun b148 => EvQ P f_cf [.pointer p1, .int .i64 154, .agg (Array.mk [.string s140, .int
  .i64 n142, .int .i64 n144, .bool b146, .bool b148])] h130 fun v149 h150 => vBool v149 fun b151 => Q (.bool b151) h150) (aP p1 fun m152 m153 =>
  oB (AW.rd h130 m152 (m153 + 1)) fun v154 => vPtr v154 fun p155 => aP p155 fun m156 m157 => oB (AW.rd h130 m156 m157) fun v158 => vMap v158 fun p159 => oB (AW.rd h130 m10 0) fun
  v160 => vStr v160 fun s161 => oB (AW.rd h130 m10 0) fun v162 => vStr v162 fun s163 => oB (AW.rd h130 m10 1) fun v164 => vSl v164 fun p165 m166 m167 => oB (AW.rd h130 m10 2) fun
  v168 => vSl v168 fun p169 m170 m171 => oB (AW.rd h130 m10 3) fun v172 => vSl v172 fun p173 m174 m175 => oB (mapUpdV P h130 ty_map_string_api_Job (.map p159) (.string s161) (.agg
  (Array.mk [.string s163, .slice p165 m166 m167, .slice p169 m170 m171, .slice p173 m174 m175]))) fun h176 => Q (.bool true) h176))))))) (EvQ P f_a3
  [.slice p6 m7 m8] h fun v177 h178 => vTup v177 fun l179 => lC l179 fun v180 l181 => vSl v180 fun p182 m183 m184 => lC l181 fun v185 l186 => vAgg v185 fun l187 => lC l187 fun
  v188 l189 => vInt .i64 v188 fun n190 => lC l189 fun v191 l192 => vInt .i64 v191 fun n193 => lN l192 (lN l186 (oB (AW.wrL (AW.addVar h178 [.int .i64 0,
  .int .i64 0]) (AW.next h178) 0 [.int .i64 n190, .int .i64 n193]) fun h194 => oB (AW.rd h194 (AW.next h178) 0) fun v195 => vInt .i64
  v195 fun n196 => bC (n196 != 0) (oB (AW.rd h194 (AW.next h178) 0) fun v197 => vInt .i64 v197 fun n198 => oB (AW.rd h194 m2 5) fun v199 => vSl v199 fun p200 m201 m202 => oB
  (AW.rd h194 (AW.next h178) 1) fun v203 => vInt .i64 v203 fun n204 => oB (AW.rd h194 m2 5) fun v205 => vSl v205 fun p206 m207 m208 => aP p200 fun m209 m210 => oB (natIdx
  (if IntKind.wrap .i64 ((↑m207 : Int) - 1) < n204 then IntKind.wrap .i64 ((↑m207 : Int) - 1) else n204) m201) fun m211 => oB (AW.rd h194 m209 (m210 + m211 * 3 + 2))
  fun v212 => vSl v212 fun p213 m214 m215 => aP p213 fun m216 m217 => oB (natIdx 0 m214) fun m218 => oB (AW.rd h194 m216 (m217 + m218 * 5)) fun v219 => vStr v219 fun s220 => oB
  (AW.rd h194 m216 (m217 + m218 * 5 + 1)) fun v221 => vInt .i64 v221 fun n222 => oB (AW.rd h194 m216 (m217 + m218 * 5 + 1 + 1)) fun v223 => vInt .i64 v223 fun n224 =>
  oB (AW.rd h194 m216 (m217 + m218 * 5 + 1 + 1 + 1)) fun v225 => vBool v225 fun b226 => oB (AW.rd h194 m216 (m217 + m218 * 5 + 1 + 1 + 1 + 1)) fun v227 => vBool v227 fun b228 =>
  EvQ P f_cf [.pointer p1, .int .i64 n198, .agg (Array.mk [.string s220, .int .i64 n222, .int .i64 n224, .bool b226,
  .bool b228])] h194 fun v229 h230 => vBool v229 fun b231 => Q (.bool b231) h230) (oB (AW.wr h194 m10 3 (.slice p182 m183 m184)) fun h232 => bC b9 (Q (.bool
  true) h232) (oB (AW.rd h232 m10 0) fun v233 => vStr v233 fun s234 => oB (AW.rd h232 m10 1) fun v235 => vSl v235 fun p236 m237 m238 => oB (AW.rd h232 m10 2) fun v239 => vSl v239
  fun p240 m241 m242 => oB (AW.rd h232 m10 3) fun v243 => vSl v243 fun p244 m245 m246 => EvQ P f_bj [.agg (Array.mk [.string s234, .slice p236 m237 m238, .slice
  p240 m241 m242, .slice p244 m245 m246])] h232 fun v247 h248 => vStr v247 fun s249 => bC (decide ((↑(ByteArray.size s249) : Int) > 512)) (oB (AW.rd h248 m2 3) fun v250 => vSl
  v250 fun p251 m252 m253 => aP p251 fun m254 m255 => oB (natIdx 0 m252) fun m256 => oB (AW.rd h248 m254 (m255 + m256 * 5)) fun v257 => vStr v257 fun s258 => oB (AW.rd h248 m254
  (m255 + m256 * 5 + 1)) fun v259 => vInt .i64 v259 fun n260 => oB (AW.rd h248 m254 (m255 + m256 * 5 + 1 + 1)) fun v261 => vInt .i64 v261 fun n262 => oB (AW.rd h248
  m254 (m255 + m256 * 5 + 1 + 1 + 1)) fun v263 => vBool v263 fun b264 => oB (AW.rd h248 m254 (m255 + m256 * 5 + 1 + 1 + 1 + 1)) fun v265 => vBool v265 fun b266 => EvQ P f_cf
  [.pointer p1, .int .i64 154, .agg (Array.mk [.string s258, .int .i64 n260, .int .i64 n262, .bool b264, .bool b266])]
  h248 fun v267 h268 => vBool v267 fun b269 => Q (.bool b269) h268) (aP p1 fun m270 m271 => oB (AW.rd h248 m270 (m271 + 1)) fun v272 => vPtr v272 fun p273 => aP p273 fun m274
  m275 => oB (AW.rd h248 m274 m275) fun v276 => vMap v276 fun p277 => oB (AW.rd h248 m10 0) fun v278 => vStr v278 fun s279 => oB (AW.rd h248 m10 0) fun v280 => vStr v280 fun s281
  => oB (AW.rd h248 m10 1) fun v282 => vSl v282 fun p283 m284 m285 => oB (AW.rd h248 m10 2) fun v286 => vSl v286 fun p287 m288 m289 => oB (AW.rd h248 m10 3) fun v290 => vSl v290
  fun p291 m292 m293 => oB (mapUpdV P h248 ty_map_string_api_Job (.map p277) (.string s279) (.agg (Array.mk [.string s281, .slice p283 m284 m285, .slice p287 m288
  m289, .slice p291 m292 m293]))) fun h294 => Q (.bool true) h294))))))) : unitAt P f_cu 50 [0, 3, 7, 8, 13, 15, 22] [.pointer p1, .pointer (some (Addr.mk m2 0
  none)), .slice p3 m4 m5, .slice p6 m7 m8, .bool b9, .pointer (some ⟨m10, 0, none⟩), .int .i64 n11] h Q := uo [(9,[0,3,5,7,8,46,47,48]),(30,[0,3,5,7,8,13]),(32,[0,3,5,7,8,13,15,16]),(47,[0,3,5,7,8,13,15,16,18]),(50,[0,3,7,8,13,15,22])] H (by kernel_rfl)
theorem r_do {s1 : ByteArray} (H : unitAt P f_do 3 [0, 4, 5] [.string s1, .slice none 0 0, .bool true] h Q) : EvQ P f_do
  [.string s1] h Q := fo [(3,[0,4,5]),(12,[0,4,5,6,17]),(18,[4,7,38,39,40])] H (by kernel_rfl)
theorem r_dr {s1 : ByteArray} {p2 : Option Addr} {m3 m4 : Nat} {b5 : Bool} (H : bC b5 (EvQ P f_f4 [.string s1, .string
  (ByteArray.mk #[47])] h fun v6 h7 => vTup v6 fun l8 => lC l8 fun v9 l10 => vStr v9 fun s11 => lC l10 fun v12 l13 => vStr v12 fun s14 => lC l13 fun v15 l16 => vBool v15 fun b17 =>
  lN l16 (bC (bEq s11 (ByteArray.mk #[])) (unitAt P f_do 3 [0, 4, 5] [.string s14, .slice p2 m3 m4, .bool b17] h7 Q) (bC (bEq s11 (ByteArray.mk #[46])) (unitAt P
  f_do 3 [0, 4, 5] [.string s14, .slice p2 m3 m4, .bool b17] h7 Q) (unitAt P f_do 12 [0, 4, 5, 6, 17] [.string s14, .slice p2 m3 m4, .bool b17,
  .string s11, .string s11] h7 Q)))) (unitAt P f_do 18 [4, 7, 38, 39, 40] [.slice p2 m3 m4, .int .i64 (Int.negSucc 0), .slice p2 m3 m4, .int
  .i64 (↑m3 : Int), .int .i64 0] h Q)) : unitAt P f_do 3 [0, 4, 5] [.string s1, .slice p2 m3 m4, .bool b5] h Q := uo [(3,[0,4,5]),(12,[0,4,5,6,17]),(18,[4,7,38,39,40])] H (by kernel_rfl)
theorem r_dp {s1 : ByteArray} {p2 : Option Addr} {m3 m4 : Nat} {b5 : Bool} {s6 s7 : ByteArray} (H : bC (bEq s7
  (ByteArray.mk #[46, 46])) (bC ((↑m3 : Int) == 0) (Q (.tuple (Array.mk [.string (ByteArray.mk #[]), .int .i64 2])) h) (oB (natBnd (IntKind.wrap .i64
  ((↑m3 : Int) - 1)) m4) fun m8 => bC (Nat.ble m8 m4) (oB (shO p2 0) fun p9 => unitAt P f_do 3 [0, 4, 5] [.string s1, .slice p9 (m8 - 0) (m4 - 0), .bool b5] h Q)
  False)) (EvQ P f_dt [.string s6] h fun v10 h11 => vBool v10 fun b12 => bC (!b12) (Q (.tuple (Array.mk [.string (ByteArray.mk #[]), .int .i64 2])) h11)
  (oP (appendB P (AW.addVar h11 [.string s6]) (Array.mk [ty_sl_string, ty_sl_string]) [.slice p2 m3 m4, .slice (some ⟨(AW.next h11), 0, none⟩) 1 1]) fun v13 h14 => vSl v13
  fun p15 m16 m17 => unitAt P f_do 3 [0, 4, 5] [.string s1, .slice p15 m16 m17, .bool b5] h14 Q))) : unitAt P f_do 12 [0, 4, 5, 6, 17] [.string s1, .slice
  p2 m3 m4, .bool b5, .string s6, .string s7] h Q := uo [(3,[0,4,5]),(12,[0,4,5,6,17]),(18,[4,7,38,39,40])] H (by kernel_rfl)
theorem r_dq {p1 : Option Addr} {m2 m3 : Nat} {n4 : Int} {p5 : Option Addr} {m6 m7 : Nat} {n8 n9 : Int} (H : bC
  (decide (n9 < n8)) (aP p5 fun m10 m11 => oB (natIdx n9 m6) fun m12 => oB (AW.rd h m10 (m11 + m12 * 1)) fun v13 => vStr v13 fun s14 => unitAt P f_do 18 [4, 7, 38, 39, 40]
  [.slice p1 m2 m3, .int .i64 (IntKind.wrap .i64 (n4 + IntKind.wrap .i64 ((↑(ByteArray.size s14) : Int) + 1))), .slice p5 m6 m7, .int
  .i64 n8, .int .i64 (IntKind.wrap .i64 (n9 + 1))] h Q) (bC (decide (n4 < 0)) (Q (.tuple (Array.mk [.string (ByteArray.mk #[]), .int
  .i64 2])) h) (bC (decide (n4 > 60)) (Q (.tuple (Array.mk [.string (ByteArray.mk #[]), .int .i64 3])) h) (EvQ P f_fa [.slice p1 m2 m3,
  .string (ByteArray.mk #[47])] h fun v15 h16 => vStr v15 fun s17 => Q (.tuple (Array.mk [.string s17, .int .i64 0])) h16)))) : unitAt P f_do 18 [4, 7,
  38, 39, 40] [.slice p1 m2 m3, .int .i64 n4, .slice p5 m6 m7, .int .i64 n8, .int .i64 n9] h Q := uo [(3,[0,4,5]),(12,[0,4,5,6,17]),(18,[4,7,38,39,40])] H (by kernel_rfl)
theorem r_dj {p1 : Option Addr} {n2 : Int} (H : aP p1 fun m3 m4 => oB (AW.rd h m3 (m4 + 1)) fun v5 => vSl v5 fun p6 m7 m8 => oB (capB P h
  (Array.mk [ty_sl_uint8]) [.slice p6 m7 m8]) fun v9 => vInt .i64 v9 fun n10 => EvQ P f_bf [.int .i64 (IntKind.wrap .i64 (IntKind.wrap .i64 (2 *
  n10) + n2))] h fun v11 h12 => vSl v11 fun p13 m14 m15 => aP p1 fun m16 m17 => oB (AW.rd h12 m16 (m17 + 1)) fun v18 => vSl v18 fun p19 m20 m21 => oB (natBnd (↑m20 : Int) m15) fun
  m22 => bC (Nat.ble m22 m15) (oB (shO p13 0) fun p23 => oB (AW.rd h m16 (m17 + 1)) fun v24 => vSl v24 fun p25 m26 m27 => Value.slice p25 m26 m27 = .slice p19 m20 m21 ∧
  Value.int .i64 (↑m20 : Int) = .int .i64 (↑m20 : Int) ∧ aP p1 fun m28 m29 => oB (AW.rd h12 m28 (m29 + 1)) fun v30 => vSl v30 fun p31 m32 m33 => oP (copyB P h12
  (Array.mk [ty_sl_uint8, ty_sl_uint8]) [.slice p23 (m22 - 0) (m15 - 0), .slice p31 m32 m33]) fun v34 h35 => vInt .i64 v34 fun n36 => aP p1 fun m37 m38 => oB (AW.wr h35 m37
  (m38 + 1) (.slice p23 (m22 - 0) (m15 - 0))) fun h39 => Q (.tuple (Array.mk [])) h39) False) : EvQ P f_dj [.pointer p1, .int .i64 n2] h Q := fo [] H (by kernel_rfl)
end Go.Proofs.YtamoepfiodgbbaaGreatDoor.E
end
