/- A deterministic heap for the model, proved sound, and walks of the program over it: part 7. No condition. -/
import Derived.Test.YtkbioibemcmanaaGreatDoorAb6
import Derived.Test.YtkbioibemcmanaaGreatDoorProg
set_option linter.unusedVariables false
set_option linter.unusedSimpArgs false
set_option linter.unusedSectionVars false
section
/- Names of functions and types. -/
namespace Go.Proofs.YtkbioibemcmanaaGreatDoor.E
open Go.Abs
noncomputable abbrev P : Program := Tryz.prog
def f_bi : Nat := 4
def f_bf : Nat := 5
def f_be : Nat := 6
def f_br : Nat := 7
def f_db : Nat := 8
def f_dd : Nat := 9
def f_gq : Nat := 10
def f_dc : Nat := 11
def f_go : Nat := 12
def f_gm : Nat := 13
def f_fq : Nat := 15
def f_da : Nat := 16
def f_j1 : Nat := 17
def f_fr : Nat := 18
def f_c2 : Nat := 19
def f_bh : Nat := 20
def f_fp : Nat := 21
def f_gk : Nat := 22
def f_bv : Nat := 23
def f_fv : Nat := 24
def f_df : Nat := 25
def f_gz : Nat := 26
def f_d1 : Nat := 27
def f_dk : Nat := 28
def f_dn : Nat := 29
def f_by : Nat := 30
def f_gh : Nat := 31
def f_em : Nat := 32
def f_cx : Nat := 33
def f_cb : Nat := 34
def f_eh : Nat := 35
def f_ee : Nat := 36
def f_ft : Nat := 37
def f_ds : Nat := 38
def f_gu : Nat := 39
def f_i5 : Nat := 40
def f_g3 : Nat := 41
def f_dp : Nat := 42
def f_cf : Nat := 43
def f_gi : Nat := 44
def f_gy : Nat := 45
def f_d2 : Nat := 46
def f_di : Nat := 47
def f_do : Nat := 48
def f_ep : Nat := 49
def f_en : Nat := 50
def f_ek : Nat := 51
def f_el : Nat := 52
def f_gw : Nat := 53
def f_cv : Nat := 54
def f_ib : Nat := 55
def f_a7 : Nat := 56
def f_il : Nat := 57
def f_cy : Nat := 58
def f_ec : Nat := 59
def f_ei : Nat := 60
def f_ej : Nat := 61
def f_gl : Nat := 62
def f_g6 : Nat := 63
def f_dr : Nat := 64
def f_e1 : Nat := 65
def f_c8 : Nat := 66
def f_e4 : Nat := 67
def f_e6 : Nat := 68
def f_it : Nat := 69
def f_g2 : Nat := 70
def f_c5 : Nat := 71
def f_c6 : Nat := 72
def f_a2 : Nat := 73
def f_cj : Nat := 74
def f_ge : Nat := 75
def f_hd : Nat := 76
def f_d3 : Nat := 77
def f_eu : Nat := 78
def f_ez : Nat := 79
def f_et : Nat := 80
def f_cs : Nat := 81
def f_cu : Nat := 82
def f_fg : Nat := 83
def f_fm : Nat := 84
def f_fk : Nat := 85
def f_a1 : Nat := 86
def f_fl : Nat := 87
def f_io : Nat := 88
def f_ce : Nat := 89
def f_cd : Nat := 90
def f_cp : Nat := 91
def f_cr : Nat := 92
def f_gd : Nat := 93
def f_g8 : Nat := 94
def f_dw : Nat := 95
def f_fy : Nat := 96
def f_i3 : Nat := 97
def f_i4 : Nat := 98
def f_fu : Nat := 99
def f_e3 : Nat := 100
def f_a3 : Nat := 101
def f_ix : Nat := 102
def f_c3 : Nat := 103
def f_fx : Nat := 104
def f_al : Nat := 105
def f_ab : Nat := 106
def f_gf : Nat := 107
def f_h5 : Nat := 108
def f_h4 : Nat := 109
def f_h2 : Nat := 110
def f_h3 : Nat := 111
def f_he : Nat := 112
def f_ha : Nat := 113
def f_bw : Nat := 114
def f_hb : Nat := 115
def f_hc : Nat := 116
def f_d4 : Nat := 117
def f_d5 : Nat := 118
def f_ex : Nat := 119
def f_es : Nat := 120
def f_cw : Nat := 121
def f_fn : Nat := 122
def f_fo : Nat := 123
def f_ag : Nat := 124
def f_in : Nat := 125
def f_i9 : Nat := 126
def f_cz : Nat := 127
def f_f5 : Nat := 129
def f_ig : Nat := 130
def f_ga : Nat := 131
def f_g5 : Nat := 132
def f_gb : Nat := 133
def f_gg : Nat := 134
def f_i6 : Nat := 135
def f_ia : Nat := 136
def f_i7 : Nat := 137
def f_e5 : Nat := 138
def f_fi : Nat := 139
def f_fj : Nat := 140
def f_j3 : Nat := 141
def f_bj : Nat := 142
def f_ii : Nat := 143
def f_a4 : Nat := 144
def f_a5 : Nat := 145
def f_an : Nat := 146
def f_ak : Nat := 147
def f_iy : Nat := 148
def f_bn : Nat := 149
def f_bk : Nat := 150
def f_bm : Nat := 151
def f_i8 : Nat := 152
def f_ad : Nat := 153
def f_hf : Nat := 154
def f_h8 : Nat := 155
def f_ff : Nat := 156
def f_h6 : Nat := 157
def f_h7 : Nat := 158
def f_bx : Nat := 159
def f_er : Nat := 160
def f_ey : Nat := 161
def f_f4 : Nat := 162
def f_ch : Nat := 163
def f_f0 : Nat := 164
def f_cn : Nat := 165
def f_co : Nat := 166
def f_cm : Nat := 167
def f_ew : Nat := 168
def f_cl : Nat := 169
def f_f2 : Nat := 170
def f_a0 : Nat := 171
def f_bp : Nat := 172
def f_ap : Nat := 173
def f_hk : Nat := 174
def f_j2 : Nat := 175
def f_d0 : Nat := 176
def f_fa : Nat := 177
def f_fd : Nat := 178
def f_fb : Nat := 179
def f_fe : Nat := 180
def f_bo : Nat := 181
def f_gs : Nat := 182
def f_gc : Nat := 183
def f_iu : Nat := 184
def f_iv : Nat := 185
def f_ih : Nat := 186
def f_aj : Nat := 187
def f_bl : Nat := 188
def f_bq : Nat := 189
def f_iw : Nat := 190
def f_h9 : Nat := 191
def f_h0 : Nat := 192
def f_gj : Nat := 193
def f_ik : Nat := 194
def f_im : Nat := 195
def f_hl : Nat := 196
def f_j4 : Nat := 197
def f_hg : Nat := 198
def f_h1 : Nat := 199
def f_j0 : Nat := 200
def f_hi : Nat := 201
def f_hh : Nat := 202
def f_i1 : Nat := 203
def f_hz : Nat := 204
def f_hx : Nat := 205
def f_hr : Nat := 206
def f_hs : Nat := 207
def f_hm : Nat := 208
def f_i0 : Nat := 209
def f_hy : Nat := 210
def f_ho : Nat := 211
def f_hp : Nat := 212
def f_hv : Nat := 213
def f_hq : Nat := 214
def f_hu : Nat := 215
def f_d6 : Nat := 216
def f_hn : Nat := 217
def f_is : Nat := 218
def f_ca : Nat := 219
def f_hw : Nat := 222
def f_i2 : Nat := 223
def ty_int : Nat := 3
def ty_bool : Nat := 4
def ty_uint8 : Nat := 5
def ty_string : Nat := 9
def ty_sl_string : Nat := 28
def ty_api_Made : Nat := 37
def ty_sl_api_Need : Nat := 40
def ty_api_Need : Nat := 49
def ty_sl_api_Edge : Nat := 51
def ty_api_Edge : Nat := 53
def ty_map_string_api_Made : Nat := 69
def ty_map_string_p_clean_job : Nat := 70
def ty_map_string_bool : Nat := 71
def ty_p_clean_job : Nat := 79
def ty_sl_api_Stmt : Nat := 80
def ty_api_Job : Nat := 82
def ty_map_string_string : Nat := 95
def ty_map_string_api_Job : Nat := 101
def ty_sl_elab_pattern : Nat := 102
def ty_map_string_sl_string : Nat := 105
def ty_sl_interp_frame : Nat := 129
def ty_graph_set : Nat := 136
def ty_sl_api_RuleItem : Nat := 140
def ty_api_Word : Nat := 145
def ty_sl_api_Word : Nat := 146
def ty_sl_api_Line : Nat := 147
def ty_api_RuleItem : Nat := 149
def ty_sl_elab_text : Nat := 150
def ty_sl_sl_string : Nat := 157
def ty_elab_pattern : Nat := 159
def ty_interp_frame : Nat := 163
def ty_p_strings_Builder : Nat := 170
def ty_sl_uint8 : Nat := 171
def ty_strings_Builder : Nat := 173
def ty_error : Nat := 176
def ty_api_Line : Nat := 193
def ty_elab_text : Nat := 199
def ty_api_Stmt : Nat := 208
def ty_p_uint8 : Nat := 224
def ty_interp_turns : Nat := 259
def ty_unsafe_Pointer : Nat := 260
def ty_24_uint8 : Nat := 283
def ty_strconv_Error : Nat := 287
def ty_p_strconv_NumError : Nat := 290
def ty_65_uint8 : Nat := 295
def ty_p_errors_errorString : Nat := 302
theorem ti_ty_uint8 : tiOf P ty_uint8 = some (TI.mk (TypeDesc.int IntKind.u8) false 1 1 (some (Value.int IntKind.u8 (Int.ofNat 0)))) := by kernel_rfl
theorem ti_ty_string : tiOf P ty_string = some (TI.mk TypeDesc.string false 1 16 (some (Value.string (ByteArray.mk (Array.mk []))))) := by kernel_rfl
theorem ti_ty_sl_string : tiOf P ty_sl_string = some (TI.mk (TypeDesc.slice ty_string) false 1 24 (some (Value.slice none 0 0))) := by kernel_rfl
theorem ti_ty_sl_api_Need : tiOf P ty_sl_api_Need = some (TI.mk (TypeDesc.slice ty_api_Need) false 1 24 (some (Value.slice none 0 0))) := by kernel_rfl
theorem ti_ty_api_Need : tiOf P ty_api_Need = some (TI.mk (TypeDesc.struct (Array.mk [Field.mk "Path" ty_string 0 false "" "" 0, Field.mk "Have" ty_bool 1 false "" "" 16, Field.mk "Content" ty_string 2 false "" "" 24])) true 3 40 (some (Value.agg (Array.mk [Value.string (ByteArray.mk (Array.mk [])), Value.bool false, Value.string (ByteArray.mk (Array.mk []))])))) := by kernel_rfl
theorem ti_ty_sl_api_Edge : tiOf P ty_sl_api_Edge = some (TI.mk (TypeDesc.slice ty_api_Edge) false 1 24 (some (Value.slice none 0 0))) := by kernel_rfl
theorem ti_ty_api_Edge : tiOf P ty_api_Edge = some (TI.mk (TypeDesc.struct (Array.mk [Field.mk "From" ty_string 0 false "" "" 0, Field.mk "To" ty_string 1 false "" "" 16])) true 2 32 (some (Value.agg (Array.mk [Value.string (ByteArray.mk (Array.mk [])), Value.string (ByteArray.mk (Array.mk []))])))) := by kernel_rfl
theorem ti_ty_map_string_api_Made : tiOf P ty_map_string_api_Made = some (TI.mk (TypeDesc.map ty_string ty_api_Made) false 1 8 (some (Value.map none))) := by kernel_rfl
theorem ti_ty_map_string_p_clean_job : tiOf P ty_map_string_p_clean_job = some (TI.mk (TypeDesc.map ty_string ty_p_clean_job) false 1 8 (some (Value.map none))) := by kernel_rfl
theorem ti_ty_map_string_bool : tiOf P ty_map_string_bool = some (TI.mk (TypeDesc.map ty_string ty_bool) false 1 8 (some (Value.map none))) := by kernel_rfl
theorem ti_ty_sl_api_Stmt : tiOf P ty_sl_api_Stmt = some (TI.mk (TypeDesc.slice ty_api_Stmt) false 1 24 (some (Value.slice none 0 0))) := by kernel_rfl
theorem ti_ty_map_string_string : tiOf P ty_map_string_string = some (TI.mk (TypeDesc.map ty_string ty_string) false 1 8 (some (Value.map none))) := by kernel_rfl
theorem ti_ty_map_string_api_Job : tiOf P ty_map_string_api_Job = some (TI.mk (TypeDesc.map ty_string ty_api_Job) false 1 8 (some (Value.map none))) := by kernel_rfl
theorem ti_ty_sl_elab_pattern : tiOf P ty_sl_elab_pattern = some (TI.mk (TypeDesc.slice ty_elab_pattern) false 1 24 (some (Value.slice none 0 0))) := by kernel_rfl
theorem ti_ty_map_string_sl_string : tiOf P ty_map_string_sl_string = some (TI.mk (TypeDesc.map ty_string ty_sl_string) false 1 8 (some (Value.map none))) := by kernel_rfl
theorem ti_ty_sl_interp_frame : tiOf P ty_sl_interp_frame = some (TI.mk (TypeDesc.slice ty_interp_frame) false 1 24 (some (Value.slice none 0 0))) := by kernel_rfl
theorem ti_ty_graph_set : tiOf P ty_graph_set = some (TI.mk (TypeDesc.map ty_string ty_bool) false 1 8 (some (Value.map none))) := by kernel_rfl
theorem ti_ty_sl_api_RuleItem : tiOf P ty_sl_api_RuleItem = some (TI.mk (TypeDesc.slice ty_api_RuleItem) false 1 24 (some (Value.slice none 0 0))) := by kernel_rfl
theorem ti_ty_api_Word : tiOf P ty_api_Word = some (TI.mk (TypeDesc.struct (Array.mk [Field.mk "Text" ty_string 0 false "" "" 0, Field.mk "Line" ty_int 1 false "" "" 16, Field.mk "Col" ty_int 2 false "" "" 24, Field.mk "Quoted" ty_bool 3 false "" "" 32, Field.mk "Mark" ty_bool 4 false "" "" 33])) true 5 40 (some (Value.agg (Array.mk [Value.string (ByteArray.mk (Array.mk [])), Value.int IntKind.i64 (Int.ofNat 0), Value.int IntKind.i64 (Int.ofNat 0), Value.bool false, Value.bool false])))) := by kernel_rfl
theorem ti_ty_sl_api_Word : tiOf P ty_sl_api_Word = some (TI.mk (TypeDesc.slice ty_api_Word) false 1 24 (some (Value.slice none 0 0))) := by kernel_rfl
theorem ti_ty_sl_api_Line : tiOf P ty_sl_api_Line = some (TI.mk (TypeDesc.slice ty_api_Line) false 1 24 (some (Value.slice none 0 0))) := by kernel_rfl
theorem ti_ty_api_RuleItem : tiOf P ty_api_RuleItem = some (TI.mk (TypeDesc.struct (Array.mk [Field.mk "Kind" ty_int 0 false "" "" 0, Field.mk "Line" ty_int 1 false "" "" 8, Field.mk "Name" ty_string 2 false "" "" 16, Field.mk "Targets" ty_sl_api_Word 3 false "" "" 32, Field.mk "Words" ty_sl_api_Word 4 false "" "" 56, Field.mk "Code" ty_sl_api_Line 5 false "" "" 80])) true 6 104 (some (Value.agg (Array.mk [Value.int IntKind.i64 (Int.ofNat 0), Value.int IntKind.i64 (Int.ofNat 0), Value.string (ByteArray.mk (Array.mk [])), Value.slice none 0 0, Value.slice none 0 0, Value.slice none 0 0])))) := by kernel_rfl
theorem ti_ty_sl_elab_text : tiOf P ty_sl_elab_text = some (TI.mk (TypeDesc.slice ty_elab_text) false 1 24 (some (Value.slice none 0 0))) := by kernel_rfl
theorem ti_ty_sl_sl_string : tiOf P ty_sl_sl_string = some (TI.mk (TypeDesc.slice ty_sl_string) false 1 24 (some (Value.slice none 0 0))) := by kernel_rfl
theorem ti_ty_elab_pattern : tiOf P ty_elab_pattern = some (TI.mk (TypeDesc.struct (Array.mk [Field.mk "target" ty_string 0 false "" "brickyard/elab" 0, Field.mk "deps" ty_sl_string 1 false "" "brickyard/elab" 16, Field.mk "code" ty_sl_sl_string 2 false "" "brickyard/elab" 40])) true 3 64 (some (Value.agg (Array.mk [Value.string (ByteArray.mk (Array.mk [])), Value.slice none 0 0, Value.slice none 0 0])))) := by kernel_rfl
theorem ti_ty_interp_frame : tiOf P ty_interp_frame = some (TI.mk (TypeDesc.struct (Array.mk [Field.mk "list" ty_sl_api_Stmt 0 false "" "brickyard/interp" 0, Field.mk "at" ty_int 1 false "" "brickyard/interp" 24, Field.mk "each" ty_bool 2 false "" "brickyard/interp" 32, Field.mk "line" ty_string 3 false "" "brickyard/interp" 40, Field.mk "rest" ty_sl_string 4 false "" "brickyard/interp" 56, Field.mk "left" ty_int 5 false "" "brickyard/interp" 80])) true 6 88 (some (Value.agg (Array.mk [Value.slice none 0 0, Value.int IntKind.i64 (Int.ofNat 0), Value.bool false, Value.string (ByteArray.mk (Array.mk [])), Value.slice none 0 0, Value.int IntKind.i64 (Int.ofNat 0)])))) := by kernel_rfl
theorem ti_ty_sl_uint8 : tiOf P ty_sl_uint8 = some (TI.mk (TypeDesc.slice ty_uint8) false 1 24 (some (Value.slice none 0 0))) := by kernel_rfl
theorem ti_ty_api_Line : tiOf P ty_api_Line = some (TI.mk (TypeDesc.struct (Array.mk [Field.mk "Number" ty_int 0 false "" "" 0, Field.mk "Indented" ty_bool 1 false "" "" 8, Field.mk "Words" ty_sl_api_Word 2 false "" "" 16])) true 3 40 (some (Value.agg (Array.mk [Value.int IntKind.i64 (Int.ofNat 0), Value.bool false, Value.slice none 0 0])))) := by kernel_rfl
theorem ti_ty_elab_text : tiOf P ty_elab_text = some (TI.mk (TypeDesc.struct (Array.mk [Field.mk "s" ty_string 0 false "" "brickyard/elab" 0, Field.mk "from" ty_api_Word 1 false "" "brickyard/elab" 16])) true 6 56 (some (Value.agg (Array.mk [Value.string (ByteArray.mk (Array.mk [])), Value.string (ByteArray.mk (Array.mk [])), Value.int IntKind.i64 (Int.ofNat 0), Value.int IntKind.i64 (Int.ofNat 0), Value.bool false, Value.bool false])))) := by kernel_rfl
theorem ti_ty_api_Stmt : tiOf P ty_api_Stmt = some (TI.mk (TypeDesc.struct (Array.mk [Field.mk "Op" ty_int 0 false "" "" 0, Field.mk "Args" ty_sl_string 1 false "" "" 8, Field.mk "N" ty_int 2 false "" "" 32, Field.mk "Body" ty_sl_api_Stmt 3 false "" "" 40])) true 4 64 (some (Value.agg (Array.mk [Value.int IntKind.i64 (Int.ofNat 0), Value.slice none 0 0, Value.int IntKind.i64 (Int.ofNat 0), Value.slice none 0 0])))) := by kernel_rfl
def ty_map_string_graph_set : Nat := 132
theorem ti_ty_map_string_graph_set : tiOf P ty_map_string_graph_set = some (TI.mk (TypeDesc.map ty_string ty_graph_set) false 1 8 (some (Value.map none))) := by kernel_rfl
end Go.Proofs.YtkbioibemcmanaaGreatDoor.E
end

section
/- Names, continued. -/
namespace Go.Proofs.YtkbioibemcmanaaGreatDoor.E
open Go.Abs
def f_aq : Nat := 3
def f_d9 : Nat := 14
end Go.Proofs.YtkbioibemcmanaaGreatDoor.E
end

section
/- Rules of walks, printed by a program of ours: group E1. -/
namespace Go.Proofs.YtkbioibemcmanaaGreatDoor.E
open Go.Abs
set_option maxRecDepth 100000
variable {h : AW} {Q : Value → AW → Prop}
set_option maxHeartbeats 4000000
attribute [local irreducible] kFn kUnit EvQ unitAt kOwn RunOwn
theorem r_aq (H : EvQ P f_bi [] h fun v1 h2 => vBool v1 fun b3 => bC (!b3) (Q (.bool false) h2) (unitAt P f_aq 3 [] [] h2 Q)) : RunOwn P f_aq [] h Q := oo [(3,[]),(6,[1,2]),(9,[1,2,4]),(10,[1,2,4,6,7]),(11,[1,2,4,6,7,9]),(12,[1,2,4,6,7,9,10,11]),(14,[1,2,6]),(17,[6,12]),(18,[6,12]),(19,[6,12,13]),(20,[6,13,15]),(22,[13,15]),(25,[1,2,13,15]),(28,[1,2,4,13,15]),(29,[1,2,4,13,15]),(30,[1,2,4,13,15]),(31,[1,2,4,13,15,18]),(32,[1,2,4,13,15,18,20]),(33,[1,2,4,13,15,18,20,22]),(34,[4,13,15,18,20,22,24]),(35,[4,13,15,18,20,22,24,25]),(36,[4,7,13,15,18,20,22,24,25]),(37,[4,7,11,13,15,18,20,22,24,25])] H (by kernel_rfl)
theorem r_b3 (H : EvQ P f_be [.string (ByteArray.mk #[114, 117, 108, 101, 32, 98, 32, 58, 32, 97])] h fun v1 h2 => vAgg v1 fun l3 => lC l3 fun v4 l5 => vSl v4 fun p6 m7 m8 => cI l5 fun n11 l10 => lC l10 fun v12 l13 => vSl v12 fun p14 m15 m16 => lN l13 (EvQ P f_bf [.agg #[.slice p6 m7 m8, iv n11, .slice p14 m15 m16]] h2 fun v17 h18 => vTup v17 fun l19 => cP l19 fun p22 l21 => cP l21 fun p25 l24 => cB l24 fun b28 l27 => lN l27 (bC (!b28) (Q (.bool false) h18) (unitAt P f_aq 6 [1, 2] [.pointer p22, .pointer p25] h18 Q)))) : unitAt P f_aq 3 [] [] h Q := uo [(3,[]),(6,[1,2]),(9,[1,2,4]),(10,[1,2,4,6,7]),(11,[1,2,4,6,7,9]),(12,[1,2,4,6,7,9,10,11]),(14,[1,2,6]),(17,[6,12]),(18,[6,12]),(19,[6,12,13]),(20,[6,13,15]),(22,[13,15]),(25,[1,2,13,15]),(28,[1,2,4,13,15]),(29,[1,2,4,13,15]),(30,[1,2,4,13,15]),(31,[1,2,4,13,15,18]),(32,[1,2,4,13,15,18,20]),(33,[1,2,4,13,15,18,20,22]),(34,[4,13,15,18,20,22,24]),(35,[4,13,15,18,20,22,24,25]),(36,[4,7,13,15,18,20,22,24,25]),(37,[4,7,11,13,15,18,20,22,24,25])] H (by kernel_rfl)
theorem r_bc {p1 : Option Addr} {p2 : Option Addr} (H : EvQ P f_br [.pointer p1, .pointer p2, iv 100, .slice (some ⟨(AW.next h), 0, none⟩) 1 1] (AW.addVar h [.string (ByteArray.mk #[99])]) fun v3 h4 => vTup v3 fun l5 => cP l5 fun p8 l7 => cI l7 fun n11 l10 => lN l10 (bC (n11 != 0) (Q (.bool false) h4) (bC (Option.isNone p8) (Q (.bool false) h4) (unitAt P f_aq 9 [1, 2, 4] [.pointer p1, .pointer p2, .pointer p8] h4 Q)))) : unitAt P f_aq 6 [1, 2] [.pointer p1, .pointer p2] h Q := uo [(3,[]),(6,[1,2]),(9,[1,2,4]),(10,[1,2,4,6,7]),(11,[1,2,4,6,7,9]),(12,[1,2,4,6,7,9,10,11]),(14,[1,2,6]),(17,[6,12]),(18,[6,12]),(19,[6,12,13]),(20,[6,13,15]),(22,[13,15]),(25,[1,2,13,15]),(28,[1,2,4,13,15]),(29,[1,2,4,13,15]),(30,[1,2,4,13,15]),(31,[1,2,4,13,15,18]),(32,[1,2,4,13,15,18,20]),(33,[1,2,4,13,15,18,20,22]),(34,[4,13,15,18,20,22,24]),(35,[4,13,15,18,20,22,24,25]),(36,[4,7,13,15,18,20,22,24,25]),(37,[4,7,11,13,15,18,20,22,24,25])] H (by kernel_rfl)
theorem r_bd {p1 : Option Addr} {p2 : Option Addr} {p3 : Option Addr} (H : EvQ P f_db [.pointer p3, .string (ByteArray.mk #[97])] h fun v4 h5 => vTup v4 fun l6 => lC l6 fun v7 l8 => vAgg v7 fun l9 => cS l9 fun s12 l11 => cI l11 fun n15 l14 => cS l14 fun s18 l17 => cI l17 fun n21 l20 => cS l20 fun s24 l23 => lN l23 (cB l8 fun b27 l26 => lN l26 (oB (AW.wrL (AW.addVar h5 [.string zS, iv 0, .string zS, iv 0, .string zS]) (AW.next h5) 0 [.string s12, iv n15, .string s18, iv n21, .string s24]) fun h28 => unitAt P f_aq 10 [1, 2, 4, 6, 7] [.pointer p1, .pointer p2, .pointer p3, .pointer (some ⟨(AW.next h5), 0, none⟩), .bool b27] h28 Q))) : unitAt P f_aq 9 [1, 2, 4] [.pointer p1, .pointer p2, .pointer p3] h Q := uo [(3,[]),(6,[1,2]),(9,[1,2,4]),(10,[1,2,4,6,7]),(11,[1,2,4,6,7,9]),(12,[1,2,4,6,7,9,10,11]),(14,[1,2,6]),(17,[6,12]),(18,[6,12]),(19,[6,12,13]),(20,[6,13,15]),(22,[13,15]),(25,[1,2,13,15]),(28,[1,2,4,13,15]),(29,[1,2,4,13,15]),(30,[1,2,4,13,15]),(31,[1,2,4,13,15,18]),(32,[1,2,4,13,15,18,20]),(33,[1,2,4,13,15,18,20,22]),(34,[4,13,15,18,20,22,24]),(35,[4,13,15,18,20,22,24,25]),(36,[4,7,13,15,18,20,22,24,25]),(37,[4,7,11,13,15,18,20,22,24,25])] H (by kernel_rfl)
theorem r_ar {p1 : Option Addr} {p2 : Option Addr} {p3 : Option Addr} {m4 : Nat} {b5 : Bool} (H : EvQ P f_db [.pointer p3, .string (ByteArray.mk #[122, 122])] h fun v6 h7 => vTup v6 fun l8 => lC l8 fun v9 l10 => vAgg v9 fun l11 => cS l11 fun s14 l13 => cI l13 fun n17 l16 => cS l16 fun s20 l19 => cI l19 fun n23 l22 => cS l22 fun s26 l25 => lN l25 (cB l10 fun b29 l28 => lN l28 (oB (AW.wrL (AW.addVar h7 [.string zS, iv 0, .string zS, iv 0, .string zS]) (AW.next h7) 0 [.string s14, iv n17, .string s20, iv n23, .string s26]) fun h30 => unitAt P f_aq 11 [1, 2, 4, 6, 7, 9] [.pointer p1, .pointer p2, .pointer p3, .pointer (some ⟨m4, 0, none⟩), .bool b5, .bool b29] h30 Q))) : unitAt P f_aq 10 [1, 2, 4, 6, 7] [.pointer p1, .pointer p2, .pointer p3, .pointer (some ⟨m4, 0, none⟩), .bool b5] h Q := uo [(3,[]),(6,[1,2]),(9,[1,2,4]),(10,[1,2,4,6,7]),(11,[1,2,4,6,7,9]),(12,[1,2,4,6,7,9,10,11]),(14,[1,2,6]),(17,[6,12]),(18,[6,12]),(19,[6,12,13]),(20,[6,13,15]),(22,[13,15]),(25,[1,2,13,15]),(28,[1,2,4,13,15]),(29,[1,2,4,13,15]),(30,[1,2,4,13,15]),(31,[1,2,4,13,15,18]),(32,[1,2,4,13,15,18,20]),(33,[1,2,4,13,15,18,20,22]),(34,[4,13,15,18,20,22,24]),(35,[4,13,15,18,20,22,24,25]),(36,[4,7,13,15,18,20,22,24,25]),(37,[4,7,11,13,15,18,20,22,24,25])] H (by kernel_rfl)
theorem r_as {p1 : Option Addr} {p2 : Option Addr} {p3 : Option Addr} {m4 : Nat} {b5 b6 : Bool} (H : EvQ P f_dd [.pointer p3, .string (ByteArray.mk #[99])] h fun v7 h8 => vTup v7 fun l9 => lC l9 fun v10 l11 => vAgg v10 fun l12 => cS l12 fun s15 l14 => lC l14 fun v16 l17 => vSl v16 fun p18 m19 m20 => lC l17 fun v21 l22 => vSl v21 fun p23 m24 m25 => lN l22 (cB l11 fun b28 l27 => lN l27 (oB (AW.wrL (AW.addVar h8 [.string zS, .slice none 0 0, .slice none 0 0]) (AW.next h8) 0 [.string s15, .slice p18 m19 m20, .slice p23 m24 m25]) fun h29 => unitAt P f_aq 12 [1, 2, 4, 6, 7, 9, 10, 11] [.pointer p1, .pointer p2, .pointer p3, .pointer (some ⟨m4, 0, none⟩), .bool b5, .bool b6, .pointer (some ⟨(AW.next h8), 0, none⟩), .bool b28] h29 Q))) : unitAt P f_aq 11 [1, 2, 4, 6, 7, 9] [.pointer p1, .pointer p2, .pointer p3, .pointer (some ⟨m4, 0, none⟩), .bool b5, .bool b6] h Q := uo [(3,[]),(6,[1,2]),(9,[1,2,4]),(10,[1,2,4,6,7]),(11,[1,2,4,6,7,9]),(12,[1,2,4,6,7,9,10,11]),(14,[1,2,6]),(17,[6,12]),(18,[6,12]),(19,[6,12,13]),(20,[6,13,15]),(22,[13,15]),(25,[1,2,13,15]),(28,[1,2,4,13,15]),(29,[1,2,4,13,15]),(30,[1,2,4,13,15]),(31,[1,2,4,13,15,18]),(32,[1,2,4,13,15,18,20]),(33,[1,2,4,13,15,18,20,22]),(34,[4,13,15,18,20,22,24]),(35,[4,13,15,18,20,22,24,25]),(36,[4,7,13,15,18,20,22,24,25]),(37,[4,7,11,13,15,18,20,22,24,25])] H (by kernel_rfl)
theorem r_at {p1 : Option Addr} {p2 : Option Addr} {p3 : Option Addr} {m4 : Nat} {b5 b6 : Bool} {m7 : Nat} {b8 : Bool} (H : bC (!b5) (Q (.bool false) h) (rS h m4 0 fun s10 => rI h m4 1 fun n12 => rS h m4 2 fun s14 => rI h m4 3 fun n16 => rS h m4 4 fun s18 => bC (! (bEq s10 (ByteArray.mk #[97]) && (n12 == 1 && (bEq s14 (ByteArray.mk #[120]) && (n16 == 0 && (bEq s18 zS && true)))))) (Q (.bool false) h) (bC b6 (Q (.bool false) h) (EvQ P f_dc [.pointer p3] h fun v19 h20 => vSl v19 fun p21 m22 m23 => EvQ P f_gq [.slice p21 m22 m23, .slice (some ⟨(AW.next h20), 0, none⟩) 3 3] (AW.addVar h20 [.string (ByteArray.mk #[97]), .string (ByteArray.mk #[98]), .string (ByteArray.mk #[99])]) fun v24 h25 => vBool v24 fun b26 => bC (!b26) (Q (.bool false) h25) (bC (!b8) (Q (.bool false) h25) (rS h25 m7 0 fun s28 => bC (!bEq s28 (ByteArray.mk #[114, 117, 108, 101, 32, 99, 32, 58, 10, 9, 99, 97, 116, 32, 98, 10, 9, 119, 114, 105, 116, 101, 32, 99, 10])) (Q (.bool false) h25) (rL h25 m7 1 fun p30 m31 m32 => EvQ P f_go [.slice p30 m31 m32, .slice (some ⟨(AW.next h25), 0, none⟩) 1 1] (AW.addVar h25 [.string (ByteArray.mk #[98]), .bool true, .string (ByteArray.mk #[88])]) fun v33 h34 => vBool v33 fun b35 => bC (!b35) (Q (.bool false) h34) (rL h34 m7 2 fun p37 m38 m39 => EvQ P f_gq [.slice p37 m38 m39, .slice (some ⟨(AW.next h34), 0, none⟩) 1 1] (AW.addVar h34 [.string (ByteArray.mk #[88])]) fun v40 h41 => vBool v40 fun b42 => bC (!b42) (Q (.bool false) h41) (EvQ P f_d9 [.pointer p3] h41 fun v43 h44 => vSl v43 fun p45 m46 m47 => EvQ P f_gm [.slice p45 m46 m47, .slice (some ⟨(AW.next h44), 0, none⟩) 2 2] (AW.addVar h44 [.string (ByteArray.mk #[98]), .string (ByteArray.mk #[97]), .string (ByteArray.mk #[99]), .string (ByteArray.mk #[98])]) fun v48 h49 => vBool v48 fun b50 => bC (!b50) (Q (.bool false) h49) (EvQ P f_fq [.pointer p2, .string (ByteArray.mk #[97])] h49 fun v51 h52 => vInt .i64 v51 fun n53 => bC (n53 != 0) (Q (.bool false) h52) (unitAt P f_aq 14 [1, 2, 6] [.pointer p1, .pointer p2, .pointer (some ⟨m4, 0, none⟩)] h52 Q))))))))))) : unitAt P f_aq 12 [1, 2, 4, 6, 7, 9, 10, 11] [.pointer p1, .pointer p2, .pointer p3, .pointer (some ⟨m4, 0, none⟩), .bool b5, .bool b6, .pointer (some ⟨m7, 0, none⟩), .bool b8] h Q := uo [(3,[]),(6,[1,2]),(9,[1,2,4]),(10,[1,2,4,6,7]),(11,[1,2,4,6,7,9]),(12,[1,2,4,6,7,9,10,11]),(14,[1,2,6]),(17,[6,12]),(18,[6,12]),(19,[6,12,13]),(20,[6,13,15]),(22,[13,15]),(25,[1,2,13,15]),(28,[1,2,4,13,15]),(29,[1,2,4,13,15]),(30,[1,2,4,13,15]),(31,[1,2,4,13,15,18]),(32,[1,2,4,13,15,18,20]),(33,[1,2,4,13,15,18,20,22]),(34,[4,13,15,18,20,22,24]),(35,[4,13,15,18,20,22,24,25]),(36,[4,7,13,15,18,20,22,24,25]),(37,[4,7,11,13,15,18,20,22,24,25])] H (by kernel_rfl)
theorem r_au {p1 : Option Addr} {p2 : Option Addr} {m3 : Nat} (H : EvQ P f_br [.pointer p1, .pointer p2, iv 100, .slice (some ⟨(AW.next h), 0, none⟩) 1 1] (AW.addVar h [.string (ByteArray.mk #[99])]) fun v4 h5 => vTup v4 fun l6 => cP l6 fun p9 l8 => cI l8 fun n12 l11 => lN l11 (bC (n12 != 0) (Q (.bool false) h5) (bC (Option.isNone p9) (Q (.bool false) h5) (unitAt P f_aq 17 [6, 12] [.pointer (some ⟨m3, 0, none⟩), .pointer p9] h5 Q)))) : unitAt P f_aq 14 [1, 2, 6] [.pointer p1, .pointer p2, .pointer (some ⟨m3, 0, none⟩)] h Q := uo [(3,[]),(6,[1,2]),(9,[1,2,4]),(10,[1,2,4,6,7]),(11,[1,2,4,6,7,9]),(12,[1,2,4,6,7,9,10,11]),(14,[1,2,6]),(17,[6,12]),(18,[6,12]),(19,[6,12,13]),(20,[6,13,15]),(22,[13,15]),(25,[1,2,13,15]),(28,[1,2,4,13,15]),(29,[1,2,4,13,15]),(30,[1,2,4,13,15]),(31,[1,2,4,13,15,18]),(32,[1,2,4,13,15,18,20]),(33,[1,2,4,13,15,18,20,22]),(34,[4,13,15,18,20,22,24]),(35,[4,13,15,18,20,22,24,25]),(36,[4,7,13,15,18,20,22,24,25]),(37,[4,7,11,13,15,18,20,22,24,25])] H (by kernel_rfl)
theorem r_av {m1 : Nat} {p2 : Option Addr} (H : EvQ P f_db [.pointer p2, .string (ByteArray.mk #[97])] h fun v3 h4 => vTup v3 fun l5 => lC l5 fun v6 l7 => vAgg v6 fun l8 => cS l8 fun s11 l10 => cI l10 fun n14 l13 => cS l13 fun s17 l16 => cI l16 fun n20 l19 => cS l19 fun s23 l22 => lN l22 (cB l7 fun b26 l25 => lN l25 (oB (AW.wrL h4 m1 0 [.string s11, iv n14, .string s17, iv n20, .string s23]) fun h27 => unitAt P f_aq 18 [6, 12] [.pointer (some ⟨m1, 0, none⟩), .pointer p2] h27 Q))) : unitAt P f_aq 17 [6, 12] [.pointer (some ⟨m1, 0, none⟩), .pointer p2] h Q := uo [(3,[]),(6,[1,2]),(9,[1,2,4]),(10,[1,2,4,6,7]),(11,[1,2,4,6,7,9]),(12,[1,2,4,6,7,9,10,11]),(14,[1,2,6]),(17,[6,12]),(18,[6,12]),(19,[6,12,13]),(20,[6,13,15]),(22,[13,15]),(25,[1,2,13,15]),(28,[1,2,4,13,15]),(29,[1,2,4,13,15]),(30,[1,2,4,13,15]),(31,[1,2,4,13,15,18]),(32,[1,2,4,13,15,18,20]),(33,[1,2,4,13,15,18,20,22]),(34,[4,13,15,18,20,22,24]),(35,[4,13,15,18,20,22,24,25]),(36,[4,7,13,15,18,20,22,24,25]),(37,[4,7,11,13,15,18,20,22,24,25])] H (by kernel_rfl)
theorem r_aw {m1 : Nat} {p2 : Option Addr} (H : EvQ P f_db [.pointer p2, .string (ByteArray.mk #[98])] h fun v3 h4 => vTup v3 fun l5 => lC l5 fun v6 l7 => vAgg v6 fun l8 => cS l8 fun s11 l10 => cI l10 fun n14 l13 => cS l13 fun s17 l16 => cI l16 fun n20 l19 => cS l19 fun s23 l22 => lN l22 (cB l7 fun b26 l25 => lN l25 (oB (AW.wrL (AW.addVar h4 [.string zS, iv 0, .string zS, iv 0, .string zS]) (AW.next h4) 0 [.string s11, iv n14, .string s17, iv n20, .string s23]) fun h27 => unitAt P f_aq 19 [6, 12, 13] [.pointer (some ⟨m1, 0, none⟩), .pointer p2, .pointer (some ⟨(AW.next h4), 0, none⟩)] h27 Q))) : unitAt P f_aq 18 [6, 12] [.pointer (some ⟨m1, 0, none⟩), .pointer p2] h Q := uo [(3,[]),(6,[1,2]),(9,[1,2,4]),(10,[1,2,4,6,7]),(11,[1,2,4,6,7,9]),(12,[1,2,4,6,7,9,10,11]),(14,[1,2,6]),(17,[6,12]),(18,[6,12]),(19,[6,12,13]),(20,[6,13,15]),(22,[13,15]),(25,[1,2,13,15]),(28,[1,2,4,13,15]),(29,[1,2,4,13,15]),(30,[1,2,4,13,15]),(31,[1,2,4,13,15,18]),(32,[1,2,4,13,15,18,20]),(33,[1,2,4,13,15,18,20,22]),(34,[4,13,15,18,20,22,24]),(35,[4,13,15,18,20,22,24,25]),(36,[4,7,13,15,18,20,22,24,25]),(37,[4,7,11,13,15,18,20,22,24,25])] H (by kernel_rfl)
theorem r_ax {m1 : Nat} {p2 : Option Addr} {m3 : Nat} (H : EvQ P f_db [.pointer p2, .string (ByteArray.mk #[99])] h fun v4 h5 => vTup v4 fun l6 => lC l6 fun v7 l8 => vAgg v7 fun l9 => cS l9 fun s12 l11 => cI l11 fun n15 l14 => cS l14 fun s18 l17 => cI l17 fun n21 l20 => cS l20 fun s24 l23 => lN l23 (cB l8 fun b27 l26 => lN l26 (oB (AW.wrL (AW.addVar h5 [.string zS, iv 0, .string zS, iv 0, .string zS]) (AW.next h5) 0 [.string s12, iv n15, .string s18, iv n21, .string s24]) fun h28 => unitAt P f_aq 20 [6, 13, 15] [.pointer (some ⟨m1, 0, none⟩), .pointer (some ⟨m3, 0, none⟩), .pointer (some ⟨(AW.next h5), 0, none⟩)] h28 Q))) : unitAt P f_aq 19 [6, 12, 13] [.pointer (some ⟨m1, 0, none⟩), .pointer p2, .pointer (some ⟨m3, 0, none⟩)] h Q := uo [(3,[]),(6,[1,2]),(9,[1,2,4]),(10,[1,2,4,6,7]),(11,[1,2,4,6,7,9]),(12,[1,2,4,6,7,9,10,11]),(14,[1,2,6]),(17,[6,12]),(18,[6,12]),(19,[6,12,13]),(20,[6,13,15]),(22,[13,15]),(25,[1,2,13,15]),(28,[1,2,4,13,15]),(29,[1,2,4,13,15]),(30,[1,2,4,13,15]),(31,[1,2,4,13,15,18]),(32,[1,2,4,13,15,18,20]),(33,[1,2,4,13,15,18,20,22]),(34,[4,13,15,18,20,22,24]),(35,[4,13,15,18,20,22,24,25]),(36,[4,7,13,15,18,20,22,24,25]),(37,[4,7,11,13,15,18,20,22,24,25])] H (by kernel_rfl)
theorem r_ay {m1 m2 m3 : Nat} (H : rS h m1 0 fun s5 => rI h m1 1 fun n7 => rS h m1 2 fun s9 => rI h m1 3 fun n11 => rS h m1 4 fun s13 => bC (! (bEq s5 (ByteArray.mk #[97]) && (n7 == 0 && (bEq s9 zS && (n11 == 4 && (bEq s13 zS && true)))))) (Q (.bool false) h) (rS h m2 0 fun s15 => rI h m2 1 fun n17 => rS h m2 2 fun s19 => rI h m2 3 fun n21 => rS h m2 4 fun s23 => bC (! (bEq s15 (ByteArray.mk #[98]) && (n17 == 2 && (bEq s19 zS && (n21 == 145 && (bEq s23 (ByteArray.mk #[97]) && true)))))) (Q (.bool false) h) (rS h m3 0 fun s25 => rI h m3 1 fun n27 => rS h m3 2 fun s29 => rI h m3 3 fun n31 => rS h m3 4 fun s33 => bC (! (bEq s25 (ByteArray.mk #[99]) && (n27 == 2 && (bEq s29 zS && (n31 == 145 && (bEq s33 (ByteArray.mk #[98]) && true)))))) (Q (.bool false) h) (unitAt P f_aq 22 [13, 15] [.pointer (some ⟨m2, 0, none⟩), .pointer (some ⟨m3, 0, none⟩)] h Q)))) : unitAt P f_aq 20 [6, 13, 15] [.pointer (some ⟨m1, 0, none⟩), .pointer (some ⟨m2, 0, none⟩), .pointer (some ⟨m3, 0, none⟩)] h Q := uo [(3,[]),(6,[1,2]),(9,[1,2,4]),(10,[1,2,4,6,7]),(11,[1,2,4,6,7,9]),(12,[1,2,4,6,7,9,10,11]),(14,[1,2,6]),(17,[6,12]),(18,[6,12]),(19,[6,12,13]),(20,[6,13,15]),(22,[13,15]),(25,[1,2,13,15]),(28,[1,2,4,13,15]),(29,[1,2,4,13,15]),(30,[1,2,4,13,15]),(31,[1,2,4,13,15,18]),(32,[1,2,4,13,15,18,20]),(33,[1,2,4,13,15,18,20,22]),(34,[4,13,15,18,20,22,24]),(35,[4,13,15,18,20,22,24,25]),(36,[4,7,13,15,18,20,22,24,25]),(37,[4,7,11,13,15,18,20,22,24,25])] H (by kernel_rfl)
theorem r_az {m1 m2 : Nat} (H : EvQ P f_be [.string (ByteArray.mk #[114, 117, 108, 101, 32, 98, 32, 58, 32, 97, 32, 99])] h fun v3 h4 => vAgg v3 fun l5 => lC l5 fun v6 l7 => vSl v6 fun p8 m9 m10 => cI l7 fun n13 l12 => lC l12 fun v14 l15 => vSl v14 fun p16 m17 m18 => lN l15 (EvQ P f_bf [.agg #[.slice p8 m9 m10, iv n13, .slice p16 m17 m18]] h4 fun v19 h20 => vTup v19 fun l21 => cP l21 fun p24 l23 => cP l23 fun p27 l26 => cB l26 fun b30 l29 => lN l29 (bC (!b30) (Q (.bool false) h20) (unitAt P f_aq 25 [1, 2, 13, 15] [.pointer p24, .pointer p27, .pointer (some ⟨m1, 0, none⟩), .pointer (some ⟨m2, 0, none⟩)] h20 Q)))) : unitAt P f_aq 22 [13, 15] [.pointer (some ⟨m1, 0, none⟩), .pointer (some ⟨m2, 0, none⟩)] h Q := uo [(3,[]),(6,[1,2]),(9,[1,2,4]),(10,[1,2,4,6,7]),(11,[1,2,4,6,7,9]),(12,[1,2,4,6,7,9,10,11]),(14,[1,2,6]),(17,[6,12]),(18,[6,12]),(19,[6,12,13]),(20,[6,13,15]),(22,[13,15]),(25,[1,2,13,15]),(28,[1,2,4,13,15]),(29,[1,2,4,13,15]),(30,[1,2,4,13,15]),(31,[1,2,4,13,15,18]),(32,[1,2,4,13,15,18,20]),(33,[1,2,4,13,15,18,20,22]),(34,[4,13,15,18,20,22,24]),(35,[4,13,15,18,20,22,24,25]),(36,[4,7,13,15,18,20,22,24,25]),(37,[4,7,11,13,15,18,20,22,24,25])] H (by kernel_rfl)
theorem r_b0 {p1 : Option Addr} {p2 : Option Addr} {m3 m4 : Nat} (H : EvQ P f_br [.pointer p1, .pointer p2, iv 100, .slice (some ⟨(AW.next h), 0, none⟩) 1 1] (AW.addVar h [.string (ByteArray.mk #[99])]) fun v5 h6 => vTup v5 fun l7 => cP l7 fun p10 l9 => cI l9 fun n13 l12 => lN l12 (bC (n13 != 0) (Q (.bool false) h6) (bC (Option.isNone p10) (Q (.bool false) h6) (unitAt P f_aq 28 [1, 2, 4, 13, 15] [.pointer p1, .pointer p2, .pointer p10, .pointer (some ⟨m3, 0, none⟩), .pointer (some ⟨m4, 0, none⟩)] h6 Q)))) : unitAt P f_aq 25 [1, 2, 13, 15] [.pointer p1, .pointer p2, .pointer (some ⟨m3, 0, none⟩), .pointer (some ⟨m4, 0, none⟩)] h Q := uo [(3,[]),(6,[1,2]),(9,[1,2,4]),(10,[1,2,4,6,7]),(11,[1,2,4,6,7,9]),(12,[1,2,4,6,7,9,10,11]),(14,[1,2,6]),(17,[6,12]),(18,[6,12]),(19,[6,12,13]),(20,[6,13,15]),(22,[13,15]),(25,[1,2,13,15]),(28,[1,2,4,13,15]),(29,[1,2,4,13,15]),(30,[1,2,4,13,15]),(31,[1,2,4,13,15,18]),(32,[1,2,4,13,15,18,20]),(33,[1,2,4,13,15,18,20,22]),(34,[4,13,15,18,20,22,24]),(35,[4,13,15,18,20,22,24,25]),(36,[4,7,13,15,18,20,22,24,25]),(37,[4,7,11,13,15,18,20,22,24,25])] H (by kernel_rfl)
theorem r_b1 {p1 : Option Addr} {p2 : Option Addr} {p3 : Option Addr} {m4 m5 : Nat} (H : EvQ P f_db [.pointer p3, .string (ByteArray.mk #[98])] h fun v6 h7 => vTup v6 fun l8 => lC l8 fun v9 l10 => vAgg v9 fun l11 => cS l11 fun s14 l13 => cI l13 fun n17 l16 => cS l16 fun s20 l19 => cI l19 fun n23 l22 => cS l22 fun s26 l25 => lN l25 (cB l10 fun b29 l28 => lN l28 (oB (AW.wrL h7 m4 0 [.string s14, iv n17, .string s20, iv n23, .string s26]) fun h30 => unitAt P f_aq 29 [1, 2, 4, 13, 15] [.pointer p1, .pointer p2, .pointer p3, .pointer (some ⟨m4, 0, none⟩), .pointer (some ⟨m5, 0, none⟩)] h30 Q))) : unitAt P f_aq 28 [1, 2, 4, 13, 15] [.pointer p1, .pointer p2, .pointer p3, .pointer (some ⟨m4, 0, none⟩), .pointer (some ⟨m5, 0, none⟩)] h Q := uo [(3,[]),(6,[1,2]),(9,[1,2,4]),(10,[1,2,4,6,7]),(11,[1,2,4,6,7,9]),(12,[1,2,4,6,7,9,10,11]),(14,[1,2,6]),(17,[6,12]),(18,[6,12]),(19,[6,12,13]),(20,[6,13,15]),(22,[13,15]),(25,[1,2,13,15]),(28,[1,2,4,13,15]),(29,[1,2,4,13,15]),(30,[1,2,4,13,15]),(31,[1,2,4,13,15,18]),(32,[1,2,4,13,15,18,20]),(33,[1,2,4,13,15,18,20,22]),(34,[4,13,15,18,20,22,24]),(35,[4,13,15,18,20,22,24,25]),(36,[4,7,13,15,18,20,22,24,25]),(37,[4,7,11,13,15,18,20,22,24,25])] H (by kernel_rfl)
theorem r_b2 {p1 : Option Addr} {p2 : Option Addr} {p3 : Option Addr} {m4 m5 : Nat} (H : EvQ P f_db [.pointer p3, .string (ByteArray.mk #[99])] h fun v6 h7 => vTup v6 fun l8 => lC l8 fun v9 l10 => vAgg v9 fun l11 => cS l11 fun s14 l13 => cI l13 fun n17 l16 => cS l16 fun s20 l19 => cI l19 fun n23 l22 => cS l22 fun s26 l25 => lN l25 (cB l10 fun b29 l28 => lN l28 (oB (AW.wrL h7 m5 0 [.string s14, iv n17, .string s20, iv n23, .string s26]) fun h30 => unitAt P f_aq 30 [1, 2, 4, 13, 15] [.pointer p1, .pointer p2, .pointer p3, .pointer (some ⟨m4, 0, none⟩), .pointer (some ⟨m5, 0, none⟩)] h30 Q))) : unitAt P f_aq 29 [1, 2, 4, 13, 15] [.pointer p1, .pointer p2, .pointer p3, .pointer (some ⟨m4, 0, none⟩), .pointer (some ⟨m5, 0, none⟩)] h Q := uo [(3,[]),(6,[1,2]),(9,[1,2,4]),(10,[1,2,4,6,7]),(11,[1,2,4,6,7,9]),(12,[1,2,4,6,7,9,10,11]),(14,[1,2,6]),(17,[6,12]),(18,[6,12]),(19,[6,12,13]),(20,[6,13,15]),(22,[13,15]),(25,[1,2,13,15]),(28,[1,2,4,13,15]),(29,[1,2,4,13,15]),(30,[1,2,4,13,15]),(31,[1,2,4,13,15,18]),(32,[1,2,4,13,15,18,20]),(33,[1,2,4,13,15,18,20,22]),(34,[4,13,15,18,20,22,24]),(35,[4,13,15,18,20,22,24,25]),(36,[4,7,13,15,18,20,22,24,25]),(37,[4,7,11,13,15,18,20,22,24,25])] H (by kernel_rfl)
theorem r_b4 {p1 : Option Addr} {p2 : Option Addr} {p3 : Option Addr} {m4 m5 : Nat} (H : EvQ P f_br [.pointer none, .pointer p2, iv 100, .slice none 0 0] h fun v6 h7 => vTup v6 fun l8 => cP l8 fun p11 l10 => cI l10 fun n14 l13 => lN l13 (unitAt P f_aq 31 [1, 2, 4, 13, 15, 18] [.pointer p1, .pointer p2, .pointer p3, .pointer (some ⟨m4, 0, none⟩), .pointer (some ⟨m5, 0, none⟩), iv n14] h7 Q)) : unitAt P f_aq 30 [1, 2, 4, 13, 15] [.pointer p1, .pointer p2, .pointer p3, .pointer (some ⟨m4, 0, none⟩), .pointer (some ⟨m5, 0, none⟩)] h Q := uo [(3,[]),(6,[1,2]),(9,[1,2,4]),(10,[1,2,4,6,7]),(11,[1,2,4,6,7,9]),(12,[1,2,4,6,7,9,10,11]),(14,[1,2,6]),(17,[6,12]),(18,[6,12]),(19,[6,12,13]),(20,[6,13,15]),(22,[13,15]),(25,[1,2,13,15]),(28,[1,2,4,13,15]),(29,[1,2,4,13,15]),(30,[1,2,4,13,15]),(31,[1,2,4,13,15,18]),(32,[1,2,4,13,15,18,20]),(33,[1,2,4,13,15,18,20,22]),(34,[4,13,15,18,20,22,24]),(35,[4,13,15,18,20,22,24,25]),(36,[4,7,13,15,18,20,22,24,25]),(37,[4,7,11,13,15,18,20,22,24,25])] H (by kernel_rfl)
theorem r_b5 {p1 : Option Addr} {p2 : Option Addr} {p3 : Option Addr} {m4 m5 : Nat} {n6 : Int} (H : EvQ P f_br [.pointer p1, .pointer none, iv 100, .slice none 0 0] h fun v7 h8 => vTup v7 fun l9 => cP l9 fun p12 l11 => cI l11 fun n15 l14 => lN l14 (unitAt P f_aq 32 [1, 2, 4, 13, 15, 18, 20] [.pointer p1, .pointer p2, .pointer p3, .pointer (some ⟨m4, 0, none⟩), .pointer (some ⟨m5, 0, none⟩), iv n6, iv n15] h8 Q)) : unitAt P f_aq 31 [1, 2, 4, 13, 15, 18] [.pointer p1, .pointer p2, .pointer p3, .pointer (some ⟨m4, 0, none⟩), .pointer (some ⟨m5, 0, none⟩), iv n6] h Q := uo [(3,[]),(6,[1,2]),(9,[1,2,4]),(10,[1,2,4,6,7]),(11,[1,2,4,6,7,9]),(12,[1,2,4,6,7,9,10,11]),(14,[1,2,6]),(17,[6,12]),(18,[6,12]),(19,[6,12,13]),(20,[6,13,15]),(22,[13,15]),(25,[1,2,13,15]),(28,[1,2,4,13,15]),(29,[1,2,4,13,15]),(30,[1,2,4,13,15]),(31,[1,2,4,13,15,18]),(32,[1,2,4,13,15,18,20]),(33,[1,2,4,13,15,18,20,22]),(34,[4,13,15,18,20,22,24]),(35,[4,13,15,18,20,22,24,25]),(36,[4,7,13,15,18,20,22,24,25]),(37,[4,7,11,13,15,18,20,22,24,25])] H (by kernel_rfl)
theorem r_b6 {p1 : Option Addr} {p2 : Option Addr} {p3 : Option Addr} {m4 m5 : Nat} {n6 n7 : Int} (H : EvQ P f_br [.pointer p1, .pointer p2, iv (Int.negSucc 0), .slice none 0 0] h fun v8 h9 => vTup v8 fun l10 => cP l10 fun p13 l12 => cI l12 fun n16 l15 => lN l15 (unitAt P f_aq 33 [1, 2, 4, 13, 15, 18, 20, 22] [.pointer p1, .pointer p2, .pointer p3, .pointer (some ⟨m4, 0, none⟩), .pointer (some ⟨m5, 0, none⟩), iv n6, iv n7, iv n16] h9 Q)) : unitAt P f_aq 32 [1, 2, 4, 13, 15, 18, 20] [.pointer p1, .pointer p2, .pointer p3, .pointer (some ⟨m4, 0, none⟩), .pointer (some ⟨m5, 0, none⟩), iv n6, iv n7] h Q := uo [(3,[]),(6,[1,2]),(9,[1,2,4]),(10,[1,2,4,6,7]),(11,[1,2,4,6,7,9]),(12,[1,2,4,6,7,9,10,11]),(14,[1,2,6]),(17,[6,12]),(18,[6,12]),(19,[6,12,13]),(20,[6,13,15]),(22,[13,15]),(25,[1,2,13,15]),(28,[1,2,4,13,15]),(29,[1,2,4,13,15]),(30,[1,2,4,13,15]),(31,[1,2,4,13,15,18]),(32,[1,2,4,13,15,18,20]),(33,[1,2,4,13,15,18,20,22]),(34,[4,13,15,18,20,22,24]),(35,[4,13,15,18,20,22,24,25]),(36,[4,7,13,15,18,20,22,24,25]),(37,[4,7,11,13,15,18,20,22,24,25])] H (by kernel_rfl)
theorem r_b7 {p1 : Option Addr} {p2 : Option Addr} {p3 : Option Addr} {m4 m5 : Nat} {n6 n7 n8 : Int} (H : EvQ P f_br [.pointer p1, .pointer p2, iv 1, .slice (some ⟨(AW.next h), 0, none⟩) 1 1] (AW.addVar h [.string (ByteArray.mk #[65])]) fun v9 h10 => vTup v9 fun l11 => cP l11 fun p14 l13 => cI l13 fun n17 l16 => lN l16 (unitAt P f_aq 34 [4, 13, 15, 18, 20, 22, 24] [.pointer p3, .pointer (some ⟨m4, 0, none⟩), .pointer (some ⟨m5, 0, none⟩), iv n6, iv n7, iv n8, iv n17] h10 Q)) : unitAt P f_aq 33 [1, 2, 4, 13, 15, 18, 20, 22] [.pointer p1, .pointer p2, .pointer p3, .pointer (some ⟨m4, 0, none⟩), .pointer (some ⟨m5, 0, none⟩), iv n6, iv n7, iv n8] h Q := uo [(3,[]),(6,[1,2]),(9,[1,2,4]),(10,[1,2,4,6,7]),(11,[1,2,4,6,7,9]),(12,[1,2,4,6,7,9,10,11]),(14,[1,2,6]),(17,[6,12]),(18,[6,12]),(19,[6,12,13]),(20,[6,13,15]),(22,[13,15]),(25,[1,2,13,15]),(28,[1,2,4,13,15]),(29,[1,2,4,13,15]),(30,[1,2,4,13,15]),(31,[1,2,4,13,15,18]),(32,[1,2,4,13,15,18,20]),(33,[1,2,4,13,15,18,20,22]),(34,[4,13,15,18,20,22,24]),(35,[4,13,15,18,20,22,24,25]),(36,[4,7,13,15,18,20,22,24,25]),(37,[4,7,11,13,15,18,20,22,24,25])] H (by kernel_rfl)
theorem r_b8 {p1 : Option Addr} {m2 m3 : Nat} {n4 n5 : Int} {n6 n7 : Int} (H : unitAt P f_aq 35 [4, 13, 15, 18, 20, 22, 24, 25] [.pointer p1, .pointer (some ⟨m2, 0, none⟩), .pointer (some ⟨m3, 0, none⟩), iv n4, iv n5, iv n6, iv n7, .pointer none] h Q) : unitAt P f_aq 34 [4, 13, 15, 18, 20, 22, 24] [.pointer p1, .pointer (some ⟨m2, 0, none⟩), .pointer (some ⟨m3, 0, none⟩), iv n4, iv n5, iv n6, iv n7] h Q := uo [(3,[]),(6,[1,2]),(9,[1,2,4]),(10,[1,2,4,6,7]),(11,[1,2,4,6,7,9]),(12,[1,2,4,6,7,9,10,11]),(14,[1,2,6]),(17,[6,12]),(18,[6,12]),(19,[6,12,13]),(20,[6,13,15]),(22,[13,15]),(25,[1,2,13,15]),(28,[1,2,4,13,15]),(29,[1,2,4,13,15]),(30,[1,2,4,13,15]),(31,[1,2,4,13,15,18]),(32,[1,2,4,13,15,18,20]),(33,[1,2,4,13,15,18,20,22]),(34,[4,13,15,18,20,22,24]),(35,[4,13,15,18,20,22,24,25]),(36,[4,7,13,15,18,20,22,24,25]),(37,[4,7,11,13,15,18,20,22,24,25])] H (by kernel_rfl)
theorem r_b9 {p1 : Option Addr} {m2 m3 : Nat} {n4 n5 : Int} {n6 n7 : Int} (H : EvQ P f_db [.pointer none, .string (ByteArray.mk #[97])] h fun v8 h9 => vTup v8 fun l10 => lC l10 fun v11 l12 => vAgg v11 fun l13 => cS l13 fun s16 l15 => cI l15 fun n19 l18 => cS l18 fun s22 l21 => cI l21 fun n25 l24 => cS l24 fun s28 l27 => lN l27 (cB l12 fun b31 l30 => lN l30 (unitAt P f_aq 36 [4, 7, 13, 15, 18, 20, 22, 24, 25] [.pointer p1, .bool b31, .pointer (some ⟨m2, 0, none⟩), .pointer (some ⟨m3, 0, none⟩), iv n4, iv n5, iv n6, iv n7, .pointer none] h9 Q))) : unitAt P f_aq 35 [4, 13, 15, 18, 20, 22, 24, 25] [.pointer p1, .pointer (some ⟨m2, 0, none⟩), .pointer (some ⟨m3, 0, none⟩), iv n4, iv n5, iv n6, iv n7, .pointer none] h Q := uo [(3,[]),(6,[1,2]),(9,[1,2,4]),(10,[1,2,4,6,7]),(11,[1,2,4,6,7,9]),(12,[1,2,4,6,7,9,10,11]),(14,[1,2,6]),(17,[6,12]),(18,[6,12]),(19,[6,12,13]),(20,[6,13,15]),(22,[13,15]),(25,[1,2,13,15]),(28,[1,2,4,13,15]),(29,[1,2,4,13,15]),(30,[1,2,4,13,15]),(31,[1,2,4,13,15,18]),(32,[1,2,4,13,15,18,20]),(33,[1,2,4,13,15,18,20,22]),(34,[4,13,15,18,20,22,24]),(35,[4,13,15,18,20,22,24,25]),(36,[4,7,13,15,18,20,22,24,25]),(37,[4,7,11,13,15,18,20,22,24,25])] H (by kernel_rfl)
theorem r_ba {p1 : Option Addr} {b2 : Bool} {m3 m4 : Nat} {n5 n6 : Int} {n7 n8 : Int} (H : EvQ P f_dd [.pointer none, .string (ByteArray.mk #[97])] h fun v9 h10 => vTup v9 fun l11 => lC l11 fun v12 l13 => vAgg v12 fun l14 => cS l14 fun s17 l16 => lC l16 fun v18 l19 => vSl v18 fun p20 m21 m22 => lC l19 fun v23 l24 => vSl v23 fun p25 m26 m27 => lN l24 (cB l13 fun b30 l29 => lN l29 (unitAt P f_aq 37 [4, 7, 11, 13, 15, 18, 20, 22, 24, 25] [.pointer p1, .bool b2, .bool b30, .pointer (some ⟨m3, 0, none⟩), .pointer (some ⟨m4, 0, none⟩), iv n5, iv n6, iv n7, iv n8, .pointer none] h10 Q))) : unitAt P f_aq 36 [4, 7, 13, 15, 18, 20, 22, 24, 25] [.pointer p1, .bool b2, .pointer (some ⟨m3, 0, none⟩), .pointer (some ⟨m4, 0, none⟩), iv n5, iv n6, iv n7, iv n8, .pointer none] h Q := uo [(3,[]),(6,[1,2]),(9,[1,2,4]),(10,[1,2,4,6,7]),(11,[1,2,4,6,7,9]),(12,[1,2,4,6,7,9,10,11]),(14,[1,2,6]),(17,[6,12]),(18,[6,12]),(19,[6,12,13]),(20,[6,13,15]),(22,[13,15]),(25,[1,2,13,15]),(28,[1,2,4,13,15]),(29,[1,2,4,13,15]),(30,[1,2,4,13,15]),(31,[1,2,4,13,15,18]),(32,[1,2,4,13,15,18,20]),(33,[1,2,4,13,15,18,20,22]),(34,[4,13,15,18,20,22,24]),(35,[4,13,15,18,20,22,24,25]),(36,[4,7,13,15,18,20,22,24,25]),(37,[4,7,11,13,15,18,20,22,24,25])] H (by kernel_rfl)
theorem r_bb {p1 : Option Addr} {b2 b3 : Bool} {m4 m5 : Nat} {n6 n7 : Int} {n8 n9 : Int} (H : rS h m4 0 fun s11 => rI h m4 1 fun n13 => rS h m4 2 fun s15 => rI h m4 3 fun n17 => rS h m4 4 fun s19 => bC (bEq s11 (ByteArray.mk #[98]) && (n13 == 2 && (bEq s15 zS && (n17 == 210 && (bEq s19 zS && true))))) (rS h m5 0 fun s21 => rI h m5 1 fun n23 => rS h m5 2 fun s25 => rI h m5 3 fun n27 => rS h m5 4 fun s29 => bC (bEq s21 (ByteArray.mk #[99]) && (n23 == 2 && (bEq s25 zS && (n27 == 210 && (bEq s29 zS && true))))) (EvQ P f_dc [.pointer p1] h fun v30 h31 => vSl v30 fun p32 m33 m34 => EvQ P f_gq [.slice p32 m33 m34, .slice (some ⟨(AW.next h31), 0, none⟩) 3 3] (AW.addVar h31 [.string (ByteArray.mk #[97]), .string (ByteArray.mk #[98]), .string (ByteArray.mk #[99])]) fun v35 h36 => vBool v35 fun b37 => bC b37 (bC (n6 == 1) (bC (n7 == 1) (bC (n8 == 2) (bC (n9 == 2) (bC (!b2) (bC (!b3) (EvQ P f_dc [.pointer none] h36 fun v38 h39 => vSl v38 fun p40 m41 m42 => bC ((↑m41 : Int) == 0) (EvQ P f_da [.pointer none] h39 fun v43 h44 => vSl v43 fun p45 m46 m47 => bC ((↑m46 : Int) == 0) (EvQ P f_d9 [.pointer none] h44 fun v48 h49 => vSl v48 fun p50 m51 m52 => Q (.bool ((↑m51 : Int) == 0)) h49) (Q (.bool false) h44)) (Q (.bool false) h39)) (Q (.bool false) h36)) (Q (.bool false) h36)) (Q (.bool false) h36)) (Q (.bool false) h36)) (Q (.bool false) h36)) (Q (.bool false) h36)) (Q (.bool false) h36)) (Q (.bool false) h)) (Q (.bool false) h)) : unitAt P f_aq 37 [4, 7, 11, 13, 15, 18, 20, 22, 24, 25] [.pointer p1, .bool b2, .bool b3, .pointer (some ⟨m4, 0, none⟩), .pointer (some ⟨m5, 0, none⟩), iv n6, iv n7, iv n8, iv n9, .pointer none] h Q := uo [(3,[]),(6,[1,2]),(9,[1,2,4]),(10,[1,2,4,6,7]),(11,[1,2,4,6,7,9]),(12,[1,2,4,6,7,9,10,11]),(14,[1,2,6]),(17,[6,12]),(18,[6,12]),(19,[6,12,13]),(20,[6,13,15]),(22,[13,15]),(25,[1,2,13,15]),(28,[1,2,4,13,15]),(29,[1,2,4,13,15]),(30,[1,2,4,13,15]),(31,[1,2,4,13,15,18]),(32,[1,2,4,13,15,18,20]),(33,[1,2,4,13,15,18,20,22]),(34,[4,13,15,18,20,22,24]),(35,[4,13,15,18,20,22,24,25]),(36,[4,7,13,15,18,20,22,24,25]),(37,[4,7,11,13,15,18,20,22,24,25])] H (by kernel_rfl)
end Go.Proofs.YtkbioibemcmanaaGreatDoor.E
end

section
/- Bodies that the kernel can run, printed by a program of ours. -/
namespace Go.Proofs.YtkbioibemcmanaaGreatDoor.E
open Go.Abs
set_option maxRecDepth 100000
set_option maxHeartbeats 4000000
section
noncomputable def d_aq : BodyT := fun C D a h Q => match a with
  | [] => C f_bi [] h fun v1 h2 => vBoolE v1 fun b3 => bCE (!b3) (Q (.bool false) h2) (D f_aq 3 0 [] h2 Q)
  | _ => False
noncomputable def d_b3 : BodyT := fun C D a h Q => match a with
  | [] => C f_be [.string (ByteArray.mk #[114, 117, 108, 101, 32, 98, 32, 58, 32, 97])] h fun v1 h2 => vAggE v1 fun l3 => lCE l3 fun v4 l5 => vSlE v4 fun p6 m7 m8 => CI l5 fun n11 l10 => lCE l10 fun v12 l13 => vSlE v12 fun p14 m15 m16 => lNE l13 (C f_bf [.agg #[.slice p6 m7 m8, iv n11, .slice p14 m15 m16]] h2 fun v17 h18 => vTupE v17 fun l19 => CP l19 fun p22 l21 => CP l21 fun p25 l24 => CB l24 fun b28 l27 => lNE l27 (bCE (!b28) (Q (.bool false) h18) (D f_aq 6 3074 [.pointer p22, .pointer p25] h18 Q)))
  | _ => False
noncomputable def d_bc : BodyT := fun C D a h Q => match a with
  | [.pointer p1, .pointer p2] => nxK h fun i_1 => ad1 h (.string (ByteArray.mk #[99])) fun h_2 => C f_br [.pointer p1, .pointer p2, iv 100, .slice (some ⟨i_1, 0, none⟩) 1 1] h_2 fun v3 h4 => vTupE v3 fun l5 => CP l5 fun p8 l7 => CI l7 fun n11 l10 => lNE l10 (neC n11 0 (Q (.bool false) h4) (bCE (Option.isNone p8) (Q (.bool false) h4) (D f_aq 9 5245954 [.pointer p1, .pointer p2, .pointer p8] h4 Q)))
  | _ => False
noncomputable def d_bd : BodyT := fun C D a h Q => match a with
  | [.pointer p1, .pointer p2, .pointer p3] => C f_db [.pointer p3, .string (ByteArray.mk #[97])] h fun v4 h5 => vTupE v4 fun l6 => lCE l6 fun v7 l8 => vAggE v7 fun l9 => CS l9 fun s12 l11 => CI l11 fun n15 l14 => CS l14 fun s18 l17 => CI l17 fun n21 l20 => CS l20 fun s24 l23 => lNE l23 (CB l8 fun b27 l26 => lNE l26 (ad5 h5 (.string zS) (iv 0) (.string zS) (iv 0) (.string zS) fun h_1 => nxK h5 fun i_2 => wrLK i_2 [.string s12, iv n15, .string s18, iv n21, .string s24] h_1 0 fun h28 => D f_aq 10 8803614460930 [.pointer p1, .pointer p2, .pointer p3, .pointer (some ⟨i_2, 0, none⟩), .bool b27] h28 Q))
  | _ => False
noncomputable def d_ar : BodyT := fun C D a h Q => match a with
  | [.pointer p1, .pointer p2, .pointer p3, .pointer (some ⟨m4, 0, none⟩), .bool b5] => fN m4 fun m4 => fB b5 fun b5 => C f_db [.pointer p3, .string (ByteArray.mk #[122, 122])] h fun v6 h7 => vTupE v6 fun l8 => lCE l8 fun v9 l10 => vAggE v9 fun l11 => CS l11 fun s14 l13 => CI l13 fun n17 l16 => CS l16 fun s20 l19 => CI l19 fun n23 l22 => CS l22 fun s26 l25 => lNE l25 (CB l10 fun b29 l28 => lNE l28 (ad5 h7 (.string zS) (iv 0) (.string zS) (iv 0) (.string zS) fun h_1 => nxK h7 fun i_2 => wrLK i_2 [.string s14, iv n17, .string s20, iv n23, .string s26] h_1 0 fun h30 => D f_aq 11 11267802682887170 [.pointer p1, .pointer p2, .pointer p3, .pointer (some ⟨m4, 0, none⟩), .bool b5, .bool b29] h30 Q))
  | _ => False
noncomputable def d_as : BodyT := fun C D a h Q => match a with
  | [.pointer p1, .pointer p2, .pointer p3, .pointer (some ⟨m4, 0, none⟩), .bool b5, .bool b6] => fN m4 fun m4 => fB b5 fun b5 => fB b6 fun b6 => C f_dd [.pointer p3, .string (ByteArray.mk #[99])] h fun v7 h8 => vTupE v7 fun l9 => lCE l9 fun v10 l11 => vAggE v10 fun l12 => CS l12 fun s15 l14 => lCE l14 fun v16 l17 => vSlE v16 fun p18 m19 m20 => lCE l17 fun v21 l22 => vSlE v21 fun p23 m24 m25 => lNE l22 (CB l11 fun b28 l27 => lNE l27 (ad3 h8 (.string zS) (.slice none 0 0) (.slice none 0 0) fun h_1 => nxK h8 fun i_2 => wrLK i_2 [.string s15, .slice p18 m19 m20, .slice p23 m24 m25] h_1 0 fun h29 => D f_aq 12 14179792852962293844994 [.pointer p1, .pointer p2, .pointer p3, .pointer (some ⟨m4, 0, none⟩), .bool b5, .bool b6, .pointer (some ⟨i_2, 0, none⟩), .bool b28] h29 Q))
  | _ => False
noncomputable def d_at : BodyT := fun C D a h Q => match a with
  | [.pointer p1, .pointer p2, .pointer p3, .pointer (some ⟨m4, 0, none⟩), .bool b5, .bool b6, .pointer (some ⟨m7, 0, none⟩), .bool b8] => fN m4 fun m4 => fB b5 fun b5 => fB b6 fun b6 => fN m7 fun m7 => fB b8 fun b8 => bCE (!b5) (Q (.bool false) h) (RS h m4 0 fun s10 => RI h m4 1 fun n12 => RS h m4 2 fun s14 => RI h m4 3 fun n16 => RS h m4 4 fun s18 => bCE (! (bEq s10 (ByteArray.mk #[97]) && (n12 == 1 && (bEq s14 (ByteArray.mk #[120]) && (n16 == 0 && (bEq s18 zS && true)))))) (Q (.bool false) h) (bCE b6 (Q (.bool false) h) (C f_dc [.pointer p3] h fun v19 h20 => vSlE v19 fun p21 m22 m23 => nxK h20 fun i_1 => ad3 h20 (.string (ByteArray.mk #[97])) (.string (ByteArray.mk #[98])) (.string (ByteArray.mk #[99])) fun h_2 => C f_gq [.slice p21 m22 m23, .slice (some ⟨i_1, 0, none⟩) 3 3] h_2 fun v24 h25 => vBoolE v24 fun b26 => bCE (!b26) (Q (.bool false) h25) (bCE (!b8) (Q (.bool false) h25) (RS h25 m7 0 fun s28 => bCE (!bEq s28 (ByteArray.mk #[114, 117, 108, 101, 32, 99, 32, 58, 10, 9, 99, 97, 116, 32, 98, 10, 9, 119, 114, 105, 116, 101, 32, 99, 10])) (Q (.bool false) h25) (RL h25 m7 1 fun p30 m31 m32 => nxK h25 fun i_3 => ad3 h25 (.string (ByteArray.mk #[98])) (.bool true) (.string (ByteArray.mk #[88])) fun h_4 => C f_go [.slice p30 m31 m32, .slice (some ⟨i_3, 0, none⟩) 1 1] h_4 fun v33 h34 => vBoolE v33 fun b35 => bCE (!b35) (Q (.bool false) h34) (RL h34 m7 2 fun p37 m38 m39 => nxK h34 fun i_5 => ad1 h34 (.string (ByteArray.mk #[88])) fun h_6 => C f_gq [.slice p37 m38 m39, .slice (some ⟨i_5, 0, none⟩) 1 1] h_6 fun v40 h41 => vBoolE v40 fun b42 => bCE (!b42) (Q (.bool false) h41) (C f_d9 [.pointer p3] h41 fun v43 h44 => vSlE v43 fun p45 m46 m47 => nxK h44 fun i_7 => ad4 h44 (.string (ByteArray.mk #[98])) (.string (ByteArray.mk #[97])) (.string (ByteArray.mk #[99])) (.string (ByteArray.mk #[98])) fun h_8 => C f_gm [.slice p45 m46 m47, .slice (some ⟨i_7, 0, none⟩) 2 2] h_8 fun v48 h49 => vBoolE v48 fun b50 => bCE (!b50) (Q (.bool false) h49) (C f_fq [.pointer p2, .string (ByteArray.mk #[97])] h49 fun v51 h52 => vIntE' .i64 v51 fun n53 => neC n53 0 (Q (.bool false) h52) (D f_aq 14 7343106 [.pointer p1, .pointer p2, .pointer (some ⟨m4, 0, none⟩)] h52 Q))))))))))
  | _ => False
noncomputable def d_au : BodyT := fun C D a h Q => match a with
  | [.pointer p1, .pointer p2, .pointer (some ⟨m3, 0, none⟩)] => fN m3 fun m3 => nxK h fun i_1 => ad1 h (.string (ByteArray.mk #[99])) fun h_2 => C f_br [.pointer p1, .pointer p2, iv 100, .slice (some ⟨i_1, 0, none⟩) 1 1] h_2 fun v4 h5 => vTupE v4 fun l6 => CP l6 fun p9 l8 => CI l8 fun n12 l11 => lNE l11 (neC n12 0 (Q (.bool false) h5) (bCE (Option.isNone p9) (Q (.bool false) h5) (D f_aq 17 13319 [.pointer (some ⟨m3, 0, none⟩), .pointer p9] h5 Q)))
  | _ => False
noncomputable def d_av : BodyT := fun C D a h Q => match a with
  | [.pointer (some ⟨m1, 0, none⟩), .pointer p2] => fN m1 fun m1 => C f_db [.pointer p2, .string (ByteArray.mk #[97])] h fun v3 h4 => vTupE v3 fun l5 => lCE l5 fun v6 l7 => vAggE v6 fun l8 => CS l8 fun s11 l10 => CI l10 fun n14 l13 => CS l13 fun s17 l16 => CI l16 fun n20 l19 => CS l19 fun s23 l22 => lNE l22 (CB l7 fun b26 l25 => lNE l25 (wrLK m1 [.string s11, iv n14, .string s17, iv n20, .string s23] h4 0 fun h27 => D f_aq 18 13319 [.pointer (some ⟨m1, 0, none⟩), .pointer p2] h27 Q))
  | _ => False
noncomputable def d_aw : BodyT := fun C D a h Q => match a with
  | [.pointer (some ⟨m1, 0, none⟩), .pointer p2] => fN m1 fun m1 => C f_db [.pointer p2, .string (ByteArray.mk #[98])] h fun v3 h4 => vTupE v3 fun l5 => lCE l5 fun v6 l7 => vAggE v6 fun l8 => CS l8 fun s11 l10 => CI l10 fun n14 l13 => CS l13 fun s17 l16 => CI l16 fun n20 l19 => CS l19 fun s23 l22 => lNE l22 (CB l7 fun b26 l25 => lNE l25 (ad5 h4 (.string zS) (iv 0) (.string zS) (iv 0) (.string zS) fun h_1 => nxK h4 fun i_2 => wrLK i_2 [.string s11, iv n14, .string s17, iv n20, .string s23] h_1 0 fun h27 => D f_aq 19 14693383 [.pointer (some ⟨m1, 0, none⟩), .pointer p2, .pointer (some ⟨i_2, 0, none⟩)] h27 Q))
  | _ => False
noncomputable def d_ax : BodyT := fun C D a h Q => match a with
  | [.pointer (some ⟨m1, 0, none⟩), .pointer p2, .pointer (some ⟨m3, 0, none⟩)] => fN m1 fun m1 => fN m3 fun m3 => C f_db [.pointer p2, .string (ByteArray.mk #[99])] h fun v4 h5 => vTupE v4 fun l6 => lCE l6 fun v7 l8 => vAggE v7 fun l9 => CS l9 fun s12 l11 => CI l11 fun n15 l14 => CS l14 fun s18 l17 => CI l17 fun n21 l20 => CS l20 fun s24 l23 => lNE l23 (CB l8 fun b27 l26 => lNE l26 (ad5 h5 (.string zS) (iv 0) (.string zS) (iv 0) (.string zS) fun h_1 => nxK h5 fun i_2 => wrLK i_2 [.string s12, iv n15, .string s18, iv n21, .string s24] h_1 0 fun h28 => D f_aq 20 16791559 [.pointer (some ⟨m1, 0, none⟩), .pointer (some ⟨m3, 0, none⟩), .pointer (some ⟨i_2, 0, none⟩)] h28 Q))
  | _ => False
noncomputable def d_ay : BodyT := fun C D a h Q => match a with
  | [.pointer (some ⟨m1, 0, none⟩), .pointer (some ⟨m2, 0, none⟩), .pointer (some ⟨m3, 0, none⟩)] => fN m1 fun m1 => fN m2 fun m2 => fN m3 fun m3 => RS h m1 0 fun s5 => RI h m1 1 fun n7 => RS h m1 2 fun s9 => RI h m1 3 fun n11 => RS h m1 4 fun s13 => bCE (! (bEq s5 (ByteArray.mk #[97]) && (n7 == 0 && (bEq s9 zS && (n11 == 4 && (bEq s13 zS && true)))))) (Q (.bool false) h) (RS h m2 0 fun s15 => RI h m2 1 fun n17 => RS h m2 2 fun s19 => RI h m2 3 fun n21 => RS h m2 4 fun s23 => bCE (! (bEq s15 (ByteArray.mk #[98]) && (n17 == 2 && (bEq s19 zS && (n21 == 145 && (bEq s23 (ByteArray.mk #[97]) && true)))))) (Q (.bool false) h) (RS h m3 0 fun s25 => RI h m3 1 fun n27 => RS h m3 2 fun s29 => RI h m3 3 fun n31 => RS h m3 4 fun s33 => bCE (! (bEq s25 (ByteArray.mk #[99]) && (n27 == 2 && (bEq s29 zS && (n31 == 145 && (bEq s33 (ByteArray.mk #[98]) && true)))))) (Q (.bool false) h) (D f_aq 22 16398 [.pointer (some ⟨m2, 0, none⟩), .pointer (some ⟨m3, 0, none⟩)] h Q)))
  | _ => False
noncomputable def d_az : BodyT := fun C D a h Q => match a with
  | [.pointer (some ⟨m1, 0, none⟩), .pointer (some ⟨m2, 0, none⟩)] => fN m1 fun m1 => fN m2 fun m2 => C f_be [.string (ByteArray.mk #[114, 117, 108, 101, 32, 98, 32, 58, 32, 97, 32, 99])] h fun v3 h4 => vAggE v3 fun l5 => lCE l5 fun v6 l7 => vSlE v6 fun p8 m9 m10 => CI l7 fun n13 l12 => lCE l12 fun v14 l15 => vSlE v14 fun p16 m17 m18 => lNE l15 (C f_bf [.agg #[.slice p8 m9 m10, iv n13, .slice p16 m17 m18]] h4 fun v19 h20 => vTupE v19 fun l21 => CP l21 fun p24 l23 => CP l23 fun p27 l26 => CB l26 fun b30 l29 => lNE l29 (bCE (!b30) (Q (.bool false) h20) (D f_aq 25 17194552322 [.pointer p24, .pointer p27, .pointer (some ⟨m1, 0, none⟩), .pointer (some ⟨m2, 0, none⟩)] h20 Q)))
  | _ => False
noncomputable def d_b0 : BodyT := fun C D a h Q => match a with
  | [.pointer p1, .pointer p2, .pointer (some ⟨m3, 0, none⟩), .pointer (some ⟨m4, 0, none⟩)] => fN m3 fun m3 => fN m4 fun m4 => nxK h fun i_1 => ad1 h (.string (ByteArray.mk #[99])) fun h_2 => C f_br [.pointer p1, .pointer p2, iv 100, .slice (some ⟨i_1, 0, none⟩) 1 1] h_2 fun v5 h6 => vTupE v5 fun l7 => CP l7 fun p10 l9 => CI l9 fun n13 l12 => lNE l12 (neC n13 0 (Q (.bool false) h6) (bCE (Option.isNone p10) (Q (.bool false) h6) (D f_aq 28 17607223675906 [.pointer p1, .pointer p2, .pointer p10, .pointer (some ⟨m3, 0, none⟩), .pointer (some ⟨m4, 0, none⟩)] h6 Q)))
  | _ => False
noncomputable def d_b1 : BodyT := fun C D a h Q => match a with
  | [.pointer p1, .pointer p2, .pointer p3, .pointer (some ⟨m4, 0, none⟩), .pointer (some ⟨m5, 0, none⟩)] => fN m4 fun m4 => fN m5 fun m5 => C f_db [.pointer p3, .string (ByteArray.mk #[98])] h fun v6 h7 => vTupE v6 fun l8 => lCE l8 fun v9 l10 => vAggE v9 fun l11 => CS l11 fun s14 l13 => CI l13 fun n17 l16 => CS l16 fun s20 l19 => CI l19 fun n23 l22 => CS l22 fun s26 l25 => lNE l25 (CB l10 fun b29 l28 => lNE l28 (wrLK m4 [.string s14, iv n17, .string s20, iv n23, .string s26] h7 0 fun h30 => D f_aq 29 17607223675906 [.pointer p1, .pointer p2, .pointer p3, .pointer (some ⟨m4, 0, none⟩), .pointer (some ⟨m5, 0, none⟩)] h30 Q))
  | _ => False
noncomputable def d_b2 : BodyT := fun C D a h Q => match a with
  | [.pointer p1, .pointer p2, .pointer p3, .pointer (some ⟨m4, 0, none⟩), .pointer (some ⟨m5, 0, none⟩)] => fN m4 fun m4 => fN m5 fun m5 => C f_db [.pointer p3, .string (ByteArray.mk #[99])] h fun v6 h7 => vTupE v6 fun l8 => lCE l8 fun v9 l10 => vAggE v9 fun l11 => CS l11 fun s14 l13 => CI l13 fun n17 l16 => CS l16 fun s20 l19 => CI l19 fun n23 l22 => CS l22 fun s26 l25 => lNE l25 (CB l10 fun b29 l28 => lNE l28 (wrLK m5 [.string s14, iv n17, .string s20, iv n23, .string s26] h7 0 fun h30 => D f_aq 30 17607223675906 [.pointer p1, .pointer p2, .pointer p3, .pointer (some ⟨m4, 0, none⟩), .pointer (some ⟨m5, 0, none⟩)] h30 Q))
  | _ => False
noncomputable def d_b4 : BodyT := fun C D a h Q => match a with
  | [.pointer p1, .pointer p2, .pointer p3, .pointer (some ⟨m4, 0, none⟩), .pointer (some ⟨m5, 0, none⟩)] => fN m4 fun m4 => fN m5 fun m5 => C f_br [.pointer none, .pointer p2, iv 100, .slice none 0 0] h fun v6 h7 => vTupE v6 fun l8 => CP l8 fun p11 l10 => CI l10 fun n14 l13 => lNE l13 (D f_aq 31 21409705453685762 [.pointer p1, .pointer p2, .pointer p3, .pointer (some ⟨m4, 0, none⟩), .pointer (some ⟨m5, 0, none⟩), iv n14] h7 Q)
  | _ => False
noncomputable def d_b5 : BodyT := fun C D a h Q => match a with
  | [.pointer p1, .pointer p2, .pointer p3, .pointer (some ⟨m4, 0, none⟩), .pointer (some ⟨m5, 0, none⟩), .int .i64 n6] => fN m4 fun m4 => fN m5 fun m5 => fI n6 fun n6 => C f_br [.pointer p1, .pointer none, iv 100, .slice none 0 0] h fun v7 h8 => vTupE v7 fun l9 => CP l9 fun p12 l11 => CI l11 fun n15 l14 => lNE l14 (D f_aq 32 24232761302197472258 [.pointer p1, .pointer p2, .pointer p3, .pointer (some ⟨m4, 0, none⟩), .pointer (some ⟨m5, 0, none⟩), iv n6, iv n15] h8 Q)
  | _ => False
noncomputable def d_b6 : BodyT := fun C D a h Q => match a with
  | [.pointer p1, .pointer p2, .pointer p3, .pointer (some ⟨m4, 0, none⟩), .pointer (some ⟨m5, 0, none⟩), .int .i64 n6, .int .i64 n7] => fN m4 fun m4 => fN m5 fun m5 => fI n6 fun n6 => fI n7 fun n7 => C f_br [.pointer p1, .pointer p2, iv (Int.negSucc 0), .slice none 0 0] h fun v8 h9 => vTupE v8 fun l10 => CP l10 fun p13 l12 => CI l12 fun n16 l15 => lNE l15 (D f_aq 33 27177840037802657451010 [.pointer p1, .pointer p2, .pointer p3, .pointer (some ⟨m4, 0, none⟩), .pointer (some ⟨m5, 0, none⟩), iv n6, iv n7, iv n16] h9 Q)
  | _ => False
noncomputable def d_b7 : BodyT := fun C D a h Q => match a with
  | [.pointer p1, .pointer p2, .pointer p3, .pointer (some ⟨m4, 0, none⟩), .pointer (some ⟨m5, 0, none⟩), .int .i64 n6, .int .i64 n7, .int .i64 n8] => fN m4 fun m4 => fN m5 fun m5 => fI n6 fun n6 => fI n7 fun n7 => fI n8 fun n8 => nxK h fun i_1 => ad1 h (.string (ByteArray.mk #[65])) fun h_2 => C f_br [.pointer p1, .pointer p2, iv 1, .slice (some ⟨i_1, 0, none⟩) 1 1] h_2 fun v9 h10 => vTupE v9 fun l11 => CP l11 fun p14 l13 => CI l13 fun n17 l16 => lNE l16 (D f_aq 34 28848956423190624261 [.pointer p3, .pointer (some ⟨m4, 0, none⟩), .pointer (some ⟨m5, 0, none⟩), iv n6, iv n7, iv n8, iv n17] h10 Q)
  | _ => False
noncomputable def d_b8 : BodyT := fun C D a h Q => match a with
  | [.pointer p1, .pointer (some ⟨m2, 0, none⟩), .pointer (some ⟨m3, 0, none⟩), .int .i64 n4, .int .i64 n5, .int .i64 n6, .int .i64 n7] => fN m2 fun m2 => fN m3 fun m3 => fI n4 fun n4 => fI n5 fun n5 => fI n6 fun n6 => fI n7 fun n7 => D f_aq 35 30724231095075884513285 [.pointer p1, .pointer (some ⟨m2, 0, none⟩), .pointer (some ⟨m3, 0, none⟩), iv n4, iv n5, iv n6, iv n7, .pointer none] h Q
  | _ => False
noncomputable def d_b9 : BodyT := fun C D a h Q => match a with
  | [.pointer p1, .pointer (some ⟨m2, 0, none⟩), .pointer (some ⟨m3, 0, none⟩), .int .i64 n4, .int .i64 n5, .int .i64 n6, .int .i64 n7, .pointer none] => fN m2 fun m2 => fN m3 fun m3 => fI n4 fun n4 => fI n5 fun n5 => fI n6 fun n6 => fI n7 fun n7 => C f_db [.pointer none, .string (ByteArray.mk #[97])] h fun v8 h9 => vTupE v8 fun l10 => lCE l10 fun v11 l12 => vAggE v11 fun l13 => CS l13 fun s16 l15 => CI l15 fun n19 l18 => CS l18 fun s22 l21 => CI l21 fun n25 l24 => CS l24 fun s28 l27 => lNE l27 (CB l12 fun b31 l30 => lNE l30 (D f_aq 36 31461612641357705741606917 [.pointer p1, .bool b31, .pointer (some ⟨m2, 0, none⟩), .pointer (some ⟨m3, 0, none⟩), iv n4, iv n5, iv n6, iv n7, .pointer none] h9 Q))
  | _ => False
noncomputable def d_ba : BodyT := fun C D a h Q => match a with
  | [.pointer p1, .bool b2, .pointer (some ⟨m3, 0, none⟩), .pointer (some ⟨m4, 0, none⟩), .int .i64 n5, .int .i64 n6, .int .i64 n7, .int .i64 n8, .pointer none] => fB b2 fun b2 => fN m3 fun m3 => fN m4 fun m4 => fI n5 fun n5 => fI n6 fun n6 => fI n7 fun n7 => fI n8 fun n8 => C f_dd [.pointer none, .string (ByteArray.mk #[97])] h fun v9 h10 => vTupE v9 fun l11 => lCE l11 fun v12 l13 => vAggE v12 fun l14 => CS l14 fun s17 l16 => lCE l16 fun v18 l19 => vSlE v18 fun p20 m21 m22 => lCE l19 fun v23 l24 => vSlE v23 fun p25 m26 m27 => lNE l24 (CB l13 fun b30 l29 => lNE l29 (D f_aq 37 32216691344750290679409680389 [.pointer p1, .bool b2, .bool b30, .pointer (some ⟨m3, 0, none⟩), .pointer (some ⟨m4, 0, none⟩), iv n5, iv n6, iv n7, iv n8, .pointer none] h10 Q))
  | _ => False
noncomputable def d_bb : BodyT := fun C D a h Q => match a with
  | [.pointer p1, .bool b2, .bool b3, .pointer (some ⟨m4, 0, none⟩), .pointer (some ⟨m5, 0, none⟩), .int .i64 n6, .int .i64 n7, .int .i64 n8, .int .i64 n9, .pointer none] => fB b2 fun b2 => fB b3 fun b3 => fN m4 fun m4 => fN m5 fun m5 => fI n6 fun n6 => fI n7 fun n7 => fI n8 fun n8 => fI n9 fun n9 => RS h m4 0 fun s11 => RI h m4 1 fun n13 => RS h m4 2 fun s15 => RI h m4 3 fun n17 => RS h m4 4 fun s19 => bCE (bEq s11 (ByteArray.mk #[98]) && (n13 == 2 && (bEq s15 zS && (n17 == 210 && (bEq s19 zS && true))))) (RS h m5 0 fun s21 => RI h m5 1 fun n23 => RS h m5 2 fun s25 => RI h m5 3 fun n27 => RS h m5 4 fun s29 => bCE (bEq s21 (ByteArray.mk #[99]) && (n23 == 2 && (bEq s25 zS && (n27 == 210 && (bEq s29 zS && true))))) (C f_dc [.pointer p1] h fun v30 h31 => vSlE v30 fun p32 m33 m34 => nxK h31 fun i_1 => ad3 h31 (.string (ByteArray.mk #[97])) (.string (ByteArray.mk #[98])) (.string (ByteArray.mk #[99])) fun h_2 => C f_gq [.slice p32 m33 m34, .slice (some ⟨i_1, 0, none⟩) 3 3] h_2 fun v35 h36 => vBoolE v35 fun b37 => bCE b37 (eqC n6 1 (eqC n7 1 (eqC n8 2 (eqC n9 2 (bCE (!b2) (bCE (!b3) (C f_dc [.pointer none] h36 fun v38 h39 => vSlE v38 fun p40 m41 m42 => eqC (↑m41 : Int) 0 (C f_da [.pointer none] h39 fun v43 h44 => vSlE v43 fun p45 m46 m47 => eqC (↑m46 : Int) 0 (C f_d9 [.pointer none] h44 fun v48 h49 => vSlE v48 fun p50 m51 m52 => Q (.bool ((↑m51 : Int) == 0)) h49) (Q (.bool false) h44)) (Q (.bool false) h39)) (Q (.bool false) h36)) (Q (.bool false) h36)) (Q (.bool false) h36)) (Q (.bool false) h36)) (Q (.bool false) h36)) (Q (.bool false) h36)) (Q (.bool false) h36)) (Q (.bool false) h)) (Q (.bool false) h)
  | _ => False
theorem kk_ew0 : (KO P d_aq f_aq) ∧ (KE P d_b3 f_aq 4 0) ∧ (KE P d_bc f_aq 7 3074) ∧ (KE P d_bd f_aq 10 5245954) ∧ (KE P d_ar f_aq 11 8803614460930) ∧ (KE P d_as f_aq 12 11267802682887170) ∧ (KE P d_at f_aq 13 14179792852962293844994) ∧ (KE P d_au f_aq 15 7343106) ∧ (KE P d_av f_aq 18 13319) ∧ (KE P d_aw f_aq 19 13319) ∧ (KE P d_ax f_aq 20 14693383) ∧ (KE P d_ay f_aq 21 16791559) ∧ (KE P d_az f_aq 23 16398) ∧ (KE P d_b0 f_aq 26 17194552322) ∧ (KE P d_b1 f_aq 29 17607223675906) ∧ (KE P d_b2 f_aq 30 17607223675906) ∧ (KE P d_b4 f_aq 31 17607223675906) ∧ (KE P d_b5 f_aq 32 21409705453685762) ∧ (KE P d_b6 f_aq 33 24232761302197472258) ∧ (KE P d_b7 f_aq 34 27177840037802657451010) ∧ (KE P d_b8 f_aq 35 28848956423190624261) ∧ (KE P d_b9 f_aq 36 30724231095075884513285) ∧ (KE P d_ba f_aq 37 31461612641357705741606917) ∧ (KE P d_bb f_aq 38 32216691344750290679409680389) := by
  refine ⟨?a0, ?a1, ?a2, ?a3, ?a4, ?a5, ?a6, ?a7, ?a8, ?a9, ?a10, ?a11, ?a12, ?a13, ?a14, ?a15, ?a16, ?a17, ?a18, ?a19, ?a20, ?a21, ?a22, ?a23⟩
  all_goals intro C D hC hD a h Q H
  case' a0 => unfold d_aq at H; split at H; refine r_aq ?_
  case' a1 => unfold d_b3 at H; split at H; refine r_b3 ?_
  case' a2 => unfold d_bc at H; split at H; refine r_bc ?_
  case' a3 => unfold d_bd at H; split at H; refine r_bd ?_
  case' a4 => unfold d_ar at H; split at H; refine r_ar ?_
  case' a5 => unfold d_as at H; split at H; refine r_as ?_
  case' a6 => unfold d_at at H; split at H; refine r_at ?_
  case' a7 => unfold d_au at H; split at H; refine r_au ?_
  case' a8 => unfold d_av at H; split at H; refine r_av ?_
  case' a9 => unfold d_aw at H; split at H; refine r_aw ?_
  case' a10 => unfold d_ax at H; split at H; refine r_ax ?_
  case' a11 => unfold d_ay at H; split at H; refine r_ay ?_
  case' a12 => unfold d_az at H; split at H; refine r_az ?_
  case' a13 => unfold d_b0 at H; split at H; refine r_b0 ?_
  case' a14 => unfold d_b1 at H; split at H; refine r_b1 ?_
  case' a15 => unfold d_b2 at H; split at H; refine r_b2 ?_
  case' a16 => unfold d_b4 at H; split at H; refine r_b4 ?_
  case' a17 => unfold d_b5 at H; split at H; refine r_b5 ?_
  case' a18 => unfold d_b6 at H; split at H; refine r_b6 ?_
  case' a19 => unfold d_b7 at H; split at H; refine r_b7 ?_
  case' a20 => unfold d_b8 at H; split at H; refine r_b8 ?_
  case' a21 => unfold d_b9 at H; split at H; refine r_b9 ?_
  case' a22 => unfold d_ba at H; split at H; refine r_ba ?_
  case' a23 => unfold d_bb at H; split at H; refine r_bb ?_
  all_goals try exact H.elim
  all_goals revert H
  all_goals repeat' with_reducible first
 | refine qac ?_
 | refine qad ?_
 | refine qae ?_
 | refine qaf hC fun _ _ => ?_
 | refine qag hD (by decide)
 | refine qah (by with_unfolding_all rfl) (by with_unfolding_all rfl) ?_
 | refine qai ?_
 | refine qam fun _ => ?_
 | refine qao fun _ => ?_
 | refine qas fun _ => ?_
 | refine qax ?_ ?_
 | refine qay ?_ ?_
 | refine qba fun _ => ?_
 | refine qbb fun _ _ _ => ?_
 | refine qbc fun _ => ?_
 | refine qbd fun _ _ => ?_
 | refine qbe ?_
 | refine qbf fun _ => ?_
 | refine qbi fun _ => ?_
 | refine qbk fun _ => ?_
 | refine qbo ?_
 | refine qbp ?_
 | refine qbq ?_ ?_
 | exact id
noncomputable def e_aq : Ent P := ⟨f_aq, 0, 0, dOwn 8 d_aq, fun _ _ hC hD => own_ent (by kernel_rfl) (kk_ew0.1 _ _ hC hD)⟩
noncomputable def e_b3 := en kk_ew0.2.1
noncomputable def e_bc := en kk_ew0.2.2.1
noncomputable def e_bd := en kk_ew0.2.2.2.1
noncomputable def e_ar := en kk_ew0.2.2.2.2.1
noncomputable def e_as := en kk_ew0.2.2.2.2.2.1
noncomputable def e_at := en kk_ew0.2.2.2.2.2.2.1
noncomputable def e_au := en kk_ew0.2.2.2.2.2.2.2.1
noncomputable def e_av := en kk_ew0.2.2.2.2.2.2.2.2.1
noncomputable def e_aw := en kk_ew0.2.2.2.2.2.2.2.2.2.1
noncomputable def e_ax := en kk_ew0.2.2.2.2.2.2.2.2.2.2.1
noncomputable def e_ay := en kk_ew0.2.2.2.2.2.2.2.2.2.2.2.1
noncomputable def e_az := en kk_ew0.2.2.2.2.2.2.2.2.2.2.2.2.1
noncomputable def e_b0 := en kk_ew0.2.2.2.2.2.2.2.2.2.2.2.2.2.1
noncomputable def e_b1 := en kk_ew0.2.2.2.2.2.2.2.2.2.2.2.2.2.2.1
noncomputable def e_b2 := en kk_ew0.2.2.2.2.2.2.2.2.2.2.2.2.2.2.2.1
noncomputable def e_b4 := en kk_ew0.2.2.2.2.2.2.2.2.2.2.2.2.2.2.2.2.1
noncomputable def e_b5 := en kk_ew0.2.2.2.2.2.2.2.2.2.2.2.2.2.2.2.2.2.1
noncomputable def e_b6 := en kk_ew0.2.2.2.2.2.2.2.2.2.2.2.2.2.2.2.2.2.2.1
noncomputable def e_b7 := en kk_ew0.2.2.2.2.2.2.2.2.2.2.2.2.2.2.2.2.2.2.2.1
noncomputable def e_b8 := en kk_ew0.2.2.2.2.2.2.2.2.2.2.2.2.2.2.2.2.2.2.2.2.1
noncomputable def e_b9 := en kk_ew0.2.2.2.2.2.2.2.2.2.2.2.2.2.2.2.2.2.2.2.2.2.1
noncomputable def e_ba := en kk_ew0.2.2.2.2.2.2.2.2.2.2.2.2.2.2.2.2.2.2.2.2.2.2.1
noncomputable def e_bb := en kk_ew0.2.2.2.2.2.2.2.2.2.2.2.2.2.2.2.2.2.2.2.2.2.2.2
end
end Go.Proofs.YtkbioibemcmanaaGreatDoor.E
end

section
/- Rules of walks, printed by a program of ours: group E0. -/
namespace Go.Proofs.YtkbioibemcmanaaGreatDoor.E
open Go.Abs
set_option maxRecDepth 100000
variable {h : AW} {Q : Value → AW → Prop}
set_option maxHeartbeats 4000000
attribute [local irreducible] kFn kUnit EvQ unitAt kOwn RunOwn
theorem r_bi (H : EvQ P f_be [.string (ByteArray.mk #[114, 117, 108, 101, 32, 98, 32, 58, 32, 97])] h fun v1 h2 => vAgg v1 fun l3 => lC l3 fun v4 l5 => vSl v4 fun p6 m7 m8 => cI l5 fun n11 l10 => lC l10 fun v12 l13 => vSl v12 fun p14 m15 m16 => lN l13 (EvQ P f_bf [.agg #[.slice p6 m7 m8, iv n11, .slice p14 m15 m16]] h2 fun v17 h18 => vTup v17 fun l19 => cP l19 fun p22 l21 => cP l21 fun p25 l24 => cB l24 fun b28 l27 => lN l27 (bC (!b28) (Q (.bool false) h18) (EvQ P f_br [.pointer p22, .pointer p25, iv 100, .slice (some ⟨(AW.next h18), 0, none⟩) 1 1] (AW.addVar h18 [.string (ByteArray.mk #[99])]) fun v29 h30 => vTup v29 fun l31 => cP l31 fun p34 l33 => cI l33 fun n37 l36 => lN l36 (bC (n37 != 0) (Q (.bool false) h30) (bC (Option.isNone p34) (Q (.bool false) h30) (EvQ P f_db [.pointer p34, .string (ByteArray.mk #[99])] h30 fun v38 h39 => vTup v38 fun l40 => lC l40 fun v41 l42 => vAgg v41 fun l43 => cS l43 fun s46 l45 => cI l45 fun n49 l48 => cS l48 fun s52 l51 => cI l51 fun n55 l54 => cS l54 fun s58 l57 => lN l57 (cB l42 fun b61 l60 => lN l60 (oB (AW.wrL (AW.addVar h39 [.string zS, iv 0, .string zS, iv 0, .string zS]) (AW.next h39) 0 [.string s46, iv n49, .string s52, iv n55, .string s58]) fun h62 => bC b61 (rS h62 (AW.next h39) 0 fun s64 => rI h62 (AW.next h39) 1 fun n66 => rS h62 (AW.next h39) 2 fun s68 => rI h62 (AW.next h39) 3 fun n70 => rS h62 (AW.next h39) 4 fun s72 => bC (bEq s64 (ByteArray.mk #[99]) && (n66 == 2 && (bEq s68 (ByteArray.mk #[88]) && (n70 == 0 && (bEq s72 zS && true))))) (EvQ P f_da [.pointer p34] h62 fun v73 h74 => vSl v73 fun p75 m76 m77 => EvQ P f_gq [.slice p75 m76 m77, .slice (some ⟨(AW.next h74), 0, none⟩) 2 2] (AW.addVar h74 [.string (ByteArray.mk #[98]), .string (ByteArray.mk #[99])]) fun v78 h79 => vBool v78 fun b80 => Q (.bool b80) h79) (Q (.bool false) h62)) (Q (.bool false) h62)))))))))) : RunOwn P f_bi [] h Q := oo [] H (by kernel_rfl)
theorem r_fp {p1 : Option Addr} {s2 : ByteArray} (H : bC (Option.isNone p1) (Q (.tuple #[.string zS, iv 1]) h) (EvQ P f_fv [.string s2] h fun v3 h4 => vBool v3 fun b5 => bC (!b5) (Q (.tuple #[.string zS, iv 2]) h4) (jM p1 33 h4 fun p9 => oB (AW.mapL h4 p9) fun l10 => oB (Abs.look TypeDesc.string (.string s2) l10) fun p11 => vStr (Option.getD p11 (.string zS)) fun s12 => bC (!Option.isSome p11) (Q (.tuple #[.string zS, iv 4]) h4) (Q (.tuple #[.string s12, iv 0]) h4)))) : EvQ P f_fp [.pointer p1, .string s2] h Q := fo [] H (by kernel_rfl)
theorem r_ft {p1 : Option Addr} {s2 : ByteArray} (H : jI p1 32 h fun n6 => aP p1 fun m7 m8 => oB (natIdx (Int.tmod n6 32) 32) fun m9 => oB (AW.wr h m7 (m8 + m9 * 1) (.string s2)) fun h10 => jI p1 32 h10 fun n14 => aP p1 fun m15 m16 => oB (AW.wr h10 m15 (m16 + 32) (iv (IntKind.wrap .i64 (n14 + 1)))) fun h17 => Q (.tuple #[]) h17) : EvQ P f_ft [.pointer p1, .string s2] h Q := fo [] H (by kernel_rfl)
theorem r_cv {s1 : ByteArray} (H : EvQ P f_cs [.string s1] h fun v2 h3 => vBool v2 fun b4 => bC b4 (Q (.string s1) h3) (EvQ P f_cu [.string s1] h3 fun v5 h6 => vStr v5 fun s7 => Q (.string s7) h6)) : EvQ P f_cv [.string s1] h Q := fo [] H (by kernel_rfl)
theorem r_c5 {s1 : ByteArray} {p2 : Option Addr} {m3 m4 : Nat} {p5 : Option Addr} {m6 m7 : Nat} {p8 : Option Addr} {m9 m10 : Nat} (H : lw (AW.addVar h [.string s1, .slice p2 m3 m4, .slice p5 m6 m7, .slice p8 m9 m10]) fun k1 => lw (AW.addVar k1 [.string zS, .slice none 0 0, .slice none 0 0, .slice none 0 0]) fun k2 => rS k2 (AW.next h) 0 fun s12 => rL k2 (AW.next h) 1 fun p14 m15 m16 => EvQ P f_gh [.slice p14 m15 m16] k2 fun v17 h18 => vSl v17 fun p19 m20 m21 => rL h18 (AW.next h) 2 fun p23 m24 m25 => EvQ P f_gh [.slice p23 m24 m25] h18 fun v26 h27 => vSl v26 fun p28 m29 m30 => rL h27 (AW.next h) 3 fun p32 m33 m34 => EvQ P f_c3 [.slice p32 m33 m34] h27 fun v35 h36 => vSl v35 fun p37 m38 m39 => oB (AW.wrL h36 (AW.next k1) 0 [.string s12, .slice p19 m20 m21, .slice p28 m29 m30, .slice p37 m38 m39]) fun h40 => rS h18 (AW.next h) 0 fun s42 => Value.string s42 = .string s12 ∧ rS h27 (AW.next h) 0 fun s44 => Value.string s44 = .string s12 ∧ rS h36 (AW.next h) 0 fun s46 => Value.string s46 = .string s12 ∧ rL k2 (AW.next h) 2 fun p48 m49 m50 => Value.slice p48 m49 m50 = .slice p23 m24 m25 ∧ rL k2 (AW.next h) 3 fun p52 m53 m54 => Value.slice p52 m53 m54 = .slice p32 m33 m34 ∧ rL h18 (AW.next h) 3 fun p56 m57 m58 => Value.slice p56 m57 m58 = .slice p32 m33 m34 ∧ rS h40 (AW.next k1) 0 fun s60 => rL h40 (AW.next k1) 1 fun p62 m63 m64 => rL h40 (AW.next k1) 2 fun p66 m67 m68 => rL h40 (AW.next k1) 3 fun p70 m71 m72 => Q (.agg #[.string s60, .slice p62 m63 m64, .slice p66 m67 m68, .slice p70 m71 m72]) h40) : EvQ P f_c5 [.agg #[.string s1, .slice p2 m3 m4, .slice p5 m6 m7, .slice p8 m9 m10]] h Q := fo [] H (by kernel_rfl)
theorem r_io {s1 s2 : ByteArray} {n3 n4 : Int} (H : bC (n4 == 0) (Q (.slice none 0 0) h) (bC (bEq s2 zS) (EvQ P f_in [.string s1, iv n4] h fun v5 h6 => vSl v5 fun p7 m8 m9 => Q (.slice p7 m8 m9) h6) (bC (decide (n4 < 0)) (EvQ P f_i4 [.string s1, .string s2] h fun v10 h11 => vInt .i64 v10 fun n12 => unitAt P f_io 7 [0, 1, 2, 3] [.string s1, .string s2, iv n3, iv (IntKind.wrap .i64 (n12 + 1))] h11 Q) (unitAt P f_io 7 [0, 1, 2, 3] [.string s1, .string s2, iv n3, iv n4] h Q)))) : EvQ P f_io [.string s1, .string s2, iv n3, iv n4] h Q := fo [(7,[0,1,2,3]),(11,[0,1,2,3,9,10]),(17,[0,9,10])] H (by kernel_rfl)
theorem r_ir {s1 s2 : ByteArray} {n3 n4 : Int} (H : oP (makeSliceV P h ty_sl_string (iv (if IntKind.wrap .i64 ((↑(ByteArray.size s1) : Int) + 1) < n4 then IntKind.wrap .i64 ((↑(ByteArray.size s1) : Int) + 1) else n4)) (iv (if IntKind.wrap .i64 ((↑(ByteArray.size s1) : Int) + 1) < n4 then IntKind.wrap .i64 ((↑(ByteArray.size s1) : Int) + 1) else n4))) fun v5 h6 => vSl v5 fun p7 m8 m9 => unitAt P f_io 11 [0, 1, 2, 3, 9, 10] [.string s1, .string s2, iv n3, iv (IntKind.wrap .i64 ((if IntKind.wrap .i64 ((↑(ByteArray.size s1) : Int) + 1) < n4 then IntKind.wrap .i64 ((↑(ByteArray.size s1) : Int) + 1) else n4) - 1)), .slice p7 m8 m9, iv 0] h6 Q) : unitAt P f_io 7 [0, 1, 2, 3] [.string s1, .string s2, iv n3, iv n4] h Q := uo [(7,[0,1,2,3]),(11,[0,1,2,3,9,10]),(17,[0,9,10])] H (by kernel_rfl)
theorem r_ip {s1 s2 : ByteArray} {n3 n4 : Int} {p5 : Option Addr} {m6 m7 : Nat} {n8 : Int} (H : bC (decide (n8 < n4)) (EvQ P f_i9 [.string s1, .string s2] h fun v9 h10 => vInt .i64 v9 fun n11 => bC (decide (n11 < 0)) (unitAt P f_io 17 [0, 9, 10] [.string s1, .slice p5 m6 m7, iv n8] h10 Q) (oB (natBnd (IntKind.wrap .i64 (n11 + n3)) (ByteArray.size s1)) fun m12 => aP p5 fun m13 m14 => oB (natIdx n8 m6) fun m15 => oB (AW.wr h10 m13 (m14 + m15 * 1) (.string (bSub s1 0 m12))) fun h16 => oB (natBnd (IntKind.wrap .i64 (n11 + (↑(ByteArray.size s2) : Int))) (ByteArray.size s1)) fun m17 => unitAt P f_io 11 [0, 1, 2, 3, 9, 10] [.string (bSub s1 m17 (ByteArray.size s1)), .string s2, iv n3, iv n4, .slice p5 m6 m7, iv (IntKind.wrap .i64 (n8 + 1))] h16 Q)) (unitAt P f_io 17 [0, 9, 10] [.string s1, .slice p5 m6 m7, iv n8] h Q)) : unitAt P f_io 11 [0, 1, 2, 3, 9, 10] [.string s1, .string s2, iv n3, iv n4, .slice p5 m6 m7, iv n8] h Q := uo [(7,[0,1,2,3]),(11,[0,1,2,3,9,10]),(17,[0,9,10])] H (by kernel_rfl)
theorem r_iq {s1 : ByteArray} {p2 : Option Addr} {m3 m4 : Nat} {n5 : Int} (H : aP p2 fun m6 m7 => oB (natIdx n5 m3) fun m8 => oB (AW.wr h m6 (m7 + m8 * 1) (.string s1)) fun h9 => oB (natBnd (IntKind.wrap .i64 (n5 + 1)) m4) fun m10 => bC (Nat.ble m10 m4) (oB (shO p2 0) fun p11 => Q (.slice p11 (m10 - 0) (m4 - 0)) h9) (False)) : unitAt P f_io 17 [0, 9, 10] [.string s1, .slice p2 m3 m4, iv n5] h Q := uo [(7,[0,1,2,3]),(11,[0,1,2,3,9,10]),(17,[0,9,10])] H (by kernel_rfl)
theorem r_es {p1 : Option Addr} {n2 : Int} {p3 : Option Addr} {m4 m5 : Nat} {n6 : Int} {p7 : Option Addr} {m8 m9 : Nat} (H : lw (AW.addVar h [iv n2, .slice p3 m4 m5, iv n6, .slice p7 m8 m9]) fun k1 => rI k1 (AW.next h) 0 fun n11 => bC (n11 == 1) (rL k1 (AW.next h) 1 fun p13 m14 m15 => xS p13 0 m14 1 k1 fun s20 => EvQ P f_er [.pointer p1, .string s20] k1 fun v21 h22 => vTup v21 fun l23 => cS l23 fun s26 l25 => cB l25 fun b29 l28 => lN l28 (Q (.bool b29) h22)) (bC (n11 == 2) (rL k1 (AW.next h) 1 fun p31 m32 m33 => xS p31 0 m32 1 k1 fun s38 => EvQ P f_er [.pointer p1, .string s38] k1 fun v39 h40 => vTup v39 fun l41 => cS l41 fun s44 l43 => cB l43 fun b47 l46 => lN l46 (bC b47 (EvQ P f_ey [.pointer p1, .string s44] h40 fun v48 h49 => vBool v48 fun b50 => Q (.bool b50) h49) (Q (.bool false) h40))) (bC (n11 == 3) (rL k1 (AW.next h) 1 fun p52 m53 m54 => EvQ P f_f4 [.pointer p1, .slice p52 m53 m54] k1 fun v55 h56 => vStr v55 fun s57 => bC (Nat.ble (ByteArray.size s57 + 1) 9223372036854775807) (EvQ P f_ey [.pointer p1, .string (s57 ++ ByteArray.mk #[10])] h56 fun v58 h59 => vBool v58 fun b60 => Q (.bool b60) h59) (False)) (bC (n11 == 4) (jS p1 4 k1 fun s64 => oP (convA P k1 ty_string ty_sl_uint8 (.string s64)) fun v65 h66 => vSl v65 fun p67 m68 m69 => EvQ P f_ch [.slice p67 m68 m69] h66 fun v70 h71 => vSl v70 fun p72 m73 m74 => oB (AW.bytes h71 p72 m73) fun s75 => wF p1 4 h71 (.string s75) fun h78 => Q (.bool true) h78) (bC (n11 == 5) (EvQ P f_f0 [.pointer p1, .func (Fn.func f_cn) #[] #[]] k1 fun v79 h80 => vBool v79 fun b81 => Q (.bool b81) h80) (bC (n11 == 6) (EvQ P f_f0 [.pointer p1, .func (Fn.func f_co) #[] #[]] k1 fun v82 h83 => vBool v82 fun b84 => Q (.bool b84) h83) (bC (n11 == 7) (EvQ P f_f0 [.pointer p1, .func (Fn.func f_cm) #[] #[]] k1 fun v85 h86 => vBool v85 fun b87 => Q (.bool b87) h86) (bC (n11 == 8) (rL k1 (AW.next h) 1 fun p89 m90 m91 => xS p89 0 m90 1 k1 fun s96 => EvQ P f_ew [.pointer p1, .string s96] k1 fun v97 h98 => vTup v97 fun l99 => cS l99 fun s102 l101 => cB l101 fun b105 l104 => lN l104 (bC (!b105) (Q (.bool false) h98) (jM p1 6 h98 fun p109 => oB (AW.mapL h98 p109) fun l110 => oB (Abs.look TypeDesc.string (.string s102) l110) fun p111 => vStr (Option.getD p111 (.string zS)) fun s112 => bC (Option.isSome p111) (EvQ P f_et [.pointer p1, iv 142, .string s102] h98 fun v113 h114 => vBool v113 fun b115 => Q (.bool b115) h114) (jL p1 1 h98 fun p119 m120 m121 => EvQ P f_gl [.slice p119 m120 m121, .string s102] h98 fun v122 h123 => vBool v122 fun b124 => bC (!b124) (EvQ P f_et [.pointer p1, iv 142, .string s102] h123 fun v125 h126 => vBool v125 fun b127 => Q (.bool b127) h126) (jM p1 6 h123 fun p131 => aP p1 fun m132 m133 => rS h123 m132 (m133 + 4) fun s135 => oB (AW.mapL h123 p131) fun l136 => oB (Abs.look TypeDesc.string (.string s102) l136) fun p137 => vStr (Option.getD p137 (.string zS)) fun s138 => oB (mapIx P h123 ty_map_string_string (.map p131) (.string s102)) fun m139 => oB (mapUpdV P h123 ty_map_string_string (.map p131) (.string s102) (.string s138)) fun h140 => oB (mapPutV h140 (.map p131) (↑m139 : Int) (.string s135)) fun h141 => wF p1 4 h141 (.string zS) fun h144 => rS h140 m132 (m133 + 4) fun s146 => Value.string s146 = .string s135 ∧ Q (.bool true) h144))))) (bC (n11 == 9) (rL k1 (AW.next h) 1 fun p148 m149 m150 => EvQ P f_f4 [.pointer p1, .slice p148 m149 m150] k1 fun v151 h152 => vStr v151 fun s153 => EvQ P f_et [.pointer p1, iv 140, .string s153] h152 fun v154 h155 => vBool v154 fun b156 => Q (.bool b156) h155) (bC (n11 == 10) (aP p1 fun m157 m158 => rL k1 m157 (m158 + 8) fun p160 m161 m162 => rL k1 (AW.next h) 3 fun p164 m165 m166 => rL k1 (AW.next h) 3 fun p168 m169 m170 => rI k1 (AW.next h) 2 fun n172 => lw (AW.addVar k1 [.slice p164 m165 m166, iv (↑m169 : Int), .bool false, .string zS, .slice none 0 0, iv n172]) fun k2 => oP (appendB P k2 #[ty_sl_interp_frame, ty_sl_interp_frame] [.slice p160 m161 m162, .slice (some ⟨(AW.next k1), 0, none⟩) 1 1]) fun v173 h174 => vSl v173 fun p175 m176 m177 => wF p1 8 h174 (.slice p175 m176 m177) fun h180 => rL k2 m157 (m158 + 8) fun p182 m183 m184 => Value.slice p182 m183 m184 = .slice p160 m161 m162 ∧ Q (.bool true) h180) (bC (n11 == 11) (rL k1 (AW.next h) 1 fun p186 m187 m188 => xS p186 0 m187 1 k1 fun s193 => EvQ P f_er [.pointer p1, .string s193] k1 fun v194 h195 => vTup v194 fun l196 => cS l196 fun s199 l198 => cB l198 fun b202 l201 => lN l201 (bC (!b202) (Q (.bool false) h195) (aP p1 fun m203 m204 => rL h195 m203 (m204 + 8) fun p206 m207 m208 => rL h195 (AW.next h) 3 fun p210 m211 m212 => rL h195 (AW.next h) 3 fun p214 m215 m216 => EvQ P f_cl [.string s199] h195 fun v217 h218 => vSl v217 fun p219 m220 m221 => lw (AW.addVar h218 [.slice p210 m211 m212, iv (↑m215 : Int), .bool true, .string zS, .slice p219 m220 m221, iv 0]) fun k3 => oP (appendB P k3 #[ty_sl_interp_frame, ty_sl_interp_frame] [.slice p206 m207 m208, .slice (some ⟨(AW.next h218), 0, none⟩) 1 1]) fun v222 h223 => vSl v222 fun p224 m225 m226 => wF p1 8 h223 (.slice p224 m225 m226) fun h229 => rL h218 m203 (m204 + 8) fun p231 m232 m233 => Value.slice p231 m232 m233 = .slice p206 m207 m208 ∧ rL k3 m203 (m204 + 8) fun p235 m236 m237 => Value.slice p235 m236 m237 = .slice p206 m207 m208 ∧ rL h218 (AW.next h) 3 fun p239 m240 m241 => Value.slice p239 m240 m241 = .slice p210 m211 m212 ∧ rL h218 (AW.next h) 3 fun p243 m244 m245 => Value.slice p243 m244 m245 = .slice p214 m215 m216 ∧ iv (↑m215 : Int) = iv (↑m215 : Int) ∧ Q (.bool true) h229))) (bC (n11 == 12) (rL k1 (AW.next h) 1 fun p247 m248 m249 => xS p247 0 m248 1 k1 fun s254 => EvQ P f_f2 [.pointer p1, .string s254] k1 fun v255 h256 => vStr v255 fun s257 => rL h256 (AW.next h) 1 fun p259 m260 m261 => aP p259 fun m262 m263 => oB (natIdx 1 m260) fun m264 => rS h256 m262 (m263 + m264 * 1) fun s266 => EvQ P f_f2 [.pointer p1, .string s266] h256 fun v267 h268 => vStr v267 fun s269 => rL k1 (AW.next h) 1 fun p271 m272 m273 => Value.slice p271 m272 m273 = .slice p259 m260 m261 ∧ rS k1 m262 (m263 + m264 * 1) fun s275 => Value.string s275 = .string s266 ∧ bC (bEq s257 s269) (aP p1 fun m276 m277 => rL h268 m276 (m277 + 8) fun p279 m280 m281 => rL h268 (AW.next h) 3 fun p283 m284 m285 => lw (AW.addVar h268 [.slice p283 m284 m285, iv 0, .bool false, .string zS, .slice none 0 0, iv 0]) fun k4 => oP (appendB P k4 #[ty_sl_interp_frame, ty_sl_interp_frame] [.slice p279 m280 m281, .slice (some ⟨(AW.next h268), 0, none⟩) 1 1]) fun v286 h287 => vSl v286 fun p288 m289 m290 => wF p1 8 h287 (.slice p288 m289 m290) fun h293 => rL k4 m276 (m277 + 8) fun p295 m296 m297 => Value.slice p295 m296 m297 = .slice p279 m280 m281 ∧ Q (.bool true) h293) (Q (.bool true) h268)) (Q (.bool true) k1))))))))))))) : EvQ P f_es [.pointer p1, .agg #[iv n2, .slice p3 m4 m5, iv n6, .slice p7 m8 m9]] h Q := fo [] H (by kernel_rfl)
theorem r_ia {s1 : ByteArray} {n2 : Int} (H : EvQ P f_iy [.string s1, .int .u8 n2] h fun v3 h4 => vInt .i64 v3 fun n5 => Q (iv n5) h4) : EvQ P f_ia [.string s1, .int .u8 n2] h Q := fo [] H (by kernel_rfl)
theorem r_f2 {p1 : Option Addr} {s2 : ByteArray} (H : jL p1 8 h fun p6 m7 m8 => unitAt P f_f2 3 [1, 5, 11, 12, 13] [.string s2, .string zS, .slice p6 m7 m8, iv (↑m7 : Int), iv 0] h Q) : EvQ P f_f2 [.pointer p1, .string s2] h Q := fo [(3,[1,5,11,12,13])] H (by kernel_rfl)
theorem r_f3 {s1 s2 : ByteArray} {p3 : Option Addr} {m4 m5 : Nat} {n6 n7 : Int} (H : bC (decide (n7 < n6)) (aP p3 fun m8 m9 => oB (natIdx n7 m4) fun m10 => rL h m8 (m9 + m10 * 6) fun p12 m13 m14 => rI h m8 (m9 + m10 * 6 + 1) fun n16 => rB h m8 (m9 + m10 * 6 + 1 + 1) fun b18 => rS h m8 (m9 + m10 * 6 + 1 + 1 + 1) fun s20 => rL h m8 (m9 + m10 * 6 + 1 + 1 + 1 + 1) fun p22 m23 m24 => rI h m8 (m9 + m10 * 6 + 1 + 1 + 1 + 1 + 1) fun n26 => oB (AW.wrL (AW.addVar h [.slice none 0 0, iv 0, .bool false, .string zS, .slice none 0 0, iv 0]) (AW.next h) 0 [.slice p12 m13 m14, iv n16, .bool b18, .string s20, .slice p22 m23 m24, iv n26]) fun h27 => rB h27 (AW.next h) 2 fun b29 => bC b29 (rS h27 (AW.next h) 3 fun s31 => unitAt P f_f2 3 [1, 5, 11, 12, 13] [.string s1, .string s31, .slice p3 m4 m5, iv n6, iv (IntKind.wrap .i64 (n7 + 1))] h27 Q) (unitAt P f_f2 3 [1, 5, 11, 12, 13] [.string s1, .string s2, .slice p3 m4 m5, iv n6, iv (IntKind.wrap .i64 (n7 + 1))] h27 Q)) (EvQ P f_ii [.string s1, .string (ByteArray.mk #[64]), .string s2] h fun v32 h33 => vStr v32 fun s34 => Q (.string s34) h33)) : unitAt P f_f2 3 [1, 5, 11, 12, 13] [.string s1, .string s2, .slice p3 m4 m5, iv n6, iv n7] h Q := uo [(3,[1,5,11,12,13])] H (by kernel_rfl)
theorem r_ht {p1 : Option Addr} {m2 m3 : Nat} {n4 n5 : Int} {b6 b7 : Bool} {p8 : Option Addr} {m9 m10 : Nat} {s11 : ByteArray} {m12 : Nat} {n13 : Int} (H : EvQ P f_hu [iv n5] h fun v14 h15 => vBool v14 fun b16 => bC b16 (EvQ P f_d6 [.int .u64 (IntKind.wrap .u64 n5)] h15 fun v17 h18 => vInt .i64 v17 fun n19 => unitAt P f_hs 11 [0, 1, 3, 4, 10, 11, 12, 13, 14, 15, 16] [.slice p1 m2 m3, .int .u64 n4, .bool b6, .bool b7, .slice p8 m9 m10, .string s11, .pointer (some ⟨m12, 0, none⟩), iv n13, .int .u64 (IntKind.wrap .u64 n19), .int .u64 (IntKind.wrap .u64 n5), .int .u64 (IntKind.wrap .u64 (IntKind.wrap .u64 n5 - 1))] h18 Q) (unitAt P f_hs 18 [0, 1, 3, 4, 10, 11, 12, 13, 17] [.slice p1 m2 m3, .int .u64 n4, .bool b6, .bool b7, .slice p8 m9 m10, .string s11, .pointer (some ⟨m12, 0, none⟩), iv n13, .int .u64 (IntKind.wrap .u64 n5)] h15 Q)) : unitAt P f_hs 7 [0, 1, 2, 3, 4, 10, 11, 12, 13] [.slice p1 m2 m3, .int .u64 n4, iv n5, .bool b6, .bool b7, .slice p8 m9 m10, .string s11, .pointer (some ⟨m12, 0, none⟩), iv n13] h Q := uo [(3,[0,1,2,3,4,10,11]),(7,[0,1,2,3,4,10,11,12,13]),(11,[0,1,3,4,10,11,12,13,14,15,16]),(18,[0,1,3,4,10,11,12,13,17]),(28,[0,4,10,11,12,13])] H (by kernel_rfl)
end Go.Proofs.YtkbioibemcmanaaGreatDoor.E
end

section
/- Rules of walks, printed by a program of ours: group E1. -/
namespace Go.Proofs.YtkbioibemcmanaaGreatDoor.E
open Go.Abs
set_option maxRecDepth 100000
variable {h : AW} {Q : Value → AW → Prop}
set_option maxHeartbeats 4000000
attribute [local irreducible] kFn kUnit EvQ unitAt kOwn RunOwn
theorem r_bf {p1 : Option Addr} {m2 m3 : Nat} {n4 : Int} {p5 : Option Addr} {m6 m7 : Nat} (H : EvQ P f_j1 [] (AW.addVar h [.slice p1 m2 m3, iv n4, .slice p5 m6 m7]) fun v8 h9 => vPtr v8 fun p10 => oB (AW.wr (AW.addVar h9 [.pointer none]) (AW.next h9) 0 (.pointer p10)) fun h11 => rL h11 (AW.next h) 0 fun p13 m14 m15 => unitAt P f_bf 3 [5, 12, 13, 14] [.pointer (some ⟨(AW.next h9), 0, none⟩), .slice p13 m14 m15, iv (↑m14 : Int), iv 0] h11 Q) : EvQ P f_bf [.agg #[.slice p1 m2 m3, iv n4, .slice p5 m6 m7]] h Q := fo [(3,[5,12,13,14])] H (by kernel_rfl)
theorem r_bg {m1 : Nat} {p2 : Option Addr} {m3 m4 : Nat} {n5 n6 : Int} (H : bC (decide (n6 < n5)) (aP p2 fun m7 m8 => oB (natIdx n6 m3) fun m9 => rS h m7 (m8 + m9 * 2) fun s11 => rS h m7 (m8 + m9 * 2 + 1) fun s13 => oB (AW.wrL (AW.addVar h [.string zS, .string zS]) (AW.next h) 0 [.string s11, .string s13]) fun h14 => rP h14 m1 0 fun p16 => rS h14 (AW.next h) 0 fun s18 => rS h14 (AW.next h) 1 fun s20 => EvQ P f_fr [.pointer p16, .string s18, .string s20] h14 fun v21 h22 => vInt .i64 v21 fun n23 => bC (n23 != 0) (Q (.tuple #[.pointer none, .pointer none, .bool false]) h22) (unitAt P f_bf 3 [5, 12, 13, 14] [.pointer (some ⟨m1, 0, none⟩), .slice p2 m3 m4, iv n5, iv (IntKind.wrap .i64 (n6 + 1))] h22 Q)) (EvQ P f_c2 [.func (Fn.func f_bh) #[] #[.pointer (some ⟨m1, 0, none⟩)], .string (ByteArray.mk #[114])] h fun v24 h25 => vTup v24 fun l26 => cP l26 fun p29 l28 => lC l28 fun v30 l31 => vAgg v30 fun l32 => cI l32 fun n35 l34 => cS l34 fun s38 l37 => cI l37 fun n41 l40 => cI l40 fun n44 l43 => lN l43 (lN l31 (oB (AW.wrL (AW.addVar h25 [iv 0, .string zS, iv 0, iv 0]) (AW.next h25) 0 [iv n35, .string s38, iv n41, iv n44]) fun h45 => rP h45 m1 0 fun p47 => rI h45 (AW.next h25) 0 fun n49 => rS h45 (AW.next h25) 1 fun s51 => rI h45 (AW.next h25) 2 fun n53 => rI h45 (AW.next h25) 3 fun n55 => bC (n49 == 0 && (bEq s51 zS && (n53 == 0 && (n55 == 0 && true)))) (Q (.tuple #[.pointer p29, .pointer p47, .bool !Option.isNone p29]) h45) (Q (.tuple #[.pointer p29, .pointer p47, .bool false]) h45))))) : unitAt P f_bf 3 [5, 12, 13, 14] [.pointer (some ⟨m1, 0, none⟩), .slice p2 m3 m4, iv n5, iv n6] h Q := uo [(3,[5,12,13,14])] H (by kernel_rfl)
theorem r_gk {p1 : Option Addr} {m2 m3 m4 : Nat} {x5 : Array Value} {x6 : Array Value} (H : EvQ P f_gu [.slice p1 m2 m3, .func (Fn.func m4) x5 x6] h fun v7 h8 => vInt .i64 v7 fun n9 => Q (.bool (decide (n9 ≥ 0))) h8) : EvQ P f_gk [.slice p1 m2 m3, .func (Fn.func m4) x5 x6] h Q := fo [] H (by kernel_rfl)
theorem r_ds {p1 : Option Addr} {s2 s3 : ByteArray} (H : jL p1 5 h fun p7 m8 m9 => oP (appendB P (AW.addVar h [.string s2]) #[ty_sl_string, ty_sl_string] [.slice p7 m8 m9, .slice (some ⟨(AW.next h), 0, none⟩) 1 1]) fun v10 h11 => vSl v10 fun p12 m13 m14 => wF p1 5 h11 (.slice p12 m13 m14) fun h17 => jP p1 1 h17 fun p21 => jL p21 3 h17 fun p25 m26 m27 => EvQ P f_gl [.slice p25 m26 m27, .string s2] h17 fun v28 h29 => vBool v28 fun b30 => bC (!b30) (aP p1 fun m31 m32 => rP h29 m31 (m32 + 1) fun p34 => aP p1 fun m35 m36 => rP h29 m35 (m36 + 1) fun p38 => aP p38 fun m39 m40 => rL h29 m39 (m40 + 3) fun p42 m43 m44 => lw (AW.addVar h29 [.string s2]) fun k2 => oP (appendB P k2 #[ty_sl_string, ty_sl_string] [.slice p42 m43 m44, .slice (some ⟨(AW.next h29), 0, none⟩) 1 1]) fun v45 h46 => vSl v45 fun p47 m48 m49 => wF p34 3 h46 (.slice p47 m48 m49) fun h52 => rP k2 m31 (m32 + 1) fun p54 => Value.pointer p54 = .pointer p34 ∧ rP h46 m31 (m32 + 1) fun p56 => Value.pointer p56 = .pointer p34 ∧ rP k2 m35 (m36 + 1) fun p58 => Value.pointer p58 = .pointer p38 ∧ rL k2 m39 (m40 + 3) fun p60 m61 m62 => Value.slice p60 m61 m62 = .slice p42 m43 m44 ∧ unitAt P f_ds 4 [0, 2] [.pointer p1, .string s3] h52 Q) (unitAt P f_ds 4 [0, 2] [.pointer p1, .string s3] h29 Q)) : EvQ P f_ds [.pointer p1, .string s2, .string s3] h Q := fo [(4,[0,2]),(8,[0,66,67,68]),(21,[0,11,66,67,68])] H (by kernel_rfl)
theorem r_du {p1 : Option Addr} {s2 : ByteArray} (H : EvQ P f_g6 [.string s2] h fun v3 h4 => vTup v3 fun l5 => lC l5 fun v6 l7 => vSl v6 fun p8 m9 m10 => lC l7 fun v11 l12 => vAgg v11 fun l13 => cI l13 fun n16 l15 => cS l15 fun s19 l18 => cI l18 fun n22 l21 => cI l21 fun n25 l24 => lN l24 (lN l12 (oB (AW.wrL (AW.addVar h4 [iv 0, .string zS, iv 0, iv 0]) (AW.next h4) 0 [iv n16, .string s19, iv n22, iv n25]) fun h26 => rI h26 (AW.next h4) 0 fun n28 => bC (n28 != 0) (rI h26 (AW.next h4) 0 fun n30 => rI h26 (AW.next h4) 2 fun n32 => rI h26 (AW.next h4) 3 fun n34 => EvQ P f_dr [.pointer p1, iv n30, .agg #[.string zS, iv n32, iv n34, .bool false, .bool false]] h26 fun v35 h36 => vBool v35 fun b37 => Q (.bool b37) h36) (unitAt P f_ds 8 [0, 66, 67, 68] [.pointer p1, .slice p8 m9 m10, iv (↑m9 : Int), iv 0] h26 Q)))) : unitAt P f_ds 4 [0, 2] [.pointer p1, .string s2] h Q := uo [(4,[0,2]),(8,[0,66,67,68]),(21,[0,11,66,67,68])] H (by kernel_rfl)
theorem r_dv {p1 : Option Addr} {p2 : Option Addr} {m3 m4 : Nat} {n5 n6 : Int} (H : bC (decide (n6 < n5)) (aP p2 fun m7 m8 => oB (natIdx n6 m3) fun m9 => rI h m7 (m8 + m9 * 6) fun n11 => rI h m7 (m8 + m9 * 6 + 1) fun n13 => rS h m7 (m8 + m9 * 6 + 1 + 1) fun s15 => rL h m7 (m8 + m9 * 6 + 1 + 1 + 1) fun p17 m18 m19 => rL h m7 (m8 + m9 * 6 + 1 + 1 + 1 + 1) fun p21 m22 m23 => rL h m7 (m8 + m9 * 6 + 1 + 1 + 1 + 1 + 1) fun p25 m26 m27 => oB (AW.wrL (AW.addVar h [iv 0, iv 0, .string zS, .slice none 0 0, .slice none 0 0, .slice none 0 0]) (AW.next h) 0 [iv n11, iv n13, .string s15, .slice p17 m18 m19, .slice p21 m22 m23, .slice p25 m26 m27]) fun h28 => rI h28 (AW.next h) 0 fun n30 => bC (n30 == 1) (rL h28 (AW.next h) 4 fun p32 m33 m34 => EvQ P f_e1 [.pointer p1, .slice p32 m33 m34] h28 fun v35 h36 => vTup v35 fun l37 => lC l37 fun v38 l39 => vSl v38 fun p40 m41 m42 => cB l39 fun b45 l44 => lN l44 (bC b45 (aP p1 fun m46 m47 => rM h36 m46 (m47 + 2) fun p49 => rS h36 (AW.next h) 2 fun s51 => EvQ P f_c8 [.slice p40 m41 m42] h36 fun v52 h53 => vSl v52 fun p54 m55 m56 => oB (mapUpdV P h53 ty_map_string_sl_string (.map p49) (.string s51) (.slice p54 m55 m56)) fun h57 => rM h53 m46 (m47 + 2) fun p59 => Value.map p59 = .map p49 ∧ rS h53 (AW.next h) 2 fun s61 => Value.string s61 = .string s51 ∧ unitAt P f_ds 21 [0, 11, 66, 67, 68] [.pointer p1, .bool b45, .slice p2 m3 m4, iv n5, iv n6] h57 Q) (unitAt P f_ds 21 [0, 11, 66, 67, 68] [.pointer p1, .bool b45, .slice p2 m3 m4, iv n5, iv n6] h36 Q))) (bC (n30 == 2) (rI h28 (AW.next h) 0 fun n63 => rI h28 (AW.next h) 1 fun n65 => rS h28 (AW.next h) 2 fun s67 => rL h28 (AW.next h) 3 fun p69 m70 m71 => rL h28 (AW.next h) 4 fun p73 m74 m75 => rL h28 (AW.next h) 5 fun p77 m78 m79 => EvQ P f_e4 [.pointer p1, .agg #[iv n63, iv n65, .string s67, .slice p69 m70 m71, .slice p73 m74 m75, .slice p77 m78 m79]] h28 fun v80 h81 => vBool v80 fun b82 => unitAt P f_ds 21 [0, 11, 66, 67, 68] [.pointer p1, .bool b82, .slice p2 m3 m4, iv n5, iv n6] h81 Q) (bC (n30 == 3) (rI h28 (AW.next h) 0 fun n84 => rI h28 (AW.next h) 1 fun n86 => rS h28 (AW.next h) 2 fun s88 => rL h28 (AW.next h) 3 fun p90 m91 m92 => rL h28 (AW.next h) 4 fun p94 m95 m96 => rL h28 (AW.next h) 5 fun p98 m99 m100 => EvQ P f_e6 [.pointer p1, .agg #[iv n84, iv n86, .string s88, .slice p90 m91 m92, .slice p94 m95 m96, .slice p98 m99 m100]] h28 fun v101 h102 => vBool v101 fun b103 => unitAt P f_ds 21 [0, 11, 66, 67, 68] [.pointer p1, .bool b103, .slice p2 m3 m4, iv n5, iv n6] h102 Q) (unitAt P f_ds 21 [0, 11, 66, 67, 68] [.pointer p1, .bool false, .slice p2 m3 m4, iv n5, iv n6] h28 Q)))) (jL p1 5 h fun p107 m108 m109 => jL p1 5 h fun p113 m114 m115 => oB (natBnd (IntKind.wrap .i64 ((↑m114 : Int) - 1)) m109) fun m116 => bC (Nat.ble m116 m109) (oB (shO p107 0) fun p117 => wF p1 5 h (.slice p117 (m116 - 0) (m109 - 0)) fun h120 => Q (.bool true) h120) (False))) : unitAt P f_ds 8 [0, 66, 67, 68] [.pointer p1, .slice p2 m3 m4, iv n5, iv n6] h Q := uo [(4,[0,2]),(8,[0,66,67,68]),(21,[0,11,66,67,68])] H (by kernel_rfl)
theorem r_dt {p1 : Option Addr} {b2 : Bool} {p3 : Option Addr} {m4 m5 : Nat} {n6 n7 : Int} (H : bC (!b2) (Q (.bool false) h) (unitAt P f_ds 8 [0, 66, 67, 68] [.pointer p1, .slice p3 m4 m5, iv n6, iv (IntKind.wrap .i64 (n7 + 1))] h Q)) : unitAt P f_ds 21 [0, 11, 66, 67, 68] [.pointer p1, .bool b2, .slice p3 m4 m5, iv n6, iv n7] h Q := uo [(4,[0,2]),(8,[0,66,67,68]),(21,[0,11,66,67,68])] H (by kernel_rfl)
theorem r_ib {p1 : Option Addr} {m2 m3 : Nat} {s4 : ByteArray} (H : bC ((↑m2 : Int) == 0) (Q (.string zS) h) (bC ((↑m2 : Int) == 1) (xS p1 0 m2 1 h fun s9 => Q (.string s9) h) (bC (decide ((↑(ByteArray.size s4) : Int) > 0)) (bC (decide (IntKind.wrap .i64 ((↑m2 : Int) - 1) = 0)) (False) (bC (decide ((↑(ByteArray.size s4) : Int) ≥ IntKind.wrap .i64 (Int.tdiv 9223372036854775807 (IntKind.wrap .i64 ((↑m2 : Int) - 1))))) (False) (unitAt P f_ib 10 [0, 1, 5] [.slice p1 m2 m3, .string s4, iv 0] h Q))) (unitAt P f_ib 12 [0, 1, 5, 39, 40, 41] [.slice p1 m2 m3, .string s4, iv 0, .slice p1 m2 m3, iv (↑m2 : Int), iv 0] h Q)))) : EvQ P f_ib [.slice p1 m2 m3, .string s4] h Q := fo [(10,[0,1,5]),(12,[0,1,5,39,40,41]),(16,[0,1,5,7,39,40,41]),(22,[1,8,63,64,65])] H (by kernel_rfl)
theorem r_id {p1 : Option Addr} {m2 m3 : Nat} {s4 : ByteArray} {n5 : Int} {p6 : Option Addr} {m7 m8 : Nat} {n9 n10 : Int} (H : bC (decide (n10 < n9)) (xS p6 n10 m7 1 h fun s15 => bC (decide ((↑(ByteArray.size s15) : Int) > IntKind.wrap .i64 (9223372036854775807 - n5))) (False) (unitAt P f_ib 16 [0, 1, 5, 7, 39, 40, 41] [.slice p1 m2 m3, .string s4, iv n5, .string s15, .slice p6 m7 m8, iv n9, iv n10] h Q)) (EvQ P f_fg [.pointer (some ⟨(AW.next h), 0, none⟩), iv n5] (AW.tag (AW.addVar h [.pointer none, .slice none 0 0]) (AW.next h) ty_strings_Builder) fun v16 h17 => xS p1 0 m2 1 h17 fun s22 => EvQ P f_fm [.pointer (some ⟨(AW.next h), 0, none⟩), .string s22] h17 fun v23 h24 => vTup v23 fun l25 => cI l25 fun n28 l27 => lC l27 fun v29 l30 => vIfc v29 (lN l30 (oB (natBnd 1 m2) fun m31 => bC (Nat.ble m2 m3) (oB (shO p1 (m31 * 1)) fun p32 => unitAt P f_ib 22 [1, 8, 63, 64, 65] [.string s4, .pointer (some ⟨(AW.next h), 0, none⟩), .slice p32 (m2 - m31) (m3 - m31), iv (↑(m2 - m31) : Int), iv 0] h24 Q) (False))) fun m33 v34 => lN l30 (oB (natBnd 1 m2) fun m35 => bC (Nat.ble m2 m3) (oB (shO p1 (m35 * 1)) fun p36 => unitAt P f_ib 22 [1, 8, 63, 64, 65] [.string s4, .pointer (some ⟨(AW.next h), 0, none⟩), .slice p36 (m2 - m35) (m3 - m35), iv (↑(m2 - m35) : Int), iv 0] h24 Q) (False)))) : unitAt P f_ib 12 [0, 1, 5, 39, 40, 41] [.slice p1 m2 m3, .string s4, iv n5, .slice p6 m7 m8, iv n9, iv n10] h Q := uo [(10,[0,1,5]),(12,[0,1,5,39,40,41]),(16,[0,1,5,7,39,40,41]),(22,[1,8,63,64,65])] H (by kernel_rfl)
theorem r_ie {p1 : Option Addr} {m2 m3 : Nat} {s4 : ByteArray} {n5 : Int} {s6 : ByteArray} {p7 : Option Addr} {m8 m9 : Nat} {n10 n11 : Int} (H : unitAt P f_ib 12 [0, 1, 5, 39, 40, 41] [.slice p1 m2 m3, .string s4, iv (IntKind.wrap .i64 (n5 + (↑(ByteArray.size s6) : Int))), .slice p7 m8 m9, iv n10, iv (IntKind.wrap .i64 (n11 + 1))] h Q) : unitAt P f_ib 16 [0, 1, 5, 7, 39, 40, 41] [.slice p1 m2 m3, .string s4, iv n5, .string s6, .slice p7 m8 m9, iv n10, iv n11] h Q := uo [(10,[0,1,5]),(12,[0,1,5,39,40,41]),(16,[0,1,5,7,39,40,41]),(22,[1,8,63,64,65])] H (by kernel_rfl)
theorem r_if {s1 : ByteArray} {m2 : Nat} {p3 : Option Addr} {m4 m5 : Nat} {n6 n7 : Int} (H : bC (decide (n7 < n6)) (xS p3 n7 m4 1 h fun s12 => EvQ P f_fm [.pointer (some ⟨m2, 0, none⟩), .string s1] h fun v13 h14 => vTup v13 fun l15 => cI l15 fun n18 l17 => lC l17 fun v19 l20 => vIfc v19 (lN l20 (EvQ P f_fm [.pointer (some ⟨m2, 0, none⟩), .string s12] h14 fun v21 h22 => vTup v21 fun l23 => cI l23 fun n26 l25 => lC l25 fun v27 l28 => vIfc v27 (lN l28 (unitAt P f_ib 22 [1, 8, 63, 64, 65] [.string s1, .pointer (some ⟨m2, 0, none⟩), .slice p3 m4 m5, iv n6, iv (IntKind.wrap .i64 (n7 + 1))] h22 Q)) fun m29 v30 => lN l28 (unitAt P f_ib 22 [1, 8, 63, 64, 65] [.string s1, .pointer (some ⟨m2, 0, none⟩), .slice p3 m4 m5, iv n6, iv (IntKind.wrap .i64 (n7 + 1))] h22 Q))) fun m31 v32 => lN l20 (EvQ P f_fm [.pointer (some ⟨m2, 0, none⟩), .string s12] h14 fun v33 h34 => vTup v33 fun l35 => cI l35 fun n38 l37 => lC l37 fun v39 l40 => vIfc v39 (lN l40 (unitAt P f_ib 22 [1, 8, 63, 64, 65] [.string s1, .pointer (some ⟨m2, 0, none⟩), .slice p3 m4 m5, iv n6, iv (IntKind.wrap .i64 (n7 + 1))] h34 Q)) fun m41 v42 => lN l40 (unitAt P f_ib 22 [1, 8, 63, 64, 65] [.string s1, .pointer (some ⟨m2, 0, none⟩), .slice p3 m4 m5, iv n6, iv (IntKind.wrap .i64 (n7 + 1))] h34 Q))) (EvQ P f_fk [.pointer (some ⟨m2, 0, none⟩)] h fun v43 h44 => vStr v43 fun s45 => Q (.string s45) h44)) : unitAt P f_ib 22 [1, 8, 63, 64, 65] [.string s1, .pointer (some ⟨m2, 0, none⟩), .slice p3 m4 m5, iv n6, iv n7] h Q := uo [(10,[0,1,5]),(12,[0,1,5,39,40,41]),(16,[0,1,5,7,39,40,41]),(22,[1,8,63,64,65])] H (by kernel_rfl)
theorem r_ic {p1 : Option Addr} {m2 m3 : Nat} {s4 : ByteArray} {n5 : Int} (H : unitAt P f_ib 12 [0, 1, 5, 39, 40, 41] [.slice p1 m2 m3, .string s4, iv (IntKind.wrap .i64 (n5 + IntKind.wrap .i64 ((↑(ByteArray.size s4) : Int) * IntKind.wrap .i64 ((↑m2 : Int) - 1)))), .slice p1 m2 m3, iv (↑m2 : Int), iv 0] h Q) : unitAt P f_ib 10 [0, 1, 5] [.slice p1 m2 m3, .string s4, iv n5] h Q := uo [(10,[0,1,5]),(12,[0,1,5,39,40,41]),(16,[0,1,5,7,39,40,41]),(22,[1,8,63,64,65])] H (by kernel_rfl)
theorem r_c7 {m1 m2 : Nat} {s3 : ByteArray} {m4 : Nat} {p5 : Option Addr} {m6 m7 : Nat} {n8 n9 : Int} (H : bC (decide (n9 < n8)) (xS p5 n9 m6 1 h fun s14 => EvQ P f_fu [.string s14, .string s3] h fun v15 h16 => vStr v15 fun s17 => EvQ P f_fy [.string s17] h16 fun v18 h19 => vTup v18 fun l20 => cS l20 fun s23 l22 => cI l22 fun n26 l25 => lN l25 (bC (n26 != 0) (oB (AW.wrL h19 m2 0 [.string zS, .slice none 0 0, .slice none 0 0, .slice none 0 0]) fun h27 => rS h27 m2 0 fun s29 => rL h27 m2 1 fun p31 m32 m33 => rL h27 m2 2 fun p35 m36 m37 => rL h27 m2 3 fun p39 m40 m41 => Q (.tuple #[.agg #[.string s29, .slice p31 m32 m33, .slice p35 m36 m37, .slice p39 m40 m41], .bool false]) h27) (rL h19 m4 2 fun p43 m44 m45 => EvQ P f_gl [.slice p43 m44 m45, .string s23] h19 fun v46 h47 => vBool v46 fun b48 => bC (!b48) (rL h47 m4 2 fun p50 m51 m52 => oP (appendB P (AW.addVar h47 [.string s23]) #[ty_sl_string, ty_sl_string] [.slice p50 m51 m52, .slice (some ⟨(AW.next h47), 0, none⟩) 1 1]) fun v53 h54 => vSl v53 fun p55 m56 m57 => oB (AW.wr h54 m4 2 (.slice p55 m56 m57)) fun h58 => unitAt P f_c6 6 [2, 4, 6, 8, 36, 37, 38] [.pointer (some ⟨m1, 0, none⟩), .pointer (some ⟨m2, 0, none⟩), .string s3, .pointer (some ⟨m4, 0, none⟩), .slice p5 m6 m7, iv n8, iv (IntKind.wrap .i64 (n9 + 1))] h58 Q) (unitAt P f_c6 6 [2, 4, 6, 8, 36, 37, 38] [.pointer (some ⟨m1, 0, none⟩), .pointer (some ⟨m2, 0, none⟩), .string s3, .pointer (some ⟨m4, 0, none⟩), .slice p5 m6 m7, iv n8, iv (IntKind.wrap .i64 (n9 + 1))] h47 Q)))) (rL h m1 2 fun p60 m61 m62 => unitAt P f_c6 16 [4, 6, 8, 13, 65, 66, 67] [.pointer (some ⟨m2, 0, none⟩), .string s3, .pointer (some ⟨m4, 0, none⟩), .slice none 0 0, .slice p60 m61 m62, iv (↑m61 : Int), iv 0] h Q)) : unitAt P f_c6 6 [2, 4, 6, 8, 36, 37, 38] [.pointer (some ⟨m1, 0, none⟩), .pointer (some ⟨m2, 0, none⟩), .string s3, .pointer (some ⟨m4, 0, none⟩), .slice p5 m6 m7, iv n8, iv n9] h Q := uo [(6,[2,4,6,8,36,37,38]),(16,[4,6,8,13,65,66,67]),(20,[4,6,8,13,16,65,66,67,71,72,73])] H (by kernel_rfl)
theorem r_ce {p1 : Option Nat} (H : EvQ P f_cz [.map p1] h fun v2 h3 => EvQ P f_gz [v2] h3 fun v4 h5 => vSl v4 fun p6 m7 m8 => Q (.slice p6 m7 m8) h5) : EvQ P f_ce [.map p1] h Q := fo [] H (by kernel_rfl)
theorem r_al {p1 : Option Addr} {m2 m3 : Nat} {n4 : Int} (H : unitAt P f_al 2 [1, 7, 8, 9] [iv n4, .slice p1 m2 m3, iv (↑m2 : Int), iv 0] h Q) : EvQ P f_al [.slice p1 m2 m3, iv n4] h Q := fo [(2,[1,7,8,9])] H (by kernel_rfl)
theorem r_am {n1 : Int} {p2 : Option Addr} {m3 m4 : Nat} {n5 n6 : Int} (H : bC (decide (n6 < n5)) (aP p2 fun m7 m8 => oB (natIdx n6 m3) fun m9 => rI h m7 (m8 + m9 * 4) fun n11 => rL h m7 (m8 + m9 * 4 + 1) fun p13 m14 m15 => rI h m7 (m8 + m9 * 4 + 1 + 1) fun n17 => rL h m7 (m8 + m9 * 4 + 1 + 1 + 1) fun p19 m20 m21 => oB (AW.wrL (AW.addVar h [iv 0, .slice none 0 0, iv 0, .slice none 0 0]) (AW.next h) 0 [iv n11, .slice p13 m14 m15, iv n17, .slice p19 m20 m21]) fun h22 => rI h22 (AW.next h) 0 fun n24 => bC (decide (n24 < 1)) (Q (.bool false) h22) (rI h22 (AW.next h) 0 fun n26 => bC (decide (n26 > 12)) (Q (.bool false) h22) (rI h22 (AW.next h) 0 fun n28 => rL h22 (AW.next h) 1 fun p30 m31 m32 => EvQ P f_ad [iv n28, iv (↑m31 : Int)] h22 fun v33 h34 => vBool v33 fun b35 => bC (!b35) (Q (.bool false) h34) (rI h34 (AW.next h) 2 fun n37 => bC (decide (n37 < 0)) (Q (.bool false) h34) (rI h34 (AW.next h) 2 fun n39 => bC (decide (n39 > 1000)) (Q (.bool false) h34) (rI h34 (AW.next h) 2 fun n41 => bC (decide (n41 > 0)) (rI h34 (AW.next h) 0 fun n43 => bC (n43 != 10) (Q (.bool false) h34) (rI h34 (AW.next h) 0 fun n45 => EvQ P f_ak [iv n45] h34 fun v46 h47 => vBool v46 fun b48 => bC b48 (bC (n1 == 8) (Q (.bool false) h47) (rI h47 (AW.next h) 0 fun n50 => EvQ P f_ak [iv n50] h47 fun v51 h52 => vBool v51 fun b53 => bC (!b53) (rL h52 (AW.next h) 3 fun p55 m56 m57 => bC (decide ((↑m56 : Int) > 0)) (Q (.bool false) h52) (rL h52 (AW.next h) 3 fun p59 m60 m61 => EvQ P f_al [.slice p59 m60 m61, iv (IntKind.wrap .i64 (n1 + 1))] h52 fun v62 h63 => vBool v62 fun b64 => bC (!b64) (Q (.bool false) h63) (unitAt P f_al 2 [1, 7, 8, 9] [iv n1, .slice p2 m3 m4, iv n5, iv (IntKind.wrap .i64 (n6 + 1))] h63 Q))) (rL h52 (AW.next h) 3 fun p66 m67 m68 => EvQ P f_al [.slice p66 m67 m68, iv (IntKind.wrap .i64 (n1 + 1))] h52 fun v69 h70 => vBool v69 fun b71 => bC (!b71) (Q (.bool false) h70) (unitAt P f_al 2 [1, 7, 8, 9] [iv n1, .slice p2 m3 m4, iv n5, iv (IntKind.wrap .i64 (n6 + 1))] h70 Q)))) (rI h47 (AW.next h) 0 fun n73 => EvQ P f_ak [iv n73] h47 fun v74 h75 => vBool v74 fun b76 => bC (!b76) (rL h75 (AW.next h) 3 fun p78 m79 m80 => bC (decide ((↑m79 : Int) > 0)) (Q (.bool false) h75) (rL h75 (AW.next h) 3 fun p82 m83 m84 => EvQ P f_al [.slice p82 m83 m84, iv (IntKind.wrap .i64 (n1 + 1))] h75 fun v85 h86 => vBool v85 fun b87 => bC (!b87) (Q (.bool false) h86) (unitAt P f_al 2 [1, 7, 8, 9] [iv n1, .slice p2 m3 m4, iv n5, iv (IntKind.wrap .i64 (n6 + 1))] h86 Q))) (rL h75 (AW.next h) 3 fun p89 m90 m91 => EvQ P f_al [.slice p89 m90 m91, iv (IntKind.wrap .i64 (n1 + 1))] h75 fun v92 h93 => vBool v92 fun b94 => bC (!b94) (Q (.bool false) h93) (unitAt P f_al 2 [1, 7, 8, 9] [iv n1, .slice p2 m3 m4, iv n5, iv (IntKind.wrap .i64 (n6 + 1))] h93 Q))))) (rI h34 (AW.next h) 0 fun n96 => EvQ P f_ak [iv n96] h34 fun v97 h98 => vBool v97 fun b99 => bC b99 (bC (n1 == 8) (Q (.bool false) h98) (rI h98 (AW.next h) 0 fun n101 => EvQ P f_ak [iv n101] h98 fun v102 h103 => vBool v102 fun b104 => bC (!b104) (rL h103 (AW.next h) 3 fun p106 m107 m108 => bC (decide ((↑m107 : Int) > 0)) (Q (.bool false) h103) (rL h103 (AW.next h) 3 fun p110 m111 m112 => EvQ P f_al [.slice p110 m111 m112, iv (IntKind.wrap .i64 (n1 + 1))] h103 fun v113 h114 => vBool v113 fun b115 => bC (!b115) (Q (.bool false) h114) (unitAt P f_al 2 [1, 7, 8, 9] [iv n1, .slice p2 m3 m4, iv n5, iv (IntKind.wrap .i64 (n6 + 1))] h114 Q))) (rL h103 (AW.next h) 3 fun p117 m118 m119 => EvQ P f_al [.slice p117 m118 m119, iv (IntKind.wrap .i64 (n1 + 1))] h103 fun v120 h121 => vBool v120 fun b122 => bC (!b122) (Q (.bool false) h121) (unitAt P f_al 2 [1, 7, 8, 9] [iv n1, .slice p2 m3 m4, iv n5, iv (IntKind.wrap .i64 (n6 + 1))] h121 Q)))) (rI h98 (AW.next h) 0 fun n124 => EvQ P f_ak [iv n124] h98 fun v125 h126 => vBool v125 fun b127 => bC (!b127) (rL h126 (AW.next h) 3 fun p129 m130 m131 => bC (decide ((↑m130 : Int) > 0)) (Q (.bool false) h126) (rL h126 (AW.next h) 3 fun p133 m134 m135 => EvQ P f_al [.slice p133 m134 m135, iv (IntKind.wrap .i64 (n1 + 1))] h126 fun v136 h137 => vBool v136 fun b138 => bC (!b138) (Q (.bool false) h137) (unitAt P f_al 2 [1, 7, 8, 9] [iv n1, .slice p2 m3 m4, iv n5, iv (IntKind.wrap .i64 (n6 + 1))] h137 Q))) (rL h126 (AW.next h) 3 fun p140 m141 m142 => EvQ P f_al [.slice p140 m141 m142, iv (IntKind.wrap .i64 (n1 + 1))] h126 fun v143 h144 => vBool v143 fun b145 => bC (!b145) (Q (.bool false) h144) (unitAt P f_al 2 [1, 7, 8, 9] [iv n1, .slice p2 m3 m4, iv n5, iv (IntKind.wrap .i64 (n6 + 1))] h144 Q)))))))))) (Q (.bool true) h)) : unitAt P f_al 2 [1, 7, 8, 9] [iv n1, .slice p2 m3 m4, iv n5, iv n6] h Q := uo [(2,[1,7,8,9])] H (by kernel_rfl)
theorem r_cw {n1 : Int} (H : bC (n1 == 34) (Q (.bool false) h) (bC (n1 == 35) (Q (.bool false) h) (bC (n1 == 58) (Q (.bool false) h) (bC (n1 == 61) (Q (.bool false) h) (bC (n1 == 92) (Q (.bool false) h) (bC (decide (n1 > 32)) (Q (.bool (decide (n1 < 127))) h) (Q (.bool false) h))))))) : EvQ P f_cw [.int .u8 n1] h Q := fo [] H (by kernel_rfl)
theorem r_i7 {s1 s2 : ByteArray} (H : EvQ P f_iv [.string s1, .string s2] h fun v3 h4 => vBool v3 fun b5 => Q (.bool b5) h4) : EvQ P f_i7 [.string s1, .string s2] h Q := fo [] H (by kernel_rfl)
theorem r_h8 {n1 : Int} (H : EvQ P f_d3 [.int .u64 (IntKind.wrap .u64 n1)] h fun v2 h3 => vInt .i64 v2 fun n4 => bC (decide (n4 < 0)) (False) (Q (.int .u64 (IntKind.wrap .u64 (1 * 2 ^ min (Int.toNat n4) 64))) h3)) : EvQ P f_h8 [iv n1] h Q := fo [] H (by kernel_rfl)
theorem r_ap {n1 : Int} (H : oB (AW.wrL (AW.addVar h [.string zS, .string zS, .string zS, .string zS, .string zS, .string zS, .string zS, .string zS, .string zS, .string zS, .string zS, .string zS, .string zS]) (AW.next h) 0 [.string zS, .string (ByteArray.mk #[110, 101, 101, 100]), .string (ByteArray.mk #[99, 97, 116]), .string (ByteArray.mk #[116, 101, 120, 116]), .string (ByteArray.mk #[117, 112, 112, 101, 114]), .string (ByteArray.mk #[115, 111, 114, 116]), .string (ByteArray.mk #[117, 110, 105, 113]), .string (ByteArray.mk #[99, 111, 117, 110, 116]), .string (ByteArray.mk #[119, 114, 105, 116, 101]), .string (ByteArray.mk #[102, 97, 105, 108]), .string (ByteArray.mk #[114, 101, 112, 101, 97, 116]), .string (ByteArray.mk #[101, 97, 99, 104]), .string (ByteArray.mk #[119, 104, 101, 110])]) fun h2 => bC (decide (n1 < 0)) (Q (.string zS) h2) (bC (decide (n1 ≥ 13)) (Q (.string zS) h2) (oB (natIdx n1 13) fun m3 => rS h2 (AW.next h) (0 + m3 * 1) fun s5 => Q (.string s5) h2))) : EvQ P f_ap [iv n1] h Q := fo [] H (by kernel_rfl)
theorem r_h0 {p1 : Option Addr} {m2 m3 : Nat} (H : Q (.func (Fn.func f_h1) #[] #[.pointer (some ⟨(AW.next h), 0, none⟩)]) (AW.addVar h [.slice p1 m2 m3])) : EvQ P f_h0 [.slice p1 m2 m3] h Q := fo [] H (by kernel_rfl)
end Go.Proofs.YtkbioibemcmanaaGreatDoor.E
end
