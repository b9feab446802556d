/- A deterministic heap for the model, proved sound, and walks of the program over it: part 12. No condition. -/
import Derived.Test.YtkbioibemcmanaaGreatDoorCa5
set_option linter.unusedVariables false
set_option linter.unusedSimpArgs false
set_option linter.unusedSectionVars false
section
/- Bodies that the kernel can run, printed by a program of ours. -/
namespace Go.Proofs.YtkbioibemcmanaaGreatDoor.E
open Go.Abs
set_option maxRecDepth 100000
set_option maxHeartbeats 4000000
section
noncomputable def d_fz : BodyT := fun C D a h Q => match a with
  | [.string s1, .slice p2 m3 m4, .bool b5, .string s6, .string s7] => fN m3 fun m3 => fN m4 fun m4 => fB b5 fun b5 => bEqC s7 (ByteArray.mk #[46, 46]) (eqC (↑m3 : Int) 0 (Q (.tuple #[.string zS, iv 2]) h) (nBnd (wI64 (subI (↑m3 : Int) 1)) m4 fun m8 => bCE (Nat.ble m8 m4) (oQ (shO p2 0) fun p9 => D f_fy 3 6296577 [.string s1, .slice p9 (m8 - 0) (m4 - 0), .bool b5] h Q) (False))) (C f_g3 [.string s6] h fun v10 h11 => vBoolE v10 fun b12 => bCE (!b12) (Q (.tuple #[.string zS, iv 2]) h11) (ad1 h11 (.string s6) fun h_1 => nxK h11 fun i_2 => apK ty_string 1 16 h_1 (.slice p2 m3 m4) (.slice (some ⟨i_2, 0, none⟩) 1 1) fun v13 h14 => vSlE v13 fun p15 m16 m17 => D f_fy 3 6296577 [.string s1, .slice p15 m16 m17, .bool b5] h14 Q))
  | _ => False
noncomputable def d_g0 : BodyT := fun C D a h Q => match a with
  | [.slice p1 m2 m3, .int .i64 n4, .slice p5 m6 m7, .int .i64 n8, .int .i64 n9] => fN m2 fun m2 => fN m3 fun m3 => fI n4 fun n4 => fN m6 fun m6 => fN m7 fun m7 => fI n8 fun n8 => fI n9 fun n9 => ltC n9 n8 (XS p5 n9 m6 1 h fun s14 => D f_fy 18 45122967314437 [.slice p1 m2 m3, iv (wI64 (addI n4 (wI64 (addI (↑(szE s14) : Int) 1)))), .slice p5 m6 m7, iv n8, iv (wI64 (addI n9 1))] h Q) (ltC n4 0 (Q (.tuple #[.string zS, iv 2]) h) (gtC n4 60 (Q (.tuple #[.string zS, iv 3]) h) (C f_ib [.slice p1 m2 m3, .string (ByteArray.mk #[47])] h fun v15 h16 => vStrE v15 fun s17 => Q (.tuple #[.string s17, iv 0]) h16)))
  | _ => False
noncomputable def d_a5 : BodyT := fun C D a h Q => match a with
  | [.int .i64 n1, .pointer (some ⟨m2, m3, none⟩), .pointer (some ⟨m4, m5, none⟩), .pointer (some ⟨m6, m7, none⟩), .pointer (some ⟨m8, m9, none⟩), .pointer (some ⟨m10, m11, none⟩)] => fI n1 fun n1 => fN m2 fun m2 => fN m3 fun m3 => fN m4 fun m4 => fN m5 fun m5 => fN m6 fun m6 => fN m7 fun m7 => fN m8 fun m8 => fN m9 fun m9 => fN m10 fun m10 => fN m11 fun m11 => D f_a5 2 10383054442758932481 [iv n1, .pointer (some ⟨m2, m3, none⟩), .pointer (some ⟨m4, m5, none⟩), .pointer (some ⟨m6, m7, none⟩), .pointer (some ⟨m8, m9, none⟩), .pointer (some ⟨m10, m11, none⟩), .slice none 0 0] h Q
  | _ => False
noncomputable def d_a6 : BodyT := fun C D a h Q => match a with
  | [.int .i64 n1, .pointer (some ⟨m2, m3, none⟩), .pointer (some ⟨m4, m5, none⟩), .pointer (some ⟨m6, m7, none⟩), .pointer (some ⟨m8, m9, none⟩), .pointer (some ⟨m10, m11, none⟩), .slice p12 m13 m14] => fI n1 fun n1 => fN m2 fun m2 => fN m3 fun m3 => fN m4 fun m4 => fN m5 fun m5 => fN m6 fun m6 => fN m7 fun m7 => fN m8 fun m8 => fN m9 fun m9 => fN m10 fun m10 => fN m11 fun m11 => fN m13 fun m13 => fN m14 fun m14 => RI h m2 m3 fun n16 => eqC n16 0 (rdK h m4 m5 fun v17 => vFun v17 fun m18 l19 l20 => C m18 (l19 ++ ([] ++ l20)) h fun v21 h22 => vTupE v21 fun l23 => lCE l23 fun v24 l25 => vSlE v24 fun p26 m27 m28 => CB l25 fun b31 l30 => lNE l30 (bCE (!b31) (gtC n1 0 (RI h22 m6 m7 fun n33 => wrLK m2 [iv 131, iv n33] h22 m3 fun h34 => Q (.slice p12 m13 m14) h34) (Q (.slice p12 m13 m14) h22)) (eqC (↑m27 : Int) 1 (XS p26 0 m27 1 h22 fun s39 => bEqC s39 (ByteArray.mk #[101, 110, 100]) (eqC n1 0 (RI h22 m6 m7 fun n41 => wrLK m2 [iv 131, iv (wI64 (subI n41 1))] h22 m3 fun h42 => Q (.slice p12 m13 m14) h42) (Q (.slice p12 m13 m14) h22)) (C f_an [.slice p26 m27 m28] h22 fun v43 h44 => vTupE v43 fun l45 => lCE l45 fun v46 l47 => vAggE v46 fun l48 => CI l48 fun n51 l50 => lCE l50 fun v52 l53 => vSlE v52 fun p54 m55 m56 => CI l53 fun n59 l58 => lCE l58 fun v60 l61 => vSlE v60 fun p62 m63 m64 => lNE l61 (CB l47 fun b67 l66 => lNE l66 (ad4 h44 (iv 0) (.slice none 0 0) (iv 0) (.slice none 0 0) fun h_1 => nxK h44 fun i_2 => wrLK i_2 [iv n51, .slice p54 m55 m56, iv n59, .slice p62 m63 m64] h_1 0 fun h68 => RI h68 m8 m9 fun n70 => wrK h68 m8 m9 (iv (wI64 (addI n70 1))) fun h71 => bCE (!b67) (RI h71 m6 m7 fun n73 => wrLK m2 [iv 130, iv (wI64 (subI n73 1))] h71 m3 fun h74 => RI h74 i_2 0 fun n76 => RL h74 i_2 1 fun p78 m79 m80 => RI h74 i_2 2 fun n82 => RL h74 i_2 3 fun p84 m85 m86 => ad4 h74 (iv n76) (.slice p78 m79 m80) (iv n82) (.slice p84 m85 m86) fun h_3 => nxK h74 fun i_4 => apK ty_api_Stmt 4 64 h_3 (.slice p12 m13 m14) (.slice (some ⟨i_4, 0, none⟩) 1 1) fun v87 h88 => vSlE v87 fun p89 m90 m91 => D f_a5 2 10383054442758932481 [iv n1, .pointer (some ⟨m2, m3, none⟩), .pointer (some ⟨m4, m5, none⟩), .pointer (some ⟨m6, m7, none⟩), .pointer (some ⟨m8, m9, none⟩), .pointer (some ⟨m10, m11, none⟩), .slice p89 m90 m91] h88 Q) (RI h71 m8 m9 fun n93 => gtC n93 256 (RI h71 m6 m7 fun n95 => wrLK m2 [iv 3, iv (wI64 (subI n95 1))] h71 m3 fun h96 => RI h96 i_2 0 fun n98 => RL h96 i_2 1 fun p100 m101 m102 => RI h96 i_2 2 fun n104 => RL h96 i_2 3 fun p106 m107 m108 => ad4 h96 (iv n98) (.slice p100 m101 m102) (iv n104) (.slice p106 m107 m108) fun h_5 => nxK h96 fun i_6 => apK ty_api_Stmt 4 64 h_5 (.slice p12 m13 m14) (.slice (some ⟨i_6, 0, none⟩) 1 1) fun v109 h110 => vSlE v109 fun p111 m112 m113 => D f_a5 2 10383054442758932481 [iv n1, .pointer (some ⟨m2, m3, none⟩), .pointer (some ⟨m4, m5, none⟩), .pointer (some ⟨m6, m7, none⟩), .pointer (some ⟨m8, m9, none⟩), .pointer (some ⟨m10, m11, none⟩), .slice p111 m112 m113] h110 Q) (RI h71 i_2 0 fun n115 => C f_ak [iv n115] h71 fun v116 h117 => vBoolE v116 fun b118 => bCE b118 (eqC n1 8 (RI h117 m6 m7 fun n120 => wrLK m2 [iv 132, iv (wI64 (subI n120 1))] h117 m3 fun h121 => RI h121 i_2 0 fun n123 => RL h121 i_2 1 fun p125 m126 m127 => RI h121 i_2 2 fun n129 => RL h121 i_2 3 fun p131 m132 m133 => ad4 h121 (iv n123) (.slice p125 m126 m127) (iv n129) (.slice p131 m132 m133) fun h_7 => nxK h121 fun i_8 => apK ty_api_Stmt 4 64 h_7 (.slice p12 m13 m14) (.slice (some ⟨i_8, 0, none⟩) 1 1) fun v134 h135 => vSlE v134 fun p136 m137 m138 => D f_a5 2 10383054442758932481 [iv n1, .pointer (some ⟨m2, m3, none⟩), .pointer (some ⟨m4, m5, none⟩), .pointer (some ⟨m6, m7, none⟩), .pointer (some ⟨m8, m9, none⟩), .pointer (some ⟨m10, m11, none⟩), .slice p136 m137 m138] h135 Q) (RI h117 i_2 0 fun n140 => C f_ak [iv n140] h117 fun v141 h142 => vBoolE v141 fun b143 => bCE b143 (rdK h142 m10 m11 fun v144 => vFun v144 fun m145 l146 l147 => C m145 (l146 ++ iv (wI64 (addI n1 1)) :: l147) h142 fun v148 h149 => vSlE v148 fun p150 m151 m152 => wrK h149 i_2 3 (.slice p150 m151 m152) fun h153 => RI h153 i_2 0 fun n155 => RL h153 i_2 1 fun p157 m158 m159 => RI h153 i_2 2 fun n161 => RL h153 i_2 3 fun p163 m164 m165 => ad4 h153 (iv n155) (.slice p157 m158 m159) (iv n161) (.slice p163 m164 m165) fun h_9 => nxK h153 fun i_10 => apK ty_api_Stmt 4 64 h_9 (.slice p12 m13 m14) (.slice (some ⟨i_10, 0, none⟩) 1 1) fun v166 h167 => vSlE v166 fun p168 m169 m170 => D f_a5 2 10383054442758932481 [iv n1, .pointer (some ⟨m2, m3, none⟩), .pointer (some ⟨m4, m5, none⟩), .pointer (some ⟨m6, m7, none⟩), .pointer (some ⟨m8, m9, none⟩), .pointer (some ⟨m10, m11, none⟩), .slice p168 m169 m170] h167 Q) (RI h142 i_2 0 fun n172 => RL h142 i_2 1 fun p174 m175 m176 => RI h142 i_2 2 fun n178 => RL h142 i_2 3 fun p180 m181 m182 => ad4 h142 (iv n172) (.slice p174 m175 m176) (iv n178) (.slice p180 m181 m182) fun h_11 => nxK h142 fun i_12 => apK ty_api_Stmt 4 64 h_11 (.slice p12 m13 m14) (.slice (some ⟨i_12, 0, none⟩) 1 1) fun v183 h184 => vSlE v183 fun p185 m186 m187 => D f_a5 2 10383054442758932481 [iv n1, .pointer (some ⟨m2, m3, none⟩), .pointer (some ⟨m4, m5, none⟩), .pointer (some ⟨m6, m7, none⟩), .pointer (some ⟨m8, m9, none⟩), .pointer (some ⟨m10, m11, none⟩), .slice p185 m186 m187] h184 Q))) (RI h117 i_2 0 fun n189 => C f_ak [iv n189] h117 fun v190 h191 => vBoolE v190 fun b192 => bCE b192 (rdK h191 m10 m11 fun v193 => vFun v193 fun m194 l195 l196 => C m194 (l195 ++ iv (wI64 (addI n1 1)) :: l196) h191 fun v197 h198 => vSlE v197 fun p199 m200 m201 => wrK h198 i_2 3 (.slice p199 m200 m201) fun h202 => RI h202 i_2 0 fun n204 => RL h202 i_2 1 fun p206 m207 m208 => RI h202 i_2 2 fun n210 => RL h202 i_2 3 fun p212 m213 m214 => ad4 h202 (iv n204) (.slice p206 m207 m208) (iv n210) (.slice p212 m213 m214) fun h_13 => nxK h202 fun i_14 => apK ty_api_Stmt 4 64 h_13 (.slice p12 m13 m14) (.slice (some ⟨i_14, 0, none⟩) 1 1) fun v215 h216 => vSlE v215 fun p217 m218 m219 => D f_a5 2 10383054442758932481 [iv n1, .pointer (some ⟨m2, m3, none⟩), .pointer (some ⟨m4, m5, none⟩), .pointer (some ⟨m6, m7, none⟩), .pointer (some ⟨m8, m9, none⟩), .pointer (some ⟨m10, m11, none⟩), .slice p217 m218 m219] h216 Q) (RI h191 i_2 0 fun n221 => RL h191 i_2 1 fun p223 m224 m225 => RI h191 i_2 2 fun n227 => RL h191 i_2 3 fun p229 m230 m231 => ad4 h191 (iv n221) (.slice p223 m224 m225) (iv n227) (.slice p229 m230 m231) fun h_15 => nxK h191 fun i_16 => apK ty_api_Stmt 4 64 h_15 (.slice p12 m13 m14) (.slice (some ⟨i_16, 0, none⟩) 1 1) fun v232 h233 => vSlE v232 fun p234 m235 m236 => D f_a5 2 10383054442758932481 [iv n1, .pointer (some ⟨m2, m3, none⟩), .pointer (some ⟨m4, m5, none⟩), .pointer (some ⟨m6, m7, none⟩), .pointer (some ⟨m8, m9, none⟩), .pointer (some ⟨m10, m11, none⟩), .slice p234 m235 m236] h233 Q)))))))) (C f_an [.slice p26 m27 m28] h22 fun v237 h238 => vTupE v237 fun l239 => lCE l239 fun v240 l241 => vAggE v240 fun l242 => CI l242 fun n245 l244 => lCE l244 fun v246 l247 => vSlE v246 fun p248 m249 m250 => CI l247 fun n253 l252 => lCE l252 fun v254 l255 => vSlE v254 fun p256 m257 m258 => lNE l255 (CB l241 fun b261 l260 => lNE l260 (ad4 h238 (iv 0) (.slice none 0 0) (iv 0) (.slice none 0 0) fun h_17 => nxK h238 fun i_18 => wrLK i_18 [iv n245, .slice p248 m249 m250, iv n253, .slice p256 m257 m258] h_17 0 fun h262 => RI h262 m8 m9 fun n264 => wrK h262 m8 m9 (iv (wI64 (addI n264 1))) fun h265 => bCE (!b261) (RI h265 m6 m7 fun n267 => wrLK m2 [iv 130, iv (wI64 (subI n267 1))] h265 m3 fun h268 => RI h268 i_18 0 fun n270 => RL h268 i_18 1 fun p272 m273 m274 => RI h268 i_18 2 fun n276 => RL h268 i_18 3 fun p278 m279 m280 => ad4 h268 (iv n270) (.slice p272 m273 m274) (iv n276) (.slice p278 m279 m280) fun h_19 => nxK h268 fun i_20 => apK ty_api_Stmt 4 64 h_19 (.slice p12 m13 m14) (.slice (some ⟨i_20, 0, none⟩) 1 1) fun v281 h282 => vSlE v281 fun p283 m284 m285 => D f_a5 2 10383054442758932481 [iv n1, .pointer (some ⟨m2, m3, none⟩), .pointer (some ⟨m4, m5, none⟩), .pointer (some ⟨m6, m7, none⟩), .pointer (some ⟨m8, m9, none⟩), .pointer (some ⟨m10, m11, none⟩), .slice p283 m284 m285] h282 Q) (RI h265 m8 m9 fun n287 => gtC n287 256 (RI h265 m6 m7 fun n289 => wrLK m2 [iv 3, iv (wI64 (subI n289 1))] h265 m3 fun h290 => RI h290 i_18 0 fun n292 => RL h290 i_18 1 fun p294 m295 m296 => RI h290 i_18 2 fun n298 => RL h290 i_18 3 fun p300 m301 m302 => ad4 h290 (iv n292) (.slice p294 m295 m296) (iv n298) (.slice p300 m301 m302) fun h_21 => nxK h290 fun i_22 => apK ty_api_Stmt 4 64 h_21 (.slice p12 m13 m14) (.slice (some ⟨i_22, 0, none⟩) 1 1) fun v303 h304 => vSlE v303 fun p305 m306 m307 => D f_a5 2 10383054442758932481 [iv n1, .pointer (some ⟨m2, m3, none⟩), .pointer (some ⟨m4, m5, none⟩), .pointer (some ⟨m6, m7, none⟩), .pointer (some ⟨m8, m9, none⟩), .pointer (some ⟨m10, m11, none⟩), .slice p305 m306 m307] h304 Q) (RI h265 i_18 0 fun n309 => C f_ak [iv n309] h265 fun v310 h311 => vBoolE v310 fun b312 => bCE b312 (eqC n1 8 (RI h311 m6 m7 fun n314 => wrLK m2 [iv 132, iv (wI64 (subI n314 1))] h311 m3 fun h315 => RI h315 i_18 0 fun n317 => RL h315 i_18 1 fun p319 m320 m321 => RI h315 i_18 2 fun n323 => RL h315 i_18 3 fun p325 m326 m327 => ad4 h315 (iv n317) (.slice p319 m320 m321) (iv n323) (.slice p325 m326 m327) fun h_23 => nxK h315 fun i_24 => apK ty_api_Stmt 4 64 h_23 (.slice p12 m13 m14) (.slice (some ⟨i_24, 0, none⟩) 1 1) fun v328 h329 => vSlE v328 fun p330 m331 m332 => D f_a5 2 10383054442758932481 [iv n1, .pointer (some ⟨m2, m3, none⟩), .pointer (some ⟨m4, m5, none⟩), .pointer (some ⟨m6, m7, none⟩), .pointer (some ⟨m8, m9, none⟩), .pointer (some ⟨m10, m11, none⟩), .slice p330 m331 m332] h329 Q) (RI h311 i_18 0 fun n334 => C f_ak [iv n334] h311 fun v335 h336 => vBoolE v335 fun b337 => bCE b337 (rdK h336 m10 m11 fun v338 => vFun v338 fun m339 l340 l341 => C m339 (l340 ++ iv (wI64 (addI n1 1)) :: l341) h336 fun v342 h343 => vSlE v342 fun p344 m345 m346 => wrK h343 i_18 3 (.slice p344 m345 m346) fun h347 => RI h347 i_18 0 fun n349 => RL h347 i_18 1 fun p351 m352 m353 => RI h347 i_18 2 fun n355 => RL h347 i_18 3 fun p357 m358 m359 => ad4 h347 (iv n349) (.slice p351 m352 m353) (iv n355) (.slice p357 m358 m359) fun h_25 => nxK h347 fun i_26 => apK ty_api_Stmt 4 64 h_25 (.slice p12 m13 m14) (.slice (some ⟨i_26, 0, none⟩) 1 1) fun v360 h361 => vSlE v360 fun p362 m363 m364 => D f_a5 2 10383054442758932481 [iv n1, .pointer (some ⟨m2, m3, none⟩), .pointer (some ⟨m4, m5, none⟩), .pointer (some ⟨m6, m7, none⟩), .pointer (some ⟨m8, m9, none⟩), .pointer (some ⟨m10, m11, none⟩), .slice p362 m363 m364] h361 Q) (RI h336 i_18 0 fun n366 => RL h336 i_18 1 fun p368 m369 m370 => RI h336 i_18 2 fun n372 => RL h336 i_18 3 fun p374 m375 m376 => ad4 h336 (iv n366) (.slice p368 m369 m370) (iv n372) (.slice p374 m375 m376) fun h_27 => nxK h336 fun i_28 => apK ty_api_Stmt 4 64 h_27 (.slice p12 m13 m14) (.slice (some ⟨i_28, 0, none⟩) 1 1) fun v377 h378 => vSlE v377 fun p379 m380 m381 => D f_a5 2 10383054442758932481 [iv n1, .pointer (some ⟨m2, m3, none⟩), .pointer (some ⟨m4, m5, none⟩), .pointer (some ⟨m6, m7, none⟩), .pointer (some ⟨m8, m9, none⟩), .pointer (some ⟨m10, m11, none⟩), .slice p379 m380 m381] h378 Q))) (RI h311 i_18 0 fun n383 => C f_ak [iv n383] h311 fun v384 h385 => vBoolE v384 fun b386 => bCE b386 (rdK h385 m10 m11 fun v387 => vFun v387 fun m388 l389 l390 => C m388 (l389 ++ iv (wI64 (addI n1 1)) :: l390) h385 fun v391 h392 => vSlE v391 fun p393 m394 m395 => wrK h392 i_18 3 (.slice p393 m394 m395) fun h396 => RI h396 i_18 0 fun n398 => RL h396 i_18 1 fun p400 m401 m402 => RI h396 i_18 2 fun n404 => RL h396 i_18 3 fun p406 m407 m408 => ad4 h396 (iv n398) (.slice p400 m401 m402) (iv n404) (.slice p406 m407 m408) fun h_29 => nxK h396 fun i_30 => apK ty_api_Stmt 4 64 h_29 (.slice p12 m13 m14) (.slice (some ⟨i_30, 0, none⟩) 1 1) fun v409 h410 => vSlE v409 fun p411 m412 m413 => D f_a5 2 10383054442758932481 [iv n1, .pointer (some ⟨m2, m3, none⟩), .pointer (some ⟨m4, m5, none⟩), .pointer (some ⟨m6, m7, none⟩), .pointer (some ⟨m8, m9, none⟩), .pointer (some ⟨m10, m11, none⟩), .slice p411 m412 m413] h410 Q) (RI h385 i_18 0 fun n415 => RL h385 i_18 1 fun p417 m418 m419 => RI h385 i_18 2 fun n421 => RL h385 i_18 3 fun p423 m424 m425 => ad4 h385 (iv n415) (.slice p417 m418 m419) (iv n421) (.slice p423 m424 m425) fun h_31 => nxK h385 fun i_32 => apK ty_api_Stmt 4 64 h_31 (.slice p12 m13 m14) (.slice (some ⟨i_32, 0, none⟩) 1 1) fun v426 h427 => vSlE v426 fun p428 m429 m430 => D f_a5 2 10383054442758932481 [iv n1, .pointer (some ⟨m2, m3, none⟩), .pointer (some ⟨m4, m5, none⟩), .pointer (some ⟨m6, m7, none⟩), .pointer (some ⟨m8, m9, none⟩), .pointer (some ⟨m10, m11, none⟩), .slice p428 m429 m430] h427 Q)))))))))) (Q (.slice p12 m13 m14) h)
  | _ => False
noncomputable def d_gs : BodyT := fun C D a h Q => match a with
  | [.slice p1 m2 m3, .func (Fn.func m4) x5 x6] => fN m2 fun m2 => fN m3 fun m3 => fN m4 fun m4 => D f_gs 2 9672067073 [.slice p1 m2 m3, .func (Fn.func m4) x5 x6, iv (↑m2 : Int), iv 0] h Q
  | _ => False
noncomputable def d_gt : BodyT := fun C D a h Q => match a with
  | [.slice p1 m2 m3, .func (Fn.func m4) x5 x6, .int .i64 n7, .int .i64 n8] => fN m2 fun m2 => fN m3 fun m3 => fN m4 fun m4 => fI n7 fun n7 => fI n8 fun n8 => ltC n8 n7 (aPE p1 fun m9 m10 => nIdx n8 m2 fun m11 => RS h m9 (m10 + m11 * 5) fun s13 => RI h m9 (m10 + m11 * 5 + 1) fun n15 => RI h m9 (m10 + m11 * 5 + 1 + 1) fun n17 => RB h m9 (m10 + m11 * 5 + 1 + 1 + 1) fun b19 => RB h m9 (m10 + m11 * 5 + 1 + 1 + 1 + 1) fun b21 => C m4 (Array.toList x5 ++ .agg #[.string s13, iv n15, iv n17, .bool b19, .bool b21] :: Array.toList x6) h fun v22 h23 => vBoolE v22 fun b24 => bCE b24 (Q (iv n8) h23) (D f_gs 2 9672067073 [.slice p1 m2 m3, .func (Fn.func m4) x5 x6, iv n7, iv (wI64 (addI n8 1))] h23 Q)) (Q (iv (Int.negSucc 0)) h)
  | _ => False
noncomputable def d_gm : BodyT := fun C D a h Q => match a with
  | [.slice p1 m2 m3, .slice p4 m5 m6] => fN m2 fun m2 => fN m3 fun m3 => fN m5 fun m5 => fN m6 fun m6 => neC (↑m2 : Int) (↑m5 : Int) (Q (.bool false) h) (D f_gm 4 15046019073 [.slice p1 m2 m3, .slice p4 m5 m6, iv (↑m2 : Int), iv 0] h Q)
  | _ => False
noncomputable def d_gn : BodyT := fun C D a h Q => match a with
  | [.slice p1 m2 m3, .slice p4 m5 m6, .int .i64 n7, .int .i64 n8] => fN m2 fun m2 => fN m3 fun m3 => fN m5 fun m5 => fN m6 fun m6 => fI n7 fun n7 => fI n8 fun n8 => ltC n8 n7 (aPE p1 fun m9 m10 => nIdx n8 m2 fun m11 => RS h m9 (m10 + m11 * 2) fun s13 => RS h m9 (m10 + m11 * 2 + 1) fun s15 => aPE p4 fun m16 m17 => nIdx n8 m5 fun m18 => RS h m16 (m17 + m18 * 2) fun s20 => RS h m16 (m17 + m18 * 2 + 1) fun s22 => bCE (! (bEq s13 s20 && (bEq s15 s22 && true))) (Q (.bool false) h) (D f_gm 4 15046019073 [.slice p1 m2 m3, .slice p4 m5 m6, iv n7, iv (wI64 (addI n8 1))] h Q)) (Q (.bool true) h)
  | _ => False
noncomputable def d_by : BodyT := fun C D a h Q => match a with
  | [.agg (Array.mk [.string s1, .slice p2 m3 m4, .slice p5 m6 m7, .slice p8 m9 m10])] => fN m3 fun m3 => fN m4 fun m4 => fN m6 fun m6 => fN m7 fun m7 => fN m9 fun m9 => fN m10 fun m10 => ad4 h (.string s1) (.slice p2 m3 m4) (.slice p5 m6 m7) (.slice p8 m9 m10) fun h_1 => ad1 h_1 (.string (ByteArray.mk #[114, 117, 108, 101])) fun h_2 => nxK h fun i_3 => RL h_2 i_3 1 fun p12 m13 m14 => nxK h_1 fun i_4 => D f_by 3 19809479692290 [.pointer (some ⟨i_3, 0, none⟩), .slice (some ⟨i_4, 0, none⟩) 1 1, .slice p12 m13 m14, iv (↑m13 : Int), iv 0] h_2 Q
  | _ => False
noncomputable def d_c0 : BodyT := fun C D a h Q => match a with
  | [.pointer (some ⟨m1, 0, none⟩), .slice p2 m3 m4, .slice p5 m6 m7, .int .i64 n8, .int .i64 n9] => fN m1 fun m1 => fN m3 fun m3 => fN m4 fun m4 => fN m6 fun m6 => fN m7 fun m7 => fI n8 fun n8 => fI n9 fun n9 => ltC n9 n8 (XS p5 n9 m6 1 h fun s14 => C f_cv [.string s14] h fun v15 h16 => vStrE v15 fun s17 => ad1 h16 (.string s17) fun h_1 => nxK h16 fun i_2 => apK ty_string 1 16 h_1 (.slice p2 m3 m4) (.slice (some ⟨i_2, 0, none⟩) 1 1) fun v18 h19 => vSlE v18 fun p20 m21 m22 => D f_by 3 19809479692290 [.pointer (some ⟨m1, 0, none⟩), .slice p20 m21 m22, .slice p5 m6 m7, iv n8, iv (wI64 (addI n9 1))] h19 Q) (ad1 h (.string (ByteArray.mk #[58])) fun h_3 => nxK h fun i_4 => apK ty_string 1 16 h_3 (.slice p2 m3 m4) (.slice (some ⟨i_4, 0, none⟩) 1 1) fun v23 h24 => vSlE v23 fun p25 m26 m27 => RL h24 m1 2 fun p29 m30 m31 => D f_by 9 37418862383106 [.pointer (some ⟨m1, 0, none⟩), .slice p25 m26 m27, .slice p29 m30 m31, iv (↑m30 : Int), iv 0] h24 Q)
  | _ => False
noncomputable def d_c1 : BodyT := fun C D a h Q => match a with
  | [.pointer (some ⟨m1, 0, none⟩), .slice p2 m3 m4, .slice p5 m6 m7, .int .i64 n8, .int .i64 n9] => fN m1 fun m1 => fN m3 fun m3 => fN m4 fun m4 => fN m6 fun m6 => fN m7 fun m7 => fI n8 fun n8 => fI n9 fun n9 => ltC n9 n8 (XS p5 n9 m6 1 h fun s14 => C f_cv [.string s14] h fun v15 h16 => vStrE v15 fun s17 => ad1 h16 (.string s17) fun h_1 => nxK h16 fun i_2 => apK ty_string 1 16 h_1 (.slice p2 m3 m4) (.slice (some ⟨i_2, 0, none⟩) 1 1) fun v18 h19 => vSlE v18 fun p20 m21 m22 => D f_by 9 37418862383106 [.pointer (some ⟨m1, 0, none⟩), .slice p20 m21 m22, .slice p5 m6 m7, iv n8, iv (wI64 (addI n9 1))] h19 Q) (C f_ib [.slice p2 m3 m4, .string (ByteArray.mk #[32])] h fun v23 h24 => vStrE v23 fun s25 => bCE (Nat.ble (szE s25 + 1) 9223372036854775807) (RL h24 m1 3 fun p27 m28 m29 => C f_a7 [.slice p27 m28 m29] h24 fun v30 h31 => vTupE v30 fun l32 => CS l32 fun s35 l34 => CI l34 fun n38 l37 => lNE l37 (neC n38 0 (Q (.string (s25 ++ ByteArray.mk #[10])) h31) (C f_il [.string s35, .string (ByteArray.mk #[10])] h31 fun v39 h40 => vSlE v39 fun p41 m42 m43 => D f_by 18 63411643401 [.string (s25 ++ ByteArray.mk #[10]), .slice p41 m42 m43, iv (↑m42 : Int), iv 0] h40 Q))) (False))
  | _ => False
noncomputable def d_bz : BodyT := fun C D a h Q => match a with
  | [.string s1, .slice p2 m3 m4, .int .i64 n5, .int .i64 n6] => fN m3 fun m3 => fN m4 fun m4 => fI n5 fun n5 => fI n6 fun n6 => ltC n6 n5 (XS p2 n6 m3 1 h fun s11 => bCE (!bEq s11 zS) (bCE (Nat.ble (1 + szE s11) 9223372036854775807) (bCE (Nat.ble (szE s1 + szE (ByteArray.mk #[9] ++ s11)) 9223372036854775807) (D f_by 18 63411643401 [.string (s1 ++ (ByteArray.mk #[9] ++ s11)), .slice p2 m3 m4, iv n5, iv (wI64 (addI n6 1))] h Q) (False)) (False)) (D f_by 18 63411643401 [.string s1, .slice p2 m3 m4, iv n5, iv (wI64 (addI n6 1))] h Q)) (Q (.string s1) h)
  | _ => False
noncomputable def d_di : BodyT := fun C D a h Q => match a with
  | [.pointer p1, .pointer p2, .string s3, .pointer p4] => aPE p2 fun m5 m6 => ad5 h (.string zS) (iv 0) (.string zS) (iv 0) (.string zS) fun h_1 => RL h_1 m5 (m6 + 10) fun p8 m9 m10 => C f_gl [.slice p8 m9 m10, .string s3] h_1 fun v11 h12 => vBoolE v11 fun b13 => bCE (!b13) (GL p2 10 h12 fun p17 m18 m19 => ad1 h12 (.string s3) fun h_2 => nxK h12 fun i_3 => apK ty_string 1 16 h_2 (.slice p17 m18 m19) (.slice (some ⟨i_3, 0, none⟩) 1 1) fun v20 h21 => vSlE v20 fun p22 m23 m24 => WF p2 10 h21 (.slice p22 m23 m24) fun h27 => nxK h fun i_4 => D f_di 3 9667873793 [.pointer p1, .string s3, .pointer p4, .pointer (some ⟨i_4, 0, none⟩)] h27 Q) (nxK h fun i_5 => D f_di 3 9667873793 [.pointer p1, .string s3, .pointer p4, .pointer (some ⟨i_5, 0, none⟩)] h12 Q)
  | _ => False
noncomputable def d_dj : BodyT := fun C D a h Q => match a with
  | [.pointer p1, .string s2, .pointer p3, .pointer (some ⟨m4, 0, none⟩)] => fN m4 fun m4 => C f_df [.pointer p1, .string s2, .pointer p3] h fun v5 h6 => vIntE' .i64 v5 fun n7 => C f_dn [.pointer p1, .string s2] h6 fun v8 h9 => vTupE v8 fun l10 => lCE l10 fun v11 l12 => vAggE v11 fun l13 => CS l13 fun s16 l15 => CI l15 fun n19 l18 => CS l18 fun s22 l21 => CI l21 fun n25 l24 => CS l24 fun s28 l27 => lNE l27 (CB l12 fun b31 l30 => lNE l30 (ad5 h9 (.string zS) (iv 0) (.string zS) (iv 0) (.string zS) fun h_1 => nxK h9 fun i_2 => wrLK i_2 [.string s16, iv n19, .string s22, iv n25, .string s28] h_1 0 fun h32 => RS h32 i_2 0 fun s34 => RI h32 i_2 1 fun n36 => RS h32 i_2 2 fun s38 => RI h32 i_2 3 fun n40 => RS h32 i_2 4 fun s42 => wrLK m4 [.string s34, iv n36, .string s38, iv n40, .string s42] h32 0 fun h43 => RS h43 m4 0 fun s45 => RI h43 m4 1 fun n47 => RS h43 m4 2 fun s49 => RI h43 m4 3 fun n51 => RS h43 m4 4 fun s53 => Q (.tuple #[.agg #[.string s45, iv n47, .string s49, iv n51, .string s53], .bool b31, iv n7]) h43))
  | _ => False
noncomputable def d_dr : BodyT := fun C D a h Q => match a with
  | [.pointer p1, .int .i64 n2, .agg (Array.mk [.string s3, .int .i64 n4, .int .i64 n5, .bool b6, .bool b7])] => fI n2 fun n2 => fI n4 fun n4 => fI n5 fun n5 => fB b6 fun b6 => fB b7 fun b7 => aPE p1 fun m8 m9 => ad5 h (.string s3) (iv n4) (iv n5) (.bool b6) (.bool b7) fun h_1 => RL h_1 m8 (m9 + 5) fun p11 m12 m13 => GL p1 5 h_1 fun p17 m18 m19 => aPE p11 fun m20 m21 => nIdx (wI64 (subI (↑m18 : Int) 1)) m12 fun m22 => RS h_1 m20 (m21 + m22 * 1) fun s24 => nxK h fun i_2 => RI h_1 i_2 1 fun n26 => RI h_1 i_2 2 fun n28 => aPE p1 fun m29 m30 => wrLK m29 [iv n2, .string s24, iv n26, iv n28] h_1 (m30 + 6) fun h31 => Q (.bool false) h31
  | _ => False
noncomputable def d_cs : BodyT := fun C D a h Q => match a with
  | [.string s1] => D f_cs 2 7346177 [.string s1, iv (↑(szE s1) : Int), iv 0] h Q
  | _ => False
noncomputable def d_ct : BodyT := fun C D a h Q => match a with
  | [.string s1, .int .i64 n2, .int .i64 n3] => fI n2 fun n2 => fI n3 fun n3 => ltC n3 n2 (nIdx n3 (szE s1) fun m4 => bAtK s1 m4 fun n5 => C f_cw [.int .u8 n5] h fun v6 h7 => vBoolE v6 fun b8 => bCE (!b8) (Q (.bool false) h7) (D f_cs 2 7346177 [.string s1, iv n2, iv (wI64 (addI n3 1))] h7 Q)) (Q (.bool !bEq s1 zS) h)
  | _ => False
noncomputable def d_i3 : BodyT := fun C D a h Q => match a with
  | [.string s1, .string s2] => C f_i9 [.string s1, .string s2] h fun v3 h4 => vIntE' .i64 v3 fun n5 => Q (.bool (decide (n5 ≥ 0))) h4
  | _ => False
noncomputable def d_f5 : BodyT := fun C D a h Q => match a with
  | [.pointer p1] => ad1 h (.slice none 0 0) fun h_1 => ad3 h_1 (iv 0) (.bool false) (.slice none 0 0) fun h_2 => nxK h_1 fun i_3 => wrLK i_3 [iv 1, .bool false, .slice none 0 0] h_2 0 fun h2 => nxK h fun i_4 => D f_f5 5 7703029092353 [.pointer p1, .pointer (some ⟨i_4, 0, none⟩), .pointer (some ⟨i_3, 0, none⟩), .bool true, .func (Fn.func f_fa) #[] #[.pointer (some ⟨i_3, 0, none⟩), .pointer (some ⟨i_4, 0, none⟩)]] h2 Q
  | _ => False
noncomputable def d_f9 : BodyT := fun C D a h Q => match a with
  | [.pointer p1, .pointer (some ⟨m2, 0, none⟩), .pointer (some ⟨m3, 0, none⟩), .bool b4, .func (Fn.func 177) (Array.mk []) (Array.mk [.pointer (some ⟨m5, 0, none⟩), .pointer (some ⟨m6, 0, none⟩)])] => fN m2 fun m2 => fN m3 fun m3 => fB b4 fun b4 => fN m5 fun m5 => fN m6 fun m6 => C f_fd [.pointer p1] h fun v7 h8 => vTupE v7 fun l9 => lCE l9 fun v10 l11 => vIntE' .u8 v10 fun n12 => CI l11 fun n15 l14 => lNE l14 (eqC n15 0 (C f_fa [.pointer (some ⟨m5, 0, none⟩), .pointer (some ⟨m6, 0, none⟩)] h8 fun v16 h17 => RL h17 m2 0 fun p19 m20 m21 => Q (.slice p19 m20 m21) h17) (GI p1 1 h8 fun n25 => aPE p1 fun m26 m27 => RI h8 m26 (m27 + 2) fun n29 => aPE p1 fun m30 m31 => RI h8 m30 (m31 + 3) fun n33 => ad5 h8 (.string zS) (iv 0) (iv 0) (.bool false) (.bool false) fun h_1 => nxK h8 fun i_2 => wrLK i_2 [.string zS, iv n29, iv n33, .bool false, .bool false] h_1 0 fun h34 => RI h_1 m26 (m27 + 2) fun n36 => bCE (sameB (iv n36) (iv n29)) (RI h_1 m30 (m31 + 3) fun n38 => bCE (sameB (iv n38) (iv n33)) (C f_fb [.pointer p1] h34 fun v39 h40 => eqC n12 10 (C f_fa [.pointer (some ⟨m5, 0, none⟩), .pointer (some ⟨m6, 0, none⟩)] h40 fun v41 h42 => GI p1 2 h42 fun n46 => wrLK m3 [iv n46, .bool false, .slice none 0 0] h42 0 fun h47 => D f_f5 5 7703029092353 [.pointer p1, .pointer (some ⟨m2, 0, none⟩), .pointer (some ⟨m3, 0, none⟩), .bool true, .func (Fn.func f_fa) #[] #[.pointer (some ⟨m5, 0, none⟩), .pointer (some ⟨m6, 0, none⟩)]] h47 Q) (eqC n12 32 (D f_f5 5 7703029092353 [.pointer p1, .pointer (some ⟨m2, 0, none⟩), .pointer (some ⟨m3, 0, none⟩), .bool false, .func (Fn.func f_fa) #[] #[.pointer (some ⟨m5, 0, none⟩), .pointer (some ⟨m6, 0, none⟩)]] h40 Q) (eqC n12 9 (bCE b4 (wrK h40 m3 1 (.bool true) fun h48 => D f_f5 5 7703029092353 [.pointer p1, .pointer (some ⟨m2, 0, none⟩), .pointer (some ⟨m3, 0, none⟩), .bool false, .func (Fn.func f_fa) #[] #[.pointer (some ⟨m5, 0, none⟩), .pointer (some ⟨m6, 0, none⟩)]] h48 Q) (eqC n12 35 (C f_fd [.pointer p1] h40 fun v49 h50 => vTupE v49 fun l51 => lCE l51 fun v52 l53 => vIntE' .u8 v52 fun n54 => CI l53 fun n57 l56 => lNE l56 (D f_f5 23 16155545466313904129 [.pointer p1, .pointer (some ⟨m2, 0, none⟩), .pointer (some ⟨m3, 0, none⟩), .bool false, .func (Fn.func f_fa) #[] #[.pointer (some ⟨m5, 0, none⟩), .pointer (some ⟨m6, 0, none⟩)], .int .u8 n54, iv n57] h50 Q)) (eqC n12 58 (D f_f5 30 12998046057839876640769 [.pointer p1, .pointer (some ⟨m2, 0, none⟩), .pointer (some ⟨m3, 0, none⟩), .bool false, .func (Fn.func f_fa) #[] #[.pointer (some ⟨m5, 0, none⟩), .pointer (some ⟨m6, 0, none⟩)], .int .u8 n12, iv n25, .pointer (some ⟨i_2, 0, none⟩)] h40 Q) (eqC n12 61 (D f_f5 30 12998046057839876640769 [.pointer p1, .pointer (some ⟨m2, 0, none⟩), .pointer (some ⟨m3, 0, none⟩), .bool false, .func (Fn.func f_fa) #[] #[.pointer (some ⟨m5, 0, none⟩), .pointer (some ⟨m6, 0, none⟩)], .int .u8 n12, iv n25, .pointer (some ⟨i_2, 0, none⟩)] h40 Q) (eqC n12 34 (D f_f5 30 12998046057839876640769 [.pointer p1, .pointer (some ⟨m2, 0, none⟩), .pointer (some ⟨m3, 0, none⟩), .bool false, .func (Fn.func f_fa) #[] #[.pointer (some ⟨m5, 0, none⟩), .pointer (some ⟨m6, 0, none⟩)], .int .u8 n12, iv n25, .pointer (some ⟨i_2, 0, none⟩)] h40 Q) (C f_cw [.int .u8 n12] h40 fun v58 h59 => vBoolE v58 fun b60 => bCE b60 (D f_f5 30 12998046057839876640769 [.pointer p1, .pointer (some ⟨m2, 0, none⟩), .pointer (some ⟨m3, 0, none⟩), .bool false, .func (Fn.func f_fa) #[] #[.pointer (some ⟨m5, 0, none⟩), .pointer (some ⟨m6, 0, none⟩)], .int .u8 n12, iv n25, .pointer (some ⟨i_2, 0, none⟩)] h59 Q) (False))))))) (eqC n12 35 (C f_fd [.pointer p1] h40 fun v61 h62 => vTupE v61 fun l63 => lCE l63 fun v64 l65 => vIntE' .u8 v64 fun n66 => CI l65 fun n69 l68 => lNE l68 (D f_f5 23 16155545466313904129 [.pointer p1, .pointer (some ⟨m2, 0, none⟩), .pointer (some ⟨m3, 0, none⟩), .bool false, .func (Fn.func f_fa) #[] #[.pointer (some ⟨m5, 0, none⟩), .pointer (some ⟨m6, 0, none⟩)], .int .u8 n66, iv n69] h62 Q)) (eqC n12 58 (D f_f5 30 12998046057839876640769 [.pointer p1, .pointer (some ⟨m2, 0, none⟩), .pointer (some ⟨m3, 0, none⟩), .bool false, .func (Fn.func f_fa) #[] #[.pointer (some ⟨m5, 0, none⟩), .pointer (some ⟨m6, 0, none⟩)], .int .u8 n12, iv n25, .pointer (some ⟨i_2, 0, none⟩)] h40 Q) (eqC n12 61 (D f_f5 30 12998046057839876640769 [.pointer p1, .pointer (some ⟨m2, 0, none⟩), .pointer (some ⟨m3, 0, none⟩), .bool false, .func (Fn.func f_fa) #[] #[.pointer (some ⟨m5, 0, none⟩), .pointer (some ⟨m6, 0, none⟩)], .int .u8 n12, iv n25, .pointer (some ⟨i_2, 0, none⟩)] h40 Q) (eqC n12 34 (D f_f5 30 12998046057839876640769 [.pointer p1, .pointer (some ⟨m2, 0, none⟩), .pointer (some ⟨m3, 0, none⟩), .bool false, .func (Fn.func f_fa) #[] #[.pointer (some ⟨m5, 0, none⟩), .pointer (some ⟨m6, 0, none⟩)], .int .u8 n12, iv n25, .pointer (some ⟨i_2, 0, none⟩)] h40 Q) (C f_cw [.int .u8 n12] h40 fun v70 h71 => vBoolE v70 fun b72 => bCE b72 (D f_f5 30 12998046057839876640769 [.pointer p1, .pointer (some ⟨m2, 0, none⟩), .pointer (some ⟨m3, 0, none⟩), .bool false, .func (Fn.func f_fa) #[] #[.pointer (some ⟨m5, 0, none⟩), .pointer (some ⟨m6, 0, none⟩)], .int .u8 n12, iv n25, .pointer (some ⟨i_2, 0, none⟩)] h71 Q) (False))))))))) False) False))
  | _ => False
theorem kk_ev6 : (KE P d_fz f_fy 13 19798731789313) ∧ (KE P d_g0 f_fy 19 45122967314437) ∧ (KE P d_a5 f_a5 0 0) ∧ (KE P d_a6 f_a5 3 10383054442758932481) ∧ (KE P d_gs f_gs 0 0) ∧ (KE P d_gt f_gs 3 9672067073) ∧ (KE P d_gm f_gm 0 0) ∧ (KE P d_gn f_gm 5 15046019073) ∧ (KE P d_by f_by 0 0) ∧ (KE P d_c0 f_by 4 19809479692290) ∧ (KE P d_c1 f_by 10 37418862383106) ∧ (KE P d_bz f_by 19 63411643401) ∧ (KE P d_di f_di 0 0) ∧ (KE P d_dj f_di 4 9667873793) ∧ (KE P d_dr f_dr 0 0) ∧ (KE P d_cs f_cs 0 0) ∧ (KE P d_ct f_cs 3 7346177) ∧ (KE P d_i3 f_i3 0 0) ∧ (KE P d_f5 f_f5 0 0) ∧ (KE P d_f9 f_f5 6 7703029092353) := by
  refine ⟨?a0, ?a1, ?a2, ?a3, ?a4, ?a5, ?a6, ?a7, ?a8, ?a9, ?a10, ?a11, ?a12, ?a13, ?a14, ?a15, ?a16, ?a17, ?a18, ?a19⟩
  all_goals intro C D hC hD a h Q H
  case' a0 => unfold d_fz at H; split at H; refine r_fz ?_
  case' a1 => unfold d_g0 at H; split at H; refine r_g0 ?_
  case' a2 => unfold d_a5 at H; split at H; refine r_a5 ?_
  case' a3 => unfold d_a6 at H; split at H; refine r_a6 ?_
  case' a4 => unfold d_gs at H; split at H; refine r_gs ?_
  case' a5 => unfold d_gt at H; split at H; refine r_gt ?_
  case' a6 => unfold d_gm at H; split at H; refine r_gm ?_
  case' a7 => unfold d_gn at H; split at H; refine r_gn ?_
  case' a8 => unfold d_by at H; split at H; refine r_by ?_
  case' a9 => unfold d_c0 at H; split at H; refine r_c0 ?_
  case' a10 => unfold d_c1 at H; split at H; refine r_c1 ?_
  case' a11 => unfold d_bz at H; split at H; refine r_bz ?_
  case' a12 => unfold d_di at H; split at H; refine r_di ?_
  case' a13 => unfold d_dj at H; split at H; refine r_dj ?_
  case' a14 => unfold d_dr at H; split at H; refine r_dr ?_
  case' a15 => unfold d_cs at H; split at H; refine r_cs ?_
  case' a16 => unfold d_ct at H; split at H; refine r_ct ?_
  case' a17 => unfold d_i3 at H; split at H; refine r_i3 ?_
  case' a18 => unfold d_f5 at H; split at H; refine r_f5 ?_
  case' a19 => unfold d_f9 at H; split at H; refine r_f9 ?_
  all_goals try exact H.elim
  all_goals try simp only [wI64_eq, subI_eq, addI_eq, szE_eq] at H
  all_goals revert H
  all_goals repeat' with_reducible first
 | refine qbr ti_ty_sl_string rfl ti_ty_string rfl rfl rfl ti_ty_sl_string rfl fun _ _ => ?_
 | refine qbr ti_ty_sl_api_Stmt rfl ti_ty_api_Stmt rfl rfl rfl ti_ty_sl_api_Stmt rfl fun _ _ => ?_
 | refine qac ?_
 | refine qad ?_
 | refine qae ?_
 | refine qaf hC fun _ _ => ?_
 | refine qag hD (by decide)
 | refine qah (by with_unfolding_all rfl) (by with_unfolding_all rfl) ?_
 | refine qai ?_
 | refine qam fun _ => ?_
 | refine qan fun _ => ?_
 | refine qao fun _ => ?_
 | refine qap fun _ => ?_
 | refine qaq fun _ => ?_
 | refine qar fun _ => ?_
 | refine qas fun _ => ?_
 | refine qat ?_ ?_
 | refine qav ?_ ?_
 | refine qax ?_ ?_
 | refine qay ?_ ?_
 | refine qaz ?_ ?_
 | refine qba fun _ => ?_
 | refine qbb fun _ _ _ => ?_
 | refine qbc fun _ => ?_
 | refine qbd fun _ _ => ?_
 | refine qbe ?_
 | refine qbf fun _ => ?_
 | refine qbh fun _ _ => ?_
 | refine qbk fun _ => ?_
 | refine qbm fun _ _ _ => ?_
 | refine qbn fun _ => ?_
 | refine qbo ?_
 | refine qbp ?_
 | refine qbq ?_ ?_
 | exact id
noncomputable def e_fz := en kk_ev6.1
noncomputable def e_g0 := en kk_ev6.2.1
noncomputable def e_a5 := en kk_ev6.2.2.1
noncomputable def e_a6 := en kk_ev6.2.2.2.1
noncomputable def e_gs := en kk_ev6.2.2.2.2.1
noncomputable def e_gt := en kk_ev6.2.2.2.2.2.1
noncomputable def e_gm := en kk_ev6.2.2.2.2.2.2.1
noncomputable def e_gn := en kk_ev6.2.2.2.2.2.2.2.1
noncomputable def e_by := en kk_ev6.2.2.2.2.2.2.2.2.1
noncomputable def e_c0 := en kk_ev6.2.2.2.2.2.2.2.2.2.1
noncomputable def e_c1 := en kk_ev6.2.2.2.2.2.2.2.2.2.2.1
noncomputable def e_bz := en kk_ev6.2.2.2.2.2.2.2.2.2.2.2.1
noncomputable def e_di := en kk_ev6.2.2.2.2.2.2.2.2.2.2.2.2.1
noncomputable def e_dj := en kk_ev6.2.2.2.2.2.2.2.2.2.2.2.2.2.1
noncomputable def e_dr := en kk_ev6.2.2.2.2.2.2.2.2.2.2.2.2.2.2.1
noncomputable def e_cs := en kk_ev6.2.2.2.2.2.2.2.2.2.2.2.2.2.2.2.1
noncomputable def e_ct := en kk_ev6.2.2.2.2.2.2.2.2.2.2.2.2.2.2.2.2.1
noncomputable def e_i3 := en kk_ev6.2.2.2.2.2.2.2.2.2.2.2.2.2.2.2.2.2.1
noncomputable def e_f5 := en kk_ev6.2.2.2.2.2.2.2.2.2.2.2.2.2.2.2.2.2.2.1
noncomputable def e_f9 := en kk_ev6.2.2.2.2.2.2.2.2.2.2.2.2.2.2.2.2.2.2.2
end
end Go.Proofs.YtkbioibemcmanaaGreatDoor.E
end

section
/- Bodies that the kernel can run, printed by a program of ours. -/
namespace Go.Proofs.YtkbioibemcmanaaGreatDoor.E
open Go.Abs
set_option maxRecDepth 100000
set_option maxHeartbeats 4000000
section
noncomputable def d_f6 : BodyT := fun C D a h Q => match a with
  | [.pointer p1, .pointer (some ⟨m2, 0, none⟩), .pointer (some ⟨m3, 0, none⟩), .bool b4, .func (Fn.func 177) (Array.mk []) (Array.mk [.pointer (some ⟨m5, 0, none⟩), .pointer (some ⟨m6, 0, none⟩)]), .int .u8 n7, .int .i64 n8, .pointer (some ⟨m9, 0, none⟩)] => fN m2 fun m2 => fN m3 fun m3 => fB b4 fun b4 => fN m5 fun m5 => fN m6 fun m6 => fI n7 fun n7 => fI n8 fun n8 => fN m9 fun m9 => eqC n7 34 (C f_fe [.pointer p1, iv n8] h fun v10 h11 => vStrE v10 fun s12 => wrK h11 m9 0 (.string s12) fun h13 => wrK h13 m9 3 (.bool true) fun h14 => RL h14 m3 2 fun p16 m17 m18 => RS h14 m9 0 fun s20 => RI h14 m9 1 fun n22 => RI h14 m9 2 fun n24 => RB h14 m9 3 fun b26 => RB h14 m9 4 fun b28 => ad5 h14 (.string s20) (iv n22) (iv n24) (.bool b26) (.bool b28) fun h_1 => nxK h14 fun i_2 => apK ty_api_Word 5 40 h_1 (.slice p16 m17 m18) (.slice (some ⟨i_2, 0, none⟩) 1 1) fun v29 h30 => vSlE v29 fun p31 m32 m33 => wrK h30 m3 2 (.slice p31 m32 m33) fun h34 => D f_f5 5 7703029092353 [.pointer p1, .pointer (some ⟨m2, 0, none⟩), .pointer (some ⟨m3, 0, none⟩), .bool b4, .func (Fn.func f_fa) #[] #[.pointer (some ⟨m5, 0, none⟩), .pointer (some ⟨m6, 0, none⟩)]] h34 Q) (eqC n7 58 (D f_f5 35 12691151452959150081 [.pointer p1, .pointer (some ⟨m2, 0, none⟩), .pointer (some ⟨m3, 0, none⟩), .bool b4, .func (Fn.func f_fa) #[] #[.pointer (some ⟨m5, 0, none⟩), .pointer (some ⟨m6, 0, none⟩)], .int .u8 n7, .pointer (some ⟨m9, 0, none⟩)] h Q) (eqC n7 61 (D f_f5 35 12691151452959150081 [.pointer p1, .pointer (some ⟨m2, 0, none⟩), .pointer (some ⟨m3, 0, none⟩), .bool b4, .func (Fn.func f_fa) #[] #[.pointer (some ⟨m5, 0, none⟩), .pointer (some ⟨m6, 0, none⟩)], .int .u8 n7, .pointer (some ⟨m9, 0, none⟩)] h Q) (C f_fd [.pointer p1] h fun v35 h36 => vTupE v35 fun l37 => lCE l37 fun v38 l39 => vIntE' .u8 v38 fun n40 => CI l39 fun n43 l42 => lNE l42 (D f_f5 37 19360534681548080737685505 [.pointer p1, .pointer (some ⟨m2, 0, none⟩), .pointer (some ⟨m3, 0, none⟩), .bool b4, .func (Fn.func f_fa) #[] #[.pointer (some ⟨m5, 0, none⟩), .pointer (some ⟨m6, 0, none⟩)], iv n8, .pointer (some ⟨m9, 0, none⟩), .int .u8 n40, iv n43] h36 Q))))
  | _ => False
noncomputable def d_f7 : BodyT := fun C D a h Q => match a with
  | [.pointer p1, .pointer (some ⟨m2, 0, none⟩), .pointer (some ⟨m3, 0, none⟩), .bool b4, .func (Fn.func 177) (Array.mk []) (Array.mk [.pointer (some ⟨m5, 0, none⟩), .pointer (some ⟨m6, 0, none⟩)]), .int .u8 n7, .pointer (some ⟨m8, 0, none⟩)] => fN m2 fun m2 => fN m3 fun m3 => fB b4 fun b4 => fN m5 fun m5 => fN m6 fun m6 => fI n7 fun n7 => fN m8 fun m8 => wrK h m8 0 (.string (Utf8.encode n7)) fun h9 => wrK h9 m8 4 (.bool true) fun h10 => RL h10 m3 2 fun p12 m13 m14 => RS h10 m8 0 fun s16 => RI h10 m8 1 fun n18 => RI h10 m8 2 fun n20 => RB h10 m8 3 fun b22 => RB h10 m8 4 fun b24 => ad5 h10 (.string s16) (iv n18) (iv n20) (.bool b22) (.bool b24) fun h_1 => nxK h10 fun i_2 => apK ty_api_Word 5 40 h_1 (.slice p12 m13 m14) (.slice (some ⟨i_2, 0, none⟩) 1 1) fun v25 h26 => vSlE v25 fun p27 m28 m29 => wrK h26 m3 2 (.slice p27 m28 m29) fun h30 => D f_f5 5 7703029092353 [.pointer p1, .pointer (some ⟨m2, 0, none⟩), .pointer (some ⟨m3, 0, none⟩), .bool b4, .func (Fn.func f_fa) #[] #[.pointer (some ⟨m5, 0, none⟩), .pointer (some ⟨m6, 0, none⟩)]] h30 Q
  | _ => False
noncomputable def d_f8 : BodyT := fun C D a h Q => match a with
  | [.pointer p1, .pointer (some ⟨m2, 0, none⟩), .pointer (some ⟨m3, 0, none⟩), .bool b4, .func (Fn.func 177) (Array.mk []) (Array.mk [.pointer (some ⟨m5, 0, none⟩), .pointer (some ⟨m6, 0, none⟩)]), .int .i64 n7, .pointer (some ⟨m8, 0, none⟩), .int .u8 n9, .int .i64 n10] => fN m2 fun m2 => fN m3 fun m3 => fB b4 fun b4 => fN m5 fun m5 => fN m6 fun m6 => fI n7 fun n7 => fN m8 fun m8 => fI n9 fun n9 => fI n10 fun n10 => eqC n10 1 (C f_cw [.int .u8 n9] h fun v11 h12 => vBoolE v11 fun b13 => bCE b13 (C f_fb [.pointer p1] h12 fun v14 h15 => C f_fd [.pointer p1] h15 fun v16 h17 => vTupE v16 fun l18 => lCE l18 fun v19 l20 => vIntE' .u8 v19 fun n21 => CI l20 fun n24 l23 => lNE l23 (D f_f5 37 19360534681548080737685505 [.pointer p1, .pointer (some ⟨m2, 0, none⟩), .pointer (some ⟨m3, 0, none⟩), .bool b4, .func (Fn.func f_fa) #[] #[.pointer (some ⟨m5, 0, none⟩), .pointer (some ⟨m6, 0, none⟩)], iv n7, .pointer (some ⟨m8, 0, none⟩), .int .u8 n21, iv n24] h17 Q)) (GS p1 0 h12 fun s28 => GI p1 1 h12 fun n32 => nBnd n32 (szE s28) fun m33 => nBnd n7 m33 fun m34 => subK s28 m34 m33 fun s_1 => wrK h12 m8 0 (.string s_1) fun h35 => RL h35 m3 2 fun p37 m38 m39 => RS h35 m8 0 fun s41 => RI h35 m8 1 fun n43 => RI h35 m8 2 fun n45 => RB h35 m8 3 fun b47 => RB h35 m8 4 fun b49 => ad5 h35 (.string s41) (iv n43) (iv n45) (.bool b47) (.bool b49) fun h_2 => nxK h35 fun i_3 => apK ty_api_Word 5 40 h_2 (.slice p37 m38 m39) (.slice (some ⟨i_3, 0, none⟩) 1 1) fun v50 h51 => vSlE v50 fun p52 m53 m54 => wrK h51 m3 2 (.slice p52 m53 m54) fun h55 => D f_f5 5 7703029092353 [.pointer p1, .pointer (some ⟨m2, 0, none⟩), .pointer (some ⟨m3, 0, none⟩), .bool b4, .func (Fn.func f_fa) #[] #[.pointer (some ⟨m5, 0, none⟩), .pointer (some ⟨m6, 0, none⟩)]] h55 Q)) (GS p1 0 h fun s59 => GI p1 1 h fun n63 => nBnd n63 (szE s59) fun m64 => nBnd n7 m64 fun m65 => subK s59 m65 m64 fun s_4 => wrK h m8 0 (.string s_4) fun h66 => RL h66 m3 2 fun p68 m69 m70 => RS h66 m8 0 fun s72 => RI h66 m8 1 fun n74 => RI h66 m8 2 fun n76 => RB h66 m8 3 fun b78 => RB h66 m8 4 fun b80 => ad5 h66 (.string s72) (iv n74) (iv n76) (.bool b78) (.bool b80) fun h_5 => nxK h66 fun i_6 => apK ty_api_Word 5 40 h_5 (.slice p68 m69 m70) (.slice (some ⟨i_6, 0, none⟩) 1 1) fun v81 h82 => vSlE v81 fun p83 m84 m85 => wrK h82 m3 2 (.slice p83 m84 m85) fun h86 => D f_f5 5 7703029092353 [.pointer p1, .pointer (some ⟨m2, 0, none⟩), .pointer (some ⟨m3, 0, none⟩), .bool b4, .func (Fn.func f_fa) #[] #[.pointer (some ⟨m5, 0, none⟩), .pointer (some ⟨m6, 0, none⟩)]] h86 Q)
  | _ => False
noncomputable def d_an : BodyT := fun C D a h Q => match a with
  | [.slice p1 m2 m3] => fN m2 fun m2 => fN m3 fun m3 => eqC (↑m2 : Int) 0 (ad4 h (iv 0) (.slice none 0 0) (iv 0) (.slice none 0 0) fun h_1 => nxK h fun i_2 => wrLK i_2 [iv 0, .slice none 0 0, iv 0, .slice none 0 0] h_1 0 fun h4 => RI h4 i_2 0 fun n6 => RL h4 i_2 1 fun p8 m9 m10 => RI h4 i_2 2 fun n12 => RL h4 i_2 3 fun p14 m15 m16 => Q (.tuple #[.agg #[iv n6, .slice p8 m9 m10, iv n12, .slice p14 m15 m16], .bool false]) h4) (ad4 h (iv 0) (.slice none 0 0) (iv 0) (.slice none 0 0) fun h_3 => ad4 h_3 (iv 0) (.slice none 0 0) (iv 0) (.slice none 0 0) fun h_4 => nxK h_3 fun i_5 => wrLK i_5 [iv 0, .slice none 0 0, iv 0, .slice none 0 0] h_4 0 fun h17 => nxK h fun i_6 => D f_an 5 6447696897 [.slice p1 m2 m3, .pointer (some ⟨i_6, 0, none⟩), .pointer (some ⟨i_5, 0, none⟩), iv 1] h17 Q)
  | _ => False
noncomputable def d_ao : BodyT := fun C D a h Q => match a with
  | [.slice p1 m2 m3, .pointer (some ⟨m4, 0, none⟩), .pointer (some ⟨m5, 0, none⟩), .int .i64 n6] => fN m2 fun m2 => fN m3 fun m3 => fN m4 fun m4 => fN m5 fun m5 => fI n6 fun n6 => leC n6 12 (C f_ap [iv n6] h fun v7 h8 => vStrE v7 fun s9 => aPE p1 fun m10 m11 => nIdx 0 m2 fun m12 => RS h8 m10 (m11 + m12 * 1) fun s14 => RS h m10 (m11 + m12 * 1) fun s16 => bCE (sameB (.string s16) (.string s14)) (bEqC s9 s14 (wrK h8 m5 0 (iv n6) fun h17 => D f_an 5 6447696897 [.slice p1 m2 m3, .pointer (some ⟨m4, 0, none⟩), .pointer (some ⟨m5, 0, none⟩), iv (wI64 (addI n6 1))] h17 Q) (D f_an 5 6447696897 [.slice p1 m2 m3, .pointer (some ⟨m4, 0, none⟩), .pointer (some ⟨m5, 0, none⟩), iv (wI64 (addI n6 1))] h8 Q)) False) (nBnd 1 m2 fun m18 => bCE (Nat.ble m2 m3) (oQ (shO p1 (m18 * 1)) fun p19 => RI h m5 0 fun n21 => eqC n21 10 (neC (↑(m2 - m18) : Int) 1 (wrLK m4 [iv 0, .slice none 0 0, iv 0, .slice none 0 0] h 0 fun h22 => RI h22 m4 0 fun n24 => RL h22 m4 1 fun p26 m27 m28 => RI h22 m4 2 fun n30 => RL h22 m4 3 fun p32 m33 m34 => Q (.tuple #[.agg #[iv n24, .slice p26 m27 m28, iv n30, .slice p32 m33 m34], .bool false]) h22) (XS p19 0 (m2 - m18) 1 h fun s39 => C f_aj [.string s39] h fun v40 h41 => vIntE' .i64 v40 fun n42 => wrK h41 m5 2 (iv n42) fun h43 => RI h43 m5 0 fun n45 => RL h43 m5 1 fun p47 m48 m49 => RI h43 m5 2 fun n51 => RL h43 m5 3 fun p53 m54 m55 => RI h43 m5 2 fun n57 => wrLK m4 [iv n45, .slice p47 m48 m49, iv n51, .slice p53 m54 m55] h43 0 fun h58 => RI h58 m5 2 fun n60 => bCE (sameB (iv n60) (iv n57)) (RI h58 m4 0 fun n62 => RL h58 m4 1 fun p64 m65 m66 => RI h58 m4 2 fun n68 => RL h58 m4 3 fun p70 m71 m72 => Q (.tuple #[.agg #[iv n62, .slice p64 m65 m66, iv n68, .slice p70 m71 m72], .bool (decide (n57 ≥ 0))]) h58) False)) (C f_gh [.slice p19 (m2 - m18) (m3 - m18)] h fun v73 h74 => vSlE v73 fun p75 m76 m77 => wrK h74 m5 1 (.slice p75 m76 m77) fun h78 => RI h78 m5 0 fun n80 => RL h78 m5 1 fun p82 m83 m84 => RI h78 m5 2 fun n86 => RL h78 m5 3 fun p88 m89 m90 => RI h78 m5 0 fun n92 => gtC n92 0 (RI h78 m5 0 fun n94 => C f_ad [iv n94, iv (↑(m2 - m18) : Int)] h78 fun v95 h96 => vBoolE v95 fun b97 => wrLK m4 [iv n80, .slice p82 m83 m84, iv n86, .slice p88 m89 m90] h96 0 fun h98 => RI h96 m5 0 fun n100 => RL h96 m5 1 fun p102 m103 m104 => RI h96 m5 2 fun n106 => RL h96 m5 3 fun p108 m109 m110 => bCE (sameB (.agg #[iv n100, .slice p102 m103 m104, iv n106, .slice p108 m109 m110]) (.agg #[iv n80, .slice p82 m83 m84, iv n86, .slice p88 m89 m90])) (RI h98 m4 0 fun n112 => RL h98 m4 1 fun p114 m115 m116 => RI h98 m4 2 fun n118 => RL h98 m4 3 fun p120 m121 m122 => Q (.tuple #[.agg #[iv n112, .slice p114 m115 m116, iv n118, .slice p120 m121 m122], .bool b97]) h98) False) (wrLK m4 [iv n80, .slice p82 m83 m84, iv n86, .slice p88 m89 m90] h78 0 fun h123 => RI h123 m4 0 fun n125 => RL h123 m4 1 fun p127 m128 m129 => RI h123 m4 2 fun n131 => RL h123 m4 3 fun p133 m134 m135 => Q (.tuple #[.agg #[iv n125, .slice p127 m128 m129, iv n131, .slice p133 m134 m135], .bool false]) h123))) (False))
  | _ => False
noncomputable def d_ch : BodyT := fun C D a h Q => match a with
  | [.slice p1 m2 m3] => fN m2 fun m2 => fN m3 fun m3 => D f_ch 2 8597280769 [.slice p1 m2 m3, .slice p1 m2 m3, iv (↑m2 : Int), iv 0] h Q
  | _ => False
noncomputable def d_ci : BodyT := fun C D a h Q => match a with
  | [.slice p1 m2 m3, .slice p4 m5 m6, .int .i64 n7, .int .i64 n8] => fN m2 fun m2 => fN m3 fun m3 => fN m5 fun m5 => fN m6 fun m6 => fI n7 fun n7 => fI n8 fun n8 => ltC n8 n7 (aPE p4 fun m9 m10 => nIdx n8 m5 fun m11 => rdK h m9 (m10 + m11 * 1) fun v12 => vIntE' .u8 v12 fun n13 => geC n13 97 (leC n13 122 (aPE p1 fun m14 m15 => nIdx n8 m2 fun m16 => wrK h m14 (m15 + m16 * 1) (.int .u8 (wU8 (addI (wU8 (subI n13 97)) 65))) fun h17 => D f_ch 2 8597280769 [.slice p1 m2 m3, .slice p4 m5 m6, iv n7, iv (wI64 (addI n8 1))] h17 Q) (D f_ch 2 8597280769 [.slice p1 m2 m3, .slice p4 m5 m6, iv n7, iv (wI64 (addI n8 1))] h Q)) (D f_ch 2 8597280769 [.slice p1 m2 m3, .slice p4 m5 m6, iv n7, iv (wI64 (addI n8 1))] h Q)) (Q (.slice p1 m2 m3) h)
  | _ => False
noncomputable def d_gc : BodyT := fun C D a h Q => match a with
  | [.agg (Array.mk [.string s1, .int .i64 n2, .int .i64 n3, .bool b4, .bool b5])] => fI n2 fun n2 => fI n3 fun n3 => fB b4 fun b4 => fB b5 fun b5 => ad5 h (.string s1) (iv n2) (iv n3) (.bool b4) (.bool b5) fun h_1 => nxK h fun i_2 => RB h_1 i_2 4 fun b7 => Q (.bool b7) h_1
  | _ => False
noncomputable def d_j0 : BodyT := fun C D a h Q => match a with
  | [.string s1, .string s2] => C f_iw [.string s1, .string s2] h fun v3 h4 => vBoolE v3 fun b5 => bCE b5 (nBnd (wI64 (subI (↑(szE s1) : Int) (↑(szE s2) : Int))) (szE s1) fun m6 => subK s1 0 m6 fun s_1 => Q (.string s_1) h4) (Q (.string s1) h4)
  | _ => False
noncomputable def d_fq : BodyT := fun C D a h Q => match a with
  | [.pointer p1, .string s2] => C f_fp [.pointer p1, .string s2] h fun v3 h4 => vTupE v3 fun l5 => CS l5 fun s8 l7 => CI l7 fun n11 l10 => lNE l10 (neC n11 0 (Q (iv n11) h4) (GM p1 33 h4 fun p15 => oPK (deleteB P h4 #[ty_map_string_string, ty_string] [.map p15, .string s2]) fun v16 h17 => aPE p1 fun m18 m19 => C f_ft [.pointer (some ⟨m18, m19, none⟩), .string s2] h17 fun v20 h21 => Q (iv 0) h21))
  | _ => False
noncomputable def d_gh : BodyT := fun C D a h Q => match a with
  | [.slice p1 m2 m3] => fN m2 fun m2 => fN m3 fun m3 => bCE (Option.isNone p1) (Q (.slice none 0 0) h) (ad0 h fun h_1 => nxK h fun i_2 => apK ty_string 1 16 h_1 (.slice (some ⟨i_2, 0, none⟩) 0 0) (.slice p1 m2 m3) fun v4 h5 => vSlE v4 fun p6 m7 m8 => Q (.slice p6 m7 m8) h5)
  | _ => False
noncomputable def d_do : BodyT := fun C D a h Q => match a with
  | [.pointer p1, .int .i64 n2, .string s3] => fI n2 fun n2 => WF p1 6 h (.bool true) fun h6 => WF p1 7 h6 (iv n2) fun h9 => WF p1 8 h9 (.string s3) fun h12 => Q (.tuple #[]) h12
  | _ => False
noncomputable def d_e1 : BodyT := fun C D a h Q => match a with
  | [.pointer p1, .slice p2 m3 m4] => fN m3 fun m3 => fN m4 fun m4 => D f_e1 3 15407134022657 [.pointer p1, .slice none 0 0, .slice p2 m3 m4, iv (↑m3 : Int), iv 0] h Q
  | _ => False
noncomputable def d_e2 : BodyT := fun C D a h Q => match a with
  | [.pointer p1, .slice p2 m3 m4, .slice p5 m6 m7, .int .i64 n8, .int .i64 n9] => fN m3 fun m3 => fN m4 fun m4 => fN m6 fun m6 => fN m7 fun m7 => fI n8 fun n8 => fI n9 fun n9 => ltC n9 n8 (aPE p5 fun m10 m11 => nIdx n9 m6 fun m12 => RS h m10 (m11 + m12 * 5) fun s14 => RI h m10 (m11 + m12 * 5 + 1) fun n16 => RI h m10 (m11 + m12 * 5 + 1 + 1) fun n18 => RB h m10 (m11 + m12 * 5 + 1 + 1 + 1) fun b20 => RB h m10 (m11 + m12 * 5 + 1 + 1 + 1 + 1) fun b22 => ad5 h (.string zS) (iv 0) (iv 0) (.bool false) (.bool false) fun h_1 => nxK h fun i_2 => wrLK i_2 [.string s14, iv n16, iv n18, .bool b20, .bool b22] h_1 0 fun h23 => RS h23 i_2 0 fun s25 => RI h23 i_2 1 fun n27 => RI h23 i_2 2 fun n29 => RB h23 i_2 3 fun b31 => RB h23 i_2 4 fun b33 => C f_dw [.pointer p1, .agg #[.string s25, iv n27, iv n29, .bool b31, .bool b33]] h23 fun v34 h35 => vTupE v34 fun l36 => lCE l36 fun v37 l38 => vSlE v37 fun p39 m40 m41 => CB l38 fun b44 l43 => lNE l43 (bCE (!b44) (Q (.tuple #[.slice none 0 0, .bool false]) h35) (apK ty_elab_text 6 56 h35 (.slice p2 m3 m4) (.slice p39 m40 m41) fun v45 h46 => vSlE v45 fun p47 m48 m49 => D f_e1 3 15407134022657 [.pointer p1, .slice p47 m48 m49, .slice p5 m6 m7, iv n8, iv (wI64 (addI n9 1))] h46 Q))) (Q (.tuple #[.slice p2 m3 m4, .bool true]) h)
  | _ => False
noncomputable def d_i4 : BodyT := fun C D a h Q => match a with
  | [.string s1, .string s2] => eqC (↑(szE s2) : Int) 0 (C f_j3 [.string s1] h fun v3 h4 => vIntE' .i64 v3 fun n5 => Q (iv (wI64 (addI n5 1))) h4) (eqC (↑(szE s2) : Int) 1 (nIdx 0 (szE s2) fun m6 => bAtK s2 m6 fun n7 => C f_bj [.string s1, .int .u8 n7] h fun v8 h9 => vIntE' .i64 v8 fun n10 => Q (iv n10) h9) (D f_i4 6 6293505 [.string s1, .string s2, iv 0] h Q))
  | _ => False
noncomputable def d_bw : BodyT := fun C D a h Q => match a with
  | [.string s1, .string s2] => C f_bx [.string s1] h fun v3 h4 => vBoolE v3 fun b5 => bCE b5 (C f_bx [.string s2] h4 fun v6 h7 => vBoolE v6 fun b8 => bCE (!b8) (Q (.bool true) h7) (Q (.bool (Op.bytesLess (Array.toList (ByteArray.data s1)) (Array.toList (ByteArray.data s2)))) h7)) (Q (.bool (Op.bytesLess (Array.toList (ByteArray.data s1)) (Array.toList (ByteArray.data s2)))) h4)
  | _ => False
noncomputable def d_ig : BodyT := fun C D a h Q => match a with
  | [.string s1, .int .u8 n2] => fI n2 fun n2 => C f_bo [.string s1, .int .u8 n2] h fun v3 h4 => vIntE' .i64 v3 fun n5 => Q (iv n5) h4
  | _ => False
noncomputable def d_ak : BodyT := fun C D a h Q => match a with
  | [.int .i64 n1] => fI n1 fun n1 => geC n1 10 (Q (.bool (decide (n1 ≤ 12))) h) (Q (.bool false) h)
  | _ => False
noncomputable def d_f0 : BodyT := fun C D a h Q => match a with
  | [.pointer p1, .func (Fn.func m2) x3 x4] => fN m2 fun m2 => GS p1 4 h fun s8 => C f_cl [.string s8] h fun v9 h10 => vSlE v9 fun p11 m12 m13 => C m2 (Array.toList x3 ++ .slice p11 m12 m13 :: Array.toList x4) h10 fun v14 h15 => vSlE v14 fun p16 m17 m18 => D f_f0 3 18708893276161 [.pointer p1, .string zS, .slice p16 m17 m18, iv (↑m17 : Int), iv 0] h15 Q
  | _ => False
noncomputable def d_f1 : BodyT := fun C D a h Q => match a with
  | [.pointer p1, .string s2, .slice p3 m4 m5, .int .i64 n6, .int .i64 n7] => fN m4 fun m4 => fN m5 fun m5 => fI n6 fun n6 => fI n7 fun n7 => ltC n7 n6 (XS p3 n7 m4 1 h fun s12 => bCE (Nat.ble (szE s12 + 1) 9223372036854775807) (bCE (Nat.ble (szE s2 + szE (s12 ++ ByteArray.mk #[10])) 9223372036854775807) (D f_f0 3 18708893276161 [.pointer p1, .string (s2 ++ (s12 ++ ByteArray.mk #[10])), .slice p3 m4 m5, iv n6, iv (wI64 (addI n7 1))] h Q) (False)) (False)) (gtC (↑(szE s2) : Int) 256 (C f_et [.pointer p1, iv 146, .string zS] h fun v13 h14 => vBoolE v13 fun b15 => Q (.bool b15) h14) (WF p1 4 h (.string s2) fun h18 => Q (.bool true) h18))
  | _ => False
theorem kk_ev7 : (KE P d_f6 f_f5 31 12998046057839876640769) ∧ (KE P d_f7 f_f5 36 12691151452959150081) ∧ (KE P d_f8 f_f5 38 19360534681548080737685505) ∧ (KE P d_an f_an 0 0) ∧ (KE P d_ao f_an 6 6447696897) ∧ (KE P d_ch f_ch 0 0) ∧ (KE P d_ci f_ch 3 8597280769) ∧ (KE P d_gc f_gc 0 0) ∧ (KE P d_j0 f_j0 0 0) ∧ (KE P d_fq f_fq 0 0) ∧ (KE P d_gh f_gh 0 0) ∧ (KE P d_do f_do 0 0) ∧ (KE P d_e1 f_e1 0 0) ∧ (KE P d_e2 f_e1 4 15407134022657) ∧ (KE P d_i4 f_i4 0 0) ∧ (KE P d_bw f_bw 0 0) ∧ (KE P d_ig f_ig 0 0) ∧ (KE P d_ak f_ak 0 0) ∧ (KE P d_f0 f_f0 0 0) ∧ (KE P d_f1 f_f0 4 18708893276161) := by
  refine ⟨?a0, ?a1, ?a2, ?a3, ?a4, ?a5, ?a6, ?a7, ?a8, ?a9, ?a10, ?a11, ?a12, ?a13, ?a14, ?a15, ?a16, ?a17, ?a18, ?a19⟩
  all_goals intro C D hC hD a h Q H
  case' a0 => unfold d_f6 at H; split at H; refine r_f6 ?_
  case' a1 => unfold d_f7 at H; split at H; refine r_f7 ?_
  case' a2 => unfold d_f8 at H; split at H; refine r_f8 ?_
  case' a3 => unfold d_an at H; split at H; refine r_an ?_
  case' a4 => unfold d_ao at H; split at H; refine r_ao ?_
  case' a5 => unfold d_ch at H; split at H; refine r_ch ?_
  case' a6 => unfold d_ci at H; split at H; refine r_ci ?_
  case' a7 => unfold d_gc at H; split at H; refine r_gc ?_
  case' a8 => unfold d_j0 at H; split at H; refine r_j0 ?_
  case' a9 => unfold d_fq at H; split at H; refine r_fq ?_
  case' a10 => unfold d_gh at H; split at H; refine r_gh ?_
  case' a11 => unfold d_do at H; split at H; refine r_do ?_
  case' a12 => unfold d_e1 at H; split at H; refine r_e1 ?_
  case' a13 => unfold d_e2 at H; split at H; refine r_e2 ?_
  case' a14 => unfold d_i4 at H; split at H; refine r_i4 ?_
  case' a15 => unfold d_bw at H; split at H; refine r_bw ?_
  case' a16 => unfold d_ig at H; split at H; refine r_ig ?_
  case' a17 => unfold d_ak at H; split at H; refine r_ak ?_
  case' a18 => unfold d_f0 at H; split at H; refine r_f0 ?_
  case' a19 => unfold d_f1 at H; split at H; refine r_f1 ?_
  all_goals try exact H.elim
  all_goals try simp only [szE_eq, wI64_eq, addI_eq, wU8_eq, subI_eq] at H
  all_goals revert H
  all_goals repeat' with_reducible first
 | refine qbr ti_ty_sl_api_Word rfl ti_ty_api_Word rfl rfl rfl ti_ty_sl_api_Word rfl fun _ _ => ?_
 | refine qbr ti_ty_sl_string rfl ti_ty_string rfl rfl rfl ti_ty_sl_string rfl fun _ _ => ?_
 | refine qbr ti_ty_sl_elab_text rfl ti_ty_elab_text rfl rfl rfl ti_ty_sl_elab_text rfl fun _ _ => ?_
 | refine qac ?_
 | refine qad ?_
 | refine qae ?_
 | refine qaf hC fun _ _ => ?_
 | refine qag hD (by decide)
 | refine qah (by with_unfolding_all rfl) (by with_unfolding_all rfl) ?_
 | refine qai ?_
 | refine qaj ?_
 | refine qam fun _ => ?_
 | refine qan fun _ => ?_
 | refine qao fun _ => ?_
 | refine qap fun _ => ?_
 | refine qaq fun _ => ?_
 | refine qar fun _ => ?_
 | refine qas fun _ => ?_
 | refine qat ?_ ?_
 | refine qau ?_ ?_
 | refine qav ?_ ?_
 | refine qaw ?_ ?_
 | refine qax ?_ ?_
 | refine qay ?_ ?_
 | refine qaz ?_ ?_
 | refine qba fun _ => ?_
 | refine qbb fun _ _ _ => ?_
 | refine qbc fun _ => ?_
 | refine qbd fun _ _ => ?_
 | refine qbe ?_
 | refine qbf fun _ => ?_
 | refine qbg fun _ _ => ?_
 | refine qbh fun _ _ => ?_
 | refine qbl fun _ => ?_
 | refine qbn fun _ => ?_
 | refine qbo ?_
 | refine qbp ?_
 | refine qbq ?_ ?_
 | exact id
noncomputable def e_f6 := en kk_ev7.1
noncomputable def e_f7 := en kk_ev7.2.1
noncomputable def e_f8 := en kk_ev7.2.2.1
noncomputable def e_an := en kk_ev7.2.2.2.1
noncomputable def e_ao := en kk_ev7.2.2.2.2.1
noncomputable def e_ch := en kk_ev7.2.2.2.2.2.1
noncomputable def e_ci := en kk_ev7.2.2.2.2.2.2.1
noncomputable def e_gc := en kk_ev7.2.2.2.2.2.2.2.1
noncomputable def e_j0 := en kk_ev7.2.2.2.2.2.2.2.2.1
noncomputable def e_fq := en kk_ev7.2.2.2.2.2.2.2.2.2.1
noncomputable def e_gh := en kk_ev7.2.2.2.2.2.2.2.2.2.2.1
noncomputable def e_do := en kk_ev7.2.2.2.2.2.2.2.2.2.2.2.1
noncomputable def e_e1 := en kk_ev7.2.2.2.2.2.2.2.2.2.2.2.2.1
noncomputable def e_e2 := en kk_ev7.2.2.2.2.2.2.2.2.2.2.2.2.2.1
noncomputable def e_i4 := en kk_ev7.2.2.2.2.2.2.2.2.2.2.2.2.2.2.1
noncomputable def e_bw := en kk_ev7.2.2.2.2.2.2.2.2.2.2.2.2.2.2.2.1
noncomputable def e_ig := en kk_ev7.2.2.2.2.2.2.2.2.2.2.2.2.2.2.2.2.1
noncomputable def e_ak := en kk_ev7.2.2.2.2.2.2.2.2.2.2.2.2.2.2.2.2.2.1
noncomputable def e_f0 := en kk_ev7.2.2.2.2.2.2.2.2.2.2.2.2.2.2.2.2.2.2.1
noncomputable def e_f1 := en kk_ev7.2.2.2.2.2.2.2.2.2.2.2.2.2.2.2.2.2.2.2
end
end Go.Proofs.YtkbioibemcmanaaGreatDoor.E
end

section
/- Bodies that the kernel can run, printed by a program of ours. -/
namespace Go.Proofs.YtkbioibemcmanaaGreatDoor.E
open Go.Abs
set_option maxRecDepth 100000
set_option maxHeartbeats 4000000
section
noncomputable def d_iu : BodyT := fun C D a h Q => match a with
  | [.string s1, .string s2] => C f_iv [.string s1, .string s2] h fun v3 h4 => vBoolE v3 fun b5 => bCE (!b5) (Q (.tuple #[.string s1, .bool false]) h4) (nBnd (↑(szE s2) : Int) (szE s1) fun m6 => subK s1 m6 (szE s1) fun s_1 => Q (.tuple #[.string s_1, .bool true]) h4)
  | _ => False
noncomputable def d_hj : BodyT := fun C D a h Q => match a with
  | [.int .i64 n1, .pointer (some ⟨m2, 0, none⟩), .int .u64 n3] => fI n1 fun n1 => fN m2 fun m2 => fI n3 fun n3 => C f_hx [.int .u64 n3] h fun v4 h5 => vIntE' .i64 v4 fun n6 => oQ (sliceQ P h5 ty_24_uint8 (.pointer (some ⟨m2, 0, none⟩)) (some (iv 1)) (some (iv (wI64 (addI 1 n6))))) fun v7 => vSlE v7 fun p8 m9 m10 => C f_hr [.slice p8 m9 m10, .int .u64 n3] h5 fun v11 h12 => ltC n1 0 (nIdx 0 24 fun m13 => wrK h12 m2 (0 + m13 * 1) (.int .u8 45) fun h14 => oQ (sliceQ P h14 ty_24_uint8 (.pointer (some ⟨m2, 0, none⟩)) none (some (iv (wI64 (addI 1 n6))))) fun v15 => vSlE v15 fun p16 m17 m18 => oQ (AW.bytes h14 p16 m17) fun s19 => Q (.string s19) h14) (oQ (sliceQ P h12 ty_24_uint8 (.pointer (some ⟨m2, 0, none⟩)) (some (iv 1)) (some (iv (wI64 (addI 1 n6))))) fun v20 => vSlE v20 fun p21 m22 m23 => oQ (AW.bytes h12 p21 m22) fun s24 => Q (.string s24) h12)
  | _ => False
noncomputable def d_da : BodyT := fun C D a h Q => match a with
  | [.pointer p1] => bCE (Option.isNone p1) (Q (.slice none 0 0) h) (GM p1 5 h fun p5 => C f_d1 [.map p5] h fun v6 h7 => C f_gz [v6] h7 fun v8 h9 => vSlE v8 fun p10 m11 m12 => Q (.slice p10 m11 m12) h9)
  | _ => False
noncomputable def d_em : BodyT := fun C D a h Q => match a with
  | [.pointer p1] => bCE (Option.isNone p1) (Q (.slice none 0 0) h) (GL p1 7 h fun p5 m6 m7 => C f_gh [.slice p5 m6 m7] h fun v8 h9 => vSlE v8 fun p10 m11 m12 => Q (.slice p10 m11 m12) h9)
  | _ => False
noncomputable def d_ep : BodyT := fun C D a h Q => match a with
  | [.pointer p1] => bCE (Option.isNone p1) (ad4 h (iv 0) (.string zS) (iv 0) (.string zS) fun h_1 => nxK h fun i_2 => wrLK i_2 [iv 0, .string zS, iv 0, .string zS] h_1 0 fun h2 => RI h2 i_2 0 fun n4 => RS h2 i_2 1 fun s6 => RI h2 i_2 2 fun n8 => RS h2 i_2 3 fun s10 => Q (.agg #[iv n4, .string s6, iv n8, .string s10]) h2) (aPE p1 fun m11 m12 => ad4 h (iv 0) (.string zS) (iv 0) (.string zS) fun h_3 => RB h_3 m11 m12 fun b14 => bCE (!b14) (nxK h fun i_4 => wrLK i_4 [iv 0, .string zS, iv 0, .string zS] h_3 0 fun h15 => RI h15 i_4 0 fun n17 => RS h15 i_4 1 fun s19 => RI h15 i_4 2 fun n21 => RS h15 i_4 3 fun s23 => Q (.agg #[iv n17, .string s19, iv n21, .string s23]) h15) (nxK h fun i_5 => D f_ep 3 3073 [.pointer p1, .pointer (some ⟨i_5, 0, none⟩)] h_3 Q))
  | _ => False
noncomputable def d_eq : BodyT := fun C D a h Q => match a with
  | [.pointer p1, .pointer (some ⟨m2, 0, none⟩)] => fN m2 fun m2 => aPE p1 fun m3 m4 => RI h m3 (m4 + 10) fun n6 => RS h m3 (m4 + 10 + 1) fun s8 => RI h m3 (m4 + 10 + 1 + 1) fun n10 => RS h m3 (m4 + 10 + 1 + 1 + 1) fun s12 => bCE (n6 == 0 && (bEq s8 zS && (n10 == 0 && (bEq s12 zS && true)))) (C f_eu [.pointer p1] h fun v13 h14 => D f_ep 3 3073 [.pointer p1, .pointer (some ⟨m2, 0, none⟩)] h14 Q) (aPE p1 fun m15 m16 => RI h m15 (m16 + 10) fun n18 => RS h m15 (m16 + 10 + 1) fun s20 => RI h m15 (m16 + 10 + 1 + 1) fun n22 => RS h m15 (m16 + 10 + 1 + 1 + 1) fun s24 => wrLK m2 [iv n18, .string s20, iv n22, .string s24] h 0 fun h25 => RI h25 m2 0 fun n27 => RS h25 m2 1 fun s29 => RI h25 m2 2 fun n31 => RS h25 m2 3 fun s33 => Q (.agg #[iv n27, .string s29, iv n31, .string s33]) h25)
  | _ => False
noncomputable def d_c8 : BodyT := fun C D a h Q => match a with
  | [.slice p1 m2 m3] => fN m2 fun m2 => fN m3 fun m3 => D f_c8 3 9672072196 [.slice none 0 0, .slice p1 m2 m3, iv (↑m2 : Int), iv 0] h Q
  | _ => False
noncomputable def d_c9 : BodyT := fun C D a h Q => match a with
  | [.slice p1 m2 m3, .slice p4 m5 m6, .int .i64 n7, .int .i64 n8] => fN m2 fun m2 => fN m3 fun m3 => fN m5 fun m5 => fN m6 fun m6 => fI n7 fun n7 => fI n8 fun n8 => ltC n8 n7 (aPE p4 fun m9 m10 => nIdx n8 m5 fun m11 => RS h m9 (m10 + m11 * 6) fun s13 => RS h m9 (m10 + m11 * 6 + 1) fun s15 => RI h m9 (m10 + m11 * 6 + 1 + 1) fun n17 => RI h m9 (m10 + m11 * 6 + 1 + 1 + 1) fun n19 => RB h m9 (m10 + m11 * 6 + 1 + 1 + 1 + 1) fun b21 => RB h m9 (m10 + m11 * 6 + 1 + 1 + 1 + 1 + 1) fun b23 => ad6 h (.string zS) (.string zS) (iv 0) (iv 0) (.bool false) (.bool false) fun h_1 => nxK h fun i_2 => wrLK i_2 [.string s13, .string s15, iv n17, iv n19, .bool b21, .bool b23] h_1 0 fun h24 => RS h24 i_2 0 fun s26 => ad1 h24 (.string s26) fun h_3 => nxK h24 fun i_4 => apK ty_string 1 16 h_3 (.slice p1 m2 m3) (.slice (some ⟨i_4, 0, none⟩) 1 1) fun v27 h28 => vSlE v27 fun p29 m30 m31 => D f_c8 3 9672072196 [.slice p29 m30 m31, .slice p4 m5 m6, iv n7, iv (wI64 (addI n8 1))] h28 Q) (Q (.slice p1 m2 m3) h)
  | _ => False
noncomputable def d_fg : BodyT := fun C D a h Q => match a with
  | [.pointer p1, .int .i64 n2] => fI n2 fun n2 => C f_fn [.pointer p1] h fun v3 h4 => ltC n2 0 (False) (D f_fg 3 2049 [.pointer p1, iv n2] h4 Q)
  | _ => False
noncomputable def d_fh : BodyT := fun C D a h Q => match a with
  | [.pointer p1, .int .i64 n2] => fI n2 fun n2 => GL p1 1 h fun p6 m7 m8 => oQ (capB P h #[ty_sl_uint8] [.slice p6 m7 m8]) fun v9 => vIntE' .i64 v9 fun n10 => GL p1 1 h fun p14 m15 m16 => ltC (wI64 (subI n10 (↑m15 : Int))) n2 (C f_fo [.pointer p1, iv n2] h fun v17 h18 => Q (.tuple #[]) h18) (Q (.tuple #[]) h)
  | _ => False
noncomputable def d_fu : BodyT := fun C D a h Q => match a with
  | [.string s1, .string s2] => C f_ii [.string s1, .string (ByteArray.mk #[37]), .string s2] h fun v3 h4 => vStrE v3 fun s5 => Q (.string s5) h4
  | _ => False
noncomputable def d_hb : BodyT := fun C D a h Q => match a with
  | [.slice p1 m2 m3, .int .i64 n4, .int .i64 n5, .int .i64 n6] => fN m2 fun m2 => fN m3 fun m3 => fI n4 fun n4 => fI n5 fun n5 => fI n6 fun n6 => XS p1 n6 m2 1 h fun s11 => XS p1 n4 m2 1 h fun s16 => aPE p1 fun m17 m18 => nIdx n4 m2 fun m19 => wrK h m17 (m18 + m19 * 1) (.string s11) fun h20 => aPE p1 fun m21 m22 => nIdx n6 m2 fun m23 => wrK h20 m21 (m22 + m23 * 1) (.string s16) fun h24 => D f_hb 3 11821647873 [.slice p1 m2 m3, iv n4, iv (wI64 (addI n4 1)), iv (wI64 (subI n5 1))] h24 Q
  | _ => False
noncomputable def d_ga : BodyT := fun C D a h Q => match a with
  | [.agg (Array.mk [.string s1, .int .i64 n2, .int .i64 n3, .bool b4, .bool b5])] => fI n2 fun n2 => fI n3 fun n3 => fB b4 fun b4 => fB b5 fun b5 => ad5 h (.string s1) (iv n2) (iv n3) (.bool b4) (.bool b5) fun h_1 => nxK h fun i_2 => RB h_1 i_2 3 fun b7 => bCE b7 (Q (.string zS) h_1) (RB h_1 i_2 4 fun b9 => bCE b9 (Q (.string zS) h_1) (RS h_1 i_2 0 fun s11 => Q (.string s11) h_1))
  | _ => False
noncomputable def d_iy : BodyT := fun C D a h Q => match a with
  | [.string s1, .int .u8 n2] => fI n2 fun n2 => C f_bl [.string s1, .int .u8 n2] h fun v3 h4 => vIntE' .i64 v3 fun n5 => Q (iv n5) h4
  | _ => False
noncomputable def d_iv : BodyT := fun C D a h Q => match a with
  | [.string s1, .string s2] => geC (↑(szE s1) : Int) (↑(szE s2) : Int) (nBnd (↑(szE s2) : Int) (szE s1) fun m3 => subK s1 0 m3 fun s_1 => Q (.bool (bEq s_1 s2)) h) (Q (.bool false) h)
  | _ => False
noncomputable def d_j1 : BodyT := fun C D a h Q => match a with
  | [] => addMK h fun h_1 => nxK h_1 fun i_2 => nxK h fun i_3 => ad34 h_1 (.string zS) (.string zS) (.string zS) (.string zS) (.string zS) (.string zS) (.string zS) (.string zS) (.string zS) (.string zS) (.string zS) (.string zS) (.string zS) (.string zS) (.string zS) (.string zS) (.string zS) (.string zS) (.string zS) (.string zS) (.string zS) (.string zS) (.string zS) (.string zS) (.string zS) (.string zS) (.string zS) (.string zS) (.string zS) (.string zS) (.string zS) (.string zS) (iv 0) (.map (some i_3)) fun h_4 => Q (.pointer (some ⟨i_2, 0, none⟩)) h_4
  | _ => False
noncomputable def d_cx : BodyT := fun C D a h Q => match a with
  | [.map p1] => nxK h fun i_1 => ad1 h (.map p1) fun h_2 => Q (.func (Fn.func f_cy) #[] #[.pointer (some ⟨i_1, 0, none⟩)]) h_2
  | _ => False
noncomputable def d_en : BodyT := fun C D a h Q => match a with
  | [.pointer p1] => bCE (Option.isNone p1) (Q (.slice none 0 0) h) (GI p1 10 h fun n5 => neC n5 2 (Q (.slice none 0 0) h) (GL p1 1 h fun p9 m10 m11 => D f_en 5 24211825364993 [.pointer p1, .slice none 0 0, .slice p9 m10 m11, iv (↑m10 : Int), iv 0] h Q))
  | _ => False
noncomputable def d_eo : BodyT := fun C D a h Q => match a with
  | [.pointer p1, .slice p2 m3 m4, .slice p5 m6 m7, .int .i64 n8, .int .i64 n9] => fN m3 fun m3 => fN m4 fun m4 => fN m6 fun m6 => fN m7 fun m7 => fI n8 fun n8 => fI n9 fun n9 => ltC n9 n8 (XS p5 n9 m6 1 h fun s14 => GM p1 6 h fun p18 => mlK h p18 fun l19 => lkS s14 (fun p20 => vStrE (Option.getD p20 (.string zS)) fun s21 => ad1 h (.string s21) fun h_1 => nxK h fun i_2 => apK ty_string 1 16 h_1 (.slice p2 m3 m4) (.slice (some ⟨i_2, 0, none⟩) 1 1) fun v22 h23 => vSlE v22 fun p24 m25 m26 => D f_en 5 24211825364993 [.pointer p1, .slice p24 m25 m26, .slice p5 m6 m7, iv n8, iv (wI64 (addI n9 1))] h23 Q) l19) (Q (.slice p2 m3 m4) h)
  | _ => False
noncomputable def d_fm : BodyT := fun C D a h Q => match a with
  | [.pointer p1, .string s2] => C f_fn [.pointer p1] h fun v3 h4 => GL p1 1 h4 fun p8 m9 m10 => apK ty_uint8 1 1 h4 (.slice p8 m9 m10) (.string s2) fun v11 h12 => vSlE v11 fun p13 m14 m15 => WF p1 1 h12 (.slice p13 m14 m15) fun h18 => Q (.tuple #[iv (↑(szE s2) : Int), .nilIface]) h18
  | _ => False
theorem kk_ev8 : (KE P d_iu f_iu 0 0) ∧ (KE P d_hj f_hi 9 7346177) ∧ (KE P d_da f_da 0 0) ∧ (KE P d_em f_em 0 0) ∧ (KE P d_ep f_ep 0 0) ∧ (KE P d_eq f_ep 4 3073) ∧ (KE P d_c8 f_c8 0 0) ∧ (KE P d_c9 f_c8 4 9672072196) ∧ (KE P d_fg f_fg 0 0) ∧ (KE P d_fh f_fg 4 2049) ∧ (KE P d_fu f_fu 0 0) ∧ (KE P d_hb f_hb 0 0) ∧ (KE P d_ga f_ga 0 0) ∧ (KE P d_iy f_iy 0 0) ∧ (KE P d_iv f_iv 0 0) ∧ (KE P d_j1 f_j1 0 0) ∧ (KE P d_cx f_cx 0 0) ∧ (KE P d_en f_en 0 0) ∧ (KE P d_eo f_en 6 24211825364993) ∧ (KE P d_fm f_fm 0 0) := by
  refine ⟨?a0, ?a1, ?a2, ?a3, ?a4, ?a5, ?a6, ?a7, ?a8, ?a9, ?a10, ?a11, ?a12, ?a13, ?a14, ?a15, ?a16, ?a17, ?a18, ?a19⟩
  all_goals intro C D hC hD a h Q H
  case' a0 => unfold d_iu at H; split at H; refine r_iu ?_
  case' a1 => unfold d_hj at H; split at H; refine r_hj ?_
  case' a2 => unfold d_da at H; split at H; refine r_da ?_
  case' a3 => unfold d_em at H; split at H; refine r_em ?_
  case' a4 => unfold d_ep at H; split at H; refine r_ep ?_
  case' a5 => unfold d_eq at H; split at H; refine r_eq ?_
  case' a6 => unfold d_c8 at H; split at H; refine r_c8 ?_
  case' a7 => unfold d_c9 at H; split at H; refine r_c9 ?_
  case' a8 => unfold d_fg at H; split at H; refine r_fg ?_
  case' a9 => unfold d_fh at H; split at H; refine r_fh ?_
  case' a10 => unfold d_fu at H; split at H; refine r_fu ?_
  case' a11 => unfold d_hb at H; split at H; refine r_hb ?_
  case' a12 => unfold d_ga at H; split at H; refine r_ga ?_
  case' a13 => unfold d_iy at H; split at H; refine r_iy ?_
  case' a14 => unfold d_iv at H; split at H; refine r_iv ?_
  case' a15 => unfold d_j1 at H; split at H; refine r_j1 ?_
  case' a16 => unfold d_cx at H; split at H; refine r_cx ?_
  case' a17 => unfold d_en at H; split at H; refine r_en ?_
  case' a18 => unfold d_eo at H; split at H; refine r_eo ?_
  case' a19 => unfold d_fm at H; split at H; refine r_fm ?_
  all_goals try exact H.elim
  all_goals try simp only [szE_eq, wI64_eq, addI_eq, subI_eq] at H
  all_goals revert H
  all_goals repeat' with_reducible first
 | refine qbr ti_ty_sl_string rfl ti_ty_string rfl rfl rfl ti_ty_sl_string rfl fun _ _ => ?_
 | refine qbr ti_ty_sl_uint8 rfl ti_ty_uint8 rfl rfl rfl ti_ty_string rfl fun _ _ => ?_
 | refine qaa fun _ => ?_
 | refine qab fun _ => ?_
 | refine qac ?_
 | refine qad ?_
 | refine qae ?_
 | refine qaf hC fun _ _ => ?_
 | refine qag hD (by decide)
 | refine qah (by with_unfolding_all rfl) (by with_unfolding_all rfl) ?_
 | refine qai ?_
 | refine qaj ?_
 | refine qak ?_
 | refine qam fun _ => ?_
 | refine qan fun _ => ?_
 | refine qao fun _ => ?_
 | refine qaq fun _ => ?_
 | refine qar fun _ => ?_
 | refine qas fun _ => ?_
 | refine qat ?_ ?_
 | refine qaw ?_ ?_
 | refine qay ?_ ?_
 | refine qba fun _ => ?_
 | refine qbb fun _ _ _ => ?_
 | refine qbc fun _ => ?_
 | refine qbh fun _ _ => ?_
 | refine qbl fun _ => ?_
 | refine qbn fun _ => ?_
 | refine qbo ?_
 | refine qbp ?_
 | refine qbq ?_ ?_
 | exact id
noncomputable def e_iu := en kk_ev8.1
noncomputable def e_hj := en kk_ev8.2.1
noncomputable def e_da := en kk_ev8.2.2.1
noncomputable def e_em := en kk_ev8.2.2.2.1
noncomputable def e_ep := en kk_ev8.2.2.2.2.1
noncomputable def e_eq := en kk_ev8.2.2.2.2.2.1
noncomputable def e_c8 := en kk_ev8.2.2.2.2.2.2.1
noncomputable def e_c9 := en kk_ev8.2.2.2.2.2.2.2.1
noncomputable def e_fg := en kk_ev8.2.2.2.2.2.2.2.2.1
noncomputable def e_fh := en kk_ev8.2.2.2.2.2.2.2.2.2.1
noncomputable def e_fu := en kk_ev8.2.2.2.2.2.2.2.2.2.2.1
noncomputable def e_hb := en kk_ev8.2.2.2.2.2.2.2.2.2.2.2.1
noncomputable def e_ga := en kk_ev8.2.2.2.2.2.2.2.2.2.2.2.2.1
noncomputable def e_iy := en kk_ev8.2.2.2.2.2.2.2.2.2.2.2.2.2.1
noncomputable def e_iv := en kk_ev8.2.2.2.2.2.2.2.2.2.2.2.2.2.2.1
noncomputable def e_j1 := en kk_ev8.2.2.2.2.2.2.2.2.2.2.2.2.2.2.2.1
noncomputable def e_cx := en kk_ev8.2.2.2.2.2.2.2.2.2.2.2.2.2.2.2.2.1
noncomputable def e_en := en kk_ev8.2.2.2.2.2.2.2.2.2.2.2.2.2.2.2.2.2.1
noncomputable def e_eo := en kk_ev8.2.2.2.2.2.2.2.2.2.2.2.2.2.2.2.2.2.2.1
noncomputable def e_fm := en kk_ev8.2.2.2.2.2.2.2.2.2.2.2.2.2.2.2.2.2.2.2
end
end Go.Proofs.YtkbioibemcmanaaGreatDoor.E
end

section
/- Bodies that the kernel can run, printed by a program of ours. -/
namespace Go.Proofs.YtkbioibemcmanaaGreatDoor.E
open Go.Abs
set_option maxRecDepth 100000
set_option maxHeartbeats 4000000
section
noncomputable def d_e3 : BodyT := fun C D a h Q => match a with
  | [.pointer p1] => GP p1 1 h fun p5 => GM p5 1 h fun p9 => mlK h p9 fun l10 => GP p1 1 h fun p14 => GL p14 2 h fun p18 m19 m20 => Q (.bool (decide (IntKind.wrap .i64 ((↑(List.length l10) : Int) + (↑m19 : Int)) ≥ 256))) h
  | _ => False
noncomputable def d_hc : BodyT := fun C D a h Q => match a with
  | [.slice p1 m2 m3, .int .i64 n4, .int .i64 n5, .int .i64 n6] => fN m2 fun m2 => fN m3 fun m3 => fI n4 fun n4 => fI n5 fun n5 => fI n6 fun n6 => XS p1 n6 m2 1 h fun s11 => XS p1 n4 m2 1 h fun s16 => aPE p1 fun m17 m18 => nIdx n4 m2 fun m19 => wrK h m17 (m18 + m19 * 1) (.string s11) fun h20 => aPE p1 fun m21 m22 => nIdx n6 m2 fun m23 => wrK h20 m21 (m22 + m23 * 1) (.string s16) fun h24 => D f_hc 3 12896438273 [.slice p1 m2 m3, iv n4, iv (wI64 (addI n4 1)), iv (wI64 (subI n5 1))] h24 Q
  | _ => False
noncomputable def d_g5 : BodyT := fun C D a h Q => match a with
  | [.string s1] => D f_g5 2 8395777 [.string s1, iv (↑(szE s1) : Int), iv 0] h Q
  | _ => False
noncomputable def d_co : BodyT := fun C D a h Q => match a with
  | [.slice p1 m2 m3] => fN m2 fun m2 => fN m3 fun m3 => C f_gj [.slice p1 m2 m3] h fun v4 h5 => vSlE v4 fun p6 m7 m8 => Q (.slice p6 m7 m8) h5
  | _ => False
noncomputable def d_ih : BodyT := fun C D a h Q => match a with
  | [.string s1, .string s2, .string s3, .int .i64 n4] => fI n4 fun n4 => bEqC s2 s3 (Q (.string s1) h) (eqC n4 0 (Q (.string s1) h) (C f_i4 [.string s1, .string s2] h fun v5 h6 => vIntE' .i64 v5 fun n7 => eqC n7 0 (Q (.string s1) h6) (ltC n4 0 (D f_ih 8 4298115073 [.string s1, .string s2, .string s3, iv n7] h6 Q) (ltC n7 n4 (D f_ih 8 4298115073 [.string s1, .string s2, .string s3, iv n7] h6 Q) (D f_ih 8 4298115073 [.string s1, .string s2, .string s3, iv n4] h6 Q)))))
  | _ => False
noncomputable def d_ij : BodyT := fun C D a h Q => match a with
  | [.string s1, .string s2, .string s3, .pointer (some ⟨m4, 0, none⟩), .int .i64 n5, .int .i64 n6, .int .i64 n7] => fN m4 fun m4 => fI n5 fun n5 => fI n6 fun n6 => fI n7 fun n7 => ltC n7 n6 (nBnd n5 (szE s1) fun m8 => subK s1 m8 (szE s1) fun s_1 => C f_i9 [.string s_1, .string s2] h fun v9 h10 => vIntE' .i64 v9 fun n11 => nBnd (wI64 (addI n5 n11)) (szE s1) fun m12 => nBnd n5 m12 fun m13 => subK s1 m13 m12 fun s_2 => C f_fm [.pointer (some ⟨m4, 0, none⟩), .string s_2] h10 fun v14 h15 => vTupE v14 fun l16 => CI l16 fun n19 l18 => lCE l18 fun v20 l21 => vIfcE v20 (lNE l21 (C f_fm [.pointer (some ⟨m4, 0, none⟩), .string s3] h15 fun v22 h23 => vTupE v22 fun l24 => CI l24 fun n27 l26 => lCE l26 fun v28 l29 => vIfcE v28 (lNE l29 (D f_ih 13 62317447149786236929 [.string s1, .string s2, .string s3, .pointer (some ⟨m4, 0, none⟩), iv (wI64 (addI (wI64 (addI n5 n11)) (↑(szE s2) : Int))), iv n6, iv (wI64 (addI n7 1))] h23 Q)) fun m30 v31 => lNE l29 (D f_ih 13 62317447149786236929 [.string s1, .string s2, .string s3, .pointer (some ⟨m4, 0, none⟩), iv (wI64 (addI (wI64 (addI n5 n11)) (↑(szE s2) : Int))), iv n6, iv (wI64 (addI n7 1))] h23 Q))) fun m32 v33 => lNE l21 (C f_fm [.pointer (some ⟨m4, 0, none⟩), .string s3] h15 fun v34 h35 => vTupE v34 fun l36 => CI l36 fun n39 l38 => lCE l38 fun v40 l41 => vIfcE v40 (lNE l41 (D f_ih 13 62317447149786236929 [.string s1, .string s2, .string s3, .pointer (some ⟨m4, 0, none⟩), iv (wI64 (addI (wI64 (addI n5 n11)) (↑(szE s2) : Int))), iv n6, iv (wI64 (addI n7 1))] h35 Q)) fun m42 v43 => lNE l41 (D f_ih 13 62317447149786236929 [.string s1, .string s2, .string s3, .pointer (some ⟨m4, 0, none⟩), iv (wI64 (addI (wI64 (addI n5 n11)) (↑(szE s2) : Int))), iv n6, iv (wI64 (addI n7 1))] h35 Q))) (nBnd n5 (szE s1) fun m44 => subK s1 m44 (szE s1) fun s_3 => C f_fm [.pointer (some ⟨m4, 0, none⟩), .string s_3] h fun v45 h46 => vTupE v45 fun l47 => CI l47 fun n50 l49 => lCE l49 fun v51 l52 => vIfcE v51 (lNE l52 (C f_fk [.pointer (some ⟨m4, 0, none⟩)] h46 fun v53 h54 => vStrE v53 fun s55 => Q (.string s55) h54)) fun m56 v57 => lNE l52 (C f_fk [.pointer (some ⟨m4, 0, none⟩)] h46 fun v58 h59 => vStrE v58 fun s60 => Q (.string s60) h59))
  | _ => False
noncomputable def d_fr : BodyT := fun C D a h Q => match a with
  | [.pointer p1, .string s2, .string s3] => bCE (Option.isNone p1) (Q (iv 1) h) (C f_fv [.string s2] h fun v4 h5 => vBoolE v4 fun b6 => bCE (!b6) (Q (iv 2) h5) (gtC (↑(szE s3) : Int) 4096 (Q (iv 3) h5) (GM p1 33 h5 fun p10 => mlK h5 p10 fun l11 => lkS s2 (fun p12 => vStrE (Option.getD p12 (.string zS)) fun s13 => bCE (Option.isSome p12) (bEqC s13 s3 (Q (iv 0) h5) (bCE (!Option.isSome p12) (GM p1 33 h5 fun p17 => mlK h5 p17 fun l18 => eqC (↑(List.length l18) : Int) 256 (Q (iv 8) h5) (GM p1 33 h5 fun p22 => bCE (Option.isNone p22) (aPE p1 fun m23 m24 => addMK h5 fun h_1 => nxK h5 fun i_2 => wrK h_1 m23 (m24 + 33) (.map (some i_2)) fun h25 => D f_fr 14 3147777 [.pointer p1, .string s2, .string s3] h25 Q) (D f_fr 14 3147777 [.pointer p1, .string s2, .string s3] h5 Q))) (GM p1 33 h5 fun p29 => bCE (Option.isNone p29) (aPE p1 fun m30 m31 => addMK h5 fun h_3 => nxK h5 fun i_4 => wrK h_3 m30 (m31 + 33) (.map (some i_4)) fun h32 => D f_fr 14 3147777 [.pointer p1, .string s2, .string s3] h32 Q) (D f_fr 14 3147777 [.pointer p1, .string s2, .string s3] h5 Q)))) (bCE (!Option.isSome p12) (GM p1 33 h5 fun p36 => mlK h5 p36 fun l37 => eqC (↑(List.length l37) : Int) 256 (Q (iv 8) h5) (GM p1 33 h5 fun p41 => bCE (Option.isNone p41) (aPE p1 fun m42 m43 => addMK h5 fun h_5 => nxK h5 fun i_6 => wrK h_5 m42 (m43 + 33) (.map (some i_6)) fun h44 => D f_fr 14 3147777 [.pointer p1, .string s2, .string s3] h44 Q) (D f_fr 14 3147777 [.pointer p1, .string s2, .string s3] h5 Q))) (GM p1 33 h5 fun p48 => bCE (Option.isNone p48) (aPE p1 fun m49 m50 => addMK h5 fun h_7 => nxK h5 fun i_8 => wrK h_7 m49 (m50 + 33) (.map (some i_8)) fun h51 => D f_fr 14 3147777 [.pointer p1, .string s2, .string s3] h51 Q) (D f_fr 14 3147777 [.pointer p1, .string s2, .string s3] h5 Q)))) l11)))
  | _ => False
noncomputable def d_fs : BodyT := fun C D a h Q => match a with
  | [.pointer p1, .string s2, .string s3] => GM p1 33 h fun p7 => muK h (.map p7) (.string s2) (.string s3) fun h8 => aPE p1 fun m9 m10 => C f_ft [.pointer (some ⟨m9, m10, none⟩), .string s2] h8 fun v11 h12 => Q (iv 0) h12
  | _ => False
noncomputable def d_cb : BodyT := fun C D a h Q => match a with
  | [.slice p1 m2 m3] => fN m2 fun m2 => fN m3 fun m3 => addMK h fun h_1 => addMK h_1 fun h_2 => nxK h_2 fun i_3 => nxK h fun i_4 => nxK h_1 fun i_5 => ad2 h_2 (.map (some i_4)) (.map (some i_5)) fun h_6 => D f_cb 3 13971237892 [.pointer (some ⟨i_3, 0, none⟩), .slice p1 m2 m3, iv (↑m2 : Int), iv 0] h_6 Q
  | _ => False
noncomputable def d_cc : BodyT := fun C D a h Q => match a with
  | [.pointer (some ⟨m1, 0, none⟩), .slice p2 m3 m4, .int .i64 n5, .int .i64 n6] => fN m1 fun m1 => fN m3 fun m3 => fN m4 fun m4 => fI n5 fun n5 => fI n6 fun n6 => ltC n6 n5 (aPE p2 fun m7 m8 => nIdx n6 m3 fun m9 => RS h m7 (m8 + m9 * 2) fun s11 => RS h m7 (m8 + m9 * 2 + 1) fun s13 => ad2 h (.string zS) (.string zS) fun h_1 => nxK h fun i_2 => wrLK i_2 [.string s11, .string s13] h_1 0 fun h14 => RS h14 i_2 0 fun s16 => RS h14 i_2 1 fun s18 => C f_eh [.pointer (some ⟨m1, 0, none⟩), .string s16, .string s18] h14 fun v19 h20 => vIntE' .i64 v19 fun n21 => D f_cb 3 13971237892 [.pointer (some ⟨m1, 0, none⟩), .slice p2 m3 m4, iv n5, iv (wI64 (addI n6 1))] h20 Q) (Q (.pointer (some ⟨m1, 0, none⟩)) h)
  | _ => False
noncomputable def d_ek : BodyT := fun C D a h Q => match a with
  | [.pointer p1, .string s2] => C f_ez [.pointer p1] h fun v3 h4 => vTupE v3 fun l5 => CS l5 fun s8 l7 => CI l7 fun n11 l10 => lNE l10 (neC n11 0 (Q (iv n11) h4) (gtC (↑(szE s2) : Int) 256 (C f_et [.pointer p1, iv 146, .string s8] h4 fun v12 h13 => vBoolE v12 fun b14 => Q (iv 0) h13) (GM p1 5 h4 fun p18 => mlK h4 p18 fun l19 => lkS s8 (fun p20 => vStrE (Option.getD p20 (.string zS)) fun s21 => mxK h4 (.map p18) (.string s8) fun m22 => muK h4 (.map p18) (.string s8) (.string s21) fun h23 => mpK h23 (.map p18) m22 (.string s2) fun h24 => aPE p1 fun m25 m26 => wrLK m25 [iv 0, .string zS, iv 0, .string zS] h24 (m26 + 10) fun h27 => Q (iv 0) h27) l19)))
  | _ => False
noncomputable def d_e6 : BodyT := fun C D a h Q => match a with
  | [.pointer p1, .agg (Array.mk [.int .i64 n2, .int .i64 n3, .string s4, .slice p5 m6 m7, .slice p8 m9 m10, .slice p11 m12 m13])] => fI n2 fun n2 => fI n3 fun n3 => fN m6 fun m6 => fN m7 fun m7 => fN m9 fun m9 => fN m10 fun m10 => fN m12 fun m12 => fN m13 fun m13 => ad6 h (iv n2) (iv n3) (.string s4) (.slice p5 m6 m7) (.slice p8 m9 m10) (.slice p11 m12 m13) fun h_1 => nxK h fun i_2 => RL h_1 i_2 3 fun p15 m16 m17 => C f_e1 [.pointer p1, .slice p15 m16 m17] h_1 fun v18 h19 => vTupE v18 fun l20 => lCE l20 fun v21 l22 => vSlE v21 fun p23 m24 m25 => CB l22 fun b28 l27 => lNE l27 (bCE (!b28) (Q (.bool false) h19) (RL h19 i_2 4 fun p30 m31 m32 => C f_e1 [.pointer p1, .slice p30 m31 m32] h19 fun v33 h34 => vTupE v33 fun l35 => lCE l35 fun v36 l37 => vSlE v36 fun p38 m39 m40 => CB l37 fun b43 l42 => lNE l42 (bCE (!b43) (Q (.bool false) h34) (RL h34 i_2 5 fun p45 m46 m47 => D f_e6 9 57904382574574105006081 [.pointer p1, .pointer (some ⟨i_2, 0, none⟩), .slice p23 m24 m25, .slice p38 m39 m40, .slice none 0 0, .slice p45 m46 m47, iv (↑m46 : Int), iv 0] h34 Q))))
  | _ => False
noncomputable def d_eb : BodyT := fun C D a h Q => match a with
  | [.pointer p1, .pointer (some ⟨m2, 0, none⟩), .slice p3 m4 m5, .slice p6 m7 m8, .slice p9 m10 m11, .slice p12 m13 m14, .int .i64 n15, .int .i64 n16] => fN m2 fun m2 => fN m4 fun m4 => fN m5 fun m5 => fN m7 fun m7 => fN m8 fun m8 => fN m10 fun m10 => fN m11 fun m11 => fN m13 fun m13 => fN m14 fun m14 => fI n15 fun n15 => fI n16 fun n16 => ltC n16 n15 (aPE p12 fun m17 m18 => nIdx n16 m13 fun m19 => RI h m17 (m18 + m19 * 3) fun n21 => RB h m17 (m18 + m19 * 3 + 1) fun b23 => RL h m17 (m18 + m19 * 3 + 1 + 1) fun p25 m26 m27 => ad3 h (iv 0) (.bool false) (.slice none 0 0) fun h_1 => nxK h fun i_2 => wrLK i_2 [iv n21, .bool b23, .slice p25 m26 m27] h_1 0 fun h28 => RL h28 i_2 2 fun p30 m31 m32 => C f_e1 [.pointer p1, .slice p30 m31 m32] h28 fun v33 h34 => vTupE v33 fun l35 => lCE l35 fun v36 l37 => vSlE v36 fun p38 m39 m40 => CB l37 fun b43 l42 => lNE l42 (bCE (!b43) (Q (.bool false) h34) (C f_c8 [.slice p38 m39 m40] h34 fun v44 h45 => vSlE v44 fun p46 m47 m48 => ad1 h45 (.slice p46 m47 m48) fun h_3 => nxK h45 fun i_4 => apK ty_sl_string 1 24 h_3 (.slice p9 m10 m11) (.slice (some ⟨i_4, 0, none⟩) 1 1) fun v49 h50 => vSlE v49 fun p51 m52 m53 => D f_e6 9 57904382574574105006081 [.pointer p1, .pointer (some ⟨m2, 0, none⟩), .slice p3 m4 m5, .slice p6 m7 m8, .slice p51 m52 m53, .slice p12 m13 m14, iv n15, iv (wI64 (addI n16 1))] h50 Q))) (eqC (↑m4 : Int) 0 (RL h m2 3 fun p55 m56 m57 => aPE p55 fun m58 m59 => nIdx 0 m56 fun m60 => RS h m58 (m59 + m60 * 5) fun s62 => RI h m58 (m59 + m60 * 5 + 1) fun n64 => RI h m58 (m59 + m60 * 5 + 1 + 1) fun n66 => RB h m58 (m59 + m60 * 5 + 1 + 1 + 1) fun b68 => RB h m58 (m59 + m60 * 5 + 1 + 1 + 1 + 1) fun b70 => C f_dr [.pointer p1, iv 154, .agg #[.string s62, iv n64, iv n66, .bool b68, .bool b70]] h fun v71 h72 => vBoolE v71 fun b73 => Q (.bool b73) h72) (XS p3 0 m4 6 h fun s78 => C f_i3 [.string s78, .string (ByteArray.mk #[37])] h fun v79 h80 => vBoolE v79 fun b81 => bCE b81 (aPE p3 fun m82 m83 => nIdx 0 m4 fun m84 => RS h80 m82 (m83 + m84 * 6) fun s86 => RS h80 m82 (m83 + m84 * 6 + 1) fun s88 => RI h80 m82 (m83 + m84 * 6 + 1 + 1) fun n90 => RI h80 m82 (m83 + m84 * 6 + 1 + 1 + 1) fun n92 => RB h80 m82 (m83 + m84 * 6 + 1 + 1 + 1 + 1) fun b94 => RB h80 m82 (m83 + m84 * 6 + 1 + 1 + 1 + 1 + 1) fun b96 => ad6 h80 (.string zS) (.string zS) (iv 0) (iv 0) (.bool false) (.bool false) fun h_5 => nxK h80 fun i_6 => wrLK i_6 [.string s86, .string s88, iv n90, iv n92, .bool b94, .bool b96] h_5 0 fun h97 => gtC (↑m4 : Int) 1 (aPE p3 fun m98 m99 => nIdx 1 m4 fun m100 => RS h97 m98 (m99 + m100 * 6 + 1) fun s102 => RI h97 m98 (m99 + m100 * 6 + 1 + 1) fun n104 => RI h97 m98 (m99 + m100 * 6 + 1 + 1 + 1) fun n106 => RB h97 m98 (m99 + m100 * 6 + 1 + 1 + 1 + 1) fun b108 => RB h97 m98 (m99 + m100 * 6 + 1 + 1 + 1 + 1 + 1) fun b110 => C f_dr [.pointer p1, iv 153, .agg #[.string s102, iv n104, iv n106, .bool b108, .bool b110]] h97 fun v111 h112 => vBoolE v111 fun b113 => Q (.bool b113) h112) (RS h97 i_6 0 fun s115 => C f_i4 [.string s115, .string (ByteArray.mk #[37])] h97 fun v116 h117 => vIntE' .i64 v116 fun n118 => gtC n118 1 (RS h117 i_6 1 fun s120 => RI h117 i_6 2 fun n122 => RI h117 i_6 3 fun n124 => RB h117 i_6 4 fun b126 => RB h117 i_6 5 fun b128 => C f_dr [.pointer p1, iv 153, .agg #[.string s120, iv n122, iv n124, .bool b126, .bool b128]] h117 fun v129 h130 => vBoolE v129 fun b131 => Q (.bool b131) h130) (RS h117 i_6 0 fun s133 => C f_fu [.string s133, .string (ByteArray.mk #[120])] h117 fun v134 h135 => vStrE v134 fun s136 => C f_fv [.string s136] h135 fun v137 h138 => vBoolE v137 fun b139 => bCE (!b139) (RS h138 i_6 1 fun s141 => RI h138 i_6 2 fun n143 => RI h138 i_6 3 fun n145 => RB h138 i_6 4 fun b147 => RB h138 i_6 5 fun b149 => C f_dr [.pointer p1, iv 2, .agg #[.string s141, iv n143, iv n145, .bool b147, .bool b149]] h138 fun v150 h151 => vBoolE v150 fun b152 => Q (.bool b152) h151) (C f_e3 [.pointer p1] h138 fun v153 h154 => vBoolE v153 fun b155 => bCE b155 (RS h154 i_6 1 fun s157 => RI h154 i_6 2 fun n159 => RI h154 i_6 3 fun n161 => RB h154 i_6 4 fun b163 => RB h154 i_6 5 fun b165 => C f_dr [.pointer p1, iv 8, .agg #[.string s157, iv n159, iv n161, .bool b163, .bool b165]] h154 fun v166 h167 => vBoolE v166 fun b168 => Q (.bool b168) h167) (aPE p1 fun m169 m170 => RP h154 m169 (m170 + 1) fun p172 => aPE p1 fun m173 m174 => RP h154 m173 (m174 + 1) fun p176 => aPE p176 fun m177 m178 => RL h154 m177 (m178 + 2) fun p180 m181 m182 => aPE p3 fun m183 m184 => nIdx 0 m4 fun m185 => RS h154 m183 (m184 + m185 * 6) fun s187 => C f_c8 [.slice p6 m7 m8] h154 fun v188 h189 => vSlE v188 fun p190 m191 m192 => ad3 h189 (.string s187) (.slice p190 m191 m192) (.slice p9 m10 m11) fun h_7 => nxK h189 fun i_8 => apK ty_elab_pattern 3 64 h_7 (.slice p180 m181 m182) (.slice (some ⟨i_8, 0, none⟩) 1 1) fun v193 h194 => vSlE v193 fun p195 m196 m197 => WF p172 2 h194 (.slice p195 m196 m197) fun h200 => RP h189 m169 (m170 + 1) fun p202 => bCE (sameB (.pointer p202) (.pointer p172)) (RP h_7 m169 (m170 + 1) fun p204 => bCE (sameB (.pointer p204) (.pointer p172)) (RP h194 m169 (m170 + 1) fun p206 => bCE (sameB (.pointer p206) (.pointer p172)) (RP h189 m173 (m174 + 1) fun p208 => bCE (sameB (.pointer p208) (.pointer p176)) (RP h_7 m173 (m174 + 1) fun p210 => bCE (sameB (.pointer p210) (.pointer p176)) (RL h189 m177 (m178 + 2) fun p212 m213 m214 => bCE (sameB (.slice p212 m213 m214) (.slice p180 m181 m182)) (RL h_7 m177 (m178 + 2) fun p216 m217 m218 => bCE (sameB (.slice p216 m217 m218) (.slice p180 m181 m182)) (RS h189 m183 (m184 + m185 * 6) fun s220 => bCE (sameB (.string s220) (.string s187)) (D f_e6 30 15772502896676865 [.pointer p1, .pointer (some ⟨m2, 0, none⟩), .slice p3 m4 m5, .slice p6 m7 m8, .slice p9 m10 m11, .bool b81] h200 Q) False) False) False) False) False) False) False) False))))) (D f_e6 30 15772502896676865 [.pointer p1, .pointer (some ⟨m2, 0, none⟩), .slice p3 m4 m5, .slice p6 m7 m8, .slice p9 m10 m11, .bool b81] h80 Q)))
  | _ => False
noncomputable def d_e7 : BodyT := fun C D a h Q => match a with
  | [.pointer p1, .pointer (some ⟨m2, 0, none⟩), .slice p3 m4 m5, .slice p6 m7 m8, .slice p9 m10 m11, .bool b12] => fN m2 fun m2 => fN m4 fun m4 => fN m5 fun m5 => fN m7 fun m7 => fN m8 fun m8 => fN m10 fun m10 => fN m11 fun m11 => fB b12 fun b12 => ad4 h (.string zS) (.slice none 0 0) (.slice none 0 0) (.slice none 0 0) fun h_1 => nxK h fun i_2 => wrLK i_2 [.string zS, .slice none 0 0, .slice none 0 0, .slice none 0 0] h_1 0 fun h13 => D f_e6 32 20088520068772598386689 [.pointer p1, .pointer (some ⟨m2, 0, none⟩), .slice p3 m4 m5, .slice p6 m7 m8, .slice p9 m10 m11, .bool b12, .pointer (some ⟨i_2, 0, none⟩), iv 0] h13 Q
  | _ => False
noncomputable def d_e8 : BodyT := fun C D a h Q => match a with
  | [.pointer p1, .pointer (some ⟨m2, 0, none⟩), .slice p3 m4 m5, .slice p6 m7 m8, .slice p9 m10 m11, .bool b12, .pointer (some ⟨m13, 0, none⟩), .int .i64 n14] => fN m2 fun m2 => fN m4 fun m4 => fN m5 fun m5 => fN m7 fun m7 => fN m8 fun m8 => fN m10 fun m10 => fN m11 fun m11 => fB b12 fun b12 => fN m13 fun m13 => fI n14 fun n14 => ltC n14 (↑m4 : Int) (bCE (!b12) (aPE p3 fun m15 m16 => nIdx n14 m4 fun m17 => RS h m15 (m16 + m17 * 6) fun s19 => RS h m15 (m16 + m17 * 6 + 1) fun s21 => RI h m15 (m16 + m17 * 6 + 1 + 1) fun n23 => RI h m15 (m16 + m17 * 6 + 1 + 1 + 1) fun n25 => RB h m15 (m16 + m17 * 6 + 1 + 1 + 1 + 1) fun b27 => RB h m15 (m16 + m17 * 6 + 1 + 1 + 1 + 1 + 1) fun b29 => ad6 h (.string zS) (.string zS) (iv 0) (iv 0) (.bool false) (.bool false) fun h_1 => nxK h fun i_2 => wrLK i_2 [.string s19, .string s21, iv n23, iv n25, .bool b27, .bool b29] h_1 0 fun h30 => RS h30 i_2 0 fun s32 => C f_fy [.string s32] h30 fun v33 h34 => vTupE v33 fun l35 => CS l35 fun s38 l37 => CI l37 fun n41 l40 => lNE l40 (GP p1 1 h34 fun p45 => GM p45 1 h34 fun p49 => mlK h34 p49 fun l50 => lkS s38 (fun p51 => vStrE (Option.getD p51 (.string zS)) fun s52 => neC n41 0 (RS h34 i_2 1 fun s54 => RI h34 i_2 2 fun n56 => RI h34 i_2 3 fun n58 => RB h34 i_2 4 fun b60 => RB h34 i_2 5 fun b62 => C f_dr [.pointer p1, iv n41, .agg #[.string s54, iv n56, iv n58, .bool b60, .bool b62]] h34 fun v63 h64 => vBoolE v63 fun b65 => Q (.bool b65) h64) (bCE (Option.isSome p51) (RS h34 i_2 1 fun s67 => RI h34 i_2 2 fun n69 => RI h34 i_2 3 fun n71 => RB h34 i_2 4 fun b73 => RB h34 i_2 5 fun b75 => C f_dr [.pointer p1, iv 152, .agg #[.string s67, iv n69, iv n71, .bool b73, .bool b75]] h34 fun v76 h77 => vBoolE v76 fun b78 => Q (.bool b78) h77) (eqC n14 4 (RS h34 i_2 1 fun s80 => RI h34 i_2 2 fun n82 => RI h34 i_2 3 fun n84 => RB h34 i_2 4 fun b86 => RB h34 i_2 5 fun b88 => C f_dr [.pointer p1, iv 154, .agg #[.string s80, iv n82, iv n84, .bool b86, .bool b88]] h34 fun v89 h90 => vBoolE v89 fun b91 => Q (.bool b91) h90) (C f_e3 [.pointer p1] h34 fun v92 h93 => vBoolE v92 fun b94 => bCE b94 (RS h93 i_2 1 fun s96 => RI h93 i_2 2 fun n98 => RI h93 i_2 3 fun n100 => RB h93 i_2 4 fun b102 => RB h93 i_2 5 fun b104 => C f_dr [.pointer p1, iv 8, .agg #[.string s96, iv n98, iv n100, .bool b102, .bool b104]] h93 fun v105 h106 => vBoolE v105 fun b107 => Q (.bool b107) h106) (eqC n14 0 (wrK h93 m13 0 (.string s38) fun h108 => D f_e6 47 22989679092746726917804033 [.pointer p1, .pointer (some ⟨m2, 0, none⟩), .slice p3 m4 m5, .slice p6 m7 m8, .slice p9 m10 m11, .bool b12, .pointer (some ⟨m13, 0, none⟩), iv n14, .string s38] h108 Q) (D f_e6 47 22989679092746726917804033 [.pointer p1, .pointer (some ⟨m2, 0, none⟩), .slice p3 m4 m5, .slice p6 m7 m8, .slice p9 m10 m11, .bool b12, .pointer (some ⟨m13, 0, none⟩), iv n14, .string s38] h93 Q)))))) l50)) (D f_e6 50 26535224407301820417 [.pointer p1, .pointer (some ⟨m2, 0, none⟩), .slice p6 m7 m8, .slice p9 m10 m11, .bool b12, .pointer (some ⟨m13, 0, none⟩), iv 0] h Q)) (D f_e6 50 26535224407301820417 [.pointer p1, .pointer (some ⟨m2, 0, none⟩), .slice p6 m7 m8, .slice p9 m10 m11, .bool b12, .pointer (some ⟨m13, 0, none⟩), iv 0] h Q)
  | _ => False
noncomputable def d_e9 : BodyT := fun C D a h Q => match a with
  | [.pointer p1, .pointer (some ⟨m2, 0, none⟩), .slice p3 m4 m5, .slice p6 m7 m8, .slice p9 m10 m11, .bool b12, .pointer (some ⟨m13, 0, none⟩), .int .i64 n14, .string s15] => fN m2 fun m2 => fN m4 fun m4 => fN m5 fun m5 => fN m7 fun m7 => fN m8 fun m8 => fN m10 fun m10 => fN m11 fun m11 => fB b12 fun b12 => fN m13 fun m13 => fI n14 fun n14 => RL h m13 1 fun p17 m18 m19 => ad1 h (.string s15) fun h_1 => nxK h fun i_2 => apK ty_string 1 16 h_1 (.slice p17 m18 m19) (.slice (some ⟨i_2, 0, none⟩) 1 1) fun v20 h21 => vSlE v20 fun p22 m23 m24 => wrK h21 m13 1 (.slice p22 m23 m24) fun h25 => GP p1 1 h25 fun p29 => GM p29 1 h25 fun p33 => RS h25 m13 0 fun s35 => muK h25 (.map p33) (.string s15) (.string s35) fun h36 => D f_e6 32 20088520068772598386689 [.pointer p1, .pointer (some ⟨m2, 0, none⟩), .slice p3 m4 m5, .slice p6 m7 m8, .slice p9 m10 m11, .bool b12, .pointer (some ⟨m13, 0, none⟩), iv (wI64 (addI n14 1))] h36 Q
  | _ => False
noncomputable def d_ea : BodyT := fun C D a h Q => match a with
  | [.pointer p1, .pointer (some ⟨m2, 0, none⟩), .slice p3 m4 m5, .slice p6 m7 m8, .bool b9, .pointer (some ⟨m10, 0, none⟩), .int .i64 n11] => fN m2 fun m2 => fN m4 fun m4 => fN m5 fun m5 => fN m7 fun m7 => fN m8 fun m8 => fB b9 fun b9 => fN m10 fun m10 => fI n11 fun n11 => ltC n11 (↑m4 : Int) (bCE (!b9) (XS p3 n11 m4 6 h fun s16 => C f_fy [.string s16] h fun v17 h18 => vTupE v17 fun l19 => CS l19 fun s22 l21 => CI l21 fun n25 l24 => lNE l24 (neC n25 0 (aPE p3 fun m26 m27 => nIdx n11 m4 fun m28 => RS h18 m26 (m27 + m28 * 6 + 1) fun s30 => RI h18 m26 (m27 + m28 * 6 + 1 + 1) fun n32 => RI h18 m26 (m27 + m28 * 6 + 1 + 1 + 1) fun n34 => RB h18 m26 (m27 + m28 * 6 + 1 + 1 + 1 + 1) fun b36 => RB h18 m26 (m27 + m28 * 6 + 1 + 1 + 1 + 1 + 1) fun b38 => C f_dr [.pointer p1, iv n25, .agg #[.string s30, iv n32, iv n34, .bool b36, .bool b38]] h18 fun v39 h40 => vBoolE v39 fun b41 => Q (.bool b41) h40) (RL h18 m10 2 fun p43 m44 m45 => C f_gl [.slice p43 m44 m45, .string s22] h18 fun v46 h47 => vBoolE v46 fun b48 => bCE (!b48) (RL h47 m10 2 fun p50 m51 m52 => ad1 h47 (.string s22) fun h_1 => nxK h47 fun i_2 => apK ty_string 1 16 h_1 (.slice p50 m51 m52) (.slice (some ⟨i_2, 0, none⟩) 1 1) fun v53 h54 => vSlE v53 fun p55 m56 m57 => wrK h54 m10 2 (.slice p55 m56 m57) fun h58 => D f_e6 50 26535224407301820417 [.pointer p1, .pointer (some ⟨m2, 0, none⟩), .slice p3 m4 m5, .slice p6 m7 m8, .bool b9, .pointer (some ⟨m10, 0, none⟩), iv (wI64 (addI n11 1))] h58 Q) (D f_e6 50 26535224407301820417 [.pointer p1, .pointer (some ⟨m2, 0, none⟩), .slice p3 m4 m5, .slice p6 m7 m8, .bool b9, .pointer (some ⟨m10, 0, none⟩), iv (wI64 (addI n11 1))] h47 Q)))) (C f_a3 [.slice p6 m7 m8] h fun v59 h60 => vTupE v59 fun l61 => lCE l61 fun v62 l63 => vSlE v62 fun p64 m65 m66 => lCE l63 fun v67 l68 => vAggE v67 fun l69 => CI l69 fun n72 l71 => CI l71 fun n75 l74 => lNE l74 (lNE l68 (ad2 h60 (iv 0) (iv 0) fun h_3 => nxK h60 fun i_4 => wrLK i_4 [iv n72, iv n75] h_3 0 fun h76 => RI h76 i_4 0 fun n78 => neC n78 0 (RI h76 i_4 0 fun n80 => RL h76 m2 5 fun p82 m83 m84 => RI h76 i_4 1 fun n86 => RL h76 m2 5 fun p88 m89 m90 => aPE p82 fun m91 m92 => nIdx (if IntKind.wrap .i64 ((↑m89 : Int) - 1) < n86 then IntKind.wrap .i64 ((↑m89 : Int) - 1) else n86) m83 fun m93 => RL h76 m91 (m92 + m93 * 3 + 2) fun p95 m96 m97 => aPE p95 fun m98 m99 => nIdx 0 m96 fun m100 => RS h76 m98 (m99 + m100 * 5) fun s102 => RI h76 m98 (m99 + m100 * 5 + 1) fun n104 => RI h76 m98 (m99 + m100 * 5 + 1 + 1) fun n106 => RB h76 m98 (m99 + m100 * 5 + 1 + 1 + 1) fun b108 => RB h76 m98 (m99 + m100 * 5 + 1 + 1 + 1 + 1) fun b110 => C f_dr [.pointer p1, iv n80, .agg #[.string s102, iv n104, iv n106, .bool b108, .bool b110]] h76 fun v111 h112 => vBoolE v111 fun b113 => Q (.bool b113) h112) (wrK h76 m10 3 (.slice p64 m65 m66) fun h114 => bCE b9 (Q (.bool true) h114) (RS h114 m10 0 fun s116 => RL h114 m10 1 fun p118 m119 m120 => RL h114 m10 2 fun p122 m123 m124 => RL h114 m10 3 fun p126 m127 m128 => C f_by [.agg #[.string s116, .slice p118 m119 m120, .slice p122 m123 m124, .slice p126 m127 m128]] h114 fun v129 h130 => vStrE v129 fun s131 => gtC (↑(szE s131) : Int) 512 (RL h130 m2 3 fun p133 m134 m135 => aPE p133 fun m136 m137 => nIdx 0 m134 fun m138 => RS h130 m136 (m137 + m138 * 5) fun s140 => RI h130 m136 (m137 + m138 * 5 + 1) fun n142 => RI h130 m136 (m137 + m138 * 5 + 1 + 1) fun n144 => RB h130 m136 (m137 + m138 * 5 + 1 + 1 + 1) fun b146 => RB h130 m136 (m137 + m138 * 5 + 1 + 1 + 1 + 1) fun b148 => C f_dr [.pointer p1, iv 154, .agg #[.string s140, iv n142, iv n144, .bool b146, .bool b148]] h130 fun v149 h150 => vBoolE v149 fun b151 => Q (.bool b151) h150) (GP p1 1 h130 fun p155 => GM p155 0 h130 fun p159 => RS h130 m10 0 fun s161 => RS h130 m10 0 fun s163 => RL h130 m10 1 fun p165 m166 m167 => RL h130 m10 2 fun p169 m170 m171 => RL h130 m10 3 fun p173 m174 m175 => muK h130 (.map p159) (.string s161) (.agg #[.string s163, .slice p165 m166 m167, .slice p169 m170 m171, .slice p173 m174 m175]) fun h176 => Q (.bool true) h176))))))) (C f_a3 [.slice p6 m7 m8] h fun v177 h178 => vTupE v177 fun l179 => lCE l179 fun v180 l181 => vSlE v180 fun p182 m183 m184 => lCE l181 fun v185 l186 => vAggE v185 fun l187 => CI l187 fun n190 l189 => CI l189 fun n193 l192 => lNE l192 (lNE l186 (ad2 h178 (iv 0) (iv 0) fun h_5 => nxK h178 fun i_6 => wrLK i_6 [iv n190, iv n193] h_5 0 fun h194 => RI h194 i_6 0 fun n196 => neC n196 0 (RI h194 i_6 0 fun n198 => RL h194 m2 5 fun p200 m201 m202 => RI h194 i_6 1 fun n204 => RL h194 m2 5 fun p206 m207 m208 => aPE p200 fun m209 m210 => nIdx (if IntKind.wrap .i64 ((↑m207 : Int) - 1) < n204 then IntKind.wrap .i64 ((↑m207 : Int) - 1) else n204) m201 fun m211 => RL h194 m209 (m210 + m211 * 3 + 2) fun p213 m214 m215 => aPE p213 fun m216 m217 => nIdx 0 m214 fun m218 => RS h194 m216 (m217 + m218 * 5) fun s220 => RI h194 m216 (m217 + m218 * 5 + 1) fun n222 => RI h194 m216 (m217 + m218 * 5 + 1 + 1) fun n224 => RB h194 m216 (m217 + m218 * 5 + 1 + 1 + 1) fun b226 => RB h194 m216 (m217 + m218 * 5 + 1 + 1 + 1 + 1) fun b228 => C f_dr [.pointer p1, iv n198, .agg #[.string s220, iv n222, iv n224, .bool b226, .bool b228]] h194 fun v229 h230 => vBoolE v229 fun b231 => Q (.bool b231) h230) (wrK h194 m10 3 (.slice p182 m183 m184) fun h232 => bCE b9 (Q (.bool true) h232) (RS h232 m10 0 fun s234 => RL h232 m10 1 fun p236 m237 m238 => RL h232 m10 2 fun p240 m241 m242 => RL h232 m10 3 fun p244 m245 m246 => C f_by [.agg #[.string s234, .slice p236 m237 m238, .slice p240 m241 m242, .slice p244 m245 m246]] h232 fun v247 h248 => vStrE v247 fun s249 => gtC (↑(szE s249) : Int) 512 (RL h248 m2 3 fun p251 m252 m253 => aPE p251 fun m254 m255 => nIdx 0 m252 fun m256 => RS h248 m254 (m255 + m256 * 5) fun s258 => RI h248 m254 (m255 + m256 * 5 + 1) fun n260 => RI h248 m254 (m255 + m256 * 5 + 1 + 1) fun n262 => RB h248 m254 (m255 + m256 * 5 + 1 + 1 + 1) fun b264 => RB h248 m254 (m255 + m256 * 5 + 1 + 1 + 1 + 1) fun b266 => C f_dr [.pointer p1, iv 154, .agg #[.string s258, iv n260, iv n262, .bool b264, .bool b266]] h248 fun v267 h268 => vBoolE v267 fun b269 => Q (.bool b269) h268) (GP p1 1 h248 fun p273 => GM p273 0 h248 fun p277 => RS h248 m10 0 fun s279 => RS h248 m10 0 fun s281 => RL h248 m10 1 fun p283 m284 m285 => RL h248 m10 2 fun p287 m288 m289 => RL h248 m10 3 fun p291 m292 m293 => muK h248 (.map p277) (.string s279) (.agg #[.string s281, .slice p283 m284 m285, .slice p287 m288 m289, .slice p291 m292 m293]) fun h294 => Q (.bool true) h294))))))
  | _ => False
noncomputable def d_fk : BodyT := fun C D a h Q => match a with
  | [.pointer p1] => GL p1 1 h fun p5 m6 m7 => oQ (sdataB [.slice p5 m6 m7]) fun v8 => vPtrE v8 fun p9 => GL p1 1 h fun p13 m14 m15 => oPK (ustrB P h #[ty_p_uint8, ty_int] [.pointer p9, iv (↑m14 : Int)]) fun v16 h17 => vStrE v16 fun s18 => Q (.string s18) h17
  | _ => False
noncomputable def d_a3 : BodyT := fun C D a h Q => match a with
  | [.slice p1 m2 m3] => fN m2 fun m2 => fN m3 fun m3 => ad1 h (.slice p1 m2 m3) fun h_1 => ad2 h_1 (iv 0) (iv 0) fun h_2 => ad1 h_2 (iv 0) fun h_3 => ad1 h_3 (iv 0) fun h_4 => nxK h_2 fun i_5 => wrK h_4 i_5 0 (iv 0) fun h4 => nxK h_3 fun i_6 => wrK h4 i_6 0 (iv 0) fun h5 => ad2 h5 (iv 0) (iv 0) fun h_7 => ad1 h_7 (.nilFunc) fun h_8 => nxK h_7 fun i_9 => nxK h fun i_10 => wrK h_8 i_9 0 (.func (Fn.func f_a4) #[] #[.pointer (some ⟨i_5, 0, none⟩), .pointer (some ⟨i_10, 0, none⟩)]) fun h6 => ad1 h6 (.nilFunc) fun h_11 => nxK h6 fun i_12 => nxK h5 fun i_13 => wrK h_11 i_12 0 (.func (Fn.func f_a5) #[] #[.pointer (some ⟨i_13, 0, none⟩), .pointer (some ⟨i_9, 0, none⟩), .pointer (some ⟨i_5, 0, none⟩), .pointer (some ⟨i_6, 0, none⟩), .pointer (some ⟨i_12, 0, none⟩)]) fun h7 => rdK h7 i_12 0 fun v8 => vFun v8 fun m9 l10 l11 => C m9 (l10 ++ iv 0 :: l11) h7 fun v12 h13 => vSlE v12 fun p14 m15 m16 => RI h13 i_13 0 fun n18 => neC n18 0 (RI h13 i_13 0 fun n20 => RI h13 i_13 1 fun n22 => nxK h_1 fun i_14 => wrLK i_14 [iv n20, iv n22] h13 0 fun h23 => RI h23 i_14 0 fun n25 => RI h23 i_14 1 fun n27 => Q (.tuple #[.slice none 0 0, .agg #[iv n25, iv n27]]) h23) (nxK h_1 fun i_15 => wrLK i_15 [iv 0, iv 0] h13 0 fun h28 => RI h28 i_15 0 fun n30 => RI h28 i_15 1 fun n32 => Q (.tuple #[.slice p14 m15 m16, .agg #[iv n30, iv n32]]) h28)
  | _ => False
noncomputable def d_gb : BodyT := fun C D a h Q => match a with
  | [.slice p1 m2 m3] => fN m2 fun m2 => fN m3 fun m3 => C f_gs [.slice p1 m2 m3, .func (Fn.func f_gc) #[] #[]] h fun v4 h5 => vIntE' .i64 v4 fun n6 => Q (iv (if Int.negSucc 0 > n6 then Int.negSucc 0 else n6)) h5
  | _ => False
theorem kk_ev9 : (KE P d_e3 f_e3 0 0) ∧ (KE P d_hc f_hc 0 0) ∧ (KE P d_g5 f_g5 0 0) ∧ (KE P d_co f_co 0 0) ∧ (KE P d_ih f_ih 0 0) ∧ (KE P d_ij f_ih 14 62317447149786236929) ∧ (KE P d_fr f_fr 0 0) ∧ (KE P d_fs f_fr 15 3147777) ∧ (KE P d_cb f_cb 0 0) ∧ (KE P d_cc f_cb 4 13971237892) ∧ (KE P d_ek f_ek 0 0) ∧ (KE P d_e6 f_e6 0 0) ∧ (KE P d_eb f_e6 10 57904382574574105006081) ∧ (KE P d_e7 f_e6 31 15772502896676865) ∧ (KE P d_e8 f_e6 33 20088520068772598386689) ∧ (KE P d_e9 f_e6 48 22989679092746726917804033) ∧ (KE P d_ea f_e6 51 26535224407301820417) ∧ (KE P d_fk f_fk 0 0) ∧ (KE P d_a3 f_a3 0 0) ∧ (KE P d_gb f_gb 0 0) := by
  refine ⟨?a0, ?a1, ?a2, ?a3, ?a4, ?a5, ?a6, ?a7, ?a8, ?a9, ?a10, ?a11, ?a12, ?a13, ?a14, ?a15, ?a16, ?a17, ?a18, ?a19⟩
  all_goals intro C D hC hD a h Q H
  case' a0 => unfold d_e3 at H; split at H; refine r_e3 ?_
  case' a1 => unfold d_hc at H; split at H; refine r_hc ?_
  case' a2 => unfold d_g5 at H; split at H; refine r_g5 ?_
  case' a3 => unfold d_co at H; split at H; refine r_co ?_
  case' a4 => unfold d_ih at H; split at H; refine r_ih ?_
  case' a5 => unfold d_ij at H; split at H; refine r_ij ?_
  case' a6 => unfold d_fr at H; split at H; refine r_fr ?_
  case' a7 => unfold d_fs at H; split at H; refine r_fs ?_
  case' a8 => unfold d_cb at H; split at H; refine r_cb ?_
  case' a9 => unfold d_cc at H; split at H; refine r_cc ?_
  case' a10 => unfold d_ek at H; split at H; refine r_ek ?_
  case' a11 => unfold d_e6 at H; split at H; refine r_e6 ?_
  case' a12 => unfold d_eb at H; split at H; refine r_eb ?_
  case' a13 => unfold d_e7 at H; split at H; refine r_e7 ?_
  case' a14 => unfold d_e8 at H; split at H; refine r_e8 ?_
  case' a15 => unfold d_e9 at H; split at H; refine r_e9 ?_
  case' a16 => unfold d_ea at H; split at H; refine r_ea ?_
  case' a17 => unfold d_fk at H; split at H; refine r_fk ?_
  case' a18 => unfold d_a3 at H; split at H; refine r_a3 ?_
  case' a19 => unfold d_gb at H; split at H; refine r_gb ?_
  all_goals try exact H.elim
  all_goals try simp only [wI64_eq, addI_eq, subI_eq, szE_eq] at H
  all_goals revert H
  all_goals repeat' with_reducible first
 | refine qbs ti_ty_map_string_string rfl ti_ty_string rfl fun _ => ?_
 | refine qbt ti_ty_map_string_string rfl ti_ty_string rfl fun _ => ?_
 | refine qbu fun _ => ?_
 | refine qbr ti_ty_sl_sl_string rfl ti_ty_sl_string rfl rfl rfl ti_ty_sl_sl_string rfl fun _ _ => ?_
 | refine qbr ti_ty_sl_elab_pattern rfl ti_ty_elab_pattern rfl rfl rfl ti_ty_sl_elab_pattern rfl fun _ _ => ?_
 | refine qbr ti_ty_sl_string rfl ti_ty_string rfl rfl rfl ti_ty_sl_string rfl fun _ _ => ?_
 | refine qbs ti_ty_map_string_api_Job rfl ti_ty_string rfl fun _ => ?_
 | refine qaa fun _ => ?_
 | refine qab fun _ => ?_
 | refine qac ?_
 | refine qad ?_
 | refine qae ?_
 | refine qaf hC fun _ _ => ?_
 | refine qag hD (by decide)
 | refine qah (by with_unfolding_all rfl) (by with_unfolding_all rfl) ?_
 | refine qai ?_
 | refine qaj ?_
 | refine qak ?_
 | refine qam fun _ => ?_
 | refine qan fun _ => ?_
 | refine qao fun _ => ?_
 | refine qaq fun _ => ?_
 | refine qar fun _ => ?_
 | refine qas fun _ => ?_
 | refine qat ?_ ?_
 | refine qav ?_ ?_
 | refine qax ?_ ?_
 | refine qay ?_ ?_
 | refine qaz ?_ ?_
 | refine qba fun _ => ?_
 | refine qbb fun _ _ _ => ?_
 | refine qbc fun _ => ?_
 | refine qbd fun _ _ => ?_
 | refine qbe ?_
 | refine qbf fun _ => ?_
 | refine qbg fun _ _ => ?_
 | refine qbh fun _ _ => ?_
 | refine qbi fun _ => ?_
 | refine qbj ?_ fun _ _ => ?_
 | refine qbk fun _ => ?_
 | refine qbl fun _ => ?_
 | refine qbm fun _ _ _ => ?_
 | refine qbn fun _ => ?_
 | refine qbo ?_
 | refine qbp ?_
 | refine qbq ?_ ?_
 | exact id
noncomputable def e_e3 := en kk_ev9.1
noncomputable def e_hc := en kk_ev9.2.1
noncomputable def e_g5 := en kk_ev9.2.2.1
noncomputable def e_co := en kk_ev9.2.2.2.1
noncomputable def e_ih := en kk_ev9.2.2.2.2.1
noncomputable def e_ij := en kk_ev9.2.2.2.2.2.1
noncomputable def e_fr := en kk_ev9.2.2.2.2.2.2.1
noncomputable def e_fs := en kk_ev9.2.2.2.2.2.2.2.1
noncomputable def e_cb := en kk_ev9.2.2.2.2.2.2.2.2.1
noncomputable def e_cc := en kk_ev9.2.2.2.2.2.2.2.2.2.1
noncomputable def e_ek := en kk_ev9.2.2.2.2.2.2.2.2.2.2.1
noncomputable def e_e6 := en kk_ev9.2.2.2.2.2.2.2.2.2.2.2.1
noncomputable def e_eb := en kk_ev9.2.2.2.2.2.2.2.2.2.2.2.2.1
noncomputable def e_e7 := en kk_ev9.2.2.2.2.2.2.2.2.2.2.2.2.2.1
noncomputable def e_e8 := en kk_ev9.2.2.2.2.2.2.2.2.2.2.2.2.2.2.1
noncomputable def e_e9 := en kk_ev9.2.2.2.2.2.2.2.2.2.2.2.2.2.2.2.1
noncomputable def e_ea := en kk_ev9.2.2.2.2.2.2.2.2.2.2.2.2.2.2.2.2.1
noncomputable def e_fk := en kk_ev9.2.2.2.2.2.2.2.2.2.2.2.2.2.2.2.2.2.1
noncomputable def e_a3 := en kk_ev9.2.2.2.2.2.2.2.2.2.2.2.2.2.2.2.2.2.2.1
noncomputable def e_gb := en kk_ev9.2.2.2.2.2.2.2.2.2.2.2.2.2.2.2.2.2.2.2
end
end Go.Proofs.YtkbioibemcmanaaGreatDoor.E
end
