/- The types' facts of this seat, written by a program of mine (tys.py) and checked one by one. Conditions: none. -/
import Derived.Test.YtdhejeigbjmncaaE17
import Derived.Test.YtdhejeigbjmncaaChecked
namespace Go.Proofs.Ytdhejeigbjmncaa
open E
set_option maxRecDepth 100000
theorem TY_0 : szOf Try.prog 1 = 1 := by kernel_rfl
theorem TY_1 : aggOf Try.prog 1 = false := by kernel_rfl
theorem TY_2 : known Try.prog 1 = true := by kernel_rfl
theorem TY_3 : Try.prog.bytesOf 1 = 8 := by kernel_rfl
theorem TY_4 : elOf Try.prog 1 = none := by kernel_rfl
theorem TY_5 : isStr Try.prog 1 = false := by kernel_rfl
theorem TY_6 : isSl Try.prog 1 = false := by kernel_rfl
theorem TY_7 : isBoolT Try.prog 1 = false := by kernel_rfl
theorem TY_8 : zeroOf Try.prog 1 = some [.t .nilf] := by kernel_rfl
theorem TY_9 : isInt Try.prog 1 = none := by kernel_rfl
theorem TY_10 : szOf Try.prog 2 = 1 := by kernel_rfl
theorem TY_11 : aggOf Try.prog 2 = false := by kernel_rfl
theorem TY_12 : known Try.prog 2 = true := by kernel_rfl
theorem TY_13 : Try.prog.bytesOf 2 = 8 := by kernel_rfl
theorem TY_14 : elOf Try.prog 2 = none := by kernel_rfl
theorem TY_15 : isStr Try.prog 2 = false := by kernel_rfl
theorem TY_16 : isSl Try.prog 2 = false := by kernel_rfl
theorem TY_17 : isBoolT Try.prog 2 = false := by kernel_rfl
theorem TY_18 : zeroOf Try.prog 2 = some [.t (.int .i64 0)] := by kernel_rfl
theorem TY_19 : isInt Try.prog 2 = some .i64 := by kernel_rfl
theorem TY_20 : szOf Try.prog 3 = 1 := by kernel_rfl
theorem TY_21 : aggOf Try.prog 3 = false := by kernel_rfl
theorem TY_22 : known Try.prog 3 = true := by kernel_rfl
theorem TY_23 : Try.prog.bytesOf 3 = 8 := by kernel_rfl
theorem TY_24 : elOf Try.prog 3 = none := by kernel_rfl
theorem TY_25 : isStr Try.prog 3 = false := by kernel_rfl
theorem TY_26 : isSl Try.prog 3 = false := by kernel_rfl
theorem TY_27 : isBoolT Try.prog 3 = false := by kernel_rfl
theorem TY_28 : zeroOf Try.prog 3 = some [.t (.int .i64 0)] := by kernel_rfl
theorem TY_29 : isInt Try.prog 3 = some .i64 := by kernel_rfl
theorem TY_30 : szOf Try.prog 4 = 1 := by kernel_rfl
theorem TY_31 : aggOf Try.prog 4 = false := by kernel_rfl
theorem TY_32 : known Try.prog 4 = true := by kernel_rfl
theorem TY_33 : Try.prog.bytesOf 4 = 1 := by kernel_rfl
theorem TY_34 : elOf Try.prog 4 = none := by kernel_rfl
theorem TY_35 : isStr Try.prog 4 = false := by kernel_rfl
theorem TY_36 : isSl Try.prog 4 = false := by kernel_rfl
theorem TY_37 : isBoolT Try.prog 4 = true := by kernel_rfl
theorem TY_38 : zeroOf Try.prog 4 = some [.t (.bool false)] := by kernel_rfl
theorem TY_39 : isInt Try.prog 4 = none := by kernel_rfl
theorem TY_40 : szOf Try.prog 5 = 1 := by kernel_rfl
theorem TY_41 : aggOf Try.prog 5 = false := by kernel_rfl
theorem TY_42 : known Try.prog 5 = true := by kernel_rfl
theorem TY_43 : Try.prog.bytesOf 5 = 1 := by kernel_rfl
theorem TY_44 : elOf Try.prog 5 = none := by kernel_rfl
theorem TY_45 : isStr Try.prog 5 = false := by kernel_rfl
theorem TY_46 : isSl Try.prog 5 = false := by kernel_rfl
theorem TY_47 : isBoolT Try.prog 5 = false := by kernel_rfl
theorem TY_48 : zeroOf Try.prog 5 = some [.t (.int .u8 0)] := by kernel_rfl
theorem TY_49 : isInt Try.prog 5 = some .u8 := by kernel_rfl
theorem TY_50 : szOf Try.prog 6 = 1 := by kernel_rfl
theorem TY_51 : aggOf Try.prog 6 = false := by kernel_rfl
theorem TY_52 : known Try.prog 6 = true := by kernel_rfl
theorem TY_53 : Try.prog.bytesOf 6 = 1 := by kernel_rfl
theorem TY_54 : elOf Try.prog 6 = none := by kernel_rfl
theorem TY_55 : isStr Try.prog 6 = false := by kernel_rfl
theorem TY_56 : isSl Try.prog 6 = false := by kernel_rfl
theorem TY_57 : isBoolT Try.prog 6 = false := by kernel_rfl
theorem TY_58 : zeroOf Try.prog 6 = some [.t (.int .u8 0)] := by kernel_rfl
theorem TY_59 : isInt Try.prog 6 = some .u8 := by kernel_rfl
theorem TY_60 : szOf Try.prog 7 = 4 := by kernel_rfl
theorem TY_61 : aggOf Try.prog 7 = true := by kernel_rfl
theorem TY_62 : known Try.prog 7 = true := by kernel_rfl
theorem TY_63 : Try.prog.bytesOf 7 = 24 := by kernel_rfl
theorem TY_64 : elOf Try.prog 7 = none := by kernel_rfl
theorem TY_65 : isStr Try.prog 7 = false := by kernel_rfl
theorem TY_66 : isSl Try.prog 7 = false := by kernel_rfl
theorem TY_67 : isBoolT Try.prog 7 = false := by kernel_rfl
theorem TY_68 : strOK Try.prog 7 = true := by kernel_rfl
theorem TY_69 : fOf Try.prog 7 0 = some (0, 1, false) := by kernel_rfl
theorem TY_70 : fTy Try.prog 7 0 = 2 := by kernel_rfl
theorem TY_71 : fOf Try.prog 7 1 = some (1, 1, false) := by kernel_rfl
theorem TY_72 : fTy Try.prog 7 1 = 3 := by kernel_rfl
theorem TY_73 : fOf Try.prog 7 2 = some (2, 1, false) := by kernel_rfl
theorem TY_74 : fTy Try.prog 7 2 = 4 := by kernel_rfl
theorem TY_75 : fOf Try.prog 7 3 = some (3, 1, false) := by kernel_rfl
theorem TY_76 : fTy Try.prog 7 3 = 6 := by kernel_rfl
theorem TY_77 : zeroOf Try.prog 7 = some [.t (.int .i64 0), .t (.int .i64 0), .t (.bool false), .t (.int .u8 0)] := by kernel_rfl
theorem TY_78 : isInt Try.prog 7 = none := by kernel_rfl
theorem TY_79 : szOf Try.prog 8 = 4 := by kernel_rfl
theorem TY_80 : aggOf Try.prog 8 = true := by kernel_rfl
theorem TY_81 : known Try.prog 8 = true := by kernel_rfl
theorem TY_82 : Try.prog.bytesOf 8 = 24 := by kernel_rfl
theorem TY_83 : elOf Try.prog 8 = none := by kernel_rfl
theorem TY_84 : isStr Try.prog 8 = false := by kernel_rfl
theorem TY_85 : isSl Try.prog 8 = false := by kernel_rfl
theorem TY_86 : isBoolT Try.prog 8 = false := by kernel_rfl
theorem TY_87 : strOK Try.prog 8 = true := by kernel_rfl
theorem TY_88 : fOf Try.prog 8 0 = some (0, 1, false) := by kernel_rfl
theorem TY_89 : fTy Try.prog 8 0 = 2 := by kernel_rfl
theorem TY_90 : fOf Try.prog 8 1 = some (1, 1, false) := by kernel_rfl
theorem TY_91 : fTy Try.prog 8 1 = 3 := by kernel_rfl
theorem TY_92 : fOf Try.prog 8 2 = some (2, 1, false) := by kernel_rfl
theorem TY_93 : fTy Try.prog 8 2 = 4 := by kernel_rfl
theorem TY_94 : fOf Try.prog 8 3 = some (3, 1, false) := by kernel_rfl
theorem TY_95 : fTy Try.prog 8 3 = 6 := by kernel_rfl
theorem TY_96 : zeroOf Try.prog 8 = some [.t (.int .i64 0), .t (.int .i64 0), .t (.bool false), .t (.int .u8 0)] := by kernel_rfl
theorem TY_97 : isInt Try.prog 8 = none := by kernel_rfl
theorem TY_98 : szOf Try.prog 9 = 1 := by kernel_rfl
theorem TY_99 : aggOf Try.prog 9 = false := by kernel_rfl
theorem TY_100 : known Try.prog 9 = true := by kernel_rfl
theorem TY_101 : Try.prog.bytesOf 9 = 16 := by kernel_rfl
theorem TY_102 : elOf Try.prog 9 = none := by kernel_rfl
theorem TY_103 : isStr Try.prog 9 = true := by kernel_rfl
theorem TY_104 : isSl Try.prog 9 = false := by kernel_rfl
theorem TY_105 : isBoolT Try.prog 9 = false := by kernel_rfl
theorem TY_106 : zeroOf Try.prog 9 = some [.t (.str [])] := by kernel_rfl
theorem TY_107 : isInt Try.prog 9 = none := by kernel_rfl
theorem TY_108 : szOf Try.prog 10 = 1 := by kernel_rfl
theorem TY_109 : aggOf Try.prog 10 = false := by kernel_rfl
theorem TY_110 : known Try.prog 10 = true := by kernel_rfl
theorem TY_111 : Try.prog.bytesOf 10 = 16 := by kernel_rfl
theorem TY_112 : elOf Try.prog 10 = none := by kernel_rfl
theorem TY_113 : isStr Try.prog 10 = true := by kernel_rfl
theorem TY_114 : isSl Try.prog 10 = false := by kernel_rfl
theorem TY_115 : isBoolT Try.prog 10 = false := by kernel_rfl
theorem TY_116 : zeroOf Try.prog 10 = some [.t (.str [])] := by kernel_rfl
theorem TY_117 : isInt Try.prog 10 = none := by kernel_rfl
theorem TY_118 : szOf Try.prog 11 = 1 := by kernel_rfl
theorem TY_119 : aggOf Try.prog 11 = false := by kernel_rfl
theorem TY_120 : known Try.prog 11 = true := by kernel_rfl
theorem TY_121 : Try.prog.bytesOf 11 = 16 := by kernel_rfl
theorem TY_122 : elOf Try.prog 11 = none := by kernel_rfl
theorem TY_123 : isStr Try.prog 11 = true := by kernel_rfl
theorem TY_124 : isSl Try.prog 11 = false := by kernel_rfl
theorem TY_125 : isBoolT Try.prog 11 = false := by kernel_rfl
theorem TY_126 : zeroOf Try.prog 11 = some [.t (.str [])] := by kernel_rfl
theorem TY_127 : isInt Try.prog 11 = none := by kernel_rfl
theorem TY_128 : szOf Try.prog 12 = 1 := by kernel_rfl
theorem TY_129 : aggOf Try.prog 12 = false := by kernel_rfl
theorem TY_130 : known Try.prog 12 = true := by kernel_rfl
theorem TY_131 : Try.prog.bytesOf 12 = 8 := by kernel_rfl
theorem TY_132 : elOf Try.prog 12 = none := by kernel_rfl
theorem TY_133 : isStr Try.prog 12 = false := by kernel_rfl
theorem TY_134 : isSl Try.prog 12 = false := by kernel_rfl
theorem TY_135 : isBoolT Try.prog 12 = false := by kernel_rfl
theorem TY_136 : zeroOf Try.prog 12 = some [.t (.int .u64 0)] := by kernel_rfl
theorem TY_137 : isInt Try.prog 12 = some .u64 := by kernel_rfl
theorem TY_138 : szOf Try.prog 13 = 2 := by kernel_rfl
theorem TY_139 : aggOf Try.prog 13 = true := by kernel_rfl
theorem TY_140 : known Try.prog 13 = true := by kernel_rfl
theorem TY_141 : Try.prog.bytesOf 13 = 24 := by kernel_rfl
theorem TY_142 : elOf Try.prog 13 = none := by kernel_rfl
theorem TY_143 : isStr Try.prog 13 = false := by kernel_rfl
theorem TY_144 : isSl Try.prog 13 = false := by kernel_rfl
theorem TY_145 : isBoolT Try.prog 13 = false := by kernel_rfl
theorem TY_146 : strOK Try.prog 13 = true := by kernel_rfl
theorem TY_147 : fOf Try.prog 13 0 = some (0, 1, false) := by kernel_rfl
theorem TY_148 : fTy Try.prog 13 0 = 9 := by kernel_rfl
theorem TY_149 : fOf Try.prog 13 1 = some (1, 1, false) := by kernel_rfl
theorem TY_150 : fTy Try.prog 13 1 = 12 := by kernel_rfl
theorem TY_151 : zeroOf Try.prog 13 = some [.t (.str []), .t (.int .u64 0)] := by kernel_rfl
theorem TY_152 : isInt Try.prog 13 = none := by kernel_rfl
theorem TY_153 : szOf Try.prog 14 = 2 := by kernel_rfl
theorem TY_154 : aggOf Try.prog 14 = true := by kernel_rfl
theorem TY_155 : known Try.prog 14 = true := by kernel_rfl
theorem TY_156 : Try.prog.bytesOf 14 = 24 := by kernel_rfl
theorem TY_157 : elOf Try.prog 14 = none := by kernel_rfl
theorem TY_158 : isStr Try.prog 14 = false := by kernel_rfl
theorem TY_159 : isSl Try.prog 14 = false := by kernel_rfl
theorem TY_160 : isBoolT Try.prog 14 = false := by kernel_rfl
theorem TY_161 : strOK Try.prog 14 = true := by kernel_rfl
theorem TY_162 : fOf Try.prog 14 0 = some (0, 1, false) := by kernel_rfl
theorem TY_163 : fTy Try.prog 14 0 = 9 := by kernel_rfl
theorem TY_164 : fOf Try.prog 14 1 = some (1, 1, false) := by kernel_rfl
theorem TY_165 : fTy Try.prog 14 1 = 12 := by kernel_rfl
theorem TY_166 : zeroOf Try.prog 14 = some [.t (.str []), .t (.int .u64 0)] := by kernel_rfl
theorem TY_167 : isInt Try.prog 14 = none := by kernel_rfl
theorem TY_168 : szOf Try.prog 15 = 1 := by kernel_rfl
theorem TY_169 : aggOf Try.prog 15 = false := by kernel_rfl
theorem TY_170 : known Try.prog 15 = true := by kernel_rfl
theorem TY_171 : Try.prog.bytesOf 15 = 8 := by kernel_rfl
theorem TY_172 : elOf Try.prog 15 = none := by kernel_rfl
theorem TY_173 : isStr Try.prog 15 = false := by kernel_rfl
theorem TY_174 : isSl Try.prog 15 = false := by kernel_rfl
theorem TY_175 : isBoolT Try.prog 15 = false := by kernel_rfl
theorem TY_176 : zeroOf Try.prog 15 = some [.t .nilp] := by kernel_rfl
theorem TY_177 : isInt Try.prog 15 = none := by kernel_rfl
theorem TY_178 : szOf Try.prog 16 = 1 := by kernel_rfl
theorem TY_179 : aggOf Try.prog 16 = false := by kernel_rfl
theorem TY_180 : known Try.prog 16 = true := by kernel_rfl
theorem TY_181 : Try.prog.bytesOf 16 = 8 := by kernel_rfl
theorem TY_182 : elOf Try.prog 16 = none := by kernel_rfl
theorem TY_183 : isStr Try.prog 16 = false := by kernel_rfl
theorem TY_184 : isSl Try.prog 16 = false := by kernel_rfl
theorem TY_185 : isBoolT Try.prog 16 = false := by kernel_rfl
theorem TY_186 : zeroOf Try.prog 16 = some [.t .nilp] := by kernel_rfl
theorem TY_187 : isInt Try.prog 16 = none := by kernel_rfl
theorem TY_188 : szOf Try.prog 17 = 1 := by kernel_rfl
theorem TY_189 : aggOf Try.prog 17 = false := by kernel_rfl
theorem TY_190 : known Try.prog 17 = true := by kernel_rfl
theorem TY_191 : Try.prog.bytesOf 17 = 8 := by kernel_rfl
theorem TY_192 : elOf Try.prog 17 = none := by kernel_rfl
theorem TY_193 : isStr Try.prog 17 = false := by kernel_rfl
theorem TY_194 : isSl Try.prog 17 = false := by kernel_rfl
theorem TY_195 : isBoolT Try.prog 17 = false := by kernel_rfl
theorem TY_196 : zeroOf Try.prog 17 = some [.t .nilp] := by kernel_rfl
theorem TY_197 : isInt Try.prog 17 = none := by kernel_rfl
theorem TY_198 : szOf Try.prog 18 = 1 := by kernel_rfl
theorem TY_199 : aggOf Try.prog 18 = true := by kernel_rfl
theorem TY_200 : known Try.prog 18 = true := by kernel_rfl
theorem TY_201 : Try.prog.bytesOf 18 = 8 := by kernel_rfl
theorem TY_202 : elOf Try.prog 18 = none := by kernel_rfl
theorem TY_203 : isStr Try.prog 18 = false := by kernel_rfl
theorem TY_204 : isSl Try.prog 18 = false := by kernel_rfl
theorem TY_205 : isBoolT Try.prog 18 = false := by kernel_rfl
theorem TY_206 : strOK Try.prog 18 = true := by kernel_rfl
theorem TY_207 : fOf Try.prog 18 0 = some (0, 1, false) := by kernel_rfl
theorem TY_208 : fTy Try.prog 18 0 = 17 := by kernel_rfl
theorem TY_209 : zeroOf Try.prog 18 = some [.t .nilp] := by kernel_rfl
theorem TY_210 : isInt Try.prog 18 = none := by kernel_rfl
theorem TY_211 : szOf Try.prog 19 = 1 := by kernel_rfl
theorem TY_212 : aggOf Try.prog 19 = true := by kernel_rfl
theorem TY_213 : known Try.prog 19 = true := by kernel_rfl
theorem TY_214 : Try.prog.bytesOf 19 = 8 := by kernel_rfl
theorem TY_215 : elOf Try.prog 19 = none := by kernel_rfl
theorem TY_216 : isStr Try.prog 19 = false := by kernel_rfl
theorem TY_217 : isSl Try.prog 19 = false := by kernel_rfl
theorem TY_218 : isBoolT Try.prog 19 = false := by kernel_rfl
theorem TY_219 : strOK Try.prog 19 = true := by kernel_rfl
theorem TY_220 : fOf Try.prog 19 0 = some (0, 1, false) := by kernel_rfl
theorem TY_221 : fTy Try.prog 19 0 = 17 := by kernel_rfl
theorem TY_222 : zeroOf Try.prog 19 = some [.t .nilp] := by kernel_rfl
theorem TY_223 : isInt Try.prog 19 = none := by kernel_rfl
theorem TY_224 : szOf Try.prog 20 = 1 := by kernel_rfl
theorem TY_225 : aggOf Try.prog 20 = false := by kernel_rfl
theorem TY_226 : known Try.prog 20 = true := by kernel_rfl
theorem TY_227 : Try.prog.bytesOf 20 = 16 := by kernel_rfl
theorem TY_228 : elOf Try.prog 20 = none := by kernel_rfl
theorem TY_229 : isStr Try.prog 20 = false := by kernel_rfl
theorem TY_230 : isSl Try.prog 20 = false := by kernel_rfl
theorem TY_231 : isBoolT Try.prog 20 = false := by kernel_rfl
theorem TY_232 : zeroOf Try.prog 20 = some [.t .nili] := by kernel_rfl
theorem TY_233 : isInt Try.prog 20 = none := by kernel_rfl
theorem TY_234 : szOf Try.prog 21 = 1 := by kernel_rfl
theorem TY_235 : aggOf Try.prog 21 = false := by kernel_rfl
theorem TY_236 : known Try.prog 21 = true := by kernel_rfl
theorem TY_237 : Try.prog.bytesOf 21 = 4 := by kernel_rfl
theorem TY_238 : elOf Try.prog 21 = none := by kernel_rfl
theorem TY_239 : isStr Try.prog 21 = false := by kernel_rfl
theorem TY_240 : isSl Try.prog 21 = false := by kernel_rfl
theorem TY_241 : isBoolT Try.prog 21 = false := by kernel_rfl
theorem TY_242 : zeroOf Try.prog 21 = some [.t (.int .i32 0)] := by kernel_rfl
theorem TY_243 : isInt Try.prog 21 = some .i32 := by kernel_rfl
theorem TY_244 : szOf Try.prog 22 = 1 := by kernel_rfl
theorem TY_245 : aggOf Try.prog 22 = false := by kernel_rfl
theorem TY_246 : known Try.prog 22 = true := by kernel_rfl
theorem TY_247 : Try.prog.bytesOf 22 = 24 := by kernel_rfl
theorem TY_248 : elOf Try.prog 22 = some 32 := by kernel_rfl
theorem TY_249 : isStr Try.prog 22 = false := by kernel_rfl
theorem TY_250 : isSl Try.prog 22 = true := by kernel_rfl
theorem TY_251 : isBoolT Try.prog 22 = false := by kernel_rfl
theorem TY_252 : zeroOf Try.prog 22 = some [.nil 2] := by kernel_rfl
theorem TY_253 : isInt Try.prog 22 = none := by kernel_rfl
theorem TY_254 : szOf Try.prog 23 = 1 := by kernel_rfl
theorem TY_255 : aggOf Try.prog 23 = false := by kernel_rfl
theorem TY_256 : known Try.prog 23 = true := by kernel_rfl
theorem TY_257 : Try.prog.bytesOf 23 = 8 := by kernel_rfl
theorem TY_258 : elOf Try.prog 23 = none := by kernel_rfl
theorem TY_259 : isStr Try.prog 23 = false := by kernel_rfl
theorem TY_260 : isSl Try.prog 23 = false := by kernel_rfl
theorem TY_261 : isBoolT Try.prog 23 = false := by kernel_rfl
theorem TY_262 : zeroOf Try.prog 23 = some [.t .nilf] := by kernel_rfl
theorem TY_263 : isInt Try.prog 23 = none := by kernel_rfl
theorem TY_264 : szOf Try.prog 24 = 1 := by kernel_rfl
theorem TY_265 : aggOf Try.prog 24 = false := by kernel_rfl
theorem TY_266 : known Try.prog 24 = true := by kernel_rfl
theorem TY_267 : Try.prog.bytesOf 24 = 8 := by kernel_rfl
theorem TY_268 : elOf Try.prog 24 = none := by kernel_rfl
theorem TY_269 : isStr Try.prog 24 = false := by kernel_rfl
theorem TY_270 : isSl Try.prog 24 = false := by kernel_rfl
theorem TY_271 : isBoolT Try.prog 24 = false := by kernel_rfl
theorem TY_272 : zeroOf Try.prog 24 = some [.t .nilf] := by kernel_rfl
theorem TY_273 : isInt Try.prog 24 = none := by kernel_rfl
theorem TY_274 : szOf Try.prog 25 = 1 := by kernel_rfl
theorem TY_275 : aggOf Try.prog 25 = false := by kernel_rfl
theorem TY_276 : known Try.prog 25 = true := by kernel_rfl
theorem TY_277 : Try.prog.bytesOf 25 = 24 := by kernel_rfl
theorem TY_278 : elOf Try.prog 25 = some 36 := by kernel_rfl
theorem TY_279 : isStr Try.prog 25 = false := by kernel_rfl
theorem TY_280 : isSl Try.prog 25 = true := by kernel_rfl
theorem TY_281 : isBoolT Try.prog 25 = false := by kernel_rfl
theorem TY_282 : zeroOf Try.prog 25 = some [.nil 2] := by kernel_rfl
theorem TY_283 : isInt Try.prog 25 = none := by kernel_rfl
theorem TY_284 : szOf Try.prog 26 = 1 := by kernel_rfl
theorem TY_285 : aggOf Try.prog 26 = false := by kernel_rfl
theorem TY_286 : known Try.prog 26 = true := by kernel_rfl
theorem TY_287 : Try.prog.bytesOf 26 = 8 := by kernel_rfl
theorem TY_288 : elOf Try.prog 26 = none := by kernel_rfl
theorem TY_289 : isStr Try.prog 26 = false := by kernel_rfl
theorem TY_290 : isSl Try.prog 26 = false := by kernel_rfl
theorem TY_291 : isBoolT Try.prog 26 = false := by kernel_rfl
theorem TY_292 : zeroOf Try.prog 26 = some [.t .nilf] := by kernel_rfl
theorem TY_293 : isInt Try.prog 26 = none := by kernel_rfl
theorem TY_294 : szOf Try.prog 27 = 1 := by kernel_rfl
theorem TY_295 : aggOf Try.prog 27 = false := by kernel_rfl
theorem TY_296 : known Try.prog 27 = true := by kernel_rfl
theorem TY_297 : Try.prog.bytesOf 27 = 8 := by kernel_rfl
theorem TY_298 : elOf Try.prog 27 = none := by kernel_rfl
theorem TY_299 : isStr Try.prog 27 = false := by kernel_rfl
theorem TY_300 : isSl Try.prog 27 = false := by kernel_rfl
theorem TY_301 : isBoolT Try.prog 27 = false := by kernel_rfl
theorem TY_302 : zeroOf Try.prog 27 = some [.t .nilf] := by kernel_rfl
theorem TY_303 : isInt Try.prog 27 = none := by kernel_rfl
theorem TY_304 : szOf Try.prog 28 = 1 := by kernel_rfl
theorem TY_305 : aggOf Try.prog 28 = false := by kernel_rfl
theorem TY_306 : known Try.prog 28 = true := by kernel_rfl
theorem TY_307 : Try.prog.bytesOf 28 = 8 := by kernel_rfl
theorem TY_308 : elOf Try.prog 28 = none := by kernel_rfl
theorem TY_309 : isStr Try.prog 28 = false := by kernel_rfl
theorem TY_310 : isSl Try.prog 28 = false := by kernel_rfl
theorem TY_311 : isBoolT Try.prog 28 = false := by kernel_rfl
theorem TY_312 : zeroOf Try.prog 28 = some [.t .nilf] := by kernel_rfl
theorem TY_313 : isInt Try.prog 28 = none := by kernel_rfl
theorem TY_314 : szOf Try.prog 29 = 1 := by kernel_rfl
theorem TY_315 : aggOf Try.prog 29 = false := by kernel_rfl
theorem TY_316 : known Try.prog 29 = true := by kernel_rfl
theorem TY_317 : Try.prog.bytesOf 29 = 8 := by kernel_rfl
theorem TY_318 : elOf Try.prog 29 = none := by kernel_rfl
theorem TY_319 : isStr Try.prog 29 = false := by kernel_rfl
theorem TY_320 : isSl Try.prog 29 = false := by kernel_rfl
theorem TY_321 : isBoolT Try.prog 29 = false := by kernel_rfl
theorem TY_322 : zeroOf Try.prog 29 = some [.t .nilf] := by kernel_rfl
theorem TY_323 : isInt Try.prog 29 = none := by kernel_rfl
theorem TY_324 : szOf Try.prog 30 = 1 := by kernel_rfl
theorem TY_325 : aggOf Try.prog 30 = false := by kernel_rfl
theorem TY_326 : known Try.prog 30 = true := by kernel_rfl
theorem TY_327 : Try.prog.bytesOf 30 = 24 := by kernel_rfl
theorem TY_328 : elOf Try.prog 30 = some 63 := by kernel_rfl
theorem TY_329 : isStr Try.prog 30 = false := by kernel_rfl
theorem TY_330 : isSl Try.prog 30 = true := by kernel_rfl
theorem TY_331 : isBoolT Try.prog 30 = false := by kernel_rfl
theorem TY_332 : zeroOf Try.prog 30 = some [.nil 4] := by kernel_rfl
theorem TY_333 : isInt Try.prog 30 = none := by kernel_rfl
theorem TY_334 : szOf Try.prog 31 = 2 := by kernel_rfl
theorem TY_335 : aggOf Try.prog 31 = true := by kernel_rfl
theorem TY_336 : known Try.prog 31 = true := by kernel_rfl
theorem TY_337 : Try.prog.bytesOf 31 = 40 := by kernel_rfl
theorem TY_338 : elOf Try.prog 31 = none := by kernel_rfl
theorem TY_339 : isStr Try.prog 31 = false := by kernel_rfl
theorem TY_340 : isSl Try.prog 31 = false := by kernel_rfl
theorem TY_341 : isBoolT Try.prog 31 = false := by kernel_rfl
theorem TY_342 : strOK Try.prog 31 = true := by kernel_rfl
theorem TY_343 : fOf Try.prog 31 0 = some (0, 1, false) := by kernel_rfl
theorem TY_344 : fTy Try.prog 31 0 = 9 := by kernel_rfl
theorem TY_345 : fOf Try.prog 31 1 = some (1, 1, false) := by kernel_rfl
theorem TY_346 : fTy Try.prog 31 1 = 30 := by kernel_rfl
theorem TY_347 : zeroOf Try.prog 31 = some [.t (.str []), .nil 4] := by kernel_rfl
theorem TY_348 : isInt Try.prog 31 = none := by kernel_rfl
theorem TY_349 : szOf Try.prog 32 = 2 := by kernel_rfl
theorem TY_350 : aggOf Try.prog 32 = true := by kernel_rfl
theorem TY_351 : known Try.prog 32 = true := by kernel_rfl
theorem TY_352 : Try.prog.bytesOf 32 = 40 := by kernel_rfl
theorem TY_353 : elOf Try.prog 32 = none := by kernel_rfl
theorem TY_354 : isStr Try.prog 32 = false := by kernel_rfl
theorem TY_355 : isSl Try.prog 32 = false := by kernel_rfl
theorem TY_356 : isBoolT Try.prog 32 = false := by kernel_rfl
theorem TY_357 : strOK Try.prog 32 = true := by kernel_rfl
theorem TY_358 : fOf Try.prog 32 0 = some (0, 1, false) := by kernel_rfl
theorem TY_359 : fTy Try.prog 32 0 = 9 := by kernel_rfl
theorem TY_360 : fOf Try.prog 32 1 = some (1, 1, false) := by kernel_rfl
theorem TY_361 : fTy Try.prog 32 1 = 30 := by kernel_rfl
theorem TY_362 : zeroOf Try.prog 32 = some [.t (.str []), .nil 4] := by kernel_rfl
theorem TY_363 : isInt Try.prog 32 = none := by kernel_rfl
theorem TY_364 : szOf Try.prog 33 = 1 := by kernel_rfl
theorem TY_365 : aggOf Try.prog 33 = false := by kernel_rfl
theorem TY_366 : known Try.prog 33 = true := by kernel_rfl
theorem TY_367 : Try.prog.bytesOf 33 = 8 := by kernel_rfl
theorem TY_368 : elOf Try.prog 33 = none := by kernel_rfl
theorem TY_369 : isStr Try.prog 33 = false := by kernel_rfl
theorem TY_370 : isSl Try.prog 33 = false := by kernel_rfl
theorem TY_371 : isBoolT Try.prog 33 = false := by kernel_rfl
theorem TY_372 : zeroOf Try.prog 33 = some [.t .nilf] := by kernel_rfl
theorem TY_373 : isInt Try.prog 33 = none := by kernel_rfl
theorem TY_374 : szOf Try.prog 34 = 1 := by kernel_rfl
theorem TY_375 : aggOf Try.prog 34 = false := by kernel_rfl
theorem TY_376 : known Try.prog 34 = true := by kernel_rfl
theorem TY_377 : Try.prog.bytesOf 34 = 24 := by kernel_rfl
theorem TY_378 : elOf Try.prog 34 = some 40 := by kernel_rfl
theorem TY_379 : isStr Try.prog 34 = false := by kernel_rfl
theorem TY_380 : isSl Try.prog 34 = true := by kernel_rfl
theorem TY_381 : isBoolT Try.prog 34 = false := by kernel_rfl
theorem TY_382 : zeroOf Try.prog 34 = some [.nil 4] := by kernel_rfl
theorem TY_383 : isInt Try.prog 34 = none := by kernel_rfl
theorem TY_384 : szOf Try.prog 35 = 2 := by kernel_rfl
theorem TY_385 : aggOf Try.prog 35 = true := by kernel_rfl
theorem TY_386 : known Try.prog 35 = true := by kernel_rfl
theorem TY_387 : Try.prog.bytesOf 35 = 40 := by kernel_rfl
theorem TY_388 : elOf Try.prog 35 = none := by kernel_rfl
theorem TY_389 : isStr Try.prog 35 = false := by kernel_rfl
theorem TY_390 : isSl Try.prog 35 = false := by kernel_rfl
theorem TY_391 : isBoolT Try.prog 35 = false := by kernel_rfl
theorem TY_392 : strOK Try.prog 35 = true := by kernel_rfl
theorem TY_393 : fOf Try.prog 35 0 = some (0, 1, false) := by kernel_rfl
theorem TY_394 : fTy Try.prog 35 0 = 9 := by kernel_rfl
theorem TY_395 : fOf Try.prog 35 1 = some (1, 1, false) := by kernel_rfl
theorem TY_396 : fTy Try.prog 35 1 = 34 := by kernel_rfl
theorem TY_397 : zeroOf Try.prog 35 = some [.t (.str []), .nil 4] := by kernel_rfl
theorem TY_398 : isInt Try.prog 35 = none := by kernel_rfl
theorem TY_399 : szOf Try.prog 36 = 2 := by kernel_rfl
theorem TY_400 : aggOf Try.prog 36 = true := by kernel_rfl
theorem TY_401 : known Try.prog 36 = true := by kernel_rfl
theorem TY_402 : Try.prog.bytesOf 36 = 40 := by kernel_rfl
theorem TY_403 : elOf Try.prog 36 = none := by kernel_rfl
theorem TY_404 : isStr Try.prog 36 = false := by kernel_rfl
theorem TY_405 : isSl Try.prog 36 = false := by kernel_rfl
theorem TY_406 : isBoolT Try.prog 36 = false := by kernel_rfl
theorem TY_407 : strOK Try.prog 36 = true := by kernel_rfl
theorem TY_408 : fOf Try.prog 36 0 = some (0, 1, false) := by kernel_rfl
theorem TY_409 : fTy Try.prog 36 0 = 9 := by kernel_rfl
theorem TY_410 : fOf Try.prog 36 1 = some (1, 1, false) := by kernel_rfl
theorem TY_411 : fTy Try.prog 36 1 = 34 := by kernel_rfl
theorem TY_412 : zeroOf Try.prog 36 = some [.t (.str []), .nil 4] := by kernel_rfl
theorem TY_413 : isInt Try.prog 36 = none := by kernel_rfl
theorem TY_414 : szOf Try.prog 37 = 1 := by kernel_rfl
theorem TY_415 : aggOf Try.prog 37 = false := by kernel_rfl
theorem TY_416 : known Try.prog 37 = true := by kernel_rfl
theorem TY_417 : Try.prog.bytesOf 37 = 8 := by kernel_rfl
theorem TY_418 : elOf Try.prog 37 = none := by kernel_rfl
theorem TY_419 : isStr Try.prog 37 = false := by kernel_rfl
theorem TY_420 : isSl Try.prog 37 = false := by kernel_rfl
theorem TY_421 : isBoolT Try.prog 37 = false := by kernel_rfl
theorem TY_422 : zeroOf Try.prog 37 = some [.t .nilf] := by kernel_rfl
theorem TY_423 : isInt Try.prog 37 = none := by kernel_rfl
theorem TY_424 : szOf Try.prog 38 = 1 := by kernel_rfl
theorem TY_425 : aggOf Try.prog 38 = false := by kernel_rfl
theorem TY_426 : known Try.prog 38 = true := by kernel_rfl
theorem TY_427 : Try.prog.bytesOf 38 = 24 := by kernel_rfl
theorem TY_428 : elOf Try.prog 38 = some 9 := by kernel_rfl
theorem TY_429 : isStr Try.prog 38 = false := by kernel_rfl
theorem TY_430 : isSl Try.prog 38 = true := by kernel_rfl
theorem TY_431 : isBoolT Try.prog 38 = false := by kernel_rfl
theorem TY_432 : zeroOf Try.prog 38 = some [.nil 1] := by kernel_rfl
theorem TY_433 : isInt Try.prog 38 = none := by kernel_rfl
theorem TY_434 : szOf Try.prog 39 = 4 := by kernel_rfl
theorem TY_435 : aggOf Try.prog 39 = true := by kernel_rfl
theorem TY_436 : known Try.prog 39 = true := by kernel_rfl
theorem TY_437 : Try.prog.bytesOf 39 = 64 := by kernel_rfl
theorem TY_438 : elOf Try.prog 39 = none := by kernel_rfl
theorem TY_439 : isStr Try.prog 39 = false := by kernel_rfl
theorem TY_440 : isSl Try.prog 39 = false := by kernel_rfl
theorem TY_441 : isBoolT Try.prog 39 = false := by kernel_rfl
theorem TY_442 : strOK Try.prog 39 = true := by kernel_rfl
theorem TY_443 : fOf Try.prog 39 0 = some (0, 1, false) := by kernel_rfl
theorem TY_444 : fTy Try.prog 39 0 = 9 := by kernel_rfl
theorem TY_445 : fOf Try.prog 39 1 = some (1, 1, false) := by kernel_rfl
theorem TY_446 : fTy Try.prog 39 1 = 9 := by kernel_rfl
theorem TY_447 : fOf Try.prog 39 2 = some (2, 1, false) := by kernel_rfl
theorem TY_448 : fTy Try.prog 39 2 = 38 := by kernel_rfl
theorem TY_449 : fOf Try.prog 39 3 = some (3, 1, false) := by kernel_rfl
theorem TY_450 : fTy Try.prog 39 3 = 4 := by kernel_rfl
theorem TY_451 : zeroOf Try.prog 39 = some [.t (.str []), .t (.str []), .nil 1, .t (.bool false)] := by kernel_rfl
theorem TY_452 : isInt Try.prog 39 = none := by kernel_rfl
theorem TY_453 : szOf Try.prog 40 = 4 := by kernel_rfl
theorem TY_454 : aggOf Try.prog 40 = true := by kernel_rfl
theorem TY_455 : known Try.prog 40 = true := by kernel_rfl
theorem TY_456 : Try.prog.bytesOf 40 = 64 := by kernel_rfl
theorem TY_457 : elOf Try.prog 40 = none := by kernel_rfl
theorem TY_458 : isStr Try.prog 40 = false := by kernel_rfl
theorem TY_459 : isSl Try.prog 40 = false := by kernel_rfl
theorem TY_460 : isBoolT Try.prog 40 = false := by kernel_rfl
theorem TY_461 : strOK Try.prog 40 = true := by kernel_rfl
theorem TY_462 : fOf Try.prog 40 0 = some (0, 1, false) := by kernel_rfl
theorem TY_463 : fTy Try.prog 40 0 = 9 := by kernel_rfl
theorem TY_464 : fOf Try.prog 40 1 = some (1, 1, false) := by kernel_rfl
theorem TY_465 : fTy Try.prog 40 1 = 9 := by kernel_rfl
theorem TY_466 : fOf Try.prog 40 2 = some (2, 1, false) := by kernel_rfl
theorem TY_467 : fTy Try.prog 40 2 = 38 := by kernel_rfl
theorem TY_468 : fOf Try.prog 40 3 = some (3, 1, false) := by kernel_rfl
theorem TY_469 : fTy Try.prog 40 3 = 4 := by kernel_rfl
theorem TY_470 : zeroOf Try.prog 40 = some [.t (.str []), .t (.str []), .nil 1, .t (.bool false)] := by kernel_rfl
theorem TY_471 : isInt Try.prog 40 = none := by kernel_rfl
theorem TY_472 : szOf Try.prog 41 = 1 := by kernel_rfl
theorem TY_473 : aggOf Try.prog 41 = false := by kernel_rfl
theorem TY_474 : known Try.prog 41 = true := by kernel_rfl
theorem TY_475 : Try.prog.bytesOf 41 = 8 := by kernel_rfl
theorem TY_476 : elOf Try.prog 41 = none := by kernel_rfl
theorem TY_477 : isStr Try.prog 41 = false := by kernel_rfl
theorem TY_478 : isSl Try.prog 41 = false := by kernel_rfl
theorem TY_479 : isBoolT Try.prog 41 = false := by kernel_rfl
theorem TY_480 : zeroOf Try.prog 41 = some [.t .nilf] := by kernel_rfl
theorem TY_481 : isInt Try.prog 41 = none := by kernel_rfl
theorem TY_482 : szOf Try.prog 42 = 1 := by kernel_rfl
theorem TY_483 : aggOf Try.prog 42 = false := by kernel_rfl
theorem TY_484 : known Try.prog 42 = true := by kernel_rfl
theorem TY_485 : Try.prog.bytesOf 42 = 8 := by kernel_rfl
theorem TY_486 : elOf Try.prog 42 = none := by kernel_rfl
theorem TY_487 : isStr Try.prog 42 = false := by kernel_rfl
theorem TY_488 : isSl Try.prog 42 = false := by kernel_rfl
theorem TY_489 : isBoolT Try.prog 42 = false := by kernel_rfl
theorem TY_490 : zeroOf Try.prog 42 = some [.t .nilf] := by kernel_rfl
theorem TY_491 : isInt Try.prog 42 = none := by kernel_rfl
theorem TY_492 : szOf Try.prog 43 = 1 := by kernel_rfl
theorem TY_493 : aggOf Try.prog 43 = false := by kernel_rfl
theorem TY_494 : known Try.prog 43 = true := by kernel_rfl
theorem TY_495 : Try.prog.bytesOf 43 = 8 := by kernel_rfl
theorem TY_496 : elOf Try.prog 43 = none := by kernel_rfl
theorem TY_497 : isStr Try.prog 43 = false := by kernel_rfl
theorem TY_498 : isSl Try.prog 43 = false := by kernel_rfl
theorem TY_499 : isBoolT Try.prog 43 = false := by kernel_rfl
theorem TY_500 : zeroOf Try.prog 43 = some [.t .nilf] := by kernel_rfl
theorem TY_501 : isInt Try.prog 43 = none := by kernel_rfl
theorem TY_502 : szOf Try.prog 44 = 1 := by kernel_rfl
theorem TY_503 : aggOf Try.prog 44 = false := by kernel_rfl
theorem TY_504 : known Try.prog 44 = true := by kernel_rfl
theorem TY_505 : Try.prog.bytesOf 44 = 8 := by kernel_rfl
theorem TY_506 : elOf Try.prog 44 = none := by kernel_rfl
theorem TY_507 : isStr Try.prog 44 = false := by kernel_rfl
theorem TY_508 : isSl Try.prog 44 = false := by kernel_rfl
theorem TY_509 : isBoolT Try.prog 44 = false := by kernel_rfl
theorem TY_510 : zeroOf Try.prog 44 = some [.t .nilf] := by kernel_rfl
theorem TY_511 : isInt Try.prog 44 = none := by kernel_rfl
theorem TY_512 : szOf Try.prog 45 = 1 := by kernel_rfl
theorem TY_513 : aggOf Try.prog 45 = false := by kernel_rfl
theorem TY_514 : known Try.prog 45 = true := by kernel_rfl
theorem TY_515 : Try.prog.bytesOf 45 = 8 := by kernel_rfl
theorem TY_516 : elOf Try.prog 45 = none := by kernel_rfl
theorem TY_517 : isStr Try.prog 45 = false := by kernel_rfl
theorem TY_518 : isSl Try.prog 45 = false := by kernel_rfl
theorem TY_519 : isBoolT Try.prog 45 = false := by kernel_rfl
theorem TY_520 : zeroOf Try.prog 45 = some [.t .nilf] := by kernel_rfl
theorem TY_521 : isInt Try.prog 45 = none := by kernel_rfl
theorem TY_522 : szOf Try.prog 46 = 1 := by kernel_rfl
theorem TY_523 : aggOf Try.prog 46 = false := by kernel_rfl
theorem TY_524 : known Try.prog 46 = true := by kernel_rfl
theorem TY_525 : Try.prog.bytesOf 46 = 8 := by kernel_rfl
theorem TY_526 : elOf Try.prog 46 = none := by kernel_rfl
theorem TY_527 : isStr Try.prog 46 = false := by kernel_rfl
theorem TY_528 : isSl Try.prog 46 = false := by kernel_rfl
theorem TY_529 : isBoolT Try.prog 46 = false := by kernel_rfl
theorem TY_530 : zeroOf Try.prog 46 = some [.t .nilf] := by kernel_rfl
theorem TY_531 : isInt Try.prog 46 = none := by kernel_rfl
theorem TY_532 : szOf Try.prog 47 = 1 := by kernel_rfl
theorem TY_533 : aggOf Try.prog 47 = false := by kernel_rfl
theorem TY_534 : known Try.prog 47 = true := by kernel_rfl
theorem TY_535 : Try.prog.bytesOf 47 = 8 := by kernel_rfl
theorem TY_536 : elOf Try.prog 47 = none := by kernel_rfl
theorem TY_537 : isStr Try.prog 47 = false := by kernel_rfl
theorem TY_538 : isSl Try.prog 47 = false := by kernel_rfl
theorem TY_539 : isBoolT Try.prog 47 = false := by kernel_rfl
theorem TY_540 : zeroOf Try.prog 47 = some [.t .nilf] := by kernel_rfl
theorem TY_541 : isInt Try.prog 47 = none := by kernel_rfl
theorem TY_542 : szOf Try.prog 48 = 1 := by kernel_rfl
theorem TY_543 : aggOf Try.prog 48 = false := by kernel_rfl
theorem TY_544 : known Try.prog 48 = true := by kernel_rfl
theorem TY_545 : Try.prog.bytesOf 48 = 8 := by kernel_rfl
theorem TY_546 : elOf Try.prog 48 = none := by kernel_rfl
theorem TY_547 : isStr Try.prog 48 = false := by kernel_rfl
theorem TY_548 : isSl Try.prog 48 = false := by kernel_rfl
theorem TY_549 : isBoolT Try.prog 48 = false := by kernel_rfl
theorem TY_550 : zeroOf Try.prog 48 = some [.t .nilf] := by kernel_rfl
theorem TY_551 : isInt Try.prog 48 = none := by kernel_rfl
theorem TY_552 : szOf Try.prog 49 = 1 := by kernel_rfl
theorem TY_553 : aggOf Try.prog 49 = false := by kernel_rfl
theorem TY_554 : known Try.prog 49 = true := by kernel_rfl
theorem TY_555 : Try.prog.bytesOf 49 = 8 := by kernel_rfl
theorem TY_556 : elOf Try.prog 49 = none := by kernel_rfl
theorem TY_557 : isStr Try.prog 49 = false := by kernel_rfl
theorem TY_558 : isSl Try.prog 49 = false := by kernel_rfl
theorem TY_559 : isBoolT Try.prog 49 = false := by kernel_rfl
theorem TY_560 : zeroOf Try.prog 49 = some [.t .nilf] := by kernel_rfl
theorem TY_561 : isInt Try.prog 49 = none := by kernel_rfl
theorem TY_562 : szOf Try.prog 50 = 1 := by kernel_rfl
theorem TY_563 : aggOf Try.prog 50 = false := by kernel_rfl
theorem TY_564 : known Try.prog 50 = true := by kernel_rfl
theorem TY_565 : Try.prog.bytesOf 50 = 8 := by kernel_rfl
theorem TY_566 : elOf Try.prog 50 = none := by kernel_rfl
theorem TY_567 : isStr Try.prog 50 = false := by kernel_rfl
theorem TY_568 : isSl Try.prog 50 = false := by kernel_rfl
theorem TY_569 : isBoolT Try.prog 50 = false := by kernel_rfl
theorem TY_570 : zeroOf Try.prog 50 = some [.t .nilf] := by kernel_rfl
theorem TY_571 : isInt Try.prog 50 = none := by kernel_rfl
theorem TY_572 : szOf Try.prog 51 = 1 := by kernel_rfl
theorem TY_573 : aggOf Try.prog 51 = false := by kernel_rfl
theorem TY_574 : known Try.prog 51 = true := by kernel_rfl
theorem TY_575 : Try.prog.bytesOf 51 = 8 := by kernel_rfl
theorem TY_576 : elOf Try.prog 51 = none := by kernel_rfl
theorem TY_577 : isStr Try.prog 51 = false := by kernel_rfl
theorem TY_578 : isSl Try.prog 51 = false := by kernel_rfl
theorem TY_579 : isBoolT Try.prog 51 = false := by kernel_rfl
theorem TY_580 : zeroOf Try.prog 51 = some [.t .nilf] := by kernel_rfl
theorem TY_581 : isInt Try.prog 51 = none := by kernel_rfl
theorem TY_582 : szOf Try.prog 52 = 1 := by kernel_rfl
theorem TY_583 : aggOf Try.prog 52 = false := by kernel_rfl
theorem TY_584 : known Try.prog 52 = true := by kernel_rfl
theorem TY_585 : Try.prog.bytesOf 52 = 8 := by kernel_rfl
theorem TY_586 : elOf Try.prog 52 = none := by kernel_rfl
theorem TY_587 : isStr Try.prog 52 = false := by kernel_rfl
theorem TY_588 : isSl Try.prog 52 = false := by kernel_rfl
theorem TY_589 : isBoolT Try.prog 52 = false := by kernel_rfl
theorem TY_590 : zeroOf Try.prog 52 = some [.t .nilp] := by kernel_rfl
theorem TY_591 : isInt Try.prog 52 = none := by kernel_rfl
theorem TY_592 : szOf Try.prog 53 = 1 := by kernel_rfl
theorem TY_593 : aggOf Try.prog 53 = false := by kernel_rfl
theorem TY_594 : known Try.prog 53 = true := by kernel_rfl
theorem TY_595 : Try.prog.bytesOf 53 = 24 := by kernel_rfl
theorem TY_596 : elOf Try.prog 53 = some 5 := by kernel_rfl
theorem TY_597 : isStr Try.prog 53 = false := by kernel_rfl
theorem TY_598 : isSl Try.prog 53 = true := by kernel_rfl
theorem TY_599 : isBoolT Try.prog 53 = false := by kernel_rfl
theorem TY_600 : zeroOf Try.prog 53 = some [.nil 1] := by kernel_rfl
theorem TY_601 : isInt Try.prog 53 = none := by kernel_rfl
theorem TY_602 : szOf Try.prog 54 = 2 := by kernel_rfl
theorem TY_603 : aggOf Try.prog 54 = true := by kernel_rfl
theorem TY_604 : known Try.prog 54 = true := by kernel_rfl
theorem TY_605 : Try.prog.bytesOf 54 = 32 := by kernel_rfl
theorem TY_606 : elOf Try.prog 54 = none := by kernel_rfl
theorem TY_607 : isStr Try.prog 54 = false := by kernel_rfl
theorem TY_608 : isSl Try.prog 54 = false := by kernel_rfl
theorem TY_609 : isBoolT Try.prog 54 = false := by kernel_rfl
theorem TY_610 : strOK Try.prog 54 = true := by kernel_rfl
theorem TY_611 : fOf Try.prog 54 0 = some (0, 1, false) := by kernel_rfl
theorem TY_612 : fTy Try.prog 54 0 = 52 := by kernel_rfl
theorem TY_613 : fOf Try.prog 54 1 = some (1, 1, false) := by kernel_rfl
theorem TY_614 : fTy Try.prog 54 1 = 53 := by kernel_rfl
theorem TY_615 : zeroOf Try.prog 54 = some [.t .nilp, .nil 1] := by kernel_rfl
theorem TY_616 : isInt Try.prog 54 = none := by kernel_rfl
theorem TY_617 : szOf Try.prog 55 = 2 := by kernel_rfl
theorem TY_618 : aggOf Try.prog 55 = true := by kernel_rfl
theorem TY_619 : known Try.prog 55 = true := by kernel_rfl
theorem TY_620 : Try.prog.bytesOf 55 = 32 := by kernel_rfl
theorem TY_621 : elOf Try.prog 55 = none := by kernel_rfl
theorem TY_622 : isStr Try.prog 55 = false := by kernel_rfl
theorem TY_623 : isSl Try.prog 55 = false := by kernel_rfl
theorem TY_624 : isBoolT Try.prog 55 = false := by kernel_rfl
theorem TY_625 : strOK Try.prog 55 = true := by kernel_rfl
theorem TY_626 : fOf Try.prog 55 0 = some (0, 1, false) := by kernel_rfl
theorem TY_627 : fTy Try.prog 55 0 = 52 := by kernel_rfl
theorem TY_628 : fOf Try.prog 55 1 = some (1, 1, false) := by kernel_rfl
theorem TY_629 : fTy Try.prog 55 1 = 53 := by kernel_rfl
theorem TY_630 : zeroOf Try.prog 55 = some [.t .nilp, .nil 1] := by kernel_rfl
theorem TY_631 : isInt Try.prog 55 = none := by kernel_rfl
theorem TY_632 : szOf Try.prog 56 = 1 := by kernel_rfl
theorem TY_633 : aggOf Try.prog 56 = false := by kernel_rfl
theorem TY_634 : known Try.prog 56 = true := by kernel_rfl
theorem TY_635 : Try.prog.bytesOf 56 = 8 := by kernel_rfl
theorem TY_636 : elOf Try.prog 56 = none := by kernel_rfl
theorem TY_637 : isStr Try.prog 56 = false := by kernel_rfl
theorem TY_638 : isSl Try.prog 56 = false := by kernel_rfl
theorem TY_639 : isBoolT Try.prog 56 = false := by kernel_rfl
theorem TY_640 : zeroOf Try.prog 56 = some [.t .nilf] := by kernel_rfl
theorem TY_641 : isInt Try.prog 56 = none := by kernel_rfl
theorem TY_642 : szOf Try.prog 57 = 1 := by kernel_rfl
theorem TY_643 : aggOf Try.prog 57 = false := by kernel_rfl
theorem TY_644 : known Try.prog 57 = true := by kernel_rfl
theorem TY_645 : Try.prog.bytesOf 57 = 16 := by kernel_rfl
theorem TY_646 : elOf Try.prog 57 = none := by kernel_rfl
theorem TY_647 : isStr Try.prog 57 = false := by kernel_rfl
theorem TY_648 : isSl Try.prog 57 = false := by kernel_rfl
theorem TY_649 : isBoolT Try.prog 57 = false := by kernel_rfl
theorem TY_650 : zeroOf Try.prog 57 = some [.t .nili] := by kernel_rfl
theorem TY_651 : isInt Try.prog 57 = none := by kernel_rfl
theorem TY_652 : szOf Try.prog 58 = 1 := by kernel_rfl
theorem TY_653 : aggOf Try.prog 58 = false := by kernel_rfl
theorem TY_654 : known Try.prog 58 = true := by kernel_rfl
theorem TY_655 : Try.prog.bytesOf 58 = 16 := by kernel_rfl
theorem TY_656 : elOf Try.prog 58 = none := by kernel_rfl
theorem TY_657 : isStr Try.prog 58 = false := by kernel_rfl
theorem TY_658 : isSl Try.prog 58 = false := by kernel_rfl
theorem TY_659 : isBoolT Try.prog 58 = false := by kernel_rfl
theorem TY_660 : zeroOf Try.prog 58 = some [.t .nili] := by kernel_rfl
theorem TY_661 : isInt Try.prog 58 = none := by kernel_rfl
theorem TY_662 : szOf Try.prog 60 = 1 := by kernel_rfl
theorem TY_663 : aggOf Try.prog 60 = false := by kernel_rfl
theorem TY_664 : known Try.prog 60 = true := by kernel_rfl
theorem TY_665 : Try.prog.bytesOf 60 = 8 := by kernel_rfl
theorem TY_666 : elOf Try.prog 60 = none := by kernel_rfl
theorem TY_667 : isStr Try.prog 60 = false := by kernel_rfl
theorem TY_668 : isSl Try.prog 60 = false := by kernel_rfl
theorem TY_669 : isBoolT Try.prog 60 = false := by kernel_rfl
theorem TY_670 : zeroOf Try.prog 60 = some [.t .nilf] := by kernel_rfl
theorem TY_671 : isInt Try.prog 60 = none := by kernel_rfl
theorem TY_672 : szOf Try.prog 61 = 1 := by kernel_rfl
theorem TY_673 : aggOf Try.prog 61 = false := by kernel_rfl
theorem TY_674 : known Try.prog 61 = true := by kernel_rfl
theorem TY_675 : Try.prog.bytesOf 61 = 8 := by kernel_rfl
theorem TY_676 : elOf Try.prog 61 = none := by kernel_rfl
theorem TY_677 : isStr Try.prog 61 = false := by kernel_rfl
theorem TY_678 : isSl Try.prog 61 = false := by kernel_rfl
theorem TY_679 : isBoolT Try.prog 61 = false := by kernel_rfl
theorem TY_680 : zeroOf Try.prog 61 = some [.t .nilf] := by kernel_rfl
theorem TY_681 : isInt Try.prog 61 = none := by kernel_rfl
theorem TY_682 : szOf Try.prog 62 = 1 := by kernel_rfl
theorem TY_683 : aggOf Try.prog 62 = false := by kernel_rfl
theorem TY_684 : known Try.prog 62 = true := by kernel_rfl
theorem TY_685 : Try.prog.bytesOf 62 = 8 := by kernel_rfl
theorem TY_686 : elOf Try.prog 62 = none := by kernel_rfl
theorem TY_687 : isStr Try.prog 62 = false := by kernel_rfl
theorem TY_688 : isSl Try.prog 62 = false := by kernel_rfl
theorem TY_689 : isBoolT Try.prog 62 = false := by kernel_rfl
theorem TY_690 : zeroOf Try.prog 62 = some [.t .nilf] := by kernel_rfl
theorem TY_691 : isInt Try.prog 62 = none := by kernel_rfl
theorem TY_692 : szOf Try.prog 63 = 4 := by kernel_rfl
theorem TY_693 : aggOf Try.prog 63 = true := by kernel_rfl
theorem TY_694 : known Try.prog 63 = true := by kernel_rfl
theorem TY_695 : Try.prog.bytesOf 63 = 64 := by kernel_rfl
theorem TY_696 : elOf Try.prog 63 = none := by kernel_rfl
theorem TY_697 : isStr Try.prog 63 = false := by kernel_rfl
theorem TY_698 : isSl Try.prog 63 = false := by kernel_rfl
theorem TY_699 : isBoolT Try.prog 63 = false := by kernel_rfl
theorem TY_700 : strOK Try.prog 63 = true := by kernel_rfl
theorem TY_701 : fOf Try.prog 63 0 = some (0, 1, false) := by kernel_rfl
theorem TY_702 : fTy Try.prog 63 0 = 9 := by kernel_rfl
theorem TY_703 : fOf Try.prog 63 1 = some (1, 1, false) := by kernel_rfl
theorem TY_704 : fTy Try.prog 63 1 = 9 := by kernel_rfl
theorem TY_705 : fOf Try.prog 63 2 = some (2, 1, false) := by kernel_rfl
theorem TY_706 : fTy Try.prog 63 2 = 38 := by kernel_rfl
theorem TY_707 : fOf Try.prog 63 3 = some (3, 1, false) := by kernel_rfl
theorem TY_708 : fTy Try.prog 63 3 = 4 := by kernel_rfl
theorem TY_709 : zeroOf Try.prog 63 = some [.t (.str []), .t (.str []), .nil 1, .t (.bool false)] := by kernel_rfl
theorem TY_710 : isInt Try.prog 63 = none := by kernel_rfl
theorem TY_711 : szOf Try.prog 64 = 1 := by kernel_rfl
theorem TY_712 : aggOf Try.prog 64 = false := by kernel_rfl
theorem TY_713 : known Try.prog 64 = true := by kernel_rfl
theorem TY_714 : Try.prog.bytesOf 64 = 8 := by kernel_rfl
theorem TY_715 : elOf Try.prog 64 = none := by kernel_rfl
theorem TY_716 : isStr Try.prog 64 = false := by kernel_rfl
theorem TY_717 : isSl Try.prog 64 = false := by kernel_rfl
theorem TY_718 : isBoolT Try.prog 64 = false := by kernel_rfl
theorem TY_719 : zeroOf Try.prog 64 = some [.t .nilf] := by kernel_rfl
theorem TY_720 : isInt Try.prog 64 = none := by kernel_rfl
theorem TY_721 : szOf Try.prog 65 = 1 := by kernel_rfl
theorem TY_722 : aggOf Try.prog 65 = false := by kernel_rfl
theorem TY_723 : known Try.prog 65 = true := by kernel_rfl
theorem TY_724 : Try.prog.bytesOf 65 = 8 := by kernel_rfl
theorem TY_725 : elOf Try.prog 65 = none := by kernel_rfl
theorem TY_726 : isStr Try.prog 65 = false := by kernel_rfl
theorem TY_727 : isSl Try.prog 65 = false := by kernel_rfl
theorem TY_728 : isBoolT Try.prog 65 = false := by kernel_rfl
theorem TY_729 : zeroOf Try.prog 65 = some [.t .nilf] := by kernel_rfl
theorem TY_730 : isInt Try.prog 65 = none := by kernel_rfl
theorem TY_731 : szOf Try.prog 66 = 1 := by kernel_rfl
theorem TY_732 : aggOf Try.prog 66 = false := by kernel_rfl
theorem TY_733 : known Try.prog 66 = true := by kernel_rfl
theorem TY_734 : Try.prog.bytesOf 66 = 8 := by kernel_rfl
theorem TY_735 : elOf Try.prog 66 = none := by kernel_rfl
theorem TY_736 : isStr Try.prog 66 = false := by kernel_rfl
theorem TY_737 : isSl Try.prog 66 = false := by kernel_rfl
theorem TY_738 : isBoolT Try.prog 66 = false := by kernel_rfl
theorem TY_739 : zeroOf Try.prog 66 = some [.t .nilf] := by kernel_rfl
theorem TY_740 : isInt Try.prog 66 = none := by kernel_rfl
theorem TY_741 : szOf Try.prog 67 = 1 := by kernel_rfl
theorem TY_742 : aggOf Try.prog 67 = false := by kernel_rfl
theorem TY_743 : known Try.prog 67 = true := by kernel_rfl
theorem TY_744 : Try.prog.bytesOf 67 = 8 := by kernel_rfl
theorem TY_745 : elOf Try.prog 67 = none := by kernel_rfl
theorem TY_746 : isStr Try.prog 67 = false := by kernel_rfl
theorem TY_747 : isSl Try.prog 67 = false := by kernel_rfl
theorem TY_748 : isBoolT Try.prog 67 = false := by kernel_rfl
theorem TY_749 : zeroOf Try.prog 67 = some [.t .nilf] := by kernel_rfl
theorem TY_750 : isInt Try.prog 67 = none := by kernel_rfl
theorem TY_751 : szOf Try.prog 68 = 1 := by kernel_rfl
theorem TY_752 : aggOf Try.prog 68 = false := by kernel_rfl
theorem TY_753 : known Try.prog 68 = true := by kernel_rfl
theorem TY_754 : Try.prog.bytesOf 68 = 8 := by kernel_rfl
theorem TY_755 : elOf Try.prog 68 = none := by kernel_rfl
theorem TY_756 : isStr Try.prog 68 = false := by kernel_rfl
theorem TY_757 : isSl Try.prog 68 = false := by kernel_rfl
theorem TY_758 : isBoolT Try.prog 68 = false := by kernel_rfl
theorem TY_759 : zeroOf Try.prog 68 = some [.t .nilf] := by kernel_rfl
theorem TY_760 : isInt Try.prog 68 = none := by kernel_rfl
theorem TY_761 : szOf Try.prog 69 = 1 := by kernel_rfl
theorem TY_762 : aggOf Try.prog 69 = false := by kernel_rfl
theorem TY_763 : known Try.prog 69 = true := by kernel_rfl
theorem TY_764 : Try.prog.bytesOf 69 = 8 := by kernel_rfl
theorem TY_765 : elOf Try.prog 69 = none := by kernel_rfl
theorem TY_766 : isStr Try.prog 69 = false := by kernel_rfl
theorem TY_767 : isSl Try.prog 69 = false := by kernel_rfl
theorem TY_768 : isBoolT Try.prog 69 = false := by kernel_rfl
theorem TY_769 : zeroOf Try.prog 69 = some [.t .nilp] := by kernel_rfl
theorem TY_770 : isInt Try.prog 69 = none := by kernel_rfl
theorem TY_771 : szOf Try.prog 70 = 1 := by kernel_rfl
theorem TY_772 : aggOf Try.prog 70 = false := by kernel_rfl
theorem TY_773 : known Try.prog 70 = true := by kernel_rfl
theorem TY_774 : Try.prog.bytesOf 70 = 8 := by kernel_rfl
theorem TY_775 : elOf Try.prog 70 = none := by kernel_rfl
theorem TY_776 : isStr Try.prog 70 = false := by kernel_rfl
theorem TY_777 : isSl Try.prog 70 = false := by kernel_rfl
theorem TY_778 : isBoolT Try.prog 70 = false := by kernel_rfl
theorem TY_779 : zeroOf Try.prog 70 = some [.t .nilf] := by kernel_rfl
theorem TY_780 : isInt Try.prog 70 = none := by kernel_rfl
theorem TY_781 : szOf Try.prog 71 = 1 := by kernel_rfl
theorem TY_782 : aggOf Try.prog 71 = false := by kernel_rfl
theorem TY_783 : known Try.prog 71 = true := by kernel_rfl
theorem TY_784 : Try.prog.bytesOf 71 = 8 := by kernel_rfl
theorem TY_785 : elOf Try.prog 71 = none := by kernel_rfl
theorem TY_786 : isStr Try.prog 71 = false := by kernel_rfl
theorem TY_787 : isSl Try.prog 71 = false := by kernel_rfl
theorem TY_788 : isBoolT Try.prog 71 = false := by kernel_rfl
theorem TY_789 : zeroOf Try.prog 71 = some [.t .nilf] := by kernel_rfl
theorem TY_790 : isInt Try.prog 71 = none := by kernel_rfl
theorem TY_791 : szOf Try.prog 72 = 1 := by kernel_rfl
theorem TY_792 : aggOf Try.prog 72 = false := by kernel_rfl
theorem TY_793 : known Try.prog 72 = true := by kernel_rfl
theorem TY_794 : Try.prog.bytesOf 72 = 8 := by kernel_rfl
theorem TY_795 : elOf Try.prog 72 = none := by kernel_rfl
theorem TY_796 : isStr Try.prog 72 = false := by kernel_rfl
theorem TY_797 : isSl Try.prog 72 = false := by kernel_rfl
theorem TY_798 : isBoolT Try.prog 72 = false := by kernel_rfl
theorem TY_799 : zeroOf Try.prog 72 = some [.t .nilf] := by kernel_rfl
theorem TY_800 : isInt Try.prog 72 = none := by kernel_rfl
theorem TY_801 : szOf Try.prog 73 = 1 := by kernel_rfl
theorem TY_802 : aggOf Try.prog 73 = false := by kernel_rfl
theorem TY_803 : known Try.prog 73 = true := by kernel_rfl
theorem TY_804 : Try.prog.bytesOf 73 = 8 := by kernel_rfl
theorem TY_805 : elOf Try.prog 73 = none := by kernel_rfl
theorem TY_806 : isStr Try.prog 73 = false := by kernel_rfl
theorem TY_807 : isSl Try.prog 73 = false := by kernel_rfl
theorem TY_808 : isBoolT Try.prog 73 = false := by kernel_rfl
theorem TY_809 : zeroOf Try.prog 73 = some [.t (.int .u64 0)] := by kernel_rfl
theorem TY_810 : isInt Try.prog 73 = some .u64 := by kernel_rfl
theorem TY_811 : szOf Try.prog 75 = 1 := by kernel_rfl
theorem TY_812 : aggOf Try.prog 75 = false := by kernel_rfl
theorem TY_813 : known Try.prog 75 = true := by kernel_rfl
theorem TY_814 : Try.prog.bytesOf 75 = 8 := by kernel_rfl
theorem TY_815 : elOf Try.prog 75 = none := by kernel_rfl
theorem TY_816 : isStr Try.prog 75 = false := by kernel_rfl
theorem TY_817 : isSl Try.prog 75 = false := by kernel_rfl
theorem TY_818 : isBoolT Try.prog 75 = false := by kernel_rfl
theorem TY_819 : zeroOf Try.prog 75 = some [.t .nilf] := by kernel_rfl
theorem TY_820 : isInt Try.prog 75 = none := by kernel_rfl
theorem TY_821 : szOf Try.prog 76 = 1 := by kernel_rfl
theorem TY_822 : aggOf Try.prog 76 = false := by kernel_rfl
theorem TY_823 : known Try.prog 76 = true := by kernel_rfl
theorem TY_824 : Try.prog.bytesOf 76 = 8 := by kernel_rfl
theorem TY_825 : elOf Try.prog 76 = none := by kernel_rfl
theorem TY_826 : isStr Try.prog 76 = false := by kernel_rfl
theorem TY_827 : isSl Try.prog 76 = false := by kernel_rfl
theorem TY_828 : isBoolT Try.prog 76 = false := by kernel_rfl
theorem TY_829 : zeroOf Try.prog 76 = some [.t .nilf] := by kernel_rfl
theorem TY_830 : isInt Try.prog 76 = none := by kernel_rfl
theorem TY_831 : szOf Try.prog 77 = 1 := by kernel_rfl
theorem TY_832 : aggOf Try.prog 77 = false := by kernel_rfl
theorem TY_833 : known Try.prog 77 = true := by kernel_rfl
theorem TY_834 : Try.prog.bytesOf 77 = 8 := by kernel_rfl
theorem TY_835 : elOf Try.prog 77 = none := by kernel_rfl
theorem TY_836 : isStr Try.prog 77 = false := by kernel_rfl
theorem TY_837 : isSl Try.prog 77 = false := by kernel_rfl
theorem TY_838 : isBoolT Try.prog 77 = false := by kernel_rfl
theorem TY_839 : zeroOf Try.prog 77 = some [.t .nilf] := by kernel_rfl
theorem TY_840 : isInt Try.prog 77 = none := by kernel_rfl
theorem TY_841 : szOf Try.prog 78 = 4 := by kernel_rfl
theorem TY_842 : aggOf Try.prog 78 = true := by kernel_rfl
theorem TY_843 : known Try.prog 78 = true := by kernel_rfl
theorem TY_844 : Try.prog.bytesOf 78 = 40 := by kernel_rfl
theorem TY_845 : elOf Try.prog 78 = none := by kernel_rfl
theorem TY_846 : isStr Try.prog 78 = false := by kernel_rfl
theorem TY_847 : isSl Try.prog 78 = false := by kernel_rfl
theorem TY_848 : isBoolT Try.prog 78 = false := by kernel_rfl
theorem TY_849 : strOK Try.prog 78 = true := by kernel_rfl
theorem TY_850 : fOf Try.prog 78 0 = some (0, 1, false) := by kernel_rfl
theorem TY_851 : fTy Try.prog 78 0 = 17 := by kernel_rfl
theorem TY_852 : fOf Try.prog 78 1 = some (1, 1, false) := by kernel_rfl
theorem TY_853 : fTy Try.prog 78 1 = 17 := by kernel_rfl
theorem TY_854 : fOf Try.prog 78 2 = some (2, 1, false) := by kernel_rfl
theorem TY_855 : fTy Try.prog 78 2 = 17 := by kernel_rfl
theorem TY_856 : fOf Try.prog 78 3 = some (3, 1, false) := by kernel_rfl
theorem TY_857 : fTy Try.prog 78 3 = 9 := by kernel_rfl
theorem TY_858 : zeroOf Try.prog 78 = some [.t .nilp, .t .nilp, .t .nilp, .t (.str [])] := by kernel_rfl
theorem TY_859 : isInt Try.prog 78 = none := by kernel_rfl
theorem TY_860 : szOf Try.prog 79 = 4 := by kernel_rfl
theorem TY_861 : aggOf Try.prog 79 = true := by kernel_rfl
theorem TY_862 : known Try.prog 79 = true := by kernel_rfl
theorem TY_863 : Try.prog.bytesOf 79 = 40 := by kernel_rfl
theorem TY_864 : elOf Try.prog 79 = none := by kernel_rfl
theorem TY_865 : isStr Try.prog 79 = false := by kernel_rfl
theorem TY_866 : isSl Try.prog 79 = false := by kernel_rfl
theorem TY_867 : isBoolT Try.prog 79 = false := by kernel_rfl
theorem TY_868 : strOK Try.prog 79 = true := by kernel_rfl
theorem TY_869 : fOf Try.prog 79 0 = some (0, 1, false) := by kernel_rfl
theorem TY_870 : fTy Try.prog 79 0 = 17 := by kernel_rfl
theorem TY_871 : fOf Try.prog 79 1 = some (1, 1, false) := by kernel_rfl
theorem TY_872 : fTy Try.prog 79 1 = 17 := by kernel_rfl
theorem TY_873 : fOf Try.prog 79 2 = some (2, 1, false) := by kernel_rfl
theorem TY_874 : fTy Try.prog 79 2 = 17 := by kernel_rfl
theorem TY_875 : fOf Try.prog 79 3 = some (3, 1, false) := by kernel_rfl
theorem TY_876 : fTy Try.prog 79 3 = 9 := by kernel_rfl
theorem TY_877 : zeroOf Try.prog 79 = some [.t .nilp, .t .nilp, .t .nilp, .t (.str [])] := by kernel_rfl
theorem TY_878 : isInt Try.prog 79 = none := by kernel_rfl
theorem TY_879 : szOf Try.prog 83 = 1 := by kernel_rfl
theorem TY_880 : aggOf Try.prog 83 = false := by kernel_rfl
theorem TY_881 : known Try.prog 83 = true := by kernel_rfl
theorem TY_882 : Try.prog.bytesOf 83 = 8 := by kernel_rfl
theorem TY_883 : elOf Try.prog 83 = none := by kernel_rfl
theorem TY_884 : isStr Try.prog 83 = false := by kernel_rfl
theorem TY_885 : isSl Try.prog 83 = false := by kernel_rfl
theorem TY_886 : isBoolT Try.prog 83 = false := by kernel_rfl
theorem TY_887 : zeroOf Try.prog 83 = some [.t .nilf] := by kernel_rfl
theorem TY_888 : isInt Try.prog 83 = none := by kernel_rfl
theorem TY_889 : szOf Try.prog 84 = 1 := by kernel_rfl
theorem TY_890 : aggOf Try.prog 84 = false := by kernel_rfl
theorem TY_891 : known Try.prog 84 = true := by kernel_rfl
theorem TY_892 : Try.prog.bytesOf 84 = 4 := by kernel_rfl
theorem TY_893 : elOf Try.prog 84 = none := by kernel_rfl
theorem TY_894 : isStr Try.prog 84 = false := by kernel_rfl
theorem TY_895 : isSl Try.prog 84 = false := by kernel_rfl
theorem TY_896 : isBoolT Try.prog 84 = false := by kernel_rfl
theorem TY_897 : zeroOf Try.prog 84 = some [.t (.int .u32 0)] := by kernel_rfl
theorem TY_898 : isInt Try.prog 84 = some .u32 := by kernel_rfl
theorem TY_899 : szOf Try.prog 85 = 1 := by kernel_rfl
theorem TY_900 : aggOf Try.prog 85 = false := by kernel_rfl
theorem TY_901 : known Try.prog 85 = true := by kernel_rfl
theorem TY_902 : Try.prog.bytesOf 85 = 1 := by kernel_rfl
theorem TY_903 : elOf Try.prog 85 = none := by kernel_rfl
theorem TY_904 : isStr Try.prog 85 = false := by kernel_rfl
theorem TY_905 : isSl Try.prog 85 = false := by kernel_rfl
theorem TY_906 : isBoolT Try.prog 85 = false := by kernel_rfl
theorem TY_907 : zeroOf Try.prog 85 = some [.t (.int .u8 0)] := by kernel_rfl
theorem TY_908 : isInt Try.prog 85 = some .u8 := by kernel_rfl
theorem TY_909 : szOf Try.prog 86 = 1 := by kernel_rfl
theorem TY_910 : aggOf Try.prog 86 = false := by kernel_rfl
theorem TY_911 : known Try.prog 86 = true := by kernel_rfl
theorem TY_912 : Try.prog.bytesOf 86 = 1 := by kernel_rfl
theorem TY_913 : elOf Try.prog 86 = none := by kernel_rfl
theorem TY_914 : isStr Try.prog 86 = false := by kernel_rfl
theorem TY_915 : isSl Try.prog 86 = false := by kernel_rfl
theorem TY_916 : isBoolT Try.prog 86 = false := by kernel_rfl
theorem TY_917 : zeroOf Try.prog 86 = some [.t (.int .u8 0)] := by kernel_rfl
theorem TY_918 : isInt Try.prog 86 = some .u8 := by kernel_rfl
theorem TY_919 : szOf Try.prog 87 = 1 := by kernel_rfl
theorem TY_920 : aggOf Try.prog 87 = false := by kernel_rfl
theorem TY_921 : known Try.prog 87 = true := by kernel_rfl
theorem TY_922 : Try.prog.bytesOf 87 = 8 := by kernel_rfl
theorem TY_923 : elOf Try.prog 87 = none := by kernel_rfl
theorem TY_924 : isStr Try.prog 87 = false := by kernel_rfl
theorem TY_925 : isSl Try.prog 87 = false := by kernel_rfl
theorem TY_926 : isBoolT Try.prog 87 = false := by kernel_rfl
theorem TY_927 : zeroOf Try.prog 87 = some [.t .nilf] := by kernel_rfl
theorem TY_928 : isInt Try.prog 87 = none := by kernel_rfl
theorem TY_929 : szOf Try.prog 88 = 1 := by kernel_rfl
theorem TY_930 : aggOf Try.prog 88 = false := by kernel_rfl
theorem TY_931 : known Try.prog 88 = true := by kernel_rfl
theorem TY_932 : Try.prog.bytesOf 88 = 4 := by kernel_rfl
theorem TY_933 : elOf Try.prog 88 = none := by kernel_rfl
theorem TY_934 : isStr Try.prog 88 = false := by kernel_rfl
theorem TY_935 : isSl Try.prog 88 = false := by kernel_rfl
theorem TY_936 : isBoolT Try.prog 88 = false := by kernel_rfl
theorem TY_937 : zeroOf Try.prog 88 = some [.t (.int .i32 0)] := by kernel_rfl
theorem TY_938 : isInt Try.prog 88 = some .i32 := by kernel_rfl
theorem TY_939 : szOf Try.prog 89 = 1 := by kernel_rfl
theorem TY_940 : aggOf Try.prog 89 = false := by kernel_rfl
theorem TY_941 : known Try.prog 89 = true := by kernel_rfl
theorem TY_942 : Try.prog.bytesOf 89 = 4 := by kernel_rfl
theorem TY_943 : elOf Try.prog 89 = none := by kernel_rfl
theorem TY_944 : isStr Try.prog 89 = false := by kernel_rfl
theorem TY_945 : isSl Try.prog 89 = false := by kernel_rfl
theorem TY_946 : isBoolT Try.prog 89 = false := by kernel_rfl
theorem TY_947 : zeroOf Try.prog 89 = some [.t (.int .i32 0)] := by kernel_rfl
theorem TY_948 : isInt Try.prog 89 = some .i32 := by kernel_rfl
theorem TY_949 : szOf Try.prog 90 = 11 := by kernel_rfl
theorem TY_950 : aggOf Try.prog 90 = true := by kernel_rfl
theorem TY_951 : known Try.prog 90 = true := by kernel_rfl
theorem TY_952 : Try.prog.bytesOf 90 = 48 := by kernel_rfl
theorem TY_953 : elOf Try.prog 90 = none := by kernel_rfl
theorem TY_954 : isStr Try.prog 90 = false := by kernel_rfl
theorem TY_955 : isSl Try.prog 90 = false := by kernel_rfl
theorem TY_956 : isBoolT Try.prog 90 = false := by kernel_rfl
theorem TY_957 : strOK Try.prog 90 = true := by kernel_rfl
theorem TY_958 : fOf Try.prog 90 0 = some (0, 1, false) := by kernel_rfl
theorem TY_959 : fTy Try.prog 90 0 = 12 := by kernel_rfl
theorem TY_960 : fOf Try.prog 90 1 = some (1, 1, false) := by kernel_rfl
theorem TY_961 : fTy Try.prog 90 1 = 12 := by kernel_rfl
theorem TY_962 : fOf Try.prog 90 2 = some (2, 1, false) := by kernel_rfl
theorem TY_963 : fTy Try.prog 90 2 = 84 := by kernel_rfl
theorem TY_964 : fOf Try.prog 90 3 = some (3, 1, false) := by kernel_rfl
theorem TY_965 : fTy Try.prog 90 3 = 85 := by kernel_rfl
theorem TY_966 : fOf Try.prog 90 4 = some (4, 1, false) := by kernel_rfl
theorem TY_967 : fTy Try.prog 90 4 = 5 := by kernel_rfl
theorem TY_968 : fOf Try.prog 90 5 = some (5, 1, false) := by kernel_rfl
theorem TY_969 : fTy Try.prog 90 5 = 5 := by kernel_rfl
theorem TY_970 : fOf Try.prog 90 6 = some (6, 1, false) := by kernel_rfl
theorem TY_971 : fTy Try.prog 90 6 = 86 := by kernel_rfl
theorem TY_972 : fOf Try.prog 90 7 = some (7, 1, false) := by kernel_rfl
theorem TY_973 : fTy Try.prog 90 7 = 87 := by kernel_rfl
theorem TY_974 : fOf Try.prog 90 8 = some (8, 1, false) := by kernel_rfl
theorem TY_975 : fTy Try.prog 90 8 = 69 := by kernel_rfl
theorem TY_976 : fOf Try.prog 90 9 = some (9, 1, false) := by kernel_rfl
theorem TY_977 : fTy Try.prog 90 9 = 88 := by kernel_rfl
theorem TY_978 : fOf Try.prog 90 10 = some (10, 1, false) := by kernel_rfl
theorem TY_979 : fTy Try.prog 90 10 = 89 := by kernel_rfl
theorem TY_980 : zeroOf Try.prog 90 = some [.t (.int .u64 0), .t (.int .u64 0), .t (.int .u32 0), .t (.int .u8 0), .t (.int .u8 0), .t (.int .u8 0), .t (.int .u8 0), .t .nilf, .t .nilp, .t (.int .i32 0), .t (.int .i32 0)] := by kernel_rfl
theorem TY_981 : isInt Try.prog 90 = none := by kernel_rfl
theorem TY_982 : szOf Try.prog 91 = 11 := by kernel_rfl
theorem TY_983 : aggOf Try.prog 91 = true := by kernel_rfl
theorem TY_984 : known Try.prog 91 = true := by kernel_rfl
theorem TY_985 : Try.prog.bytesOf 91 = 48 := by kernel_rfl
theorem TY_986 : elOf Try.prog 91 = none := by kernel_rfl
theorem TY_987 : isStr Try.prog 91 = false := by kernel_rfl
theorem TY_988 : isSl Try.prog 91 = false := by kernel_rfl
theorem TY_989 : isBoolT Try.prog 91 = false := by kernel_rfl
theorem TY_990 : strOK Try.prog 91 = true := by kernel_rfl
theorem TY_991 : fOf Try.prog 91 0 = some (0, 1, false) := by kernel_rfl
theorem TY_992 : fTy Try.prog 91 0 = 12 := by kernel_rfl
theorem TY_993 : fOf Try.prog 91 1 = some (1, 1, false) := by kernel_rfl
theorem TY_994 : fTy Try.prog 91 1 = 12 := by kernel_rfl
theorem TY_995 : fOf Try.prog 91 2 = some (2, 1, false) := by kernel_rfl
theorem TY_996 : fTy Try.prog 91 2 = 84 := by kernel_rfl
theorem TY_997 : fOf Try.prog 91 3 = some (3, 1, false) := by kernel_rfl
theorem TY_998 : fTy Try.prog 91 3 = 85 := by kernel_rfl
theorem TY_999 : fOf Try.prog 91 4 = some (4, 1, false) := by kernel_rfl
theorem TY_1000 : fTy Try.prog 91 4 = 5 := by kernel_rfl
theorem TY_1001 : fOf Try.prog 91 5 = some (5, 1, false) := by kernel_rfl
theorem TY_1002 : fTy Try.prog 91 5 = 5 := by kernel_rfl
theorem TY_1003 : fOf Try.prog 91 6 = some (6, 1, false) := by kernel_rfl
theorem TY_1004 : fTy Try.prog 91 6 = 86 := by kernel_rfl
theorem TY_1005 : fOf Try.prog 91 7 = some (7, 1, false) := by kernel_rfl
theorem TY_1006 : fTy Try.prog 91 7 = 87 := by kernel_rfl
theorem TY_1007 : fOf Try.prog 91 8 = some (8, 1, false) := by kernel_rfl
theorem TY_1008 : fTy Try.prog 91 8 = 69 := by kernel_rfl
theorem TY_1009 : fOf Try.prog 91 9 = some (9, 1, false) := by kernel_rfl
theorem TY_1010 : fTy Try.prog 91 9 = 88 := by kernel_rfl
theorem TY_1011 : fOf Try.prog 91 10 = some (10, 1, false) := by kernel_rfl
theorem TY_1012 : fTy Try.prog 91 10 = 89 := by kernel_rfl
theorem TY_1013 : zeroOf Try.prog 91 = some [.t (.int .u64 0), .t (.int .u64 0), .t (.int .u32 0), .t (.int .u8 0), .t (.int .u8 0), .t (.int .u8 0), .t (.int .u8 0), .t .nilf, .t .nilp, .t (.int .i32 0), .t (.int .i32 0)] := by kernel_rfl
theorem TY_1014 : isInt Try.prog 91 = none := by kernel_rfl
theorem TYS : szOf Try.prog 1 = 1 ∧
  aggOf Try.prog 1 = false ∧
  known Try.prog 1 = true ∧
  Try.prog.bytesOf 1 = 8 ∧
  elOf Try.prog 1 = none ∧
  isStr Try.prog 1 = false ∧
  isSl Try.prog 1 = false ∧
  isBoolT Try.prog 1 = false ∧
  zeroOf Try.prog 1 = some [.t .nilf] ∧
  isInt Try.prog 1 = none ∧
  szOf Try.prog 2 = 1 ∧
  aggOf Try.prog 2 = false ∧
  known Try.prog 2 = true ∧
  Try.prog.bytesOf 2 = 8 ∧
  elOf Try.prog 2 = none ∧
  isStr Try.prog 2 = false ∧
  isSl Try.prog 2 = false ∧
  isBoolT Try.prog 2 = false ∧
  zeroOf Try.prog 2 = some [.t (.int .i64 0)] ∧
  isInt Try.prog 2 = some .i64 ∧
  szOf Try.prog 3 = 1 ∧
  aggOf Try.prog 3 = false ∧
  known Try.prog 3 = true ∧
  Try.prog.bytesOf 3 = 8 ∧
  elOf Try.prog 3 = none ∧
  isStr Try.prog 3 = false ∧
  isSl Try.prog 3 = false ∧
  isBoolT Try.prog 3 = false ∧
  zeroOf Try.prog 3 = some [.t (.int .i64 0)] ∧
  isInt Try.prog 3 = some .i64 ∧
  szOf Try.prog 4 = 1 ∧
  aggOf Try.prog 4 = false ∧
  known Try.prog 4 = true ∧
  Try.prog.bytesOf 4 = 1 ∧
  elOf Try.prog 4 = none ∧
  isStr Try.prog 4 = false ∧
  isSl Try.prog 4 = false ∧
  isBoolT Try.prog 4 = true ∧
  zeroOf Try.prog 4 = some [.t (.bool false)] ∧
  isInt Try.prog 4 = none ∧
  szOf Try.prog 5 = 1 ∧
  aggOf Try.prog 5 = false ∧
  known Try.prog 5 = true ∧
  Try.prog.bytesOf 5 = 1 ∧
  elOf Try.prog 5 = none ∧
  isStr Try.prog 5 = false ∧
  isSl Try.prog 5 = false ∧
  isBoolT Try.prog 5 = false ∧
  zeroOf Try.prog 5 = some [.t (.int .u8 0)] ∧
  isInt Try.prog 5 = some .u8 ∧
  szOf Try.prog 6 = 1 ∧
  aggOf Try.prog 6 = false ∧
  known Try.prog 6 = true ∧
  Try.prog.bytesOf 6 = 1 ∧
  elOf Try.prog 6 = none ∧
  isStr Try.prog 6 = false ∧
  isSl Try.prog 6 = false ∧
  isBoolT Try.prog 6 = false ∧
  zeroOf Try.prog 6 = some [.t (.int .u8 0)] ∧
  isInt Try.prog 6 = some .u8 ∧
  szOf Try.prog 7 = 4 ∧
  aggOf Try.prog 7 = true ∧
  known Try.prog 7 = true ∧
  Try.prog.bytesOf 7 = 24 ∧
  elOf Try.prog 7 = none ∧
  isStr Try.prog 7 = false ∧
  isSl Try.prog 7 = false ∧
  isBoolT Try.prog 7 = false ∧
  strOK Try.prog 7 = true ∧
  fOf Try.prog 7 0 = some (0, 1, false) ∧
  fTy Try.prog 7 0 = 2 ∧
  fOf Try.prog 7 1 = some (1, 1, false) ∧
  fTy Try.prog 7 1 = 3 ∧
  fOf Try.prog 7 2 = some (2, 1, false) ∧
  fTy Try.prog 7 2 = 4 ∧
  fOf Try.prog 7 3 = some (3, 1, false) ∧
  fTy Try.prog 7 3 = 6 ∧
  zeroOf Try.prog 7 = some [.t (.int .i64 0), .t (.int .i64 0), .t (.bool false), .t (.int .u8 0)] ∧
  isInt Try.prog 7 = none ∧
  szOf Try.prog 8 = 4 ∧
  aggOf Try.prog 8 = true ∧
  known Try.prog 8 = true ∧
  Try.prog.bytesOf 8 = 24 ∧
  elOf Try.prog 8 = none ∧
  isStr Try.prog 8 = false ∧
  isSl Try.prog 8 = false ∧
  isBoolT Try.prog 8 = false ∧
  strOK Try.prog 8 = true ∧
  fOf Try.prog 8 0 = some (0, 1, false) ∧
  fTy Try.prog 8 0 = 2 ∧
  fOf Try.prog 8 1 = some (1, 1, false) ∧
  fTy Try.prog 8 1 = 3 ∧
  fOf Try.prog 8 2 = some (2, 1, false) ∧
  fTy Try.prog 8 2 = 4 ∧
  fOf Try.prog 8 3 = some (3, 1, false) ∧
  fTy Try.prog 8 3 = 6 ∧
  zeroOf Try.prog 8 = some [.t (.int .i64 0), .t (.int .i64 0), .t (.bool false), .t (.int .u8 0)] ∧
  isInt Try.prog 8 = none ∧
  szOf Try.prog 9 = 1 ∧
  aggOf Try.prog 9 = false ∧
  known Try.prog 9 = true ∧
  Try.prog.bytesOf 9 = 16 ∧
  elOf Try.prog 9 = none ∧
  isStr Try.prog 9 = true ∧
  isSl Try.prog 9 = false ∧
  isBoolT Try.prog 9 = false ∧
  zeroOf Try.prog 9 = some [.t (.str [])] ∧
  isInt Try.prog 9 = none ∧
  szOf Try.prog 10 = 1 ∧
  aggOf Try.prog 10 = false ∧
  known Try.prog 10 = true ∧
  Try.prog.bytesOf 10 = 16 ∧
  elOf Try.prog 10 = none ∧
  isStr Try.prog 10 = true ∧
  isSl Try.prog 10 = false ∧
  isBoolT Try.prog 10 = false ∧
  zeroOf Try.prog 10 = some [.t (.str [])] ∧
  isInt Try.prog 10 = none ∧
  szOf Try.prog 11 = 1 ∧
  aggOf Try.prog 11 = false ∧
  known Try.prog 11 = true ∧
  Try.prog.bytesOf 11 = 16 ∧
  elOf Try.prog 11 = none ∧
  isStr Try.prog 11 = true ∧
  isSl Try.prog 11 = false ∧
  isBoolT Try.prog 11 = false ∧
  zeroOf Try.prog 11 = some [.t (.str [])] ∧
  isInt Try.prog 11 = none ∧
  szOf Try.prog 12 = 1 ∧
  aggOf Try.prog 12 = false ∧
  known Try.prog 12 = true ∧
  Try.prog.bytesOf 12 = 8 ∧
  elOf Try.prog 12 = none ∧
  isStr Try.prog 12 = false ∧
  isSl Try.prog 12 = false ∧
  isBoolT Try.prog 12 = false ∧
  zeroOf Try.prog 12 = some [.t (.int .u64 0)] ∧
  isInt Try.prog 12 = some .u64 ∧
  szOf Try.prog 13 = 2 ∧
  aggOf Try.prog 13 = true ∧
  known Try.prog 13 = true ∧
  Try.prog.bytesOf 13 = 24 ∧
  elOf Try.prog 13 = none ∧
  isStr Try.prog 13 = false ∧
  isSl Try.prog 13 = false ∧
  isBoolT Try.prog 13 = false ∧
  strOK Try.prog 13 = true ∧
  fOf Try.prog 13 0 = some (0, 1, false) ∧
  fTy Try.prog 13 0 = 9 ∧
  fOf Try.prog 13 1 = some (1, 1, false) ∧
  fTy Try.prog 13 1 = 12 ∧
  zeroOf Try.prog 13 = some [.t (.str []), .t (.int .u64 0)] ∧
  isInt Try.prog 13 = none ∧
  szOf Try.prog 14 = 2 ∧
  aggOf Try.prog 14 = true ∧
  known Try.prog 14 = true ∧
  Try.prog.bytesOf 14 = 24 ∧
  elOf Try.prog 14 = none ∧
  isStr Try.prog 14 = false ∧
  isSl Try.prog 14 = false ∧
  isBoolT Try.prog 14 = false ∧
  strOK Try.prog 14 = true ∧
  fOf Try.prog 14 0 = some (0, 1, false) ∧
  fTy Try.prog 14 0 = 9 ∧
  fOf Try.prog 14 1 = some (1, 1, false) ∧
  fTy Try.prog 14 1 = 12 ∧
  zeroOf Try.prog 14 = some [.t (.str []), .t (.int .u64 0)] ∧
  isInt Try.prog 14 = none ∧
  szOf Try.prog 15 = 1 ∧
  aggOf Try.prog 15 = false ∧
  known Try.prog 15 = true ∧
  Try.prog.bytesOf 15 = 8 ∧
  elOf Try.prog 15 = none ∧
  isStr Try.prog 15 = false ∧
  isSl Try.prog 15 = false ∧
  isBoolT Try.prog 15 = false ∧
  zeroOf Try.prog 15 = some [.t .nilp] ∧
  isInt Try.prog 15 = none ∧
  szOf Try.prog 16 = 1 ∧
  aggOf Try.prog 16 = false ∧
  known Try.prog 16 = true ∧
  Try.prog.bytesOf 16 = 8 ∧
  elOf Try.prog 16 = none ∧
  isStr Try.prog 16 = false ∧
  isSl Try.prog 16 = false ∧
  isBoolT Try.prog 16 = false ∧
  zeroOf Try.prog 16 = some [.t .nilp] ∧
  isInt Try.prog 16 = none ∧
  szOf Try.prog 17 = 1 ∧
  aggOf Try.prog 17 = false ∧
  known Try.prog 17 = true ∧
  Try.prog.bytesOf 17 = 8 ∧
  elOf Try.prog 17 = none ∧
  isStr Try.prog 17 = false ∧
  isSl Try.prog 17 = false ∧
  isBoolT Try.prog 17 = false ∧
  zeroOf Try.prog 17 = some [.t .nilp] ∧
  isInt Try.prog 17 = none ∧
  szOf Try.prog 18 = 1 ∧
  aggOf Try.prog 18 = true ∧
  known Try.prog 18 = true ∧
  Try.prog.bytesOf 18 = 8 ∧
  elOf Try.prog 18 = none ∧
  isStr Try.prog 18 = false ∧
  isSl Try.prog 18 = false ∧
  isBoolT Try.prog 18 = false ∧
  strOK Try.prog 18 = true ∧
  fOf Try.prog 18 0 = some (0, 1, false) ∧
  fTy Try.prog 18 0 = 17 ∧
  zeroOf Try.prog 18 = some [.t .nilp] ∧
  isInt Try.prog 18 = none ∧
  szOf Try.prog 19 = 1 ∧
  aggOf Try.prog 19 = true ∧
  known Try.prog 19 = true ∧
  Try.prog.bytesOf 19 = 8 ∧
  elOf Try.prog 19 = none ∧
  isStr Try.prog 19 = false ∧
  isSl Try.prog 19 = false ∧
  isBoolT Try.prog 19 = false ∧
  strOK Try.prog 19 = true ∧
  fOf Try.prog 19 0 = some (0, 1, false) ∧
  fTy Try.prog 19 0 = 17 ∧
  zeroOf Try.prog 19 = some [.t .nilp] ∧
  isInt Try.prog 19 = none ∧
  szOf Try.prog 20 = 1 ∧
  aggOf Try.prog 20 = false ∧
  known Try.prog 20 = true ∧
  Try.prog.bytesOf 20 = 16 ∧
  elOf Try.prog 20 = none ∧
  isStr Try.prog 20 = false ∧
  isSl Try.prog 20 = false ∧
  isBoolT Try.prog 20 = false ∧
  zeroOf Try.prog 20 = some [.t .nili] ∧
  isInt Try.prog 20 = none ∧
  szOf Try.prog 21 = 1 ∧
  aggOf Try.prog 21 = false ∧
  known Try.prog 21 = true ∧
  Try.prog.bytesOf 21 = 4 ∧
  elOf Try.prog 21 = none ∧
  isStr Try.prog 21 = false ∧
  isSl Try.prog 21 = false ∧
  isBoolT Try.prog 21 = false ∧
  zeroOf Try.prog 21 = some [.t (.int .i32 0)] ∧
  isInt Try.prog 21 = some .i32 ∧
  szOf Try.prog 22 = 1 ∧
  aggOf Try.prog 22 = false ∧
  known Try.prog 22 = true ∧
  Try.prog.bytesOf 22 = 24 ∧
  elOf Try.prog 22 = some 32 ∧
  isStr Try.prog 22 = false ∧
  isSl Try.prog 22 = true ∧
  isBoolT Try.prog 22 = false ∧
  zeroOf Try.prog 22 = some [.nil 2] ∧
  isInt Try.prog 22 = none ∧
  szOf Try.prog 23 = 1 ∧
  aggOf Try.prog 23 = false ∧
  known Try.prog 23 = true ∧
  Try.prog.bytesOf 23 = 8 ∧
  elOf Try.prog 23 = none ∧
  isStr Try.prog 23 = false ∧
  isSl Try.prog 23 = false ∧
  isBoolT Try.prog 23 = false ∧
  zeroOf Try.prog 23 = some [.t .nilf] ∧
  isInt Try.prog 23 = none ∧
  szOf Try.prog 24 = 1 ∧
  aggOf Try.prog 24 = false ∧
  known Try.prog 24 = true ∧
  Try.prog.bytesOf 24 = 8 ∧
  elOf Try.prog 24 = none ∧
  isStr Try.prog 24 = false ∧
  isSl Try.prog 24 = false ∧
  isBoolT Try.prog 24 = false ∧
  zeroOf Try.prog 24 = some [.t .nilf] ∧
  isInt Try.prog 24 = none ∧
  szOf Try.prog 25 = 1 ∧
  aggOf Try.prog 25 = false ∧
  known Try.prog 25 = true ∧
  Try.prog.bytesOf 25 = 24 ∧
  elOf Try.prog 25 = some 36 ∧
  isStr Try.prog 25 = false ∧
  isSl Try.prog 25 = true ∧
  isBoolT Try.prog 25 = false ∧
  zeroOf Try.prog 25 = some [.nil 2] ∧
  isInt Try.prog 25 = none ∧
  szOf Try.prog 26 = 1 ∧
  aggOf Try.prog 26 = false ∧
  known Try.prog 26 = true ∧
  Try.prog.bytesOf 26 = 8 ∧
  elOf Try.prog 26 = none ∧
  isStr Try.prog 26 = false ∧
  isSl Try.prog 26 = false ∧
  isBoolT Try.prog 26 = false ∧
  zeroOf Try.prog 26 = some [.t .nilf] ∧
  isInt Try.prog 26 = none ∧
  szOf Try.prog 27 = 1 ∧
  aggOf Try.prog 27 = false ∧
  known Try.prog 27 = true ∧
  Try.prog.bytesOf 27 = 8 ∧
  elOf Try.prog 27 = none ∧
  isStr Try.prog 27 = false ∧
  isSl Try.prog 27 = false ∧
  isBoolT Try.prog 27 = false ∧
  zeroOf Try.prog 27 = some [.t .nilf] ∧
  isInt Try.prog 27 = none ∧
  szOf Try.prog 28 = 1 ∧
  aggOf Try.prog 28 = false ∧
  known Try.prog 28 = true ∧
  Try.prog.bytesOf 28 = 8 ∧
  elOf Try.prog 28 = none ∧
  isStr Try.prog 28 = false ∧
  isSl Try.prog 28 = false ∧
  isBoolT Try.prog 28 = false ∧
  zeroOf Try.prog 28 = some [.t .nilf] ∧
  isInt Try.prog 28 = none ∧
  szOf Try.prog 29 = 1 ∧
  aggOf Try.prog 29 = false ∧
  known Try.prog 29 = true ∧
  Try.prog.bytesOf 29 = 8 ∧
  elOf Try.prog 29 = none ∧
  isStr Try.prog 29 = false ∧
  isSl Try.prog 29 = false ∧
  isBoolT Try.prog 29 = false ∧
  zeroOf Try.prog 29 = some [.t .nilf] ∧
  isInt Try.prog 29 = none ∧
  szOf Try.prog 30 = 1 ∧
  aggOf Try.prog 30 = false ∧
  known Try.prog 30 = true ∧
  Try.prog.bytesOf 30 = 24 ∧
  elOf Try.prog 30 = some 63 ∧
  isStr Try.prog 30 = false ∧
  isSl Try.prog 30 = true ∧
  isBoolT Try.prog 30 = false ∧
  zeroOf Try.prog 30 = some [.nil 4] ∧
  isInt Try.prog 30 = none ∧
  szOf Try.prog 31 = 2 ∧
  aggOf Try.prog 31 = true ∧
  known Try.prog 31 = true ∧
  Try.prog.bytesOf 31 = 40 ∧
  elOf Try.prog 31 = none ∧
  isStr Try.prog 31 = false ∧
  isSl Try.prog 31 = false ∧
  isBoolT Try.prog 31 = false ∧
  strOK Try.prog 31 = true ∧
  fOf Try.prog 31 0 = some (0, 1, false) ∧
  fTy Try.prog 31 0 = 9 ∧
  fOf Try.prog 31 1 = some (1, 1, false) ∧
  fTy Try.prog 31 1 = 30 ∧
  zeroOf Try.prog 31 = some [.t (.str []), .nil 4] ∧
  isInt Try.prog 31 = none ∧
  szOf Try.prog 32 = 2 ∧
  aggOf Try.prog 32 = true ∧
  known Try.prog 32 = true ∧
  Try.prog.bytesOf 32 = 40 ∧
  elOf Try.prog 32 = none ∧
  isStr Try.prog 32 = false ∧
  isSl Try.prog 32 = false ∧
  isBoolT Try.prog 32 = false ∧
  strOK Try.prog 32 = true ∧
  fOf Try.prog 32 0 = some (0, 1, false) ∧
  fTy Try.prog 32 0 = 9 ∧
  fOf Try.prog 32 1 = some (1, 1, false) ∧
  fTy Try.prog 32 1 = 30 ∧
  zeroOf Try.prog 32 = some [.t (.str []), .nil 4] ∧
  isInt Try.prog 32 = none ∧
  szOf Try.prog 33 = 1 ∧
  aggOf Try.prog 33 = false ∧
  known Try.prog 33 = true ∧
  Try.prog.bytesOf 33 = 8 ∧
  elOf Try.prog 33 = none ∧
  isStr Try.prog 33 = false ∧
  isSl Try.prog 33 = false ∧
  isBoolT Try.prog 33 = false ∧
  zeroOf Try.prog 33 = some [.t .nilf] ∧
  isInt Try.prog 33 = none ∧
  szOf Try.prog 34 = 1 ∧
  aggOf Try.prog 34 = false ∧
  known Try.prog 34 = true ∧
  Try.prog.bytesOf 34 = 24 ∧
  elOf Try.prog 34 = some 40 ∧
  isStr Try.prog 34 = false ∧
  isSl Try.prog 34 = true ∧
  isBoolT Try.prog 34 = false ∧
  zeroOf Try.prog 34 = some [.nil 4] ∧
  isInt Try.prog 34 = none ∧
  szOf Try.prog 35 = 2 ∧
  aggOf Try.prog 35 = true ∧
  known Try.prog 35 = true ∧
  Try.prog.bytesOf 35 = 40 ∧
  elOf Try.prog 35 = none ∧
  isStr Try.prog 35 = false ∧
  isSl Try.prog 35 = false ∧
  isBoolT Try.prog 35 = false ∧
  strOK Try.prog 35 = true ∧
  fOf Try.prog 35 0 = some (0, 1, false) ∧
  fTy Try.prog 35 0 = 9 ∧
  fOf Try.prog 35 1 = some (1, 1, false) ∧
  fTy Try.prog 35 1 = 34 ∧
  zeroOf Try.prog 35 = some [.t (.str []), .nil 4] ∧
  isInt Try.prog 35 = none ∧
  szOf Try.prog 36 = 2 ∧
  aggOf Try.prog 36 = true ∧
  known Try.prog 36 = true ∧
  Try.prog.bytesOf 36 = 40 ∧
  elOf Try.prog 36 = none ∧
  isStr Try.prog 36 = false ∧
  isSl Try.prog 36 = false ∧
  isBoolT Try.prog 36 = false ∧
  strOK Try.prog 36 = true ∧
  fOf Try.prog 36 0 = some (0, 1, false) ∧
  fTy Try.prog 36 0 = 9 ∧
  fOf Try.prog 36 1 = some (1, 1, false) ∧
  fTy Try.prog 36 1 = 34 ∧
  zeroOf Try.prog 36 = some [.t (.str []), .nil 4] ∧
  isInt Try.prog 36 = none ∧
  szOf Try.prog 37 = 1 ∧
  aggOf Try.prog 37 = false ∧
  known Try.prog 37 = true ∧
  Try.prog.bytesOf 37 = 8 ∧
  elOf Try.prog 37 = none ∧
  isStr Try.prog 37 = false ∧
  isSl Try.prog 37 = false ∧
  isBoolT Try.prog 37 = false ∧
  zeroOf Try.prog 37 = some [.t .nilf] ∧
  isInt Try.prog 37 = none ∧
  szOf Try.prog 38 = 1 ∧
  aggOf Try.prog 38 = false ∧
  known Try.prog 38 = true ∧
  Try.prog.bytesOf 38 = 24 ∧
  elOf Try.prog 38 = some 9 ∧
  isStr Try.prog 38 = false ∧
  isSl Try.prog 38 = true ∧
  isBoolT Try.prog 38 = false ∧
  zeroOf Try.prog 38 = some [.nil 1] ∧
  isInt Try.prog 38 = none ∧
  szOf Try.prog 39 = 4 ∧
  aggOf Try.prog 39 = true ∧
  known Try.prog 39 = true ∧
  Try.prog.bytesOf 39 = 64 ∧
  elOf Try.prog 39 = none ∧
  isStr Try.prog 39 = false ∧
  isSl Try.prog 39 = false ∧
  isBoolT Try.prog 39 = false ∧
  strOK Try.prog 39 = true ∧
  fOf Try.prog 39 0 = some (0, 1, false) ∧
  fTy Try.prog 39 0 = 9 ∧
  fOf Try.prog 39 1 = some (1, 1, false) ∧
  fTy Try.prog 39 1 = 9 ∧
  fOf Try.prog 39 2 = some (2, 1, false) ∧
  fTy Try.prog 39 2 = 38 ∧
  fOf Try.prog 39 3 = some (3, 1, false) ∧
  fTy Try.prog 39 3 = 4 ∧
  zeroOf Try.prog 39 = some [.t (.str []), .t (.str []), .nil 1, .t (.bool false)] ∧
  isInt Try.prog 39 = none ∧
  szOf Try.prog 40 = 4 ∧
  aggOf Try.prog 40 = true ∧
  known Try.prog 40 = true ∧
  Try.prog.bytesOf 40 = 64 ∧
  elOf Try.prog 40 = none ∧
  isStr Try.prog 40 = false ∧
  isSl Try.prog 40 = false ∧
  isBoolT Try.prog 40 = false ∧
  strOK Try.prog 40 = true ∧
  fOf Try.prog 40 0 = some (0, 1, false) ∧
  fTy Try.prog 40 0 = 9 ∧
  fOf Try.prog 40 1 = some (1, 1, false) ∧
  fTy Try.prog 40 1 = 9 ∧
  fOf Try.prog 40 2 = some (2, 1, false) ∧
  fTy Try.prog 40 2 = 38 ∧
  fOf Try.prog 40 3 = some (3, 1, false) ∧
  fTy Try.prog 40 3 = 4 ∧
  zeroOf Try.prog 40 = some [.t (.str []), .t (.str []), .nil 1, .t (.bool false)] ∧
  isInt Try.prog 40 = none ∧
  szOf Try.prog 41 = 1 ∧
  aggOf Try.prog 41 = false ∧
  known Try.prog 41 = true ∧
  Try.prog.bytesOf 41 = 8 ∧
  elOf Try.prog 41 = none ∧
  isStr Try.prog 41 = false ∧
  isSl Try.prog 41 = false ∧
  isBoolT Try.prog 41 = false ∧
  zeroOf Try.prog 41 = some [.t .nilf] ∧
  isInt Try.prog 41 = none ∧
  szOf Try.prog 42 = 1 ∧
  aggOf Try.prog 42 = false ∧
  known Try.prog 42 = true ∧
  Try.prog.bytesOf 42 = 8 ∧
  elOf Try.prog 42 = none ∧
  isStr Try.prog 42 = false ∧
  isSl Try.prog 42 = false ∧
  isBoolT Try.prog 42 = false ∧
  zeroOf Try.prog 42 = some [.t .nilf] ∧
  isInt Try.prog 42 = none ∧
  szOf Try.prog 43 = 1 ∧
  aggOf Try.prog 43 = false ∧
  known Try.prog 43 = true ∧
  Try.prog.bytesOf 43 = 8 ∧
  elOf Try.prog 43 = none ∧
  isStr Try.prog 43 = false ∧
  isSl Try.prog 43 = false ∧
  isBoolT Try.prog 43 = false ∧
  zeroOf Try.prog 43 = some [.t .nilf] ∧
  isInt Try.prog 43 = none ∧
  szOf Try.prog 44 = 1 ∧
  aggOf Try.prog 44 = false ∧
  known Try.prog 44 = true ∧
  Try.prog.bytesOf 44 = 8 ∧
  elOf Try.prog 44 = none ∧
  isStr Try.prog 44 = false ∧
  isSl Try.prog 44 = false ∧
  isBoolT Try.prog 44 = false ∧
  zeroOf Try.prog 44 = some [.t .nilf] ∧
  isInt Try.prog 44 = none ∧
  szOf Try.prog 45 = 1 ∧
  aggOf Try.prog 45 = false ∧
  known Try.prog 45 = true ∧
  Try.prog.bytesOf 45 = 8 ∧
  elOf Try.prog 45 = none ∧
  isStr Try.prog 45 = false ∧
  isSl Try.prog 45 = false ∧
  isBoolT Try.prog 45 = false ∧
  zeroOf Try.prog 45 = some [.t .nilf] ∧
  isInt Try.prog 45 = none ∧
  szOf Try.prog 46 = 1 ∧
  aggOf Try.prog 46 = false ∧
  known Try.prog 46 = true ∧
  Try.prog.bytesOf 46 = 8 ∧
  elOf Try.prog 46 = none ∧
  isStr Try.prog 46 = false ∧
  isSl Try.prog 46 = false ∧
  isBoolT Try.prog 46 = false ∧
  zeroOf Try.prog 46 = some [.t .nilf] ∧
  isInt Try.prog 46 = none ∧
  szOf Try.prog 47 = 1 ∧
  aggOf Try.prog 47 = false ∧
  known Try.prog 47 = true ∧
  Try.prog.bytesOf 47 = 8 ∧
  elOf Try.prog 47 = none ∧
  isStr Try.prog 47 = false ∧
  isSl Try.prog 47 = false ∧
  isBoolT Try.prog 47 = false ∧
  zeroOf Try.prog 47 = some [.t .nilf] ∧
  isInt Try.prog 47 = none ∧
  szOf Try.prog 48 = 1 ∧
  aggOf Try.prog 48 = false ∧
  known Try.prog 48 = true ∧
  Try.prog.bytesOf 48 = 8 ∧
  elOf Try.prog 48 = none ∧
  isStr Try.prog 48 = false ∧
  isSl Try.prog 48 = false ∧
  isBoolT Try.prog 48 = false ∧
  zeroOf Try.prog 48 = some [.t .nilf] ∧
  isInt Try.prog 48 = none ∧
  szOf Try.prog 49 = 1 ∧
  aggOf Try.prog 49 = false ∧
  known Try.prog 49 = true ∧
  Try.prog.bytesOf 49 = 8 ∧
  elOf Try.prog 49 = none ∧
  isStr Try.prog 49 = false ∧
  isSl Try.prog 49 = false ∧
  isBoolT Try.prog 49 = false ∧
  zeroOf Try.prog 49 = some [.t .nilf] ∧
  isInt Try.prog 49 = none ∧
  szOf Try.prog 50 = 1 ∧
  aggOf Try.prog 50 = false ∧
  known Try.prog 50 = true ∧
  Try.prog.bytesOf 50 = 8 ∧
  elOf Try.prog 50 = none ∧
  isStr Try.prog 50 = false ∧
  isSl Try.prog 50 = false ∧
  isBoolT Try.prog 50 = false ∧
  zeroOf Try.prog 50 = some [.t .nilf] ∧
  isInt Try.prog 50 = none ∧
  szOf Try.prog 51 = 1 ∧
  aggOf Try.prog 51 = false ∧
  known Try.prog 51 = true ∧
  Try.prog.bytesOf 51 = 8 ∧
  elOf Try.prog 51 = none ∧
  isStr Try.prog 51 = false ∧
  isSl Try.prog 51 = false ∧
  isBoolT Try.prog 51 = false ∧
  zeroOf Try.prog 51 = some [.t .nilf] ∧
  isInt Try.prog 51 = none ∧
  szOf Try.prog 52 = 1 ∧
  aggOf Try.prog 52 = false ∧
  known Try.prog 52 = true ∧
  Try.prog.bytesOf 52 = 8 ∧
  elOf Try.prog 52 = none ∧
  isStr Try.prog 52 = false ∧
  isSl Try.prog 52 = false ∧
  isBoolT Try.prog 52 = false ∧
  zeroOf Try.prog 52 = some [.t .nilp] ∧
  isInt Try.prog 52 = none ∧
  szOf Try.prog 53 = 1 ∧
  aggOf Try.prog 53 = false ∧
  known Try.prog 53 = true ∧
  Try.prog.bytesOf 53 = 24 ∧
  elOf Try.prog 53 = some 5 ∧
  isStr Try.prog 53 = false ∧
  isSl Try.prog 53 = true ∧
  isBoolT Try.prog 53 = false ∧
  zeroOf Try.prog 53 = some [.nil 1] ∧
  isInt Try.prog 53 = none ∧
  szOf Try.prog 54 = 2 ∧
  aggOf Try.prog 54 = true ∧
  known Try.prog 54 = true ∧
  Try.prog.bytesOf 54 = 32 ∧
  elOf Try.prog 54 = none ∧
  isStr Try.prog 54 = false ∧
  isSl Try.prog 54 = false ∧
  isBoolT Try.prog 54 = false ∧
  strOK Try.prog 54 = true ∧
  fOf Try.prog 54 0 = some (0, 1, false) ∧
  fTy Try.prog 54 0 = 52 ∧
  fOf Try.prog 54 1 = some (1, 1, false) ∧
  fTy Try.prog 54 1 = 53 ∧
  zeroOf Try.prog 54 = some [.t .nilp, .nil 1] ∧
  isInt Try.prog 54 = none ∧
  szOf Try.prog 55 = 2 ∧
  aggOf Try.prog 55 = true ∧
  known Try.prog 55 = true ∧
  Try.prog.bytesOf 55 = 32 ∧
  elOf Try.prog 55 = none ∧
  isStr Try.prog 55 = false ∧
  isSl Try.prog 55 = false ∧
  isBoolT Try.prog 55 = false ∧
  strOK Try.prog 55 = true ∧
  fOf Try.prog 55 0 = some (0, 1, false) ∧
  fTy Try.prog 55 0 = 52 ∧
  fOf Try.prog 55 1 = some (1, 1, false) ∧
  fTy Try.prog 55 1 = 53 ∧
  zeroOf Try.prog 55 = some [.t .nilp, .nil 1] ∧
  isInt Try.prog 55 = none ∧
  szOf Try.prog 56 = 1 ∧
  aggOf Try.prog 56 = false ∧
  known Try.prog 56 = true ∧
  Try.prog.bytesOf 56 = 8 ∧
  elOf Try.prog 56 = none ∧
  isStr Try.prog 56 = false ∧
  isSl Try.prog 56 = false ∧
  isBoolT Try.prog 56 = false ∧
  zeroOf Try.prog 56 = some [.t .nilf] ∧
  isInt Try.prog 56 = none ∧
  szOf Try.prog 57 = 1 ∧
  aggOf Try.prog 57 = false ∧
  known Try.prog 57 = true ∧
  Try.prog.bytesOf 57 = 16 ∧
  elOf Try.prog 57 = none ∧
  isStr Try.prog 57 = false ∧
  isSl Try.prog 57 = false ∧
  isBoolT Try.prog 57 = false ∧
  zeroOf Try.prog 57 = some [.t .nili] ∧
  isInt Try.prog 57 = none ∧
  szOf Try.prog 58 = 1 ∧
  aggOf Try.prog 58 = false ∧
  known Try.prog 58 = true ∧
  Try.prog.bytesOf 58 = 16 ∧
  elOf Try.prog 58 = none ∧
  isStr Try.prog 58 = false ∧
  isSl Try.prog 58 = false ∧
  isBoolT Try.prog 58 = false ∧
  zeroOf Try.prog 58 = some [.t .nili] ∧
  isInt Try.prog 58 = none ∧
  szOf Try.prog 60 = 1 ∧
  aggOf Try.prog 60 = false ∧
  known Try.prog 60 = true ∧
  Try.prog.bytesOf 60 = 8 ∧
  elOf Try.prog 60 = none ∧
  isStr Try.prog 60 = false ∧
  isSl Try.prog 60 = false ∧
  isBoolT Try.prog 60 = false ∧
  zeroOf Try.prog 60 = some [.t .nilf] ∧
  isInt Try.prog 60 = none ∧
  szOf Try.prog 61 = 1 ∧
  aggOf Try.prog 61 = false ∧
  known Try.prog 61 = true ∧
  Try.prog.bytesOf 61 = 8 ∧
  elOf Try.prog 61 = none ∧
  isStr Try.prog 61 = false ∧
  isSl Try.prog 61 = false ∧
  isBoolT Try.prog 61 = false ∧
  zeroOf Try.prog 61 = some [.t .nilf] ∧
  isInt Try.prog 61 = none ∧
  szOf Try.prog 62 = 1 ∧
  aggOf Try.prog 62 = false ∧
  known Try.prog 62 = true ∧
  Try.prog.bytesOf 62 = 8 ∧
  elOf Try.prog 62 = none ∧
  isStr Try.prog 62 = false ∧
  isSl Try.prog 62 = false ∧
  isBoolT Try.prog 62 = false ∧
  zeroOf Try.prog 62 = some [.t .nilf] ∧
  isInt Try.prog 62 = none ∧
  szOf Try.prog 63 = 4 ∧
  aggOf Try.prog 63 = true ∧
  known Try.prog 63 = true ∧
  Try.prog.bytesOf 63 = 64 ∧
  elOf Try.prog 63 = none ∧
  isStr Try.prog 63 = false ∧
  isSl Try.prog 63 = false ∧
  isBoolT Try.prog 63 = false ∧
  strOK Try.prog 63 = true ∧
  fOf Try.prog 63 0 = some (0, 1, false) ∧
  fTy Try.prog 63 0 = 9 ∧
  fOf Try.prog 63 1 = some (1, 1, false) ∧
  fTy Try.prog 63 1 = 9 ∧
  fOf Try.prog 63 2 = some (2, 1, false) ∧
  fTy Try.prog 63 2 = 38 ∧
  fOf Try.prog 63 3 = some (3, 1, false) ∧
  fTy Try.prog 63 3 = 4 ∧
  zeroOf Try.prog 63 = some [.t (.str []), .t (.str []), .nil 1, .t (.bool false)] ∧
  isInt Try.prog 63 = none ∧
  szOf Try.prog 64 = 1 ∧
  aggOf Try.prog 64 = false ∧
  known Try.prog 64 = true ∧
  Try.prog.bytesOf 64 = 8 ∧
  elOf Try.prog 64 = none ∧
  isStr Try.prog 64 = false ∧
  isSl Try.prog 64 = false ∧
  isBoolT Try.prog 64 = false ∧
  zeroOf Try.prog 64 = some [.t .nilf] ∧
  isInt Try.prog 64 = none ∧
  szOf Try.prog 65 = 1 ∧
  aggOf Try.prog 65 = false ∧
  known Try.prog 65 = true ∧
  Try.prog.bytesOf 65 = 8 ∧
  elOf Try.prog 65 = none ∧
  isStr Try.prog 65 = false ∧
  isSl Try.prog 65 = false ∧
  isBoolT Try.prog 65 = false ∧
  zeroOf Try.prog 65 = some [.t .nilf] ∧
  isInt Try.prog 65 = none ∧
  szOf Try.prog 66 = 1 ∧
  aggOf Try.prog 66 = false ∧
  known Try.prog 66 = true ∧
  Try.prog.bytesOf 66 = 8 ∧
  elOf Try.prog 66 = none ∧
  isStr Try.prog 66 = false ∧
  isSl Try.prog 66 = false ∧
  isBoolT Try.prog 66 = false ∧
  zeroOf Try.prog 66 = some [.t .nilf] ∧
  isInt Try.prog 66 = none ∧
  szOf Try.prog 67 = 1 ∧
  aggOf Try.prog 67 = false ∧
  known Try.prog 67 = true ∧
  Try.prog.bytesOf 67 = 8 ∧
  elOf Try.prog 67 = none ∧
  isStr Try.prog 67 = false ∧
  isSl Try.prog 67 = false ∧
  isBoolT Try.prog 67 = false ∧
  zeroOf Try.prog 67 = some [.t .nilf] ∧
  isInt Try.prog 67 = none ∧
  szOf Try.prog 68 = 1 ∧
  aggOf Try.prog 68 = false ∧
  known Try.prog 68 = true ∧
  Try.prog.bytesOf 68 = 8 ∧
  elOf Try.prog 68 = none ∧
  isStr Try.prog 68 = false ∧
  isSl Try.prog 68 = false ∧
  isBoolT Try.prog 68 = false ∧
  zeroOf Try.prog 68 = some [.t .nilf] ∧
  isInt Try.prog 68 = none ∧
  szOf Try.prog 69 = 1 ∧
  aggOf Try.prog 69 = false ∧
  known Try.prog 69 = true ∧
  Try.prog.bytesOf 69 = 8 ∧
  elOf Try.prog 69 = none ∧
  isStr Try.prog 69 = false ∧
  isSl Try.prog 69 = false ∧
  isBoolT Try.prog 69 = false ∧
  zeroOf Try.prog 69 = some [.t .nilp] ∧
  isInt Try.prog 69 = none ∧
  szOf Try.prog 70 = 1 ∧
  aggOf Try.prog 70 = false ∧
  known Try.prog 70 = true ∧
  Try.prog.bytesOf 70 = 8 ∧
  elOf Try.prog 70 = none ∧
  isStr Try.prog 70 = false ∧
  isSl Try.prog 70 = false ∧
  isBoolT Try.prog 70 = false ∧
  zeroOf Try.prog 70 = some [.t .nilf] ∧
  isInt Try.prog 70 = none ∧
  szOf Try.prog 71 = 1 ∧
  aggOf Try.prog 71 = false ∧
  known Try.prog 71 = true ∧
  Try.prog.bytesOf 71 = 8 ∧
  elOf Try.prog 71 = none ∧
  isStr Try.prog 71 = false ∧
  isSl Try.prog 71 = false ∧
  isBoolT Try.prog 71 = false ∧
  zeroOf Try.prog 71 = some [.t .nilf] ∧
  isInt Try.prog 71 = none ∧
  szOf Try.prog 72 = 1 ∧
  aggOf Try.prog 72 = false ∧
  known Try.prog 72 = true ∧
  Try.prog.bytesOf 72 = 8 ∧
  elOf Try.prog 72 = none ∧
  isStr Try.prog 72 = false ∧
  isSl Try.prog 72 = false ∧
  isBoolT Try.prog 72 = false ∧
  zeroOf Try.prog 72 = some [.t .nilf] ∧
  isInt Try.prog 72 = none ∧
  szOf Try.prog 73 = 1 ∧
  aggOf Try.prog 73 = false ∧
  known Try.prog 73 = true ∧
  Try.prog.bytesOf 73 = 8 ∧
  elOf Try.prog 73 = none ∧
  isStr Try.prog 73 = false ∧
  isSl Try.prog 73 = false ∧
  isBoolT Try.prog 73 = false ∧
  zeroOf Try.prog 73 = some [.t (.int .u64 0)] ∧
  isInt Try.prog 73 = some .u64 ∧
  szOf Try.prog 75 = 1 ∧
  aggOf Try.prog 75 = false ∧
  known Try.prog 75 = true ∧
  Try.prog.bytesOf 75 = 8 ∧
  elOf Try.prog 75 = none ∧
  isStr Try.prog 75 = false ∧
  isSl Try.prog 75 = false ∧
  isBoolT Try.prog 75 = false ∧
  zeroOf Try.prog 75 = some [.t .nilf] ∧
  isInt Try.prog 75 = none ∧
  szOf Try.prog 76 = 1 ∧
  aggOf Try.prog 76 = false ∧
  known Try.prog 76 = true ∧
  Try.prog.bytesOf 76 = 8 ∧
  elOf Try.prog 76 = none ∧
  isStr Try.prog 76 = false ∧
  isSl Try.prog 76 = false ∧
  isBoolT Try.prog 76 = false ∧
  zeroOf Try.prog 76 = some [.t .nilf] ∧
  isInt Try.prog 76 = none ∧
  szOf Try.prog 77 = 1 ∧
  aggOf Try.prog 77 = false ∧
  known Try.prog 77 = true ∧
  Try.prog.bytesOf 77 = 8 ∧
  elOf Try.prog 77 = none ∧
  isStr Try.prog 77 = false ∧
  isSl Try.prog 77 = false ∧
  isBoolT Try.prog 77 = false ∧
  zeroOf Try.prog 77 = some [.t .nilf] ∧
  isInt Try.prog 77 = none ∧
  szOf Try.prog 78 = 4 ∧
  aggOf Try.prog 78 = true ∧
  known Try.prog 78 = true ∧
  Try.prog.bytesOf 78 = 40 ∧
  elOf Try.prog 78 = none ∧
  isStr Try.prog 78 = false ∧
  isSl Try.prog 78 = false ∧
  isBoolT Try.prog 78 = false ∧
  strOK Try.prog 78 = true ∧
  fOf Try.prog 78 0 = some (0, 1, false) ∧
  fTy Try.prog 78 0 = 17 ∧
  fOf Try.prog 78 1 = some (1, 1, false) ∧
  fTy Try.prog 78 1 = 17 ∧
  fOf Try.prog 78 2 = some (2, 1, false) ∧
  fTy Try.prog 78 2 = 17 ∧
  fOf Try.prog 78 3 = some (3, 1, false) ∧
  fTy Try.prog 78 3 = 9 ∧
  zeroOf Try.prog 78 = some [.t .nilp, .t .nilp, .t .nilp, .t (.str [])] ∧
  isInt Try.prog 78 = none ∧
  szOf Try.prog 79 = 4 ∧
  aggOf Try.prog 79 = true ∧
  known Try.prog 79 = true ∧
  Try.prog.bytesOf 79 = 40 ∧
  elOf Try.prog 79 = none ∧
  isStr Try.prog 79 = false ∧
  isSl Try.prog 79 = false ∧
  isBoolT Try.prog 79 = false ∧
  strOK Try.prog 79 = true ∧
  fOf Try.prog 79 0 = some (0, 1, false) ∧
  fTy Try.prog 79 0 = 17 ∧
  fOf Try.prog 79 1 = some (1, 1, false) ∧
  fTy Try.prog 79 1 = 17 ∧
  fOf Try.prog 79 2 = some (2, 1, false) ∧
  fTy Try.prog 79 2 = 17 ∧
  fOf Try.prog 79 3 = some (3, 1, false) ∧
  fTy Try.prog 79 3 = 9 ∧
  zeroOf Try.prog 79 = some [.t .nilp, .t .nilp, .t .nilp, .t (.str [])] ∧
  isInt Try.prog 79 = none ∧
  szOf Try.prog 83 = 1 ∧
  aggOf Try.prog 83 = false ∧
  known Try.prog 83 = true ∧
  Try.prog.bytesOf 83 = 8 ∧
  elOf Try.prog 83 = none ∧
  isStr Try.prog 83 = false ∧
  isSl Try.prog 83 = false ∧
  isBoolT Try.prog 83 = false ∧
  zeroOf Try.prog 83 = some [.t .nilf] ∧
  isInt Try.prog 83 = none ∧
  szOf Try.prog 84 = 1 ∧
  aggOf Try.prog 84 = false ∧
  known Try.prog 84 = true ∧
  Try.prog.bytesOf 84 = 4 ∧
  elOf Try.prog 84 = none ∧
  isStr Try.prog 84 = false ∧
  isSl Try.prog 84 = false ∧
  isBoolT Try.prog 84 = false ∧
  zeroOf Try.prog 84 = some [.t (.int .u32 0)] ∧
  isInt Try.prog 84 = some .u32 ∧
  szOf Try.prog 85 = 1 ∧
  aggOf Try.prog 85 = false ∧
  known Try.prog 85 = true ∧
  Try.prog.bytesOf 85 = 1 ∧
  elOf Try.prog 85 = none ∧
  isStr Try.prog 85 = false ∧
  isSl Try.prog 85 = false ∧
  isBoolT Try.prog 85 = false ∧
  zeroOf Try.prog 85 = some [.t (.int .u8 0)] ∧
  isInt Try.prog 85 = some .u8 ∧
  szOf Try.prog 86 = 1 ∧
  aggOf Try.prog 86 = false ∧
  known Try.prog 86 = true ∧
  Try.prog.bytesOf 86 = 1 ∧
  elOf Try.prog 86 = none ∧
  isStr Try.prog 86 = false ∧
  isSl Try.prog 86 = false ∧
  isBoolT Try.prog 86 = false ∧
  zeroOf Try.prog 86 = some [.t (.int .u8 0)] ∧
  isInt Try.prog 86 = some .u8 ∧
  szOf Try.prog 87 = 1 ∧
  aggOf Try.prog 87 = false ∧
  known Try.prog 87 = true ∧
  Try.prog.bytesOf 87 = 8 ∧
  elOf Try.prog 87 = none ∧
  isStr Try.prog 87 = false ∧
  isSl Try.prog 87 = false ∧
  isBoolT Try.prog 87 = false ∧
  zeroOf Try.prog 87 = some [.t .nilf] ∧
  isInt Try.prog 87 = none ∧
  szOf Try.prog 88 = 1 ∧
  aggOf Try.prog 88 = false ∧
  known Try.prog 88 = true ∧
  Try.prog.bytesOf 88 = 4 ∧
  elOf Try.prog 88 = none ∧
  isStr Try.prog 88 = false ∧
  isSl Try.prog 88 = false ∧
  isBoolT Try.prog 88 = false ∧
  zeroOf Try.prog 88 = some [.t (.int .i32 0)] ∧
  isInt Try.prog 88 = some .i32 ∧
  szOf Try.prog 89 = 1 ∧
  aggOf Try.prog 89 = false ∧
  known Try.prog 89 = true ∧
  Try.prog.bytesOf 89 = 4 ∧
  elOf Try.prog 89 = none ∧
  isStr Try.prog 89 = false ∧
  isSl Try.prog 89 = false ∧
  isBoolT Try.prog 89 = false ∧
  zeroOf Try.prog 89 = some [.t (.int .i32 0)] ∧
  isInt Try.prog 89 = some .i32 ∧
  szOf Try.prog 90 = 11 ∧
  aggOf Try.prog 90 = true ∧
  known Try.prog 90 = true ∧
  Try.prog.bytesOf 90 = 48 ∧
  elOf Try.prog 90 = none ∧
  isStr Try.prog 90 = false ∧
  isSl Try.prog 90 = false ∧
  isBoolT Try.prog 90 = false ∧
  strOK Try.prog 90 = true ∧
  fOf Try.prog 90 0 = some (0, 1, false) ∧
  fTy Try.prog 90 0 = 12 ∧
  fOf Try.prog 90 1 = some (1, 1, false) ∧
  fTy Try.prog 90 1 = 12 ∧
  fOf Try.prog 90 2 = some (2, 1, false) ∧
  fTy Try.prog 90 2 = 84 ∧
  fOf Try.prog 90 3 = some (3, 1, false) ∧
  fTy Try.prog 90 3 = 85 ∧
  fOf Try.prog 90 4 = some (4, 1, false) ∧
  fTy Try.prog 90 4 = 5 ∧
  fOf Try.prog 90 5 = some (5, 1, false) ∧
  fTy Try.prog 90 5 = 5 ∧
  fOf Try.prog 90 6 = some (6, 1, false) ∧
  fTy Try.prog 90 6 = 86 ∧
  fOf Try.prog 90 7 = some (7, 1, false) ∧
  fTy Try.prog 90 7 = 87 ∧
  fOf Try.prog 90 8 = some (8, 1, false) ∧
  fTy Try.prog 90 8 = 69 ∧
  fOf Try.prog 90 9 = some (9, 1, false) ∧
  fTy Try.prog 90 9 = 88 ∧
  fOf Try.prog 90 10 = some (10, 1, false) ∧
  fTy Try.prog 90 10 = 89 ∧
  zeroOf Try.prog 90 = some [.t (.int .u64 0), .t (.int .u64 0), .t (.int .u32 0), .t (.int .u8 0), .t (.int .u8 0), .t (.int .u8 0), .t (.int .u8 0), .t .nilf, .t .nilp, .t (.int .i32 0), .t (.int .i32 0)] ∧
  isInt Try.prog 90 = none ∧
  szOf Try.prog 91 = 11 ∧
  aggOf Try.prog 91 = true ∧
  known Try.prog 91 = true ∧
  Try.prog.bytesOf 91 = 48 ∧
  elOf Try.prog 91 = none ∧
  isStr Try.prog 91 = false ∧
  isSl Try.prog 91 = false ∧
  isBoolT Try.prog 91 = false ∧
  strOK Try.prog 91 = true ∧
  fOf Try.prog 91 0 = some (0, 1, false) ∧
  fTy Try.prog 91 0 = 12 ∧
  fOf Try.prog 91 1 = some (1, 1, false) ∧
  fTy Try.prog 91 1 = 12 ∧
  fOf Try.prog 91 2 = some (2, 1, false) ∧
  fTy Try.prog 91 2 = 84 ∧
  fOf Try.prog 91 3 = some (3, 1, false) ∧
  fTy Try.prog 91 3 = 85 ∧
  fOf Try.prog 91 4 = some (4, 1, false) ∧
  fTy Try.prog 91 4 = 5 ∧
  fOf Try.prog 91 5 = some (5, 1, false) ∧
  fTy Try.prog 91 5 = 5 ∧
  fOf Try.prog 91 6 = some (6, 1, false) ∧
  fTy Try.prog 91 6 = 86 ∧
  fOf Try.prog 91 7 = some (7, 1, false) ∧
  fTy Try.prog 91 7 = 87 ∧
  fOf Try.prog 91 8 = some (8, 1, false) ∧
  fTy Try.prog 91 8 = 69 ∧
  fOf Try.prog 91 9 = some (9, 1, false) ∧
  fTy Try.prog 91 9 = 88 ∧
  fOf Try.prog 91 10 = some (10, 1, false) ∧
  fTy Try.prog 91 10 = 89 ∧
  zeroOf Try.prog 91 = some [.t (.int .u64 0), .t (.int .u64 0), .t (.int .u32 0), .t (.int .u8 0), .t (.int .u8 0), .t (.int .u8 0), .t (.int .u8 0), .t .nilf, .t .nilp, .t (.int .i32 0), .t (.int .i32 0)] ∧
  isInt Try.prog 91 = none :=
  ⟨TY_0, TY_1, TY_2, TY_3, TY_4, TY_5, TY_6, TY_7, TY_8, TY_9, TY_10, TY_11, TY_12, TY_13, TY_14, TY_15, TY_16, TY_17, TY_18, TY_19, TY_20, TY_21, TY_22, TY_23, TY_24, TY_25, TY_26, TY_27, TY_28, TY_29, TY_30, TY_31, TY_32, TY_33, TY_34, TY_35, TY_36, TY_37, TY_38, TY_39, TY_40, TY_41, TY_42, TY_43, TY_44, TY_45, TY_46, TY_47, TY_48, TY_49, TY_50, TY_51, TY_52, TY_53, TY_54, TY_55, TY_56, TY_57, TY_58, TY_59, TY_60, TY_61, TY_62, TY_63, TY_64, TY_65, TY_66, TY_67, TY_68, TY_69, TY_70, TY_71, TY_72, TY_73, TY_74, TY_75, TY_76, TY_77, TY_78, TY_79, TY_80, TY_81, TY_82, TY_83, TY_84, TY_85, TY_86, TY_87, TY_88, TY_89, TY_90, TY_91, TY_92, TY_93, TY_94, TY_95, TY_96, TY_97, TY_98, TY_99, TY_100, TY_101, TY_102, TY_103, TY_104, TY_105, TY_106, TY_107, TY_108, TY_109, TY_110, TY_111, TY_112, TY_113, TY_114, TY_115, TY_116, TY_117, TY_118, TY_119, TY_120, TY_121, TY_122, TY_123, TY_124, TY_125, TY_126, TY_127, TY_128, TY_129, TY_130, TY_131, TY_132, TY_133, TY_134, TY_135, TY_136, TY_137, TY_138, TY_139, TY_140, TY_141, TY_142, TY_143, TY_144, TY_145, TY_146, TY_147, TY_148, TY_149, TY_150, TY_151, TY_152, TY_153, TY_154, TY_155, TY_156, TY_157, TY_158, TY_159, TY_160, TY_161, TY_162, TY_163, TY_164, TY_165, TY_166, TY_167, TY_168, TY_169, TY_170, TY_171, TY_172, TY_173, TY_174, TY_175, TY_176, TY_177, TY_178, TY_179, TY_180, TY_181, TY_182, TY_183, TY_184, TY_185, TY_186, TY_187, TY_188, TY_189, TY_190, TY_191, TY_192, TY_193, TY_194, TY_195, TY_196, TY_197, TY_198, TY_199, TY_200, TY_201, TY_202, TY_203, TY_204, TY_205, TY_206, TY_207, TY_208, TY_209, TY_210, TY_211, TY_212, TY_213, TY_214, TY_215, TY_216, TY_217, TY_218, TY_219, TY_220, TY_221, TY_222, TY_223, TY_224, TY_225, TY_226, TY_227, TY_228, TY_229, TY_230, TY_231, TY_232, TY_233, TY_234, TY_235, TY_236, TY_237, TY_238, TY_239, TY_240, TY_241, TY_242, TY_243, TY_244, TY_245, TY_246, TY_247, TY_248, TY_249, TY_250, TY_251, TY_252, TY_253, TY_254, TY_255, TY_256, TY_257, TY_258, TY_259, TY_260, TY_261, TY_262, TY_263, TY_264, TY_265, TY_266, TY_267, TY_268, TY_269, TY_270, TY_271, TY_272, TY_273, TY_274, TY_275, TY_276, TY_277, TY_278, TY_279, TY_280, TY_281, TY_282, TY_283, TY_284, TY_285, TY_286, TY_287, TY_288, TY_289, TY_290, TY_291, TY_292, TY_293, TY_294, TY_295, TY_296, TY_297, TY_298, TY_299, TY_300, TY_301, TY_302, TY_303, TY_304, TY_305, TY_306, TY_307, TY_308, TY_309, TY_310, TY_311, TY_312, TY_313, TY_314, TY_315, TY_316, TY_317, TY_318, TY_319, TY_320, TY_321, TY_322, TY_323, TY_324, TY_325, TY_326, TY_327, TY_328, TY_329, TY_330, TY_331, TY_332, TY_333, TY_334, TY_335, TY_336, TY_337, TY_338, TY_339, TY_340, TY_341, TY_342, TY_343, TY_344, TY_345, TY_346, TY_347, TY_348, TY_349, TY_350, TY_351, TY_352, TY_353, TY_354, TY_355, TY_356, TY_357, TY_358, TY_359, TY_360, TY_361, TY_362, TY_363, TY_364, TY_365, TY_366, TY_367, TY_368, TY_369, TY_370, TY_371, TY_372, TY_373, TY_374, TY_375, TY_376, TY_377, TY_378, TY_379, TY_380, TY_381, TY_382, TY_383, TY_384, TY_385, TY_386, TY_387, TY_388, TY_389, TY_390, TY_391, TY_392, TY_393, TY_394, TY_395, TY_396, TY_397, TY_398, TY_399, TY_400, TY_401, TY_402, TY_403, TY_404, TY_405, TY_406, TY_407, TY_408, TY_409, TY_410, TY_411, TY_412, TY_413, TY_414, TY_415, TY_416, TY_417, TY_418, TY_419, TY_420, TY_421, TY_422, TY_423, TY_424, TY_425, TY_426, TY_427, TY_428, TY_429, TY_430, TY_431, TY_432, TY_433, TY_434, TY_435, TY_436, TY_437, TY_438, TY_439, TY_440, TY_441, TY_442, TY_443, TY_444, TY_445, TY_446, TY_447, TY_448, TY_449, TY_450, TY_451, TY_452, TY_453, TY_454, TY_455, TY_456, TY_457, TY_458, TY_459, TY_460, TY_461, TY_462, TY_463, TY_464, TY_465, TY_466, TY_467, TY_468, TY_469, TY_470, TY_471, TY_472, TY_473, TY_474, TY_475, TY_476, TY_477, TY_478, TY_479, TY_480, TY_481, TY_482, TY_483, TY_484, TY_485, TY_486, TY_487, TY_488, TY_489, TY_490, TY_491, TY_492, TY_493, TY_494, TY_495, TY_496, TY_497, TY_498, TY_499, TY_500, TY_501, TY_502, TY_503, TY_504, TY_505, TY_506, TY_507, TY_508, TY_509, TY_510, TY_511, TY_512, TY_513, TY_514, TY_515, TY_516, TY_517, TY_518, TY_519, TY_520, TY_521, TY_522, TY_523, TY_524, TY_525, TY_526, TY_527, TY_528, TY_529, TY_530, TY_531, TY_532, TY_533, TY_534, TY_535, TY_536, TY_537, TY_538, TY_539, TY_540, TY_541, TY_542, TY_543, TY_544, TY_545, TY_546, TY_547, TY_548, TY_549, TY_550, TY_551, TY_552, TY_553, TY_554, TY_555, TY_556, TY_557, TY_558, TY_559, TY_560, TY_561, TY_562, TY_563, TY_564, TY_565, TY_566, TY_567, TY_568, TY_569, TY_570, TY_571, TY_572, TY_573, TY_574, TY_575, TY_576, TY_577, TY_578, TY_579, TY_580, TY_581, TY_582, TY_583, TY_584, TY_585, TY_586, TY_587, TY_588, TY_589, TY_590, TY_591, TY_592, TY_593, TY_594, TY_595, TY_596, TY_597, TY_598, TY_599, TY_600, TY_601, TY_602, TY_603, TY_604, TY_605, TY_606, TY_607, TY_608, TY_609, TY_610, TY_611, TY_612, TY_613, TY_614, TY_615, TY_616, TY_617, TY_618, TY_619, TY_620, TY_621, TY_622, TY_623, TY_624, TY_625, TY_626, TY_627, TY_628, TY_629, TY_630, TY_631, TY_632, TY_633, TY_634, TY_635, TY_636, TY_637, TY_638, TY_639, TY_640, TY_641, TY_642, TY_643, TY_644, TY_645, TY_646, TY_647, TY_648, TY_649, TY_650, TY_651, TY_652, TY_653, TY_654, TY_655, TY_656, TY_657, TY_658, TY_659, TY_660, TY_661, TY_662, TY_663, TY_664, TY_665, TY_666, TY_667, TY_668, TY_669, TY_670, TY_671, TY_672, TY_673, TY_674, TY_675, TY_676, TY_677, TY_678, TY_679, TY_680, TY_681, TY_682, TY_683, TY_684, TY_685, TY_686, TY_687, TY_688, TY_689, TY_690, TY_691, TY_692, TY_693, TY_694, TY_695, TY_696, TY_697, TY_698, TY_699, TY_700, TY_701, TY_702, TY_703, TY_704, TY_705, TY_706, TY_707, TY_708, TY_709, TY_710, TY_711, TY_712, TY_713, TY_714, TY_715, TY_716, TY_717, TY_718, TY_719, TY_720, TY_721, TY_722, TY_723, TY_724, TY_725, TY_726, TY_727, TY_728, TY_729, TY_730, TY_731, TY_732, TY_733, TY_734, TY_735, TY_736, TY_737, TY_738, TY_739, TY_740, TY_741, TY_742, TY_743, TY_744, TY_745, TY_746, TY_747, TY_748, TY_749, TY_750, TY_751, TY_752, TY_753, TY_754, TY_755, TY_756, TY_757, TY_758, TY_759, TY_760, TY_761, TY_762, TY_763, TY_764, TY_765, TY_766, TY_767, TY_768, TY_769, TY_770, TY_771, TY_772, TY_773, TY_774, TY_775, TY_776, TY_777, TY_778, TY_779, TY_780, TY_781, TY_782, TY_783, TY_784, TY_785, TY_786, TY_787, TY_788, TY_789, TY_790, TY_791, TY_792, TY_793, TY_794, TY_795, TY_796, TY_797, TY_798, TY_799, TY_800, TY_801, TY_802, TY_803, TY_804, TY_805, TY_806, TY_807, TY_808, TY_809, TY_810, TY_811, TY_812, TY_813, TY_814, TY_815, TY_816, TY_817, TY_818, TY_819, TY_820, TY_821, TY_822, TY_823, TY_824, TY_825, TY_826, TY_827, TY_828, TY_829, TY_830, TY_831, TY_832, TY_833, TY_834, TY_835, TY_836, TY_837, TY_838, TY_839, TY_840, TY_841, TY_842, TY_843, TY_844, TY_845, TY_846, TY_847, TY_848, TY_849, TY_850, TY_851, TY_852, TY_853, TY_854, TY_855, TY_856, TY_857, TY_858, TY_859, TY_860, TY_861, TY_862, TY_863, TY_864, TY_865, TY_866, TY_867, TY_868, TY_869, TY_870, TY_871, TY_872, TY_873, TY_874, TY_875, TY_876, TY_877, TY_878, TY_879, TY_880, TY_881, TY_882, TY_883, TY_884, TY_885, TY_886, TY_887, TY_888, TY_889, TY_890, TY_891, TY_892, TY_893, TY_894, TY_895, TY_896, TY_897, TY_898, TY_899, TY_900, TY_901, TY_902, TY_903, TY_904, TY_905, TY_906, TY_907, TY_908, TY_909, TY_910, TY_911, TY_912, TY_913, TY_914, TY_915, TY_916, TY_917, TY_918, TY_919, TY_920, TY_921, TY_922, TY_923, TY_924, TY_925, TY_926, TY_927, TY_928, TY_929, TY_930, TY_931, TY_932, TY_933, TY_934, TY_935, TY_936, TY_937, TY_938, TY_939, TY_940, TY_941, TY_942, TY_943, TY_944, TY_945, TY_946, TY_947, TY_948, TY_949, TY_950, TY_951, TY_952, TY_953, TY_954, TY_955, TY_956, TY_957, TY_958, TY_959, TY_960, TY_961, TY_962, TY_963, TY_964, TY_965, TY_966, TY_967, TY_968, TY_969, TY_970, TY_971, TY_972, TY_973, TY_974, TY_975, TY_976, TY_977, TY_978, TY_979, TY_980, TY_981, TY_982, TY_983, TY_984, TY_985, TY_986, TY_987, TY_988, TY_989, TY_990, TY_991, TY_992, TY_993, TY_994, TY_995, TY_996, TY_997, TY_998, TY_999, TY_1000, TY_1001, TY_1002, TY_1003, TY_1004, TY_1005, TY_1006, TY_1007, TY_1008, TY_1009, TY_1010, TY_1011, TY_1012, TY_1013, TY_1014⟩
end Go.Proofs.Ytdhejeigbjmncaa
