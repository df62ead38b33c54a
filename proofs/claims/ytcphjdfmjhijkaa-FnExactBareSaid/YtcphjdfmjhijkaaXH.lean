/- The types' facts of this seat, written by a program of mine (tys.py) and checked one by one. Conditions: none. -/
import Derived.Test.YtcphjdfmjhijkaaXF
import Derived.Test.YtcphjdfmjhijkaaProg
namespace Go.Proofs.Ytcphjdfmjhijkaa
open E
set_option maxRecDepth 100000
theorem TY_0 : szOf Try.prog 1 = 1 := by kernel_rfl
theorem TY_1 : aggOf Try.prog 1 = false := by kernel_rfl
theorem TY_2 : known Try.prog 1 = true := by kernel_rfl
theorem TY_3 : Try.prog.bytesOf 1 = 8 := by kernel_rfl
theorem TY_4 : elOf Try.prog 1 = none := by kernel_rfl
theorem TY_5 : isStr Try.prog 1 = false := by kernel_rfl
theorem TY_6 : isSl Try.prog 1 = false := by kernel_rfl
theorem TY_7 : isBoolT Try.prog 1 = false := by kernel_rfl
theorem TY_8 : isIf Try.prog 1 = false := by kernel_rfl
theorem TY_9 : zeroOf Try.prog 1 = some [.t .nilf] := by kernel_rfl
theorem TY_10 : isInt Try.prog 1 = none := by kernel_rfl
theorem TY_11 : szOf Try.prog 2 = 1 := by kernel_rfl
theorem TY_12 : aggOf Try.prog 2 = false := by kernel_rfl
theorem TY_13 : known Try.prog 2 = true := by kernel_rfl
theorem TY_14 : Try.prog.bytesOf 2 = 8 := by kernel_rfl
theorem TY_15 : elOf Try.prog 2 = none := by kernel_rfl
theorem TY_16 : isStr Try.prog 2 = false := by kernel_rfl
theorem TY_17 : isSl Try.prog 2 = false := by kernel_rfl
theorem TY_18 : isBoolT Try.prog 2 = false := by kernel_rfl
theorem TY_19 : isIf Try.prog 2 = false := by kernel_rfl
theorem TY_20 : zeroOf Try.prog 2 = some [.t (.int .i64 0)] := by kernel_rfl
theorem TY_21 : isInt Try.prog 2 = some .i64 := by kernel_rfl
theorem TY_22 : szOf Try.prog 3 = 1 := by kernel_rfl
theorem TY_23 : aggOf Try.prog 3 = false := by kernel_rfl
theorem TY_24 : known Try.prog 3 = true := by kernel_rfl
theorem TY_25 : Try.prog.bytesOf 3 = 8 := by kernel_rfl
theorem TY_26 : elOf Try.prog 3 = none := by kernel_rfl
theorem TY_27 : isStr Try.prog 3 = false := by kernel_rfl
theorem TY_28 : isSl Try.prog 3 = false := by kernel_rfl
theorem TY_29 : isBoolT Try.prog 3 = false := by kernel_rfl
theorem TY_30 : isIf Try.prog 3 = false := by kernel_rfl
theorem TY_31 : zeroOf Try.prog 3 = some [.t (.int .i64 0)] := by kernel_rfl
theorem TY_32 : isInt Try.prog 3 = some .i64 := by kernel_rfl
theorem TY_33 : szOf Try.prog 4 = 1 := by kernel_rfl
theorem TY_34 : aggOf Try.prog 4 = false := by kernel_rfl
theorem TY_35 : known Try.prog 4 = true := by kernel_rfl
theorem TY_36 : Try.prog.bytesOf 4 = 1 := by kernel_rfl
theorem TY_37 : elOf Try.prog 4 = none := by kernel_rfl
theorem TY_38 : isStr Try.prog 4 = false := by kernel_rfl
theorem TY_39 : isSl Try.prog 4 = false := by kernel_rfl
theorem TY_40 : isBoolT Try.prog 4 = true := by kernel_rfl
theorem TY_41 : isIf Try.prog 4 = false := by kernel_rfl
theorem TY_42 : zeroOf Try.prog 4 = some [.t (.bool false)] := by kernel_rfl
theorem TY_43 : isInt Try.prog 4 = none := by kernel_rfl
theorem TY_44 : szOf Try.prog 5 = 1 := by kernel_rfl
theorem TY_45 : aggOf Try.prog 5 = false := by kernel_rfl
theorem TY_46 : known Try.prog 5 = true := by kernel_rfl
theorem TY_47 : Try.prog.bytesOf 5 = 1 := by kernel_rfl
theorem TY_48 : elOf Try.prog 5 = none := by kernel_rfl
theorem TY_49 : isStr Try.prog 5 = false := by kernel_rfl
theorem TY_50 : isSl Try.prog 5 = false := by kernel_rfl
theorem TY_51 : isBoolT Try.prog 5 = false := by kernel_rfl
theorem TY_52 : isIf Try.prog 5 = false := by kernel_rfl
theorem TY_53 : zeroOf Try.prog 5 = some [.t (.int .u8 0)] := by kernel_rfl
theorem TY_54 : isInt Try.prog 5 = some .u8 := by kernel_rfl
theorem TY_55 : szOf Try.prog 6 = 1 := by kernel_rfl
theorem TY_56 : aggOf Try.prog 6 = false := by kernel_rfl
theorem TY_57 : known Try.prog 6 = true := by kernel_rfl
theorem TY_58 : Try.prog.bytesOf 6 = 1 := by kernel_rfl
theorem TY_59 : elOf Try.prog 6 = none := by kernel_rfl
theorem TY_60 : isStr Try.prog 6 = false := by kernel_rfl
theorem TY_61 : isSl Try.prog 6 = false := by kernel_rfl
theorem TY_62 : isBoolT Try.prog 6 = false := by kernel_rfl
theorem TY_63 : isIf Try.prog 6 = false := by kernel_rfl
theorem TY_64 : zeroOf Try.prog 6 = some [.t (.int .u8 0)] := by kernel_rfl
theorem TY_65 : isInt Try.prog 6 = some .u8 := by kernel_rfl
theorem TY_66 : szOf Try.prog 7 = 4 := by kernel_rfl
theorem TY_67 : aggOf Try.prog 7 = true := by kernel_rfl
theorem TY_68 : known Try.prog 7 = true := by kernel_rfl
theorem TY_69 : Try.prog.bytesOf 7 = 24 := by kernel_rfl
theorem TY_70 : elOf Try.prog 7 = none := by kernel_rfl
theorem TY_71 : isStr Try.prog 7 = false := by kernel_rfl
theorem TY_72 : isSl Try.prog 7 = false := by kernel_rfl
theorem TY_73 : isBoolT Try.prog 7 = false := by kernel_rfl
theorem TY_74 : isIf Try.prog 7 = false := by kernel_rfl
theorem TY_75 : strOK Try.prog 7 = true := by kernel_rfl
theorem TY_76 : fOf Try.prog 7 0 = some (0, 1, false) := by kernel_rfl
theorem TY_77 : fTy Try.prog 7 0 = 2 := by kernel_rfl
theorem TY_78 : fOf Try.prog 7 1 = some (1, 1, false) := by kernel_rfl
theorem TY_79 : fTy Try.prog 7 1 = 3 := by kernel_rfl
theorem TY_80 : fOf Try.prog 7 2 = some (2, 1, false) := by kernel_rfl
theorem TY_81 : fTy Try.prog 7 2 = 4 := by kernel_rfl
theorem TY_82 : fOf Try.prog 7 3 = some (3, 1, false) := by kernel_rfl
theorem TY_83 : fTy Try.prog 7 3 = 6 := by kernel_rfl
theorem TY_84 : zeroOf Try.prog 7 = some [.t (.int .i64 0), .t (.int .i64 0), .t (.bool false), .t (.int .u8 0)] := by kernel_rfl
theorem TY_85 : isInt Try.prog 7 = none := by kernel_rfl
theorem TY_86 : szOf Try.prog 8 = 4 := by kernel_rfl
theorem TY_87 : aggOf Try.prog 8 = true := by kernel_rfl
theorem TY_88 : known Try.prog 8 = true := by kernel_rfl
theorem TY_89 : Try.prog.bytesOf 8 = 24 := by kernel_rfl
theorem TY_90 : elOf Try.prog 8 = none := by kernel_rfl
theorem TY_91 : isStr Try.prog 8 = false := by kernel_rfl
theorem TY_92 : isSl Try.prog 8 = false := by kernel_rfl
theorem TY_93 : isBoolT Try.prog 8 = false := by kernel_rfl
theorem TY_94 : isIf Try.prog 8 = false := by kernel_rfl
theorem TY_95 : strOK Try.prog 8 = true := by kernel_rfl
theorem TY_96 : fOf Try.prog 8 0 = some (0, 1, false) := by kernel_rfl
theorem TY_97 : fTy Try.prog 8 0 = 2 := by kernel_rfl
theorem TY_98 : fOf Try.prog 8 1 = some (1, 1, false) := by kernel_rfl
theorem TY_99 : fTy Try.prog 8 1 = 3 := by kernel_rfl
theorem TY_100 : fOf Try.prog 8 2 = some (2, 1, false) := by kernel_rfl
theorem TY_101 : fTy Try.prog 8 2 = 4 := by kernel_rfl
theorem TY_102 : fOf Try.prog 8 3 = some (3, 1, false) := by kernel_rfl
theorem TY_103 : fTy Try.prog 8 3 = 6 := by kernel_rfl
theorem TY_104 : zeroOf Try.prog 8 = some [.t (.int .i64 0), .t (.int .i64 0), .t (.bool false), .t (.int .u8 0)] := by kernel_rfl
theorem TY_105 : isInt Try.prog 8 = none := by kernel_rfl
theorem TY_106 : szOf Try.prog 9 = 1 := by kernel_rfl
theorem TY_107 : aggOf Try.prog 9 = false := by kernel_rfl
theorem TY_108 : known Try.prog 9 = true := by kernel_rfl
theorem TY_109 : Try.prog.bytesOf 9 = 16 := by kernel_rfl
theorem TY_110 : elOf Try.prog 9 = none := by kernel_rfl
theorem TY_111 : isStr Try.prog 9 = true := by kernel_rfl
theorem TY_112 : isSl Try.prog 9 = false := by kernel_rfl
theorem TY_113 : isBoolT Try.prog 9 = false := by kernel_rfl
theorem TY_114 : isIf Try.prog 9 = false := by kernel_rfl
theorem TY_115 : zeroOf Try.prog 9 = some [.t (.str [])] := by kernel_rfl
theorem TY_116 : isInt Try.prog 9 = none := by kernel_rfl
theorem TY_117 : szOf Try.prog 10 = 1 := by kernel_rfl
theorem TY_118 : aggOf Try.prog 10 = false := by kernel_rfl
theorem TY_119 : known Try.prog 10 = true := by kernel_rfl
theorem TY_120 : Try.prog.bytesOf 10 = 16 := by kernel_rfl
theorem TY_121 : elOf Try.prog 10 = none := by kernel_rfl
theorem TY_122 : isStr Try.prog 10 = true := by kernel_rfl
theorem TY_123 : isSl Try.prog 10 = false := by kernel_rfl
theorem TY_124 : isBoolT Try.prog 10 = false := by kernel_rfl
theorem TY_125 : isIf Try.prog 10 = false := by kernel_rfl
theorem TY_126 : zeroOf Try.prog 10 = some [.t (.str [])] := by kernel_rfl
theorem TY_127 : isInt Try.prog 10 = none := by kernel_rfl
theorem TY_128 : szOf Try.prog 11 = 1 := by kernel_rfl
theorem TY_129 : aggOf Try.prog 11 = false := by kernel_rfl
theorem TY_130 : known Try.prog 11 = true := by kernel_rfl
theorem TY_131 : Try.prog.bytesOf 11 = 16 := by kernel_rfl
theorem TY_132 : elOf Try.prog 11 = none := by kernel_rfl
theorem TY_133 : isStr Try.prog 11 = true := by kernel_rfl
theorem TY_134 : isSl Try.prog 11 = false := by kernel_rfl
theorem TY_135 : isBoolT Try.prog 11 = false := by kernel_rfl
theorem TY_136 : isIf Try.prog 11 = false := by kernel_rfl
theorem TY_137 : zeroOf Try.prog 11 = some [.t (.str [])] := by kernel_rfl
theorem TY_138 : isInt Try.prog 11 = none := by kernel_rfl
theorem TY_139 : szOf Try.prog 12 = 1 := by kernel_rfl
theorem TY_140 : aggOf Try.prog 12 = false := by kernel_rfl
theorem TY_141 : known Try.prog 12 = true := by kernel_rfl
theorem TY_142 : Try.prog.bytesOf 12 = 8 := by kernel_rfl
theorem TY_143 : elOf Try.prog 12 = none := by kernel_rfl
theorem TY_144 : isStr Try.prog 12 = false := by kernel_rfl
theorem TY_145 : isSl Try.prog 12 = false := by kernel_rfl
theorem TY_146 : isBoolT Try.prog 12 = false := by kernel_rfl
theorem TY_147 : isIf Try.prog 12 = false := by kernel_rfl
theorem TY_148 : zeroOf Try.prog 12 = some [.t (.int .u64 0)] := by kernel_rfl
theorem TY_149 : isInt Try.prog 12 = some .u64 := by kernel_rfl
theorem TY_150 : szOf Try.prog 13 = 2 := by kernel_rfl
theorem TY_151 : aggOf Try.prog 13 = true := by kernel_rfl
theorem TY_152 : known Try.prog 13 = true := by kernel_rfl
theorem TY_153 : Try.prog.bytesOf 13 = 24 := by kernel_rfl
theorem TY_154 : elOf Try.prog 13 = none := by kernel_rfl
theorem TY_155 : isStr Try.prog 13 = false := by kernel_rfl
theorem TY_156 : isSl Try.prog 13 = false := by kernel_rfl
theorem TY_157 : isBoolT Try.prog 13 = false := by kernel_rfl
theorem TY_158 : isIf Try.prog 13 = false := by kernel_rfl
theorem TY_159 : strOK Try.prog 13 = true := by kernel_rfl
theorem TY_160 : fOf Try.prog 13 0 = some (0, 1, false) := by kernel_rfl
theorem TY_161 : fTy Try.prog 13 0 = 9 := by kernel_rfl
theorem TY_162 : fOf Try.prog 13 1 = some (1, 1, false) := by kernel_rfl
theorem TY_163 : fTy Try.prog 13 1 = 12 := by kernel_rfl
theorem TY_164 : zeroOf Try.prog 13 = some [.t (.str []), .t (.int .u64 0)] := by kernel_rfl
theorem TY_165 : isInt Try.prog 13 = none := by kernel_rfl
theorem TY_166 : szOf Try.prog 14 = 2 := by kernel_rfl
theorem TY_167 : aggOf Try.prog 14 = true := by kernel_rfl
theorem TY_168 : known Try.prog 14 = true := by kernel_rfl
theorem TY_169 : Try.prog.bytesOf 14 = 24 := by kernel_rfl
theorem TY_170 : elOf Try.prog 14 = none := by kernel_rfl
theorem TY_171 : isStr Try.prog 14 = false := by kernel_rfl
theorem TY_172 : isSl Try.prog 14 = false := by kernel_rfl
theorem TY_173 : isBoolT Try.prog 14 = false := by kernel_rfl
theorem TY_174 : isIf Try.prog 14 = false := by kernel_rfl
theorem TY_175 : strOK Try.prog 14 = true := by kernel_rfl
theorem TY_176 : fOf Try.prog 14 0 = some (0, 1, false) := by kernel_rfl
theorem TY_177 : fTy Try.prog 14 0 = 9 := by kernel_rfl
theorem TY_178 : fOf Try.prog 14 1 = some (1, 1, false) := by kernel_rfl
theorem TY_179 : fTy Try.prog 14 1 = 12 := by kernel_rfl
theorem TY_180 : zeroOf Try.prog 14 = some [.t (.str []), .t (.int .u64 0)] := by kernel_rfl
theorem TY_181 : isInt Try.prog 14 = none := by kernel_rfl
theorem TY_182 : szOf Try.prog 15 = 1 := by kernel_rfl
theorem TY_183 : aggOf Try.prog 15 = false := by kernel_rfl
theorem TY_184 : known Try.prog 15 = true := by kernel_rfl
theorem TY_185 : Try.prog.bytesOf 15 = 8 := by kernel_rfl
theorem TY_186 : elOf Try.prog 15 = none := by kernel_rfl
theorem TY_187 : isStr Try.prog 15 = false := by kernel_rfl
theorem TY_188 : isSl Try.prog 15 = false := by kernel_rfl
theorem TY_189 : isBoolT Try.prog 15 = false := by kernel_rfl
theorem TY_190 : isIf Try.prog 15 = false := by kernel_rfl
theorem TY_191 : zeroOf Try.prog 15 = some [.t .nilp] := by kernel_rfl
theorem TY_192 : isInt Try.prog 15 = none := by kernel_rfl
theorem TY_193 : szOf Try.prog 16 = 1 := by kernel_rfl
theorem TY_194 : aggOf Try.prog 16 = false := by kernel_rfl
theorem TY_195 : known Try.prog 16 = true := by kernel_rfl
theorem TY_196 : Try.prog.bytesOf 16 = 8 := by kernel_rfl
theorem TY_197 : elOf Try.prog 16 = none := by kernel_rfl
theorem TY_198 : isStr Try.prog 16 = false := by kernel_rfl
theorem TY_199 : isSl Try.prog 16 = false := by kernel_rfl
theorem TY_200 : isBoolT Try.prog 16 = false := by kernel_rfl
theorem TY_201 : isIf Try.prog 16 = false := by kernel_rfl
theorem TY_202 : zeroOf Try.prog 16 = some [.t .nilp] := by kernel_rfl
theorem TY_203 : isInt Try.prog 16 = none := by kernel_rfl
theorem TY_204 : szOf Try.prog 17 = 1 := by kernel_rfl
theorem TY_205 : aggOf Try.prog 17 = false := by kernel_rfl
theorem TY_206 : known Try.prog 17 = true := by kernel_rfl
theorem TY_207 : Try.prog.bytesOf 17 = 8 := by kernel_rfl
theorem TY_208 : elOf Try.prog 17 = none := by kernel_rfl
theorem TY_209 : isStr Try.prog 17 = false := by kernel_rfl
theorem TY_210 : isSl Try.prog 17 = false := by kernel_rfl
theorem TY_211 : isBoolT Try.prog 17 = false := by kernel_rfl
theorem TY_212 : isIf Try.prog 17 = false := by kernel_rfl
theorem TY_213 : zeroOf Try.prog 17 = some [.t .nilp] := by kernel_rfl
theorem TY_214 : isInt Try.prog 17 = none := by kernel_rfl
theorem TY_215 : szOf Try.prog 18 = 1 := by kernel_rfl
theorem TY_216 : aggOf Try.prog 18 = true := by kernel_rfl
theorem TY_217 : known Try.prog 18 = true := by kernel_rfl
theorem TY_218 : Try.prog.bytesOf 18 = 8 := by kernel_rfl
theorem TY_219 : elOf Try.prog 18 = none := by kernel_rfl
theorem TY_220 : isStr Try.prog 18 = false := by kernel_rfl
theorem TY_221 : isSl Try.prog 18 = false := by kernel_rfl
theorem TY_222 : isBoolT Try.prog 18 = false := by kernel_rfl
theorem TY_223 : isIf Try.prog 18 = false := by kernel_rfl
theorem TY_224 : strOK Try.prog 18 = true := by kernel_rfl
theorem TY_225 : fOf Try.prog 18 0 = some (0, 1, false) := by kernel_rfl
theorem TY_226 : fTy Try.prog 18 0 = 17 := by kernel_rfl
theorem TY_227 : zeroOf Try.prog 18 = some [.t .nilp] := by kernel_rfl
theorem TY_228 : isInt Try.prog 18 = none := by kernel_rfl
theorem TY_229 : szOf Try.prog 19 = 1 := by kernel_rfl
theorem TY_230 : aggOf Try.prog 19 = true := by kernel_rfl
theorem TY_231 : known Try.prog 19 = true := by kernel_rfl
theorem TY_232 : Try.prog.bytesOf 19 = 8 := by kernel_rfl
theorem TY_233 : elOf Try.prog 19 = none := by kernel_rfl
theorem TY_234 : isStr Try.prog 19 = false := by kernel_rfl
theorem TY_235 : isSl Try.prog 19 = false := by kernel_rfl
theorem TY_236 : isBoolT Try.prog 19 = false := by kernel_rfl
theorem TY_237 : isIf Try.prog 19 = false := by kernel_rfl
theorem TY_238 : strOK Try.prog 19 = true := by kernel_rfl
theorem TY_239 : fOf Try.prog 19 0 = some (0, 1, false) := by kernel_rfl
theorem TY_240 : fTy Try.prog 19 0 = 17 := by kernel_rfl
theorem TY_241 : zeroOf Try.prog 19 = some [.t .nilp] := by kernel_rfl
theorem TY_242 : isInt Try.prog 19 = none := by kernel_rfl
theorem TY_243 : szOf Try.prog 20 = 1 := by kernel_rfl
theorem TY_244 : aggOf Try.prog 20 = false := by kernel_rfl
theorem TY_245 : known Try.prog 20 = true := by kernel_rfl
theorem TY_246 : Try.prog.bytesOf 20 = 16 := by kernel_rfl
theorem TY_247 : elOf Try.prog 20 = none := by kernel_rfl
theorem TY_248 : isStr Try.prog 20 = false := by kernel_rfl
theorem TY_249 : isSl Try.prog 20 = false := by kernel_rfl
theorem TY_250 : isBoolT Try.prog 20 = false := by kernel_rfl
theorem TY_251 : isIf Try.prog 20 = true := by kernel_rfl
theorem TY_252 : zeroOf Try.prog 20 = some [.t .nili] := by kernel_rfl
theorem TY_253 : isInt Try.prog 20 = none := by kernel_rfl
theorem TY_254 : szOf Try.prog 21 = 1 := by kernel_rfl
theorem TY_255 : aggOf Try.prog 21 = false := by kernel_rfl
theorem TY_256 : known Try.prog 21 = true := by kernel_rfl
theorem TY_257 : Try.prog.bytesOf 21 = 4 := by kernel_rfl
theorem TY_258 : elOf Try.prog 21 = none := by kernel_rfl
theorem TY_259 : isStr Try.prog 21 = false := by kernel_rfl
theorem TY_260 : isSl Try.prog 21 = false := by kernel_rfl
theorem TY_261 : isBoolT Try.prog 21 = false := by kernel_rfl
theorem TY_262 : isIf Try.prog 21 = false := by kernel_rfl
theorem TY_263 : zeroOf Try.prog 21 = some [.t (.int .i32 0)] := by kernel_rfl
theorem TY_264 : isInt Try.prog 21 = some .i32 := by kernel_rfl
theorem TY_265 : szOf Try.prog 22 = 1 := by kernel_rfl
theorem TY_266 : aggOf Try.prog 22 = false := by kernel_rfl
theorem TY_267 : known Try.prog 22 = true := by kernel_rfl
theorem TY_268 : Try.prog.bytesOf 22 = 24 := by kernel_rfl
theorem TY_269 : elOf Try.prog 22 = some 9 := by kernel_rfl
theorem TY_270 : isStr Try.prog 22 = false := by kernel_rfl
theorem TY_271 : isSl Try.prog 22 = true := by kernel_rfl
theorem TY_272 : isBoolT Try.prog 22 = false := by kernel_rfl
theorem TY_273 : isIf Try.prog 22 = false := by kernel_rfl
theorem TY_274 : zeroOf Try.prog 22 = some [.nil 1] := by kernel_rfl
theorem TY_275 : isInt Try.prog 22 = none := by kernel_rfl
theorem TY_276 : szOf Try.prog 23 = 1 := by kernel_rfl
theorem TY_277 : aggOf Try.prog 23 = false := by kernel_rfl
theorem TY_278 : known Try.prog 23 = true := by kernel_rfl
theorem TY_279 : Try.prog.bytesOf 23 = 24 := by kernel_rfl
theorem TY_280 : elOf Try.prog 23 = some 39 := by kernel_rfl
theorem TY_281 : isStr Try.prog 23 = false := by kernel_rfl
theorem TY_282 : isSl Try.prog 23 = true := by kernel_rfl
theorem TY_283 : isBoolT Try.prog 23 = false := by kernel_rfl
theorem TY_284 : isIf Try.prog 23 = false := by kernel_rfl
theorem TY_285 : zeroOf Try.prog 23 = some [.nil 5] := by kernel_rfl
theorem TY_286 : isInt Try.prog 23 = none := by kernel_rfl
theorem TY_287 : szOf Try.prog 24 = 1 := by kernel_rfl
theorem TY_288 : aggOf Try.prog 24 = false := by kernel_rfl
theorem TY_289 : known Try.prog 24 = true := by kernel_rfl
theorem TY_290 : Try.prog.bytesOf 24 = 8 := by kernel_rfl
theorem TY_291 : elOf Try.prog 24 = none := by kernel_rfl
theorem TY_292 : isStr Try.prog 24 = false := by kernel_rfl
theorem TY_293 : isSl Try.prog 24 = false := by kernel_rfl
theorem TY_294 : isBoolT Try.prog 24 = false := by kernel_rfl
theorem TY_295 : isIf Try.prog 24 = false := by kernel_rfl
theorem TY_296 : zeroOf Try.prog 24 = some [.t .nilf] := by kernel_rfl
theorem TY_297 : isInt Try.prog 24 = none := by kernel_rfl
theorem TY_298 : szOf Try.prog 25 = 1 := by kernel_rfl
theorem TY_299 : aggOf Try.prog 25 = false := by kernel_rfl
theorem TY_300 : known Try.prog 25 = true := by kernel_rfl
theorem TY_301 : Try.prog.bytesOf 25 = 8 := by kernel_rfl
theorem TY_302 : elOf Try.prog 25 = none := by kernel_rfl
theorem TY_303 : isStr Try.prog 25 = false := by kernel_rfl
theorem TY_304 : isSl Try.prog 25 = false := by kernel_rfl
theorem TY_305 : isBoolT Try.prog 25 = false := by kernel_rfl
theorem TY_306 : isIf Try.prog 25 = false := by kernel_rfl
theorem TY_307 : zeroOf Try.prog 25 = some [.t .nilf] := by kernel_rfl
theorem TY_308 : isInt Try.prog 25 = none := by kernel_rfl
theorem TY_309 : szOf Try.prog 26 = 1 := by kernel_rfl
theorem TY_310 : aggOf Try.prog 26 = false := by kernel_rfl
theorem TY_311 : known Try.prog 26 = true := by kernel_rfl
theorem TY_312 : Try.prog.bytesOf 26 = 24 := by kernel_rfl
theorem TY_313 : elOf Try.prog 26 = some 28 := by kernel_rfl
theorem TY_314 : isStr Try.prog 26 = false := by kernel_rfl
theorem TY_315 : isSl Try.prog 26 = true := by kernel_rfl
theorem TY_316 : isBoolT Try.prog 26 = false := by kernel_rfl
theorem TY_317 : isIf Try.prog 26 = false := by kernel_rfl
theorem TY_318 : zeroOf Try.prog 26 = some [.nil 5] := by kernel_rfl
theorem TY_319 : isInt Try.prog 26 = none := by kernel_rfl
theorem TY_320 : szOf Try.prog 27 = 5 := by kernel_rfl
theorem TY_321 : aggOf Try.prog 27 = true := by kernel_rfl
theorem TY_322 : known Try.prog 27 = true := by kernel_rfl
theorem TY_323 : Try.prog.bytesOf 27 = 80 := by kernel_rfl
theorem TY_324 : elOf Try.prog 27 = none := by kernel_rfl
theorem TY_325 : isStr Try.prog 27 = false := by kernel_rfl
theorem TY_326 : isSl Try.prog 27 = false := by kernel_rfl
theorem TY_327 : isBoolT Try.prog 27 = false := by kernel_rfl
theorem TY_328 : isIf Try.prog 27 = false := by kernel_rfl
theorem TY_329 : strOK Try.prog 27 = true := by kernel_rfl
theorem TY_330 : fOf Try.prog 27 0 = some (0, 1, false) := by kernel_rfl
theorem TY_331 : fTy Try.prog 27 0 = 3 := by kernel_rfl
theorem TY_332 : fOf Try.prog 27 1 = some (1, 1, false) := by kernel_rfl
theorem TY_333 : fTy Try.prog 27 1 = 3 := by kernel_rfl
theorem TY_334 : fOf Try.prog 27 2 = some (2, 1, false) := by kernel_rfl
theorem TY_335 : fTy Try.prog 27 2 = 9 := by kernel_rfl
theorem TY_336 : fOf Try.prog 27 3 = some (3, 1, false) := by kernel_rfl
theorem TY_337 : fTy Try.prog 27 3 = 22 := by kernel_rfl
theorem TY_338 : fOf Try.prog 27 4 = some (4, 1, false) := by kernel_rfl
theorem TY_339 : fTy Try.prog 27 4 = 26 := by kernel_rfl
theorem TY_340 : zeroOf Try.prog 27 = some [.t (.int .i64 0), .t (.int .i64 0), .t (.str []), .nil 1, .nil 5] := by kernel_rfl
theorem TY_341 : isInt Try.prog 27 = none := by kernel_rfl
theorem TY_342 : szOf Try.prog 28 = 5 := by kernel_rfl
theorem TY_343 : aggOf Try.prog 28 = true := by kernel_rfl
theorem TY_344 : known Try.prog 28 = true := by kernel_rfl
theorem TY_345 : Try.prog.bytesOf 28 = 80 := by kernel_rfl
theorem TY_346 : elOf Try.prog 28 = none := by kernel_rfl
theorem TY_347 : isStr Try.prog 28 = false := by kernel_rfl
theorem TY_348 : isSl Try.prog 28 = false := by kernel_rfl
theorem TY_349 : isBoolT Try.prog 28 = false := by kernel_rfl
theorem TY_350 : isIf Try.prog 28 = false := by kernel_rfl
theorem TY_351 : strOK Try.prog 28 = true := by kernel_rfl
theorem TY_352 : fOf Try.prog 28 0 = some (0, 1, false) := by kernel_rfl
theorem TY_353 : fTy Try.prog 28 0 = 3 := by kernel_rfl
theorem TY_354 : fOf Try.prog 28 1 = some (1, 1, false) := by kernel_rfl
theorem TY_355 : fTy Try.prog 28 1 = 3 := by kernel_rfl
theorem TY_356 : fOf Try.prog 28 2 = some (2, 1, false) := by kernel_rfl
theorem TY_357 : fTy Try.prog 28 2 = 9 := by kernel_rfl
theorem TY_358 : fOf Try.prog 28 3 = some (3, 1, false) := by kernel_rfl
theorem TY_359 : fTy Try.prog 28 3 = 22 := by kernel_rfl
theorem TY_360 : fOf Try.prog 28 4 = some (4, 1, false) := by kernel_rfl
theorem TY_361 : fTy Try.prog 28 4 = 26 := by kernel_rfl
theorem TY_362 : zeroOf Try.prog 28 = some [.t (.int .i64 0), .t (.int .i64 0), .t (.str []), .nil 1, .nil 5] := by kernel_rfl
theorem TY_363 : isInt Try.prog 28 = none := by kernel_rfl
theorem TY_364 : szOf Try.prog 29 = 1 := by kernel_rfl
theorem TY_365 : aggOf Try.prog 29 = false := by kernel_rfl
theorem TY_366 : known Try.prog 29 = true := by kernel_rfl
theorem TY_367 : Try.prog.bytesOf 29 = 8 := by kernel_rfl
theorem TY_368 : elOf Try.prog 29 = none := by kernel_rfl
theorem TY_369 : isStr Try.prog 29 = false := by kernel_rfl
theorem TY_370 : isSl Try.prog 29 = false := by kernel_rfl
theorem TY_371 : isBoolT Try.prog 29 = false := by kernel_rfl
theorem TY_372 : isIf Try.prog 29 = false := by kernel_rfl
theorem TY_373 : zeroOf Try.prog 29 = some [.t .nilf] := by kernel_rfl
theorem TY_374 : isInt Try.prog 29 = none := by kernel_rfl
theorem TY_375 : szOf Try.prog 30 = 1 := by kernel_rfl
theorem TY_376 : aggOf Try.prog 30 = false := by kernel_rfl
theorem TY_377 : known Try.prog 30 = true := by kernel_rfl
theorem TY_378 : Try.prog.bytesOf 30 = 8 := by kernel_rfl
theorem TY_379 : elOf Try.prog 30 = none := by kernel_rfl
theorem TY_380 : isStr Try.prog 30 = false := by kernel_rfl
theorem TY_381 : isSl Try.prog 30 = false := by kernel_rfl
theorem TY_382 : isBoolT Try.prog 30 = false := by kernel_rfl
theorem TY_383 : isIf Try.prog 30 = false := by kernel_rfl
theorem TY_384 : zeroOf Try.prog 30 = some [.t .nilf] := by kernel_rfl
theorem TY_385 : isInt Try.prog 30 = none := by kernel_rfl
theorem TY_386 : szOf Try.prog 31 = 1 := by kernel_rfl
theorem TY_387 : aggOf Try.prog 31 = false := by kernel_rfl
theorem TY_388 : known Try.prog 31 = true := by kernel_rfl
theorem TY_389 : Try.prog.bytesOf 31 = 8 := by kernel_rfl
theorem TY_390 : elOf Try.prog 31 = none := by kernel_rfl
theorem TY_391 : isStr Try.prog 31 = false := by kernel_rfl
theorem TY_392 : isSl Try.prog 31 = false := by kernel_rfl
theorem TY_393 : isBoolT Try.prog 31 = false := by kernel_rfl
theorem TY_394 : isIf Try.prog 31 = false := by kernel_rfl
theorem TY_395 : zeroOf Try.prog 31 = some [.t .nilf] := by kernel_rfl
theorem TY_396 : isInt Try.prog 31 = none := by kernel_rfl
theorem TY_397 : szOf Try.prog 32 = 1 := by kernel_rfl
theorem TY_398 : aggOf Try.prog 32 = false := by kernel_rfl
theorem TY_399 : known Try.prog 32 = true := by kernel_rfl
theorem TY_400 : Try.prog.bytesOf 32 = 8 := by kernel_rfl
theorem TY_401 : elOf Try.prog 32 = none := by kernel_rfl
theorem TY_402 : isStr Try.prog 32 = false := by kernel_rfl
theorem TY_403 : isSl Try.prog 32 = false := by kernel_rfl
theorem TY_404 : isBoolT Try.prog 32 = false := by kernel_rfl
theorem TY_405 : isIf Try.prog 32 = false := by kernel_rfl
theorem TY_406 : zeroOf Try.prog 32 = some [.t .nilf] := by kernel_rfl
theorem TY_407 : isInt Try.prog 32 = none := by kernel_rfl
theorem TY_408 : szOf Try.prog 33 = 1 := by kernel_rfl
theorem TY_409 : aggOf Try.prog 33 = false := by kernel_rfl
theorem TY_410 : known Try.prog 33 = true := by kernel_rfl
theorem TY_411 : Try.prog.bytesOf 33 = 8 := by kernel_rfl
theorem TY_412 : elOf Try.prog 33 = none := by kernel_rfl
theorem TY_413 : isStr Try.prog 33 = false := by kernel_rfl
theorem TY_414 : isSl Try.prog 33 = false := by kernel_rfl
theorem TY_415 : isBoolT Try.prog 33 = false := by kernel_rfl
theorem TY_416 : isIf Try.prog 33 = false := by kernel_rfl
theorem TY_417 : zeroOf Try.prog 33 = some [.t .nilf] := by kernel_rfl
theorem TY_418 : isInt Try.prog 33 = none := by kernel_rfl
theorem TY_419 : szOf Try.prog 34 = 1 := by kernel_rfl
theorem TY_420 : aggOf Try.prog 34 = false := by kernel_rfl
theorem TY_421 : known Try.prog 34 = true := by kernel_rfl
theorem TY_422 : Try.prog.bytesOf 34 = 8 := by kernel_rfl
theorem TY_423 : elOf Try.prog 34 = none := by kernel_rfl
theorem TY_424 : isStr Try.prog 34 = false := by kernel_rfl
theorem TY_425 : isSl Try.prog 34 = false := by kernel_rfl
theorem TY_426 : isBoolT Try.prog 34 = false := by kernel_rfl
theorem TY_427 : isIf Try.prog 34 = false := by kernel_rfl
theorem TY_428 : zeroOf Try.prog 34 = some [.t .nilf] := by kernel_rfl
theorem TY_429 : isInt Try.prog 34 = none := by kernel_rfl
theorem TY_430 : szOf Try.prog 35 = 1 := by kernel_rfl
theorem TY_431 : aggOf Try.prog 35 = false := by kernel_rfl
theorem TY_432 : known Try.prog 35 = true := by kernel_rfl
theorem TY_433 : Try.prog.bytesOf 35 = 8 := by kernel_rfl
theorem TY_434 : elOf Try.prog 35 = none := by kernel_rfl
theorem TY_435 : isStr Try.prog 35 = false := by kernel_rfl
theorem TY_436 : isSl Try.prog 35 = false := by kernel_rfl
theorem TY_437 : isBoolT Try.prog 35 = false := by kernel_rfl
theorem TY_438 : isIf Try.prog 35 = false := by kernel_rfl
theorem TY_439 : zeroOf Try.prog 35 = some [.t .nilf] := by kernel_rfl
theorem TY_440 : isInt Try.prog 35 = none := by kernel_rfl
theorem TY_441 : szOf Try.prog 36 = 1 := by kernel_rfl
theorem TY_442 : aggOf Try.prog 36 = false := by kernel_rfl
theorem TY_443 : known Try.prog 36 = true := by kernel_rfl
theorem TY_444 : Try.prog.bytesOf 36 = 8 := by kernel_rfl
theorem TY_445 : elOf Try.prog 36 = none := by kernel_rfl
theorem TY_446 : isStr Try.prog 36 = false := by kernel_rfl
theorem TY_447 : isSl Try.prog 36 = false := by kernel_rfl
theorem TY_448 : isBoolT Try.prog 36 = false := by kernel_rfl
theorem TY_449 : isIf Try.prog 36 = false := by kernel_rfl
theorem TY_450 : zeroOf Try.prog 36 = some [.t .nilf] := by kernel_rfl
theorem TY_451 : isInt Try.prog 36 = none := by kernel_rfl
theorem TY_452 : szOf Try.prog 37 = 1 := by kernel_rfl
theorem TY_453 : aggOf Try.prog 37 = false := by kernel_rfl
theorem TY_454 : known Try.prog 37 = true := by kernel_rfl
theorem TY_455 : Try.prog.bytesOf 37 = 8 := by kernel_rfl
theorem TY_456 : elOf Try.prog 37 = none := by kernel_rfl
theorem TY_457 : isStr Try.prog 37 = false := by kernel_rfl
theorem TY_458 : isSl Try.prog 37 = false := by kernel_rfl
theorem TY_459 : isBoolT Try.prog 37 = false := by kernel_rfl
theorem TY_460 : isIf Try.prog 37 = false := by kernel_rfl
theorem TY_461 : zeroOf Try.prog 37 = some [.t .nilf] := by kernel_rfl
theorem TY_462 : isInt Try.prog 37 = none := by kernel_rfl
theorem TY_463 : szOf Try.prog 38 = 5 := by kernel_rfl
theorem TY_464 : aggOf Try.prog 38 = true := by kernel_rfl
theorem TY_465 : known Try.prog 38 = true := by kernel_rfl
theorem TY_466 : Try.prog.bytesOf 38 = 80 := by kernel_rfl
theorem TY_467 : elOf Try.prog 38 = none := by kernel_rfl
theorem TY_468 : isStr Try.prog 38 = false := by kernel_rfl
theorem TY_469 : isSl Try.prog 38 = false := by kernel_rfl
theorem TY_470 : isBoolT Try.prog 38 = false := by kernel_rfl
theorem TY_471 : isIf Try.prog 38 = false := by kernel_rfl
theorem TY_472 : strOK Try.prog 38 = true := by kernel_rfl
theorem TY_473 : fOf Try.prog 38 0 = some (0, 1, false) := by kernel_rfl
theorem TY_474 : fTy Try.prog 38 0 = 3 := by kernel_rfl
theorem TY_475 : fOf Try.prog 38 1 = some (1, 1, false) := by kernel_rfl
theorem TY_476 : fTy Try.prog 38 1 = 3 := by kernel_rfl
theorem TY_477 : fOf Try.prog 38 2 = some (2, 1, false) := by kernel_rfl
theorem TY_478 : fTy Try.prog 38 2 = 9 := by kernel_rfl
theorem TY_479 : fOf Try.prog 38 3 = some (3, 1, false) := by kernel_rfl
theorem TY_480 : fTy Try.prog 38 3 = 22 := by kernel_rfl
theorem TY_481 : fOf Try.prog 38 4 = some (4, 1, false) := by kernel_rfl
theorem TY_482 : fTy Try.prog 38 4 = 23 := by kernel_rfl
theorem TY_483 : zeroOf Try.prog 38 = some [.t (.int .i64 0), .t (.int .i64 0), .t (.str []), .nil 1, .nil 5] := by kernel_rfl
theorem TY_484 : isInt Try.prog 38 = none := by kernel_rfl
theorem TY_485 : szOf Try.prog 39 = 5 := by kernel_rfl
theorem TY_486 : aggOf Try.prog 39 = true := by kernel_rfl
theorem TY_487 : known Try.prog 39 = true := by kernel_rfl
theorem TY_488 : Try.prog.bytesOf 39 = 80 := by kernel_rfl
theorem TY_489 : elOf Try.prog 39 = none := by kernel_rfl
theorem TY_490 : isStr Try.prog 39 = false := by kernel_rfl
theorem TY_491 : isSl Try.prog 39 = false := by kernel_rfl
theorem TY_492 : isBoolT Try.prog 39 = false := by kernel_rfl
theorem TY_493 : isIf Try.prog 39 = false := by kernel_rfl
theorem TY_494 : strOK Try.prog 39 = true := by kernel_rfl
theorem TY_495 : fOf Try.prog 39 0 = some (0, 1, false) := by kernel_rfl
theorem TY_496 : fTy Try.prog 39 0 = 3 := by kernel_rfl
theorem TY_497 : fOf Try.prog 39 1 = some (1, 1, false) := by kernel_rfl
theorem TY_498 : fTy Try.prog 39 1 = 3 := by kernel_rfl
theorem TY_499 : fOf Try.prog 39 2 = some (2, 1, false) := by kernel_rfl
theorem TY_500 : fTy Try.prog 39 2 = 9 := by kernel_rfl
theorem TY_501 : fOf Try.prog 39 3 = some (3, 1, false) := by kernel_rfl
theorem TY_502 : fTy Try.prog 39 3 = 22 := by kernel_rfl
theorem TY_503 : fOf Try.prog 39 4 = some (4, 1, false) := by kernel_rfl
theorem TY_504 : fTy Try.prog 39 4 = 23 := by kernel_rfl
theorem TY_505 : zeroOf Try.prog 39 = some [.t (.int .i64 0), .t (.int .i64 0), .t (.str []), .nil 1, .nil 5] := by kernel_rfl
theorem TY_506 : isInt Try.prog 39 = none := by kernel_rfl
theorem TY_507 : szOf Try.prog 40 = 1 := by kernel_rfl
theorem TY_508 : aggOf Try.prog 40 = false := by kernel_rfl
theorem TY_509 : known Try.prog 40 = true := by kernel_rfl
theorem TY_510 : Try.prog.bytesOf 40 = 8 := by kernel_rfl
theorem TY_511 : elOf Try.prog 40 = none := by kernel_rfl
theorem TY_512 : isStr Try.prog 40 = false := by kernel_rfl
theorem TY_513 : isSl Try.prog 40 = false := by kernel_rfl
theorem TY_514 : isBoolT Try.prog 40 = false := by kernel_rfl
theorem TY_515 : isIf Try.prog 40 = false := by kernel_rfl
theorem TY_516 : zeroOf Try.prog 40 = some [.t .nilf] := by kernel_rfl
theorem TY_517 : isInt Try.prog 40 = none := by kernel_rfl
theorem TY_518 : szOf Try.prog 42 = 1 := by kernel_rfl
theorem TY_519 : aggOf Try.prog 42 = false := by kernel_rfl
theorem TY_520 : known Try.prog 42 = true := by kernel_rfl
theorem TY_521 : Try.prog.bytesOf 42 = 8 := by kernel_rfl
theorem TY_522 : elOf Try.prog 42 = none := by kernel_rfl
theorem TY_523 : isStr Try.prog 42 = false := by kernel_rfl
theorem TY_524 : isSl Try.prog 42 = false := by kernel_rfl
theorem TY_525 : isBoolT Try.prog 42 = false := by kernel_rfl
theorem TY_526 : isIf Try.prog 42 = false := by kernel_rfl
theorem TY_527 : zeroOf Try.prog 42 = some [.t .nilf] := by kernel_rfl
theorem TY_528 : isInt Try.prog 42 = none := by kernel_rfl
theorem TY_529 : szOf Try.prog 43 = 1 := by kernel_rfl
theorem TY_530 : aggOf Try.prog 43 = false := by kernel_rfl
theorem TY_531 : known Try.prog 43 = true := by kernel_rfl
theorem TY_532 : Try.prog.bytesOf 43 = 8 := by kernel_rfl
theorem TY_533 : elOf Try.prog 43 = none := by kernel_rfl
theorem TY_534 : isStr Try.prog 43 = false := by kernel_rfl
theorem TY_535 : isSl Try.prog 43 = false := by kernel_rfl
theorem TY_536 : isBoolT Try.prog 43 = false := by kernel_rfl
theorem TY_537 : isIf Try.prog 43 = false := by kernel_rfl
theorem TY_538 : zeroOf Try.prog 43 = some [.t .nilf] := by kernel_rfl
theorem TY_539 : isInt Try.prog 43 = none := by kernel_rfl
theorem TY_540 : szOf Try.prog 44 = 1 := by kernel_rfl
theorem TY_541 : aggOf Try.prog 44 = false := by kernel_rfl
theorem TY_542 : known Try.prog 44 = true := by kernel_rfl
theorem TY_543 : Try.prog.bytesOf 44 = 8 := by kernel_rfl
theorem TY_544 : elOf Try.prog 44 = none := by kernel_rfl
theorem TY_545 : isStr Try.prog 44 = false := by kernel_rfl
theorem TY_546 : isSl Try.prog 44 = false := by kernel_rfl
theorem TY_547 : isBoolT Try.prog 44 = false := by kernel_rfl
theorem TY_548 : isIf Try.prog 44 = false := by kernel_rfl
theorem TY_549 : zeroOf Try.prog 44 = some [.t .nilf] := by kernel_rfl
theorem TY_550 : isInt Try.prog 44 = none := by kernel_rfl
theorem TY_551 : szOf Try.prog 45 = 1 := by kernel_rfl
theorem TY_552 : aggOf Try.prog 45 = false := by kernel_rfl
theorem TY_553 : known Try.prog 45 = true := by kernel_rfl
theorem TY_554 : Try.prog.bytesOf 45 = 8 := by kernel_rfl
theorem TY_555 : elOf Try.prog 45 = none := by kernel_rfl
theorem TY_556 : isStr Try.prog 45 = false := by kernel_rfl
theorem TY_557 : isSl Try.prog 45 = false := by kernel_rfl
theorem TY_558 : isBoolT Try.prog 45 = false := by kernel_rfl
theorem TY_559 : isIf Try.prog 45 = false := by kernel_rfl
theorem TY_560 : zeroOf Try.prog 45 = some [.t .nilf] := by kernel_rfl
theorem TY_561 : isInt Try.prog 45 = none := by kernel_rfl
theorem TY_562 : szOf Try.prog 46 = 1 := by kernel_rfl
theorem TY_563 : aggOf Try.prog 46 = false := by kernel_rfl
theorem TY_564 : known Try.prog 46 = true := by kernel_rfl
theorem TY_565 : Try.prog.bytesOf 46 = 8 := by kernel_rfl
theorem TY_566 : elOf Try.prog 46 = none := by kernel_rfl
theorem TY_567 : isStr Try.prog 46 = false := by kernel_rfl
theorem TY_568 : isSl Try.prog 46 = false := by kernel_rfl
theorem TY_569 : isBoolT Try.prog 46 = false := by kernel_rfl
theorem TY_570 : isIf Try.prog 46 = false := by kernel_rfl
theorem TY_571 : zeroOf Try.prog 46 = some [.t .nilf] := by kernel_rfl
theorem TY_572 : isInt Try.prog 46 = none := by kernel_rfl
theorem TY_573 : szOf Try.prog 47 = 1 := by kernel_rfl
theorem TY_574 : aggOf Try.prog 47 = false := by kernel_rfl
theorem TY_575 : known Try.prog 47 = true := by kernel_rfl
theorem TY_576 : Try.prog.bytesOf 47 = 24 := by kernel_rfl
theorem TY_577 : elOf Try.prog 47 = some 77 := by kernel_rfl
theorem TY_578 : isStr Try.prog 47 = false := by kernel_rfl
theorem TY_579 : isSl Try.prog 47 = true := by kernel_rfl
theorem TY_580 : isBoolT Try.prog 47 = false := by kernel_rfl
theorem TY_581 : isIf Try.prog 47 = false := by kernel_rfl
theorem TY_582 : zeroOf Try.prog 47 = some [.nil 6] := by kernel_rfl
theorem TY_583 : isInt Try.prog 47 = none := by kernel_rfl
theorem TY_584 : szOf Try.prog 48 = 2 := by kernel_rfl
theorem TY_585 : aggOf Try.prog 48 = true := by kernel_rfl
theorem TY_586 : known Try.prog 48 = true := by kernel_rfl
theorem TY_587 : Try.prog.bytesOf 48 = 48 := by kernel_rfl
theorem TY_588 : elOf Try.prog 48 = none := by kernel_rfl
theorem TY_589 : isStr Try.prog 48 = false := by kernel_rfl
theorem TY_590 : isSl Try.prog 48 = false := by kernel_rfl
theorem TY_591 : isBoolT Try.prog 48 = false := by kernel_rfl
theorem TY_592 : isIf Try.prog 48 = false := by kernel_rfl
theorem TY_593 : strOK Try.prog 48 = true := by kernel_rfl
theorem TY_594 : fOf Try.prog 48 0 = some (0, 1, false) := by kernel_rfl
theorem TY_595 : fTy Try.prog 48 0 = 22 := by kernel_rfl
theorem TY_596 : fOf Try.prog 48 1 = some (1, 1, false) := by kernel_rfl
theorem TY_597 : fTy Try.prog 48 1 = 47 := by kernel_rfl
theorem TY_598 : zeroOf Try.prog 48 = some [.nil 1, .nil 6] := by kernel_rfl
theorem TY_599 : isInt Try.prog 48 = none := by kernel_rfl
theorem TY_600 : szOf Try.prog 49 = 2 := by kernel_rfl
theorem TY_601 : aggOf Try.prog 49 = true := by kernel_rfl
theorem TY_602 : known Try.prog 49 = true := by kernel_rfl
theorem TY_603 : Try.prog.bytesOf 49 = 48 := by kernel_rfl
theorem TY_604 : elOf Try.prog 49 = none := by kernel_rfl
theorem TY_605 : isStr Try.prog 49 = false := by kernel_rfl
theorem TY_606 : isSl Try.prog 49 = false := by kernel_rfl
theorem TY_607 : isBoolT Try.prog 49 = false := by kernel_rfl
theorem TY_608 : isIf Try.prog 49 = false := by kernel_rfl
theorem TY_609 : strOK Try.prog 49 = true := by kernel_rfl
theorem TY_610 : fOf Try.prog 49 0 = some (0, 1, false) := by kernel_rfl
theorem TY_611 : fTy Try.prog 49 0 = 22 := by kernel_rfl
theorem TY_612 : fOf Try.prog 49 1 = some (1, 1, false) := by kernel_rfl
theorem TY_613 : fTy Try.prog 49 1 = 47 := by kernel_rfl
theorem TY_614 : zeroOf Try.prog 49 = some [.nil 1, .nil 6] := by kernel_rfl
theorem TY_615 : isInt Try.prog 49 = none := by kernel_rfl
theorem TY_616 : szOf Try.prog 50 = 1 := by kernel_rfl
theorem TY_617 : aggOf Try.prog 50 = false := by kernel_rfl
theorem TY_618 : known Try.prog 50 = true := by kernel_rfl
theorem TY_619 : Try.prog.bytesOf 50 = 8 := by kernel_rfl
theorem TY_620 : elOf Try.prog 50 = none := by kernel_rfl
theorem TY_621 : isStr Try.prog 50 = false := by kernel_rfl
theorem TY_622 : isSl Try.prog 50 = false := by kernel_rfl
theorem TY_623 : isBoolT Try.prog 50 = false := by kernel_rfl
theorem TY_624 : isIf Try.prog 50 = false := by kernel_rfl
theorem TY_625 : zeroOf Try.prog 50 = some [.t .nilf] := by kernel_rfl
theorem TY_626 : isInt Try.prog 50 = none := by kernel_rfl
theorem TY_627 : szOf Try.prog 51 = 1 := by kernel_rfl
theorem TY_628 : aggOf Try.prog 51 = false := by kernel_rfl
theorem TY_629 : known Try.prog 51 = true := by kernel_rfl
theorem TY_630 : Try.prog.bytesOf 51 = 24 := by kernel_rfl
theorem TY_631 : elOf Try.prog 51 = some 68 := by kernel_rfl
theorem TY_632 : isStr Try.prog 51 = false := by kernel_rfl
theorem TY_633 : isSl Try.prog 51 = true := by kernel_rfl
theorem TY_634 : isBoolT Try.prog 51 = false := by kernel_rfl
theorem TY_635 : isIf Try.prog 51 = false := by kernel_rfl
theorem TY_636 : zeroOf Try.prog 51 = some [.nil 6] := by kernel_rfl
theorem TY_637 : isInt Try.prog 51 = none := by kernel_rfl
theorem TY_638 : szOf Try.prog 52 = 2 := by kernel_rfl
theorem TY_639 : aggOf Try.prog 52 = true := by kernel_rfl
theorem TY_640 : known Try.prog 52 = true := by kernel_rfl
theorem TY_641 : Try.prog.bytesOf 52 = 48 := by kernel_rfl
theorem TY_642 : elOf Try.prog 52 = none := by kernel_rfl
theorem TY_643 : isStr Try.prog 52 = false := by kernel_rfl
theorem TY_644 : isSl Try.prog 52 = false := by kernel_rfl
theorem TY_645 : isBoolT Try.prog 52 = false := by kernel_rfl
theorem TY_646 : isIf Try.prog 52 = false := by kernel_rfl
theorem TY_647 : strOK Try.prog 52 = true := by kernel_rfl
theorem TY_648 : fOf Try.prog 52 0 = some (0, 1, false) := by kernel_rfl
theorem TY_649 : fTy Try.prog 52 0 = 22 := by kernel_rfl
theorem TY_650 : fOf Try.prog 52 1 = some (1, 1, false) := by kernel_rfl
theorem TY_651 : fTy Try.prog 52 1 = 51 := by kernel_rfl
theorem TY_652 : zeroOf Try.prog 52 = some [.nil 1, .nil 6] := by kernel_rfl
theorem TY_653 : isInt Try.prog 52 = none := by kernel_rfl
theorem TY_654 : szOf Try.prog 53 = 2 := by kernel_rfl
theorem TY_655 : aggOf Try.prog 53 = true := by kernel_rfl
theorem TY_656 : known Try.prog 53 = true := by kernel_rfl
theorem TY_657 : Try.prog.bytesOf 53 = 48 := by kernel_rfl
theorem TY_658 : elOf Try.prog 53 = none := by kernel_rfl
theorem TY_659 : isStr Try.prog 53 = false := by kernel_rfl
theorem TY_660 : isSl Try.prog 53 = false := by kernel_rfl
theorem TY_661 : isBoolT Try.prog 53 = false := by kernel_rfl
theorem TY_662 : isIf Try.prog 53 = false := by kernel_rfl
theorem TY_663 : strOK Try.prog 53 = true := by kernel_rfl
theorem TY_664 : fOf Try.prog 53 0 = some (0, 1, false) := by kernel_rfl
theorem TY_665 : fTy Try.prog 53 0 = 22 := by kernel_rfl
theorem TY_666 : fOf Try.prog 53 1 = some (1, 1, false) := by kernel_rfl
theorem TY_667 : fTy Try.prog 53 1 = 51 := by kernel_rfl
theorem TY_668 : zeroOf Try.prog 53 = some [.nil 1, .nil 6] := by kernel_rfl
theorem TY_669 : isInt Try.prog 53 = none := by kernel_rfl
theorem TY_670 : szOf Try.prog 54 = 1 := by kernel_rfl
theorem TY_671 : aggOf Try.prog 54 = false := by kernel_rfl
theorem TY_672 : known Try.prog 54 = true := by kernel_rfl
theorem TY_673 : Try.prog.bytesOf 54 = 8 := by kernel_rfl
theorem TY_674 : elOf Try.prog 54 = none := by kernel_rfl
theorem TY_675 : isStr Try.prog 54 = false := by kernel_rfl
theorem TY_676 : isSl Try.prog 54 = false := by kernel_rfl
theorem TY_677 : isBoolT Try.prog 54 = false := by kernel_rfl
theorem TY_678 : isIf Try.prog 54 = false := by kernel_rfl
theorem TY_679 : zeroOf Try.prog 54 = some [.t .nilf] := by kernel_rfl
theorem TY_680 : isInt Try.prog 54 = none := by kernel_rfl
theorem TY_681 : szOf Try.prog 55 = 1 := by kernel_rfl
theorem TY_682 : aggOf Try.prog 55 = false := by kernel_rfl
theorem TY_683 : known Try.prog 55 = true := by kernel_rfl
theorem TY_684 : Try.prog.bytesOf 55 = 8 := by kernel_rfl
theorem TY_685 : elOf Try.prog 55 = none := by kernel_rfl
theorem TY_686 : isStr Try.prog 55 = false := by kernel_rfl
theorem TY_687 : isSl Try.prog 55 = false := by kernel_rfl
theorem TY_688 : isBoolT Try.prog 55 = false := by kernel_rfl
theorem TY_689 : isIf Try.prog 55 = false := by kernel_rfl
theorem TY_690 : zeroOf Try.prog 55 = some [.t .nilf] := by kernel_rfl
theorem TY_691 : isInt Try.prog 55 = none := by kernel_rfl
theorem TY_692 : szOf Try.prog 56 = 1 := by kernel_rfl
theorem TY_693 : aggOf Try.prog 56 = false := by kernel_rfl
theorem TY_694 : known Try.prog 56 = true := by kernel_rfl
theorem TY_695 : Try.prog.bytesOf 56 = 8 := by kernel_rfl
theorem TY_696 : elOf Try.prog 56 = none := by kernel_rfl
theorem TY_697 : isStr Try.prog 56 = false := by kernel_rfl
theorem TY_698 : isSl Try.prog 56 = false := by kernel_rfl
theorem TY_699 : isBoolT Try.prog 56 = false := by kernel_rfl
theorem TY_700 : isIf Try.prog 56 = false := by kernel_rfl
theorem TY_701 : zeroOf Try.prog 56 = some [.t .nilf] := by kernel_rfl
theorem TY_702 : isInt Try.prog 56 = none := by kernel_rfl
theorem TY_703 : szOf Try.prog 57 = 1 := by kernel_rfl
theorem TY_704 : aggOf Try.prog 57 = false := by kernel_rfl
theorem TY_705 : known Try.prog 57 = true := by kernel_rfl
theorem TY_706 : Try.prog.bytesOf 57 = 8 := by kernel_rfl
theorem TY_707 : elOf Try.prog 57 = none := by kernel_rfl
theorem TY_708 : isStr Try.prog 57 = false := by kernel_rfl
theorem TY_709 : isSl Try.prog 57 = false := by kernel_rfl
theorem TY_710 : isBoolT Try.prog 57 = false := by kernel_rfl
theorem TY_711 : isIf Try.prog 57 = false := by kernel_rfl
theorem TY_712 : zeroOf Try.prog 57 = some [.t .nilf] := by kernel_rfl
theorem TY_713 : isInt Try.prog 57 = none := by kernel_rfl
theorem TY_714 : szOf Try.prog 58 = 1 := by kernel_rfl
theorem TY_715 : aggOf Try.prog 58 = false := by kernel_rfl
theorem TY_716 : known Try.prog 58 = true := by kernel_rfl
theorem TY_717 : Try.prog.bytesOf 58 = 8 := by kernel_rfl
theorem TY_718 : elOf Try.prog 58 = none := by kernel_rfl
theorem TY_719 : isStr Try.prog 58 = false := by kernel_rfl
theorem TY_720 : isSl Try.prog 58 = false := by kernel_rfl
theorem TY_721 : isBoolT Try.prog 58 = false := by kernel_rfl
theorem TY_722 : isIf Try.prog 58 = false := by kernel_rfl
theorem TY_723 : zeroOf Try.prog 58 = some [.t .nilf] := by kernel_rfl
theorem TY_724 : isInt Try.prog 58 = none := by kernel_rfl
theorem TY_725 : szOf Try.prog 59 = 1 := by kernel_rfl
theorem TY_726 : aggOf Try.prog 59 = false := by kernel_rfl
theorem TY_727 : known Try.prog 59 = true := by kernel_rfl
theorem TY_728 : Try.prog.bytesOf 59 = 8 := by kernel_rfl
theorem TY_729 : elOf Try.prog 59 = none := by kernel_rfl
theorem TY_730 : isStr Try.prog 59 = false := by kernel_rfl
theorem TY_731 : isSl Try.prog 59 = false := by kernel_rfl
theorem TY_732 : isBoolT Try.prog 59 = false := by kernel_rfl
theorem TY_733 : isIf Try.prog 59 = false := by kernel_rfl
theorem TY_734 : zeroOf Try.prog 59 = some [.t .nilf] := by kernel_rfl
theorem TY_735 : isInt Try.prog 59 = none := by kernel_rfl
theorem TY_736 : szOf Try.prog 60 = 1 := by kernel_rfl
theorem TY_737 : aggOf Try.prog 60 = false := by kernel_rfl
theorem TY_738 : known Try.prog 60 = true := by kernel_rfl
theorem TY_739 : Try.prog.bytesOf 60 = 8 := by kernel_rfl
theorem TY_740 : elOf Try.prog 60 = none := by kernel_rfl
theorem TY_741 : isStr Try.prog 60 = false := by kernel_rfl
theorem TY_742 : isSl Try.prog 60 = false := by kernel_rfl
theorem TY_743 : isBoolT Try.prog 60 = false := by kernel_rfl
theorem TY_744 : isIf Try.prog 60 = false := by kernel_rfl
theorem TY_745 : zeroOf Try.prog 60 = some [.t .nilf] := by kernel_rfl
theorem TY_746 : isInt Try.prog 60 = none := by kernel_rfl
theorem TY_747 : szOf Try.prog 61 = 1 := by kernel_rfl
theorem TY_748 : aggOf Try.prog 61 = false := by kernel_rfl
theorem TY_749 : known Try.prog 61 = true := by kernel_rfl
theorem TY_750 : Try.prog.bytesOf 61 = 8 := by kernel_rfl
theorem TY_751 : elOf Try.prog 61 = none := by kernel_rfl
theorem TY_752 : isStr Try.prog 61 = false := by kernel_rfl
theorem TY_753 : isSl Try.prog 61 = false := by kernel_rfl
theorem TY_754 : isBoolT Try.prog 61 = false := by kernel_rfl
theorem TY_755 : isIf Try.prog 61 = false := by kernel_rfl
theorem TY_756 : zeroOf Try.prog 61 = some [.t .nilf] := by kernel_rfl
theorem TY_757 : isInt Try.prog 61 = none := by kernel_rfl
theorem TY_758 : szOf Try.prog 62 = 1 := by kernel_rfl
theorem TY_759 : aggOf Try.prog 62 = false := by kernel_rfl
theorem TY_760 : known Try.prog 62 = true := by kernel_rfl
theorem TY_761 : Try.prog.bytesOf 62 = 8 := by kernel_rfl
theorem TY_762 : elOf Try.prog 62 = none := by kernel_rfl
theorem TY_763 : isStr Try.prog 62 = false := by kernel_rfl
theorem TY_764 : isSl Try.prog 62 = false := by kernel_rfl
theorem TY_765 : isBoolT Try.prog 62 = false := by kernel_rfl
theorem TY_766 : isIf Try.prog 62 = false := by kernel_rfl
theorem TY_767 : zeroOf Try.prog 62 = some [.t .nilf] := by kernel_rfl
theorem TY_768 : isInt Try.prog 62 = none := by kernel_rfl
theorem TY_769 : szOf Try.prog 63 = 1 := by kernel_rfl
theorem TY_770 : aggOf Try.prog 63 = false := by kernel_rfl
theorem TY_771 : known Try.prog 63 = true := by kernel_rfl
theorem TY_772 : Try.prog.bytesOf 63 = 8 := by kernel_rfl
theorem TY_773 : elOf Try.prog 63 = none := by kernel_rfl
theorem TY_774 : isStr Try.prog 63 = false := by kernel_rfl
theorem TY_775 : isSl Try.prog 63 = false := by kernel_rfl
theorem TY_776 : isBoolT Try.prog 63 = false := by kernel_rfl
theorem TY_777 : isIf Try.prog 63 = false := by kernel_rfl
theorem TY_778 : zeroOf Try.prog 63 = some [.t .nilf] := by kernel_rfl
theorem TY_779 : isInt Try.prog 63 = none := by kernel_rfl
theorem TY_780 : szOf Try.prog 64 = 1 := by kernel_rfl
theorem TY_781 : aggOf Try.prog 64 = false := by kernel_rfl
theorem TY_782 : known Try.prog 64 = true := by kernel_rfl
theorem TY_783 : Try.prog.bytesOf 64 = 8 := by kernel_rfl
theorem TY_784 : elOf Try.prog 64 = none := by kernel_rfl
theorem TY_785 : isStr Try.prog 64 = false := by kernel_rfl
theorem TY_786 : isSl Try.prog 64 = false := by kernel_rfl
theorem TY_787 : isBoolT Try.prog 64 = false := by kernel_rfl
theorem TY_788 : isIf Try.prog 64 = false := by kernel_rfl
theorem TY_789 : zeroOf Try.prog 64 = some [.t .nilf] := by kernel_rfl
theorem TY_790 : isInt Try.prog 64 = none := by kernel_rfl
theorem TY_791 : szOf Try.prog 65 = 1 := by kernel_rfl
theorem TY_792 : aggOf Try.prog 65 = false := by kernel_rfl
theorem TY_793 : known Try.prog 65 = true := by kernel_rfl
theorem TY_794 : Try.prog.bytesOf 65 = 8 := by kernel_rfl
theorem TY_795 : elOf Try.prog 65 = none := by kernel_rfl
theorem TY_796 : isStr Try.prog 65 = false := by kernel_rfl
theorem TY_797 : isSl Try.prog 65 = false := by kernel_rfl
theorem TY_798 : isBoolT Try.prog 65 = false := by kernel_rfl
theorem TY_799 : isIf Try.prog 65 = false := by kernel_rfl
theorem TY_800 : zeroOf Try.prog 65 = some [.t .nilf] := by kernel_rfl
theorem TY_801 : isInt Try.prog 65 = none := by kernel_rfl
theorem TY_802 : szOf Try.prog 66 = 1 := by kernel_rfl
theorem TY_803 : aggOf Try.prog 66 = false := by kernel_rfl
theorem TY_804 : known Try.prog 66 = true := by kernel_rfl
theorem TY_805 : Try.prog.bytesOf 66 = 24 := by kernel_rfl
theorem TY_806 : elOf Try.prog 66 = some 82 := by kernel_rfl
theorem TY_807 : isStr Try.prog 66 = false := by kernel_rfl
theorem TY_808 : isSl Try.prog 66 = true := by kernel_rfl
theorem TY_809 : isBoolT Try.prog 66 = false := by kernel_rfl
theorem TY_810 : isIf Try.prog 66 = false := by kernel_rfl
theorem TY_811 : zeroOf Try.prog 66 = some [.nil 2] := by kernel_rfl
theorem TY_812 : isInt Try.prog 66 = none := by kernel_rfl
theorem TY_813 : szOf Try.prog 67 = 6 := by kernel_rfl
theorem TY_814 : aggOf Try.prog 67 = true := by kernel_rfl
theorem TY_815 : known Try.prog 67 = true := by kernel_rfl
theorem TY_816 : Try.prog.bytesOf 67 = 104 := by kernel_rfl
theorem TY_817 : elOf Try.prog 67 = none := by kernel_rfl
theorem TY_818 : isStr Try.prog 67 = false := by kernel_rfl
theorem TY_819 : isSl Try.prog 67 = false := by kernel_rfl
theorem TY_820 : isBoolT Try.prog 67 = false := by kernel_rfl
theorem TY_821 : isIf Try.prog 67 = false := by kernel_rfl
theorem TY_822 : strOK Try.prog 67 = true := by kernel_rfl
theorem TY_823 : fOf Try.prog 67 0 = some (0, 1, false) := by kernel_rfl
theorem TY_824 : fTy Try.prog 67 0 = 9 := by kernel_rfl
theorem TY_825 : fOf Try.prog 67 1 = some (1, 1, false) := by kernel_rfl
theorem TY_826 : fTy Try.prog 67 1 = 9 := by kernel_rfl
theorem TY_827 : fOf Try.prog 67 2 = some (2, 1, false) := by kernel_rfl
theorem TY_828 : fTy Try.prog 67 2 = 9 := by kernel_rfl
theorem TY_829 : fOf Try.prog 67 3 = some (3, 1, false) := by kernel_rfl
theorem TY_830 : fTy Try.prog 67 3 = 66 := by kernel_rfl
theorem TY_831 : fOf Try.prog 67 4 = some (4, 1, false) := by kernel_rfl
theorem TY_832 : fTy Try.prog 67 4 = 4 := by kernel_rfl
theorem TY_833 : fOf Try.prog 67 5 = some (5, 1, false) := by kernel_rfl
theorem TY_834 : fTy Try.prog 67 5 = 22 := by kernel_rfl
theorem TY_835 : zeroOf Try.prog 67 = some [.t (.str []), .t (.str []), .t (.str []), .nil 2, .t (.bool false), .nil 1] := by kernel_rfl
theorem TY_836 : isInt Try.prog 67 = none := by kernel_rfl
theorem TY_837 : szOf Try.prog 68 = 6 := by kernel_rfl
theorem TY_838 : aggOf Try.prog 68 = true := by kernel_rfl
theorem TY_839 : known Try.prog 68 = true := by kernel_rfl
theorem TY_840 : Try.prog.bytesOf 68 = 104 := by kernel_rfl
theorem TY_841 : elOf Try.prog 68 = none := by kernel_rfl
theorem TY_842 : isStr Try.prog 68 = false := by kernel_rfl
theorem TY_843 : isSl Try.prog 68 = false := by kernel_rfl
theorem TY_844 : isBoolT Try.prog 68 = false := by kernel_rfl
theorem TY_845 : isIf Try.prog 68 = false := by kernel_rfl
theorem TY_846 : strOK Try.prog 68 = true := by kernel_rfl
theorem TY_847 : fOf Try.prog 68 0 = some (0, 1, false) := by kernel_rfl
theorem TY_848 : fTy Try.prog 68 0 = 9 := by kernel_rfl
theorem TY_849 : fOf Try.prog 68 1 = some (1, 1, false) := by kernel_rfl
theorem TY_850 : fTy Try.prog 68 1 = 9 := by kernel_rfl
theorem TY_851 : fOf Try.prog 68 2 = some (2, 1, false) := by kernel_rfl
theorem TY_852 : fTy Try.prog 68 2 = 9 := by kernel_rfl
theorem TY_853 : fOf Try.prog 68 3 = some (3, 1, false) := by kernel_rfl
theorem TY_854 : fTy Try.prog 68 3 = 66 := by kernel_rfl
theorem TY_855 : fOf Try.prog 68 4 = some (4, 1, false) := by kernel_rfl
theorem TY_856 : fTy Try.prog 68 4 = 4 := by kernel_rfl
theorem TY_857 : fOf Try.prog 68 5 = some (5, 1, false) := by kernel_rfl
theorem TY_858 : fTy Try.prog 68 5 = 22 := by kernel_rfl
theorem TY_859 : zeroOf Try.prog 68 = some [.t (.str []), .t (.str []), .t (.str []), .nil 2, .t (.bool false), .nil 1] := by kernel_rfl
theorem TY_860 : isInt Try.prog 68 = none := by kernel_rfl
theorem TY_861 : szOf Try.prog 69 = 1 := by kernel_rfl
theorem TY_862 : aggOf Try.prog 69 = false := by kernel_rfl
theorem TY_863 : known Try.prog 69 = true := by kernel_rfl
theorem TY_864 : Try.prog.bytesOf 69 = 8 := by kernel_rfl
theorem TY_865 : elOf Try.prog 69 = none := by kernel_rfl
theorem TY_866 : isStr Try.prog 69 = false := by kernel_rfl
theorem TY_867 : isSl Try.prog 69 = false := by kernel_rfl
theorem TY_868 : isBoolT Try.prog 69 = false := by kernel_rfl
theorem TY_869 : isIf Try.prog 69 = false := by kernel_rfl
theorem TY_870 : zeroOf Try.prog 69 = some [.t .nilf] := by kernel_rfl
theorem TY_871 : isInt Try.prog 69 = none := by kernel_rfl
theorem TY_872 : szOf Try.prog 70 = 1 := by kernel_rfl
theorem TY_873 : aggOf Try.prog 70 = false := by kernel_rfl
theorem TY_874 : known Try.prog 70 = true := by kernel_rfl
theorem TY_875 : Try.prog.bytesOf 70 = 8 := by kernel_rfl
theorem TY_876 : elOf Try.prog 70 = none := by kernel_rfl
theorem TY_877 : isStr Try.prog 70 = false := by kernel_rfl
theorem TY_878 : isSl Try.prog 70 = false := by kernel_rfl
theorem TY_879 : isBoolT Try.prog 70 = false := by kernel_rfl
theorem TY_880 : isIf Try.prog 70 = false := by kernel_rfl
theorem TY_881 : zeroOf Try.prog 70 = some [.t .nilf] := by kernel_rfl
theorem TY_882 : isInt Try.prog 70 = none := by kernel_rfl
theorem TY_883 : szOf Try.prog 71 = 1 := by kernel_rfl
theorem TY_884 : aggOf Try.prog 71 = false := by kernel_rfl
theorem TY_885 : known Try.prog 71 = true := by kernel_rfl
theorem TY_886 : Try.prog.bytesOf 71 = 8 := by kernel_rfl
theorem TY_887 : elOf Try.prog 71 = none := by kernel_rfl
theorem TY_888 : isStr Try.prog 71 = false := by kernel_rfl
theorem TY_889 : isSl Try.prog 71 = false := by kernel_rfl
theorem TY_890 : isBoolT Try.prog 71 = false := by kernel_rfl
theorem TY_891 : isIf Try.prog 71 = false := by kernel_rfl
theorem TY_892 : zeroOf Try.prog 71 = some [.t .nilf] := by kernel_rfl
theorem TY_893 : isInt Try.prog 71 = none := by kernel_rfl
theorem TY_894 : szOf Try.prog 72 = 1 := by kernel_rfl
theorem TY_895 : aggOf Try.prog 72 = false := by kernel_rfl
theorem TY_896 : known Try.prog 72 = true := by kernel_rfl
theorem TY_897 : Try.prog.bytesOf 72 = 8 := by kernel_rfl
theorem TY_898 : elOf Try.prog 72 = none := by kernel_rfl
theorem TY_899 : isStr Try.prog 72 = false := by kernel_rfl
theorem TY_900 : isSl Try.prog 72 = false := by kernel_rfl
theorem TY_901 : isBoolT Try.prog 72 = false := by kernel_rfl
theorem TY_902 : isIf Try.prog 72 = false := by kernel_rfl
theorem TY_903 : zeroOf Try.prog 72 = some [.t .nilf] := by kernel_rfl
theorem TY_904 : isInt Try.prog 72 = none := by kernel_rfl
theorem TY_905 : szOf Try.prog 73 = 1 := by kernel_rfl
theorem TY_906 : aggOf Try.prog 73 = false := by kernel_rfl
theorem TY_907 : known Try.prog 73 = true := by kernel_rfl
theorem TY_908 : Try.prog.bytesOf 73 = 24 := by kernel_rfl
theorem TY_909 : elOf Try.prog 73 = some 5 := by kernel_rfl
theorem TY_910 : isStr Try.prog 73 = false := by kernel_rfl
theorem TY_911 : isSl Try.prog 73 = true := by kernel_rfl
theorem TY_912 : isBoolT Try.prog 73 = false := by kernel_rfl
theorem TY_913 : isIf Try.prog 73 = false := by kernel_rfl
theorem TY_914 : zeroOf Try.prog 73 = some [.nil 1] := by kernel_rfl
theorem TY_915 : isInt Try.prog 73 = none := by kernel_rfl
theorem TY_916 : szOf Try.prog 74 = 1 := by kernel_rfl
theorem TY_917 : aggOf Try.prog 74 = false := by kernel_rfl
theorem TY_918 : known Try.prog 74 = true := by kernel_rfl
theorem TY_919 : Try.prog.bytesOf 74 = 8 := by kernel_rfl
theorem TY_920 : elOf Try.prog 74 = none := by kernel_rfl
theorem TY_921 : isStr Try.prog 74 = false := by kernel_rfl
theorem TY_922 : isSl Try.prog 74 = false := by kernel_rfl
theorem TY_923 : isBoolT Try.prog 74 = false := by kernel_rfl
theorem TY_924 : isIf Try.prog 74 = false := by kernel_rfl
theorem TY_925 : zeroOf Try.prog 74 = some [.t .nilf] := by kernel_rfl
theorem TY_926 : isInt Try.prog 74 = none := by kernel_rfl
theorem TY_927 : szOf Try.prog 75 = 1 := by kernel_rfl
theorem TY_928 : aggOf Try.prog 75 = false := by kernel_rfl
theorem TY_929 : known Try.prog 75 = true := by kernel_rfl
theorem TY_930 : Try.prog.bytesOf 75 = 24 := by kernel_rfl
theorem TY_931 : elOf Try.prog 75 = some 89 := by kernel_rfl
theorem TY_932 : isStr Try.prog 75 = false := by kernel_rfl
theorem TY_933 : isSl Try.prog 75 = true := by kernel_rfl
theorem TY_934 : isBoolT Try.prog 75 = false := by kernel_rfl
theorem TY_935 : isIf Try.prog 75 = false := by kernel_rfl
theorem TY_936 : zeroOf Try.prog 75 = some [.nil 2] := by kernel_rfl
theorem TY_937 : isInt Try.prog 75 = none := by kernel_rfl
theorem TY_938 : szOf Try.prog 76 = 6 := by kernel_rfl
theorem TY_939 : aggOf Try.prog 76 = true := by kernel_rfl
theorem TY_940 : known Try.prog 76 = true := by kernel_rfl
theorem TY_941 : Try.prog.bytesOf 76 = 104 := by kernel_rfl
theorem TY_942 : elOf Try.prog 76 = none := by kernel_rfl
theorem TY_943 : isStr Try.prog 76 = false := by kernel_rfl
theorem TY_944 : isSl Try.prog 76 = false := by kernel_rfl
theorem TY_945 : isBoolT Try.prog 76 = false := by kernel_rfl
theorem TY_946 : isIf Try.prog 76 = false := by kernel_rfl
theorem TY_947 : strOK Try.prog 76 = true := by kernel_rfl
theorem TY_948 : fOf Try.prog 76 0 = some (0, 1, false) := by kernel_rfl
theorem TY_949 : fTy Try.prog 76 0 = 9 := by kernel_rfl
theorem TY_950 : fOf Try.prog 76 1 = some (1, 1, false) := by kernel_rfl
theorem TY_951 : fTy Try.prog 76 1 = 9 := by kernel_rfl
theorem TY_952 : fOf Try.prog 76 2 = some (2, 1, false) := by kernel_rfl
theorem TY_953 : fTy Try.prog 76 2 = 9 := by kernel_rfl
theorem TY_954 : fOf Try.prog 76 3 = some (3, 1, false) := by kernel_rfl
theorem TY_955 : fTy Try.prog 76 3 = 75 := by kernel_rfl
theorem TY_956 : fOf Try.prog 76 4 = some (4, 1, false) := by kernel_rfl
theorem TY_957 : fTy Try.prog 76 4 = 4 := by kernel_rfl
theorem TY_958 : fOf Try.prog 76 5 = some (5, 1, false) := by kernel_rfl
theorem TY_959 : fTy Try.prog 76 5 = 22 := by kernel_rfl
theorem TY_960 : zeroOf Try.prog 76 = some [.t (.str []), .t (.str []), .t (.str []), .nil 2, .t (.bool false), .nil 1] := by kernel_rfl
theorem TY_961 : isInt Try.prog 76 = none := by kernel_rfl
theorem TY_962 : szOf Try.prog 77 = 6 := by kernel_rfl
theorem TY_963 : aggOf Try.prog 77 = true := by kernel_rfl
theorem TY_964 : known Try.prog 77 = true := by kernel_rfl
theorem TY_965 : Try.prog.bytesOf 77 = 104 := by kernel_rfl
theorem TY_966 : elOf Try.prog 77 = none := by kernel_rfl
theorem TY_967 : isStr Try.prog 77 = false := by kernel_rfl
theorem TY_968 : isSl Try.prog 77 = false := by kernel_rfl
theorem TY_969 : isBoolT Try.prog 77 = false := by kernel_rfl
theorem TY_970 : isIf Try.prog 77 = false := by kernel_rfl
theorem TY_971 : strOK Try.prog 77 = true := by kernel_rfl
theorem TY_972 : fOf Try.prog 77 0 = some (0, 1, false) := by kernel_rfl
theorem TY_973 : fTy Try.prog 77 0 = 9 := by kernel_rfl
theorem TY_974 : fOf Try.prog 77 1 = some (1, 1, false) := by kernel_rfl
theorem TY_975 : fTy Try.prog 77 1 = 9 := by kernel_rfl
theorem TY_976 : fOf Try.prog 77 2 = some (2, 1, false) := by kernel_rfl
theorem TY_977 : fTy Try.prog 77 2 = 9 := by kernel_rfl
theorem TY_978 : fOf Try.prog 77 3 = some (3, 1, false) := by kernel_rfl
theorem TY_979 : fTy Try.prog 77 3 = 75 := by kernel_rfl
theorem TY_980 : fOf Try.prog 77 4 = some (4, 1, false) := by kernel_rfl
theorem TY_981 : fTy Try.prog 77 4 = 4 := by kernel_rfl
theorem TY_982 : fOf Try.prog 77 5 = some (5, 1, false) := by kernel_rfl
theorem TY_983 : fTy Try.prog 77 5 = 22 := by kernel_rfl
theorem TY_984 : zeroOf Try.prog 77 = some [.t (.str []), .t (.str []), .t (.str []), .nil 2, .t (.bool false), .nil 1] := by kernel_rfl
theorem TY_985 : isInt Try.prog 77 = none := by kernel_rfl
theorem TY_986 : szOf Try.prog 78 = 1 := by kernel_rfl
theorem TY_987 : aggOf Try.prog 78 = false := by kernel_rfl
theorem TY_988 : known Try.prog 78 = true := by kernel_rfl
theorem TY_989 : Try.prog.bytesOf 78 = 8 := by kernel_rfl
theorem TY_990 : elOf Try.prog 78 = none := by kernel_rfl
theorem TY_991 : isStr Try.prog 78 = false := by kernel_rfl
theorem TY_992 : isSl Try.prog 78 = false := by kernel_rfl
theorem TY_993 : isBoolT Try.prog 78 = false := by kernel_rfl
theorem TY_994 : isIf Try.prog 78 = false := by kernel_rfl
theorem TY_995 : zeroOf Try.prog 78 = some [.t .nilf] := by kernel_rfl
theorem TY_996 : isInt Try.prog 78 = none := by kernel_rfl
theorem TY_997 : szOf Try.prog 79 = 1 := by kernel_rfl
theorem TY_998 : aggOf Try.prog 79 = false := by kernel_rfl
theorem TY_999 : known Try.prog 79 = true := by kernel_rfl
theorem TY_1000 : Try.prog.bytesOf 79 = 8 := by kernel_rfl
theorem TY_1001 : elOf Try.prog 79 = none := by kernel_rfl
theorem TY_1002 : isStr Try.prog 79 = false := by kernel_rfl
theorem TY_1003 : isSl Try.prog 79 = false := by kernel_rfl
theorem TY_1004 : isBoolT Try.prog 79 = false := by kernel_rfl
theorem TY_1005 : isIf Try.prog 79 = false := by kernel_rfl
theorem TY_1006 : zeroOf Try.prog 79 = some [.t .nilf] := by kernel_rfl
theorem TY_1007 : isInt Try.prog 79 = none := by kernel_rfl
theorem TY_1008 : szOf Try.prog 80 = 1 := by kernel_rfl
theorem TY_1009 : aggOf Try.prog 80 = false := by kernel_rfl
theorem TY_1010 : known Try.prog 80 = true := by kernel_rfl
theorem TY_1011 : Try.prog.bytesOf 80 = 8 := by kernel_rfl
theorem TY_1012 : elOf Try.prog 80 = none := by kernel_rfl
theorem TY_1013 : isStr Try.prog 80 = false := by kernel_rfl
theorem TY_1014 : isSl Try.prog 80 = false := by kernel_rfl
theorem TY_1015 : isBoolT Try.prog 80 = false := by kernel_rfl
theorem TY_1016 : isIf Try.prog 80 = false := by kernel_rfl
theorem TY_1017 : zeroOf Try.prog 80 = some [.t .nilf] := by kernel_rfl
theorem TY_1018 : isInt Try.prog 80 = none := by kernel_rfl
theorem TY_1019 : szOf Try.prog 81 = 2 := by kernel_rfl
theorem TY_1020 : aggOf Try.prog 81 = true := by kernel_rfl
theorem TY_1021 : known Try.prog 81 = true := by kernel_rfl
theorem TY_1022 : Try.prog.bytesOf 81 = 32 := by kernel_rfl
theorem TY_1023 : elOf Try.prog 81 = none := by kernel_rfl
theorem TY_1024 : isStr Try.prog 81 = false := by kernel_rfl
theorem TY_1025 : isSl Try.prog 81 = false := by kernel_rfl
theorem TY_1026 : isBoolT Try.prog 81 = false := by kernel_rfl
theorem TY_1027 : isIf Try.prog 81 = false := by kernel_rfl
theorem TY_1028 : strOK Try.prog 81 = true := by kernel_rfl
theorem TY_1029 : fOf Try.prog 81 0 = some (0, 1, false) := by kernel_rfl
theorem TY_1030 : fTy Try.prog 81 0 = 9 := by kernel_rfl
theorem TY_1031 : fOf Try.prog 81 1 = some (1, 1, false) := by kernel_rfl
theorem TY_1032 : fTy Try.prog 81 1 = 9 := by kernel_rfl
theorem TY_1033 : zeroOf Try.prog 81 = some [.t (.str []), .t (.str [])] := by kernel_rfl
theorem TY_1034 : isInt Try.prog 81 = none := by kernel_rfl
theorem TY_1035 : szOf Try.prog 82 = 2 := by kernel_rfl
theorem TY_1036 : aggOf Try.prog 82 = true := by kernel_rfl
theorem TY_1037 : known Try.prog 82 = true := by kernel_rfl
theorem TY_1038 : Try.prog.bytesOf 82 = 32 := by kernel_rfl
theorem TY_1039 : elOf Try.prog 82 = none := by kernel_rfl
theorem TY_1040 : isStr Try.prog 82 = false := by kernel_rfl
theorem TY_1041 : isSl Try.prog 82 = false := by kernel_rfl
theorem TY_1042 : isBoolT Try.prog 82 = false := by kernel_rfl
theorem TY_1043 : isIf Try.prog 82 = false := by kernel_rfl
theorem TY_1044 : strOK Try.prog 82 = true := by kernel_rfl
theorem TY_1045 : fOf Try.prog 82 0 = some (0, 1, false) := by kernel_rfl
theorem TY_1046 : fTy Try.prog 82 0 = 9 := by kernel_rfl
theorem TY_1047 : fOf Try.prog 82 1 = some (1, 1, false) := by kernel_rfl
theorem TY_1048 : fTy Try.prog 82 1 = 9 := by kernel_rfl
theorem TY_1049 : zeroOf Try.prog 82 = some [.t (.str []), .t (.str [])] := by kernel_rfl
theorem TY_1050 : isInt Try.prog 82 = none := by kernel_rfl
theorem TY_1051 : szOf Try.prog 83 = 1 := by kernel_rfl
theorem TY_1052 : aggOf Try.prog 83 = false := by kernel_rfl
theorem TY_1053 : known Try.prog 83 = true := by kernel_rfl
theorem TY_1054 : Try.prog.bytesOf 83 = 8 := by kernel_rfl
theorem TY_1055 : elOf Try.prog 83 = none := by kernel_rfl
theorem TY_1056 : isStr Try.prog 83 = false := by kernel_rfl
theorem TY_1057 : isSl Try.prog 83 = false := by kernel_rfl
theorem TY_1058 : isBoolT Try.prog 83 = false := by kernel_rfl
theorem TY_1059 : isIf Try.prog 83 = false := by kernel_rfl
theorem TY_1060 : zeroOf Try.prog 83 = some [.t .nilf] := by kernel_rfl
theorem TY_1061 : isInt Try.prog 83 = none := by kernel_rfl
theorem TY_1062 : szOf Try.prog 84 = 1 := by kernel_rfl
theorem TY_1063 : aggOf Try.prog 84 = false := by kernel_rfl
theorem TY_1064 : known Try.prog 84 = true := by kernel_rfl
theorem TY_1065 : Try.prog.bytesOf 84 = 8 := by kernel_rfl
theorem TY_1066 : elOf Try.prog 84 = none := by kernel_rfl
theorem TY_1067 : isStr Try.prog 84 = false := by kernel_rfl
theorem TY_1068 : isSl Try.prog 84 = false := by kernel_rfl
theorem TY_1069 : isBoolT Try.prog 84 = false := by kernel_rfl
theorem TY_1070 : isIf Try.prog 84 = false := by kernel_rfl
theorem TY_1071 : zeroOf Try.prog 84 = some [.t .nilf] := by kernel_rfl
theorem TY_1072 : isInt Try.prog 84 = none := by kernel_rfl
theorem TY_1073 : szOf Try.prog 85 = 1 := by kernel_rfl
theorem TY_1074 : aggOf Try.prog 85 = false := by kernel_rfl
theorem TY_1075 : known Try.prog 85 = true := by kernel_rfl
theorem TY_1076 : Try.prog.bytesOf 85 = 8 := by kernel_rfl
theorem TY_1077 : elOf Try.prog 85 = none := by kernel_rfl
theorem TY_1078 : isStr Try.prog 85 = false := by kernel_rfl
theorem TY_1079 : isSl Try.prog 85 = false := by kernel_rfl
theorem TY_1080 : isBoolT Try.prog 85 = false := by kernel_rfl
theorem TY_1081 : isIf Try.prog 85 = false := by kernel_rfl
theorem TY_1082 : zeroOf Try.prog 85 = some [.t .nilf] := by kernel_rfl
theorem TY_1083 : isInt Try.prog 85 = none := by kernel_rfl
theorem TY_1084 : szOf Try.prog 86 = 1 := by kernel_rfl
theorem TY_1085 : aggOf Try.prog 86 = false := by kernel_rfl
theorem TY_1086 : known Try.prog 86 = true := by kernel_rfl
theorem TY_1087 : Try.prog.bytesOf 86 = 8 := by kernel_rfl
theorem TY_1088 : elOf Try.prog 86 = none := by kernel_rfl
theorem TY_1089 : isStr Try.prog 86 = false := by kernel_rfl
theorem TY_1090 : isSl Try.prog 86 = false := by kernel_rfl
theorem TY_1091 : isBoolT Try.prog 86 = false := by kernel_rfl
theorem TY_1092 : isIf Try.prog 86 = false := by kernel_rfl
theorem TY_1093 : zeroOf Try.prog 86 = some [.t .nilf] := by kernel_rfl
theorem TY_1094 : isInt Try.prog 86 = none := by kernel_rfl
theorem TY_1095 : szOf Try.prog 87 = 1 := by kernel_rfl
theorem TY_1096 : aggOf Try.prog 87 = false := by kernel_rfl
theorem TY_1097 : known Try.prog 87 = true := by kernel_rfl
theorem TY_1098 : Try.prog.bytesOf 87 = 8 := by kernel_rfl
theorem TY_1099 : elOf Try.prog 87 = none := by kernel_rfl
theorem TY_1100 : isStr Try.prog 87 = false := by kernel_rfl
theorem TY_1101 : isSl Try.prog 87 = false := by kernel_rfl
theorem TY_1102 : isBoolT Try.prog 87 = false := by kernel_rfl
theorem TY_1103 : isIf Try.prog 87 = false := by kernel_rfl
theorem TY_1104 : zeroOf Try.prog 87 = some [.t .nilf] := by kernel_rfl
theorem TY_1105 : isInt Try.prog 87 = none := by kernel_rfl
theorem TY_1106 : szOf Try.prog 88 = 1 := by kernel_rfl
theorem TY_1107 : aggOf Try.prog 88 = false := by kernel_rfl
theorem TY_1108 : known Try.prog 88 = true := by kernel_rfl
theorem TY_1109 : Try.prog.bytesOf 88 = 8 := by kernel_rfl
theorem TY_1110 : elOf Try.prog 88 = none := by kernel_rfl
theorem TY_1111 : isStr Try.prog 88 = false := by kernel_rfl
theorem TY_1112 : isSl Try.prog 88 = false := by kernel_rfl
theorem TY_1113 : isBoolT Try.prog 88 = false := by kernel_rfl
theorem TY_1114 : isIf Try.prog 88 = false := by kernel_rfl
theorem TY_1115 : zeroOf Try.prog 88 = some [.t .nilf] := by kernel_rfl
theorem TY_1116 : isInt Try.prog 88 = none := by kernel_rfl
theorem TY_1117 : szOf Try.prog 89 = 2 := by kernel_rfl
theorem TY_1118 : aggOf Try.prog 89 = true := by kernel_rfl
theorem TY_1119 : known Try.prog 89 = true := by kernel_rfl
theorem TY_1120 : Try.prog.bytesOf 89 = 32 := by kernel_rfl
theorem TY_1121 : elOf Try.prog 89 = none := by kernel_rfl
theorem TY_1122 : isStr Try.prog 89 = false := by kernel_rfl
theorem TY_1123 : isSl Try.prog 89 = false := by kernel_rfl
theorem TY_1124 : isBoolT Try.prog 89 = false := by kernel_rfl
theorem TY_1125 : isIf Try.prog 89 = false := by kernel_rfl
theorem TY_1126 : strOK Try.prog 89 = true := by kernel_rfl
theorem TY_1127 : fOf Try.prog 89 0 = some (0, 1, false) := by kernel_rfl
theorem TY_1128 : fTy Try.prog 89 0 = 9 := by kernel_rfl
theorem TY_1129 : fOf Try.prog 89 1 = some (1, 1, false) := by kernel_rfl
theorem TY_1130 : fTy Try.prog 89 1 = 9 := by kernel_rfl
theorem TY_1131 : zeroOf Try.prog 89 = some [.t (.str []), .t (.str [])] := by kernel_rfl
theorem TY_1132 : isInt Try.prog 89 = none := by kernel_rfl
theorem TY_1133 : szOf Try.prog 90 = 1 := by kernel_rfl
theorem TY_1134 : aggOf Try.prog 90 = false := by kernel_rfl
theorem TY_1135 : known Try.prog 90 = true := by kernel_rfl
theorem TY_1136 : Try.prog.bytesOf 90 = 8 := by kernel_rfl
theorem TY_1137 : elOf Try.prog 90 = none := by kernel_rfl
theorem TY_1138 : isStr Try.prog 90 = false := by kernel_rfl
theorem TY_1139 : isSl Try.prog 90 = false := by kernel_rfl
theorem TY_1140 : isBoolT Try.prog 90 = false := by kernel_rfl
theorem TY_1141 : isIf Try.prog 90 = false := by kernel_rfl
theorem TY_1142 : zeroOf Try.prog 90 = some [.t .nilf] := by kernel_rfl
theorem TY_1143 : isInt Try.prog 90 = none := by kernel_rfl
theorem TY_1144 : szOf Try.prog 91 = 1 := by kernel_rfl
theorem TY_1145 : aggOf Try.prog 91 = false := by kernel_rfl
theorem TY_1146 : known Try.prog 91 = true := by kernel_rfl
theorem TY_1147 : Try.prog.bytesOf 91 = 8 := by kernel_rfl
theorem TY_1148 : elOf Try.prog 91 = none := by kernel_rfl
theorem TY_1149 : isStr Try.prog 91 = false := by kernel_rfl
theorem TY_1150 : isSl Try.prog 91 = false := by kernel_rfl
theorem TY_1151 : isBoolT Try.prog 91 = false := by kernel_rfl
theorem TY_1152 : isIf Try.prog 91 = false := by kernel_rfl
theorem TY_1153 : zeroOf Try.prog 91 = some [.t .nilf] := by kernel_rfl
theorem TY_1154 : isInt Try.prog 91 = none := by kernel_rfl
theorem TY_1155 : szOf Try.prog 92 = 1 := by kernel_rfl
theorem TY_1156 : aggOf Try.prog 92 = false := by kernel_rfl
theorem TY_1157 : known Try.prog 92 = true := by kernel_rfl
theorem TY_1158 : Try.prog.bytesOf 92 = 8 := by kernel_rfl
theorem TY_1159 : elOf Try.prog 92 = none := by kernel_rfl
theorem TY_1160 : isStr Try.prog 92 = false := by kernel_rfl
theorem TY_1161 : isSl Try.prog 92 = false := by kernel_rfl
theorem TY_1162 : isBoolT Try.prog 92 = false := by kernel_rfl
theorem TY_1163 : isIf Try.prog 92 = false := by kernel_rfl
theorem TY_1164 : zeroOf Try.prog 92 = some [.t .nilf] := by kernel_rfl
theorem TY_1165 : isInt Try.prog 92 = none := by kernel_rfl
theorem TY_1166 : szOf Try.prog 93 = 4 := by kernel_rfl
theorem TY_1167 : aggOf Try.prog 93 = true := by kernel_rfl
theorem TY_1168 : known Try.prog 93 = true := by kernel_rfl
theorem TY_1169 : Try.prog.bytesOf 93 = 40 := by kernel_rfl
theorem TY_1170 : elOf Try.prog 93 = none := by kernel_rfl
theorem TY_1171 : isStr Try.prog 93 = false := by kernel_rfl
theorem TY_1172 : isSl Try.prog 93 = false := by kernel_rfl
theorem TY_1173 : isBoolT Try.prog 93 = false := by kernel_rfl
theorem TY_1174 : isIf Try.prog 93 = false := by kernel_rfl
theorem TY_1175 : strOK Try.prog 93 = true := by kernel_rfl
theorem TY_1176 : fOf Try.prog 93 0 = some (0, 1, false) := by kernel_rfl
theorem TY_1177 : fTy Try.prog 93 0 = 17 := by kernel_rfl
theorem TY_1178 : fOf Try.prog 93 1 = some (1, 1, false) := by kernel_rfl
theorem TY_1179 : fTy Try.prog 93 1 = 17 := by kernel_rfl
theorem TY_1180 : fOf Try.prog 93 2 = some (2, 1, false) := by kernel_rfl
theorem TY_1181 : fTy Try.prog 93 2 = 17 := by kernel_rfl
theorem TY_1182 : fOf Try.prog 93 3 = some (3, 1, false) := by kernel_rfl
theorem TY_1183 : fTy Try.prog 93 3 = 9 := by kernel_rfl
theorem TY_1184 : zeroOf Try.prog 93 = some [.t .nilp, .t .nilp, .t .nilp, .t (.str [])] := by kernel_rfl
theorem TY_1185 : isInt Try.prog 93 = none := by kernel_rfl
theorem TY_1186 : szOf Try.prog 94 = 4 := by kernel_rfl
theorem TY_1187 : aggOf Try.prog 94 = true := by kernel_rfl
theorem TY_1188 : known Try.prog 94 = true := by kernel_rfl
theorem TY_1189 : Try.prog.bytesOf 94 = 40 := by kernel_rfl
theorem TY_1190 : elOf Try.prog 94 = none := by kernel_rfl
theorem TY_1191 : isStr Try.prog 94 = false := by kernel_rfl
theorem TY_1192 : isSl Try.prog 94 = false := by kernel_rfl
theorem TY_1193 : isBoolT Try.prog 94 = false := by kernel_rfl
theorem TY_1194 : isIf Try.prog 94 = false := by kernel_rfl
theorem TY_1195 : strOK Try.prog 94 = true := by kernel_rfl
theorem TY_1196 : fOf Try.prog 94 0 = some (0, 1, false) := by kernel_rfl
theorem TY_1197 : fTy Try.prog 94 0 = 17 := by kernel_rfl
theorem TY_1198 : fOf Try.prog 94 1 = some (1, 1, false) := by kernel_rfl
theorem TY_1199 : fTy Try.prog 94 1 = 17 := by kernel_rfl
theorem TY_1200 : fOf Try.prog 94 2 = some (2, 1, false) := by kernel_rfl
theorem TY_1201 : fTy Try.prog 94 2 = 17 := by kernel_rfl
theorem TY_1202 : fOf Try.prog 94 3 = some (3, 1, false) := by kernel_rfl
theorem TY_1203 : fTy Try.prog 94 3 = 9 := by kernel_rfl
theorem TY_1204 : zeroOf Try.prog 94 = some [.t .nilp, .t .nilp, .t .nilp, .t (.str [])] := by kernel_rfl
theorem TY_1205 : isInt Try.prog 94 = none := by kernel_rfl
theorem TY_1206 : szOf Try.prog 98 = 1 := by kernel_rfl
theorem TY_1207 : aggOf Try.prog 98 = false := by kernel_rfl
theorem TY_1208 : known Try.prog 98 = true := by kernel_rfl
theorem TY_1209 : Try.prog.bytesOf 98 = 8 := by kernel_rfl
theorem TY_1210 : elOf Try.prog 98 = none := by kernel_rfl
theorem TY_1211 : isStr Try.prog 98 = false := by kernel_rfl
theorem TY_1212 : isSl Try.prog 98 = false := by kernel_rfl
theorem TY_1213 : isBoolT Try.prog 98 = false := by kernel_rfl
theorem TY_1214 : isIf Try.prog 98 = false := by kernel_rfl
theorem TY_1215 : zeroOf Try.prog 98 = some [.t .nilf] := by kernel_rfl
theorem TY_1216 : isInt Try.prog 98 = none := by kernel_rfl
theorem TY_1217 : szOf Try.prog 99 = 1 := by kernel_rfl
theorem TY_1218 : aggOf Try.prog 99 = false := by kernel_rfl
theorem TY_1219 : known Try.prog 99 = true := by kernel_rfl
theorem TY_1220 : Try.prog.bytesOf 99 = 4 := by kernel_rfl
theorem TY_1221 : elOf Try.prog 99 = none := by kernel_rfl
theorem TY_1222 : isStr Try.prog 99 = false := by kernel_rfl
theorem TY_1223 : isSl Try.prog 99 = false := by kernel_rfl
theorem TY_1224 : isBoolT Try.prog 99 = false := by kernel_rfl
theorem TY_1225 : isIf Try.prog 99 = false := by kernel_rfl
theorem TY_1226 : zeroOf Try.prog 99 = some [.t (.int .u32 0)] := by kernel_rfl
theorem TY_1227 : isInt Try.prog 99 = some .u32 := by kernel_rfl
theorem TY_1228 : szOf Try.prog 100 = 1 := by kernel_rfl
theorem TY_1229 : aggOf Try.prog 100 = false := by kernel_rfl
theorem TY_1230 : known Try.prog 100 = true := by kernel_rfl
theorem TY_1231 : Try.prog.bytesOf 100 = 1 := by kernel_rfl
theorem TY_1232 : elOf Try.prog 100 = none := by kernel_rfl
theorem TY_1233 : isStr Try.prog 100 = false := by kernel_rfl
theorem TY_1234 : isSl Try.prog 100 = false := by kernel_rfl
theorem TY_1235 : isBoolT Try.prog 100 = false := by kernel_rfl
theorem TY_1236 : isIf Try.prog 100 = false := by kernel_rfl
theorem TY_1237 : zeroOf Try.prog 100 = some [.t (.int .u8 0)] := by kernel_rfl
theorem TY_1238 : isInt Try.prog 100 = some .u8 := by kernel_rfl
theorem TY_1239 : szOf Try.prog 101 = 1 := by kernel_rfl
theorem TY_1240 : aggOf Try.prog 101 = false := by kernel_rfl
theorem TY_1241 : known Try.prog 101 = true := by kernel_rfl
theorem TY_1242 : Try.prog.bytesOf 101 = 1 := by kernel_rfl
theorem TY_1243 : elOf Try.prog 101 = none := by kernel_rfl
theorem TY_1244 : isStr Try.prog 101 = false := by kernel_rfl
theorem TY_1245 : isSl Try.prog 101 = false := by kernel_rfl
theorem TY_1246 : isBoolT Try.prog 101 = false := by kernel_rfl
theorem TY_1247 : isIf Try.prog 101 = false := by kernel_rfl
theorem TY_1248 : zeroOf Try.prog 101 = some [.t (.int .u8 0)] := by kernel_rfl
theorem TY_1249 : isInt Try.prog 101 = some .u8 := by kernel_rfl
theorem TY_1250 : szOf Try.prog 102 = 1 := by kernel_rfl
theorem TY_1251 : aggOf Try.prog 102 = false := by kernel_rfl
theorem TY_1252 : known Try.prog 102 = true := by kernel_rfl
theorem TY_1253 : Try.prog.bytesOf 102 = 8 := by kernel_rfl
theorem TY_1254 : elOf Try.prog 102 = none := by kernel_rfl
theorem TY_1255 : isStr Try.prog 102 = false := by kernel_rfl
theorem TY_1256 : isSl Try.prog 102 = false := by kernel_rfl
theorem TY_1257 : isBoolT Try.prog 102 = false := by kernel_rfl
theorem TY_1258 : isIf Try.prog 102 = false := by kernel_rfl
theorem TY_1259 : zeroOf Try.prog 102 = some [.t .nilf] := by kernel_rfl
theorem TY_1260 : isInt Try.prog 102 = none := by kernel_rfl
theorem TY_1261 : szOf Try.prog 103 = 1 := by kernel_rfl
theorem TY_1262 : aggOf Try.prog 103 = false := by kernel_rfl
theorem TY_1263 : known Try.prog 103 = true := by kernel_rfl
theorem TY_1264 : Try.prog.bytesOf 103 = 8 := by kernel_rfl
theorem TY_1265 : elOf Try.prog 103 = none := by kernel_rfl
theorem TY_1266 : isStr Try.prog 103 = false := by kernel_rfl
theorem TY_1267 : isSl Try.prog 103 = false := by kernel_rfl
theorem TY_1268 : isBoolT Try.prog 103 = false := by kernel_rfl
theorem TY_1269 : isIf Try.prog 103 = false := by kernel_rfl
theorem TY_1270 : zeroOf Try.prog 103 = some [.t .nilp] := by kernel_rfl
theorem TY_1271 : isInt Try.prog 103 = none := by kernel_rfl
theorem TY_1272 : szOf Try.prog 104 = 1 := by kernel_rfl
theorem TY_1273 : aggOf Try.prog 104 = false := by kernel_rfl
theorem TY_1274 : known Try.prog 104 = true := by kernel_rfl
theorem TY_1275 : Try.prog.bytesOf 104 = 4 := by kernel_rfl
theorem TY_1276 : elOf Try.prog 104 = none := by kernel_rfl
theorem TY_1277 : isStr Try.prog 104 = false := by kernel_rfl
theorem TY_1278 : isSl Try.prog 104 = false := by kernel_rfl
theorem TY_1279 : isBoolT Try.prog 104 = false := by kernel_rfl
theorem TY_1280 : isIf Try.prog 104 = false := by kernel_rfl
theorem TY_1281 : zeroOf Try.prog 104 = some [.t (.int .i32 0)] := by kernel_rfl
theorem TY_1282 : isInt Try.prog 104 = some .i32 := by kernel_rfl
theorem TY_1283 : szOf Try.prog 105 = 1 := by kernel_rfl
theorem TY_1284 : aggOf Try.prog 105 = false := by kernel_rfl
theorem TY_1285 : known Try.prog 105 = true := by kernel_rfl
theorem TY_1286 : Try.prog.bytesOf 105 = 4 := by kernel_rfl
theorem TY_1287 : elOf Try.prog 105 = none := by kernel_rfl
theorem TY_1288 : isStr Try.prog 105 = false := by kernel_rfl
theorem TY_1289 : isSl Try.prog 105 = false := by kernel_rfl
theorem TY_1290 : isBoolT Try.prog 105 = false := by kernel_rfl
theorem TY_1291 : isIf Try.prog 105 = false := by kernel_rfl
theorem TY_1292 : zeroOf Try.prog 105 = some [.t (.int .i32 0)] := by kernel_rfl
theorem TY_1293 : isInt Try.prog 105 = some .i32 := by kernel_rfl
theorem TY_1294 : szOf Try.prog 106 = 11 := by kernel_rfl
theorem TY_1295 : aggOf Try.prog 106 = true := by kernel_rfl
theorem TY_1296 : known Try.prog 106 = true := by kernel_rfl
theorem TY_1297 : Try.prog.bytesOf 106 = 48 := by kernel_rfl
theorem TY_1298 : elOf Try.prog 106 = none := by kernel_rfl
theorem TY_1299 : isStr Try.prog 106 = false := by kernel_rfl
theorem TY_1300 : isSl Try.prog 106 = false := by kernel_rfl
theorem TY_1301 : isBoolT Try.prog 106 = false := by kernel_rfl
theorem TY_1302 : isIf Try.prog 106 = false := by kernel_rfl
theorem TY_1303 : strOK Try.prog 106 = true := by kernel_rfl
theorem TY_1304 : fOf Try.prog 106 0 = some (0, 1, false) := by kernel_rfl
theorem TY_1305 : fTy Try.prog 106 0 = 12 := by kernel_rfl
theorem TY_1306 : fOf Try.prog 106 1 = some (1, 1, false) := by kernel_rfl
theorem TY_1307 : fTy Try.prog 106 1 = 12 := by kernel_rfl
theorem TY_1308 : fOf Try.prog 106 2 = some (2, 1, false) := by kernel_rfl
theorem TY_1309 : fTy Try.prog 106 2 = 99 := by kernel_rfl
theorem TY_1310 : fOf Try.prog 106 3 = some (3, 1, false) := by kernel_rfl
theorem TY_1311 : fTy Try.prog 106 3 = 100 := by kernel_rfl
theorem TY_1312 : fOf Try.prog 106 4 = some (4, 1, false) := by kernel_rfl
theorem TY_1313 : fTy Try.prog 106 4 = 5 := by kernel_rfl
theorem TY_1314 : fOf Try.prog 106 5 = some (5, 1, false) := by kernel_rfl
theorem TY_1315 : fTy Try.prog 106 5 = 5 := by kernel_rfl
theorem TY_1316 : fOf Try.prog 106 6 = some (6, 1, false) := by kernel_rfl
theorem TY_1317 : fTy Try.prog 106 6 = 101 := by kernel_rfl
theorem TY_1318 : fOf Try.prog 106 7 = some (7, 1, false) := by kernel_rfl
theorem TY_1319 : fTy Try.prog 106 7 = 102 := by kernel_rfl
theorem TY_1320 : fOf Try.prog 106 8 = some (8, 1, false) := by kernel_rfl
theorem TY_1321 : fTy Try.prog 106 8 = 103 := by kernel_rfl
theorem TY_1322 : fOf Try.prog 106 9 = some (9, 1, false) := by kernel_rfl
theorem TY_1323 : fTy Try.prog 106 9 = 104 := by kernel_rfl
theorem TY_1324 : fOf Try.prog 106 10 = some (10, 1, false) := by kernel_rfl
theorem TY_1325 : fTy Try.prog 106 10 = 105 := by kernel_rfl
theorem TY_1326 : zeroOf Try.prog 106 = some [.t (.int .u64 0), .t (.int .u64 0), .t (.int .u32 0), .t (.int .u8 0), .t (.int .u8 0), .t (.int .u8 0), .t (.int .u8 0), .t .nilf, .t .nilp, .t (.int .i32 0), .t (.int .i32 0)] := by kernel_rfl
theorem TY_1327 : isInt Try.prog 106 = none := by kernel_rfl
theorem TY_1328 : szOf Try.prog 107 = 11 := by kernel_rfl
theorem TY_1329 : aggOf Try.prog 107 = true := by kernel_rfl
theorem TY_1330 : known Try.prog 107 = true := by kernel_rfl
theorem TY_1331 : Try.prog.bytesOf 107 = 48 := by kernel_rfl
theorem TY_1332 : elOf Try.prog 107 = none := by kernel_rfl
theorem TY_1333 : isStr Try.prog 107 = false := by kernel_rfl
theorem TY_1334 : isSl Try.prog 107 = false := by kernel_rfl
theorem TY_1335 : isBoolT Try.prog 107 = false := by kernel_rfl
theorem TY_1336 : isIf Try.prog 107 = false := by kernel_rfl
theorem TY_1337 : strOK Try.prog 107 = true := by kernel_rfl
theorem TY_1338 : fOf Try.prog 107 0 = some (0, 1, false) := by kernel_rfl
theorem TY_1339 : fTy Try.prog 107 0 = 12 := by kernel_rfl
theorem TY_1340 : fOf Try.prog 107 1 = some (1, 1, false) := by kernel_rfl
theorem TY_1341 : fTy Try.prog 107 1 = 12 := by kernel_rfl
theorem TY_1342 : fOf Try.prog 107 2 = some (2, 1, false) := by kernel_rfl
theorem TY_1343 : fTy Try.prog 107 2 = 99 := by kernel_rfl
theorem TY_1344 : fOf Try.prog 107 3 = some (3, 1, false) := by kernel_rfl
theorem TY_1345 : fTy Try.prog 107 3 = 100 := by kernel_rfl
theorem TY_1346 : fOf Try.prog 107 4 = some (4, 1, false) := by kernel_rfl
theorem TY_1347 : fTy Try.prog 107 4 = 5 := by kernel_rfl
theorem TY_1348 : fOf Try.prog 107 5 = some (5, 1, false) := by kernel_rfl
theorem TY_1349 : fTy Try.prog 107 5 = 5 := by kernel_rfl
theorem TY_1350 : fOf Try.prog 107 6 = some (6, 1, false) := by kernel_rfl
theorem TY_1351 : fTy Try.prog 107 6 = 101 := by kernel_rfl
theorem TY_1352 : fOf Try.prog 107 7 = some (7, 1, false) := by kernel_rfl
theorem TY_1353 : fTy Try.prog 107 7 = 102 := by kernel_rfl
theorem TY_1354 : fOf Try.prog 107 8 = some (8, 1, false) := by kernel_rfl
theorem TY_1355 : fTy Try.prog 107 8 = 103 := by kernel_rfl
theorem TY_1356 : fOf Try.prog 107 9 = some (9, 1, false) := by kernel_rfl
theorem TY_1357 : fTy Try.prog 107 9 = 104 := by kernel_rfl
theorem TY_1358 : fOf Try.prog 107 10 = some (10, 1, false) := by kernel_rfl
theorem TY_1359 : fTy Try.prog 107 10 = 105 := by kernel_rfl
theorem TY_1360 : zeroOf Try.prog 107 = some [.t (.int .u64 0), .t (.int .u64 0), .t (.int .u32 0), .t (.int .u8 0), .t (.int .u8 0), .t (.int .u8 0), .t (.int .u8 0), .t .nilf, .t .nilp, .t (.int .i32 0), .t (.int .i32 0)] := by kernel_rfl
theorem TY_1361 : isInt Try.prog 107 = none := by kernel_rfl
theorem TY_1362 : szOf Try.prog 108 = 1 := by kernel_rfl
theorem TY_1363 : aggOf Try.prog 108 = false := by kernel_rfl
theorem TY_1364 : known Try.prog 108 = true := by kernel_rfl
theorem TY_1365 : Try.prog.bytesOf 108 = 8 := by kernel_rfl
theorem TY_1366 : elOf Try.prog 108 = none := by kernel_rfl
theorem TY_1367 : isStr Try.prog 108 = false := by kernel_rfl
theorem TY_1368 : isSl Try.prog 108 = false := by kernel_rfl
theorem TY_1369 : isBoolT Try.prog 108 = false := by kernel_rfl
theorem TY_1370 : isIf Try.prog 108 = false := by kernel_rfl
theorem TY_1371 : zeroOf Try.prog 108 = some [.t .nilf] := by kernel_rfl
theorem TY_1372 : isInt Try.prog 108 = none := by kernel_rfl
theorem TYS : szOf Try.prog 1 = 1 ∧
  aggOf Try.prog 1 = false ∧
  known Try.prog 1 = true ∧
  Try.prog.bytesOf 1 = 8 ∧
  elOf Try.prog 1 = none ∧
  isStr Try.prog 1 = false ∧
  isSl Try.prog 1 = false ∧
  isBoolT Try.prog 1 = false ∧
  isIf Try.prog 1 = false ∧
  zeroOf Try.prog 1 = some [.t .nilf] ∧
  isInt Try.prog 1 = none ∧
  szOf Try.prog 2 = 1 ∧
  aggOf Try.prog 2 = false ∧
  known Try.prog 2 = true ∧
  Try.prog.bytesOf 2 = 8 ∧
  elOf Try.prog 2 = none ∧
  isStr Try.prog 2 = false ∧
  isSl Try.prog 2 = false ∧
  isBoolT Try.prog 2 = false ∧
  isIf Try.prog 2 = false ∧
  zeroOf Try.prog 2 = some [.t (.int .i64 0)] ∧
  isInt Try.prog 2 = some .i64 ∧
  szOf Try.prog 3 = 1 ∧
  aggOf Try.prog 3 = false ∧
  known Try.prog 3 = true ∧
  Try.prog.bytesOf 3 = 8 ∧
  elOf Try.prog 3 = none ∧
  isStr Try.prog 3 = false ∧
  isSl Try.prog 3 = false ∧
  isBoolT Try.prog 3 = false ∧
  isIf Try.prog 3 = false ∧
  zeroOf Try.prog 3 = some [.t (.int .i64 0)] ∧
  isInt Try.prog 3 = some .i64 ∧
  szOf Try.prog 4 = 1 ∧
  aggOf Try.prog 4 = false ∧
  known Try.prog 4 = true ∧
  Try.prog.bytesOf 4 = 1 ∧
  elOf Try.prog 4 = none ∧
  isStr Try.prog 4 = false ∧
  isSl Try.prog 4 = false ∧
  isBoolT Try.prog 4 = true ∧
  isIf Try.prog 4 = false ∧
  zeroOf Try.prog 4 = some [.t (.bool false)] ∧
  isInt Try.prog 4 = none ∧
  szOf Try.prog 5 = 1 ∧
  aggOf Try.prog 5 = false ∧
  known Try.prog 5 = true ∧
  Try.prog.bytesOf 5 = 1 ∧
  elOf Try.prog 5 = none ∧
  isStr Try.prog 5 = false ∧
  isSl Try.prog 5 = false ∧
  isBoolT Try.prog 5 = false ∧
  isIf Try.prog 5 = false ∧
  zeroOf Try.prog 5 = some [.t (.int .u8 0)] ∧
  isInt Try.prog 5 = some .u8 ∧
  szOf Try.prog 6 = 1 ∧
  aggOf Try.prog 6 = false ∧
  known Try.prog 6 = true ∧
  Try.prog.bytesOf 6 = 1 ∧
  elOf Try.prog 6 = none ∧
  isStr Try.prog 6 = false ∧
  isSl Try.prog 6 = false ∧
  isBoolT Try.prog 6 = false ∧
  isIf Try.prog 6 = false ∧
  zeroOf Try.prog 6 = some [.t (.int .u8 0)] ∧
  isInt Try.prog 6 = some .u8 ∧
  szOf Try.prog 7 = 4 ∧
  aggOf Try.prog 7 = true ∧
  known Try.prog 7 = true ∧
  Try.prog.bytesOf 7 = 24 ∧
  elOf Try.prog 7 = none ∧
  isStr Try.prog 7 = false ∧
  isSl Try.prog 7 = false ∧
  isBoolT Try.prog 7 = false ∧
  isIf Try.prog 7 = false ∧
  strOK Try.prog 7 = true ∧
  fOf Try.prog 7 0 = some (0, 1, false) ∧
  fTy Try.prog 7 0 = 2 ∧
  fOf Try.prog 7 1 = some (1, 1, false) ∧
  fTy Try.prog 7 1 = 3 ∧
  fOf Try.prog 7 2 = some (2, 1, false) ∧
  fTy Try.prog 7 2 = 4 ∧
  fOf Try.prog 7 3 = some (3, 1, false) ∧
  fTy Try.prog 7 3 = 6 ∧
  zeroOf Try.prog 7 = some [.t (.int .i64 0), .t (.int .i64 0), .t (.bool false), .t (.int .u8 0)] ∧
  isInt Try.prog 7 = none ∧
  szOf Try.prog 8 = 4 ∧
  aggOf Try.prog 8 = true ∧
  known Try.prog 8 = true ∧
  Try.prog.bytesOf 8 = 24 ∧
  elOf Try.prog 8 = none ∧
  isStr Try.prog 8 = false ∧
  isSl Try.prog 8 = false ∧
  isBoolT Try.prog 8 = false ∧
  isIf Try.prog 8 = false ∧
  strOK Try.prog 8 = true ∧
  fOf Try.prog 8 0 = some (0, 1, false) ∧
  fTy Try.prog 8 0 = 2 ∧
  fOf Try.prog 8 1 = some (1, 1, false) ∧
  fTy Try.prog 8 1 = 3 ∧
  fOf Try.prog 8 2 = some (2, 1, false) ∧
  fTy Try.prog 8 2 = 4 ∧
  fOf Try.prog 8 3 = some (3, 1, false) ∧
  fTy Try.prog 8 3 = 6 ∧
  zeroOf Try.prog 8 = some [.t (.int .i64 0), .t (.int .i64 0), .t (.bool false), .t (.int .u8 0)] ∧
  isInt Try.prog 8 = none ∧
  szOf Try.prog 9 = 1 ∧
  aggOf Try.prog 9 = false ∧
  known Try.prog 9 = true ∧
  Try.prog.bytesOf 9 = 16 ∧
  elOf Try.prog 9 = none ∧
  isStr Try.prog 9 = true ∧
  isSl Try.prog 9 = false ∧
  isBoolT Try.prog 9 = false ∧
  isIf Try.prog 9 = false ∧
  zeroOf Try.prog 9 = some [.t (.str [])] ∧
  isInt Try.prog 9 = none ∧
  szOf Try.prog 10 = 1 ∧
  aggOf Try.prog 10 = false ∧
  known Try.prog 10 = true ∧
  Try.prog.bytesOf 10 = 16 ∧
  elOf Try.prog 10 = none ∧
  isStr Try.prog 10 = true ∧
  isSl Try.prog 10 = false ∧
  isBoolT Try.prog 10 = false ∧
  isIf Try.prog 10 = false ∧
  zeroOf Try.prog 10 = some [.t (.str [])] ∧
  isInt Try.prog 10 = none ∧
  szOf Try.prog 11 = 1 ∧
  aggOf Try.prog 11 = false ∧
  known Try.prog 11 = true ∧
  Try.prog.bytesOf 11 = 16 ∧
  elOf Try.prog 11 = none ∧
  isStr Try.prog 11 = true ∧
  isSl Try.prog 11 = false ∧
  isBoolT Try.prog 11 = false ∧
  isIf Try.prog 11 = false ∧
  zeroOf Try.prog 11 = some [.t (.str [])] ∧
  isInt Try.prog 11 = none ∧
  szOf Try.prog 12 = 1 ∧
  aggOf Try.prog 12 = false ∧
  known Try.prog 12 = true ∧
  Try.prog.bytesOf 12 = 8 ∧
  elOf Try.prog 12 = none ∧
  isStr Try.prog 12 = false ∧
  isSl Try.prog 12 = false ∧
  isBoolT Try.prog 12 = false ∧
  isIf Try.prog 12 = false ∧
  zeroOf Try.prog 12 = some [.t (.int .u64 0)] ∧
  isInt Try.prog 12 = some .u64 ∧
  szOf Try.prog 13 = 2 ∧
  aggOf Try.prog 13 = true ∧
  known Try.prog 13 = true ∧
  Try.prog.bytesOf 13 = 24 ∧
  elOf Try.prog 13 = none ∧
  isStr Try.prog 13 = false ∧
  isSl Try.prog 13 = false ∧
  isBoolT Try.prog 13 = false ∧
  isIf Try.prog 13 = false ∧
  strOK Try.prog 13 = true ∧
  fOf Try.prog 13 0 = some (0, 1, false) ∧
  fTy Try.prog 13 0 = 9 ∧
  fOf Try.prog 13 1 = some (1, 1, false) ∧
  fTy Try.prog 13 1 = 12 ∧
  zeroOf Try.prog 13 = some [.t (.str []), .t (.int .u64 0)] ∧
  isInt Try.prog 13 = none ∧
  szOf Try.prog 14 = 2 ∧
  aggOf Try.prog 14 = true ∧
  known Try.prog 14 = true ∧
  Try.prog.bytesOf 14 = 24 ∧
  elOf Try.prog 14 = none ∧
  isStr Try.prog 14 = false ∧
  isSl Try.prog 14 = false ∧
  isBoolT Try.prog 14 = false ∧
  isIf Try.prog 14 = false ∧
  strOK Try.prog 14 = true ∧
  fOf Try.prog 14 0 = some (0, 1, false) ∧
  fTy Try.prog 14 0 = 9 ∧
  fOf Try.prog 14 1 = some (1, 1, false) ∧
  fTy Try.prog 14 1 = 12 ∧
  zeroOf Try.prog 14 = some [.t (.str []), .t (.int .u64 0)] ∧
  isInt Try.prog 14 = none ∧
  szOf Try.prog 15 = 1 ∧
  aggOf Try.prog 15 = false ∧
  known Try.prog 15 = true ∧
  Try.prog.bytesOf 15 = 8 ∧
  elOf Try.prog 15 = none ∧
  isStr Try.prog 15 = false ∧
  isSl Try.prog 15 = false ∧
  isBoolT Try.prog 15 = false ∧
  isIf Try.prog 15 = false ∧
  zeroOf Try.prog 15 = some [.t .nilp] ∧
  isInt Try.prog 15 = none ∧
  szOf Try.prog 16 = 1 ∧
  aggOf Try.prog 16 = false ∧
  known Try.prog 16 = true ∧
  Try.prog.bytesOf 16 = 8 ∧
  elOf Try.prog 16 = none ∧
  isStr Try.prog 16 = false ∧
  isSl Try.prog 16 = false ∧
  isBoolT Try.prog 16 = false ∧
  isIf Try.prog 16 = false ∧
  zeroOf Try.prog 16 = some [.t .nilp] ∧
  isInt Try.prog 16 = none ∧
  szOf Try.prog 17 = 1 ∧
  aggOf Try.prog 17 = false ∧
  known Try.prog 17 = true ∧
  Try.prog.bytesOf 17 = 8 ∧
  elOf Try.prog 17 = none ∧
  isStr Try.prog 17 = false ∧
  isSl Try.prog 17 = false ∧
  isBoolT Try.prog 17 = false ∧
  isIf Try.prog 17 = false ∧
  zeroOf Try.prog 17 = some [.t .nilp] ∧
  isInt Try.prog 17 = none ∧
  szOf Try.prog 18 = 1 ∧
  aggOf Try.prog 18 = true ∧
  known Try.prog 18 = true ∧
  Try.prog.bytesOf 18 = 8 ∧
  elOf Try.prog 18 = none ∧
  isStr Try.prog 18 = false ∧
  isSl Try.prog 18 = false ∧
  isBoolT Try.prog 18 = false ∧
  isIf Try.prog 18 = false ∧
  strOK Try.prog 18 = true ∧
  fOf Try.prog 18 0 = some (0, 1, false) ∧
  fTy Try.prog 18 0 = 17 ∧
  zeroOf Try.prog 18 = some [.t .nilp] ∧
  isInt Try.prog 18 = none ∧
  szOf Try.prog 19 = 1 ∧
  aggOf Try.prog 19 = true ∧
  known Try.prog 19 = true ∧
  Try.prog.bytesOf 19 = 8 ∧
  elOf Try.prog 19 = none ∧
  isStr Try.prog 19 = false ∧
  isSl Try.prog 19 = false ∧
  isBoolT Try.prog 19 = false ∧
  isIf Try.prog 19 = false ∧
  strOK Try.prog 19 = true ∧
  fOf Try.prog 19 0 = some (0, 1, false) ∧
  fTy Try.prog 19 0 = 17 ∧
  zeroOf Try.prog 19 = some [.t .nilp] ∧
  isInt Try.prog 19 = none ∧
  szOf Try.prog 20 = 1 ∧
  aggOf Try.prog 20 = false ∧
  known Try.prog 20 = true ∧
  Try.prog.bytesOf 20 = 16 ∧
  elOf Try.prog 20 = none ∧
  isStr Try.prog 20 = false ∧
  isSl Try.prog 20 = false ∧
  isBoolT Try.prog 20 = false ∧
  isIf Try.prog 20 = true ∧
  zeroOf Try.prog 20 = some [.t .nili] ∧
  isInt Try.prog 20 = none ∧
  szOf Try.prog 21 = 1 ∧
  aggOf Try.prog 21 = false ∧
  known Try.prog 21 = true ∧
  Try.prog.bytesOf 21 = 4 ∧
  elOf Try.prog 21 = none ∧
  isStr Try.prog 21 = false ∧
  isSl Try.prog 21 = false ∧
  isBoolT Try.prog 21 = false ∧
  isIf Try.prog 21 = false ∧
  zeroOf Try.prog 21 = some [.t (.int .i32 0)] ∧
  isInt Try.prog 21 = some .i32 ∧
  szOf Try.prog 22 = 1 ∧
  aggOf Try.prog 22 = false ∧
  known Try.prog 22 = true ∧
  Try.prog.bytesOf 22 = 24 ∧
  elOf Try.prog 22 = some 9 ∧
  isStr Try.prog 22 = false ∧
  isSl Try.prog 22 = true ∧
  isBoolT Try.prog 22 = false ∧
  isIf Try.prog 22 = false ∧
  zeroOf Try.prog 22 = some [.nil 1] ∧
  isInt Try.prog 22 = none ∧
  szOf Try.prog 23 = 1 ∧
  aggOf Try.prog 23 = false ∧
  known Try.prog 23 = true ∧
  Try.prog.bytesOf 23 = 24 ∧
  elOf Try.prog 23 = some 39 ∧
  isStr Try.prog 23 = false ∧
  isSl Try.prog 23 = true ∧
  isBoolT Try.prog 23 = false ∧
  isIf Try.prog 23 = false ∧
  zeroOf Try.prog 23 = some [.nil 5] ∧
  isInt Try.prog 23 = none ∧
  szOf Try.prog 24 = 1 ∧
  aggOf Try.prog 24 = false ∧
  known Try.prog 24 = true ∧
  Try.prog.bytesOf 24 = 8 ∧
  elOf Try.prog 24 = none ∧
  isStr Try.prog 24 = false ∧
  isSl Try.prog 24 = false ∧
  isBoolT Try.prog 24 = false ∧
  isIf Try.prog 24 = false ∧
  zeroOf Try.prog 24 = some [.t .nilf] ∧
  isInt Try.prog 24 = none ∧
  szOf Try.prog 25 = 1 ∧
  aggOf Try.prog 25 = false ∧
  known Try.prog 25 = true ∧
  Try.prog.bytesOf 25 = 8 ∧
  elOf Try.prog 25 = none ∧
  isStr Try.prog 25 = false ∧
  isSl Try.prog 25 = false ∧
  isBoolT Try.prog 25 = false ∧
  isIf Try.prog 25 = false ∧
  zeroOf Try.prog 25 = some [.t .nilf] ∧
  isInt Try.prog 25 = none ∧
  szOf Try.prog 26 = 1 ∧
  aggOf Try.prog 26 = false ∧
  known Try.prog 26 = true ∧
  Try.prog.bytesOf 26 = 24 ∧
  elOf Try.prog 26 = some 28 ∧
  isStr Try.prog 26 = false ∧
  isSl Try.prog 26 = true ∧
  isBoolT Try.prog 26 = false ∧
  isIf Try.prog 26 = false ∧
  zeroOf Try.prog 26 = some [.nil 5] ∧
  isInt Try.prog 26 = none ∧
  szOf Try.prog 27 = 5 ∧
  aggOf Try.prog 27 = true ∧
  known Try.prog 27 = true ∧
  Try.prog.bytesOf 27 = 80 ∧
  elOf Try.prog 27 = none ∧
  isStr Try.prog 27 = false ∧
  isSl Try.prog 27 = false ∧
  isBoolT Try.prog 27 = false ∧
  isIf Try.prog 27 = false ∧
  strOK Try.prog 27 = true ∧
  fOf Try.prog 27 0 = some (0, 1, false) ∧
  fTy Try.prog 27 0 = 3 ∧
  fOf Try.prog 27 1 = some (1, 1, false) ∧
  fTy Try.prog 27 1 = 3 ∧
  fOf Try.prog 27 2 = some (2, 1, false) ∧
  fTy Try.prog 27 2 = 9 ∧
  fOf Try.prog 27 3 = some (3, 1, false) ∧
  fTy Try.prog 27 3 = 22 ∧
  fOf Try.prog 27 4 = some (4, 1, false) ∧
  fTy Try.prog 27 4 = 26 ∧
  zeroOf Try.prog 27 = some [.t (.int .i64 0), .t (.int .i64 0), .t (.str []), .nil 1, .nil 5] ∧
  isInt Try.prog 27 = none ∧
  szOf Try.prog 28 = 5 ∧
  aggOf Try.prog 28 = true ∧
  known Try.prog 28 = true ∧
  Try.prog.bytesOf 28 = 80 ∧
  elOf Try.prog 28 = none ∧
  isStr Try.prog 28 = false ∧
  isSl Try.prog 28 = false ∧
  isBoolT Try.prog 28 = false ∧
  isIf Try.prog 28 = false ∧
  strOK Try.prog 28 = true ∧
  fOf Try.prog 28 0 = some (0, 1, false) ∧
  fTy Try.prog 28 0 = 3 ∧
  fOf Try.prog 28 1 = some (1, 1, false) ∧
  fTy Try.prog 28 1 = 3 ∧
  fOf Try.prog 28 2 = some (2, 1, false) ∧
  fTy Try.prog 28 2 = 9 ∧
  fOf Try.prog 28 3 = some (3, 1, false) ∧
  fTy Try.prog 28 3 = 22 ∧
  fOf Try.prog 28 4 = some (4, 1, false) ∧
  fTy Try.prog 28 4 = 26 ∧
  zeroOf Try.prog 28 = some [.t (.int .i64 0), .t (.int .i64 0), .t (.str []), .nil 1, .nil 5] ∧
  isInt Try.prog 28 = none ∧
  szOf Try.prog 29 = 1 ∧
  aggOf Try.prog 29 = false ∧
  known Try.prog 29 = true ∧
  Try.prog.bytesOf 29 = 8 ∧
  elOf Try.prog 29 = none ∧
  isStr Try.prog 29 = false ∧
  isSl Try.prog 29 = false ∧
  isBoolT Try.prog 29 = false ∧
  isIf Try.prog 29 = false ∧
  zeroOf Try.prog 29 = some [.t .nilf] ∧
  isInt Try.prog 29 = none ∧
  szOf Try.prog 30 = 1 ∧
  aggOf Try.prog 30 = false ∧
  known Try.prog 30 = true ∧
  Try.prog.bytesOf 30 = 8 ∧
  elOf Try.prog 30 = none ∧
  isStr Try.prog 30 = false ∧
  isSl Try.prog 30 = false ∧
  isBoolT Try.prog 30 = false ∧
  isIf Try.prog 30 = false ∧
  zeroOf Try.prog 30 = some [.t .nilf] ∧
  isInt Try.prog 30 = none ∧
  szOf Try.prog 31 = 1 ∧
  aggOf Try.prog 31 = false ∧
  known Try.prog 31 = true ∧
  Try.prog.bytesOf 31 = 8 ∧
  elOf Try.prog 31 = none ∧
  isStr Try.prog 31 = false ∧
  isSl Try.prog 31 = false ∧
  isBoolT Try.prog 31 = false ∧
  isIf Try.prog 31 = false ∧
  zeroOf Try.prog 31 = some [.t .nilf] ∧
  isInt Try.prog 31 = none ∧
  szOf Try.prog 32 = 1 ∧
  aggOf Try.prog 32 = false ∧
  known Try.prog 32 = true ∧
  Try.prog.bytesOf 32 = 8 ∧
  elOf Try.prog 32 = none ∧
  isStr Try.prog 32 = false ∧
  isSl Try.prog 32 = false ∧
  isBoolT Try.prog 32 = false ∧
  isIf Try.prog 32 = false ∧
  zeroOf Try.prog 32 = some [.t .nilf] ∧
  isInt Try.prog 32 = none ∧
  szOf Try.prog 33 = 1 ∧
  aggOf Try.prog 33 = false ∧
  known Try.prog 33 = true ∧
  Try.prog.bytesOf 33 = 8 ∧
  elOf Try.prog 33 = none ∧
  isStr Try.prog 33 = false ∧
  isSl Try.prog 33 = false ∧
  isBoolT Try.prog 33 = false ∧
  isIf Try.prog 33 = false ∧
  zeroOf Try.prog 33 = some [.t .nilf] ∧
  isInt Try.prog 33 = none ∧
  szOf Try.prog 34 = 1 ∧
  aggOf Try.prog 34 = false ∧
  known Try.prog 34 = true ∧
  Try.prog.bytesOf 34 = 8 ∧
  elOf Try.prog 34 = none ∧
  isStr Try.prog 34 = false ∧
  isSl Try.prog 34 = false ∧
  isBoolT Try.prog 34 = false ∧
  isIf Try.prog 34 = false ∧
  zeroOf Try.prog 34 = some [.t .nilf] ∧
  isInt Try.prog 34 = none ∧
  szOf Try.prog 35 = 1 ∧
  aggOf Try.prog 35 = false ∧
  known Try.prog 35 = true ∧
  Try.prog.bytesOf 35 = 8 ∧
  elOf Try.prog 35 = none ∧
  isStr Try.prog 35 = false ∧
  isSl Try.prog 35 = false ∧
  isBoolT Try.prog 35 = false ∧
  isIf Try.prog 35 = false ∧
  zeroOf Try.prog 35 = some [.t .nilf] ∧
  isInt Try.prog 35 = none ∧
  szOf Try.prog 36 = 1 ∧
  aggOf Try.prog 36 = false ∧
  known Try.prog 36 = true ∧
  Try.prog.bytesOf 36 = 8 ∧
  elOf Try.prog 36 = none ∧
  isStr Try.prog 36 = false ∧
  isSl Try.prog 36 = false ∧
  isBoolT Try.prog 36 = false ∧
  isIf Try.prog 36 = false ∧
  zeroOf Try.prog 36 = some [.t .nilf] ∧
  isInt Try.prog 36 = none ∧
  szOf Try.prog 37 = 1 ∧
  aggOf Try.prog 37 = false ∧
  known Try.prog 37 = true ∧
  Try.prog.bytesOf 37 = 8 ∧
  elOf Try.prog 37 = none ∧
  isStr Try.prog 37 = false ∧
  isSl Try.prog 37 = false ∧
  isBoolT Try.prog 37 = false ∧
  isIf Try.prog 37 = false ∧
  zeroOf Try.prog 37 = some [.t .nilf] ∧
  isInt Try.prog 37 = none ∧
  szOf Try.prog 38 = 5 ∧
  aggOf Try.prog 38 = true ∧
  known Try.prog 38 = true ∧
  Try.prog.bytesOf 38 = 80 ∧
  elOf Try.prog 38 = none ∧
  isStr Try.prog 38 = false ∧
  isSl Try.prog 38 = false ∧
  isBoolT Try.prog 38 = false ∧
  isIf Try.prog 38 = false ∧
  strOK Try.prog 38 = true ∧
  fOf Try.prog 38 0 = some (0, 1, false) ∧
  fTy Try.prog 38 0 = 3 ∧
  fOf Try.prog 38 1 = some (1, 1, false) ∧
  fTy Try.prog 38 1 = 3 ∧
  fOf Try.prog 38 2 = some (2, 1, false) ∧
  fTy Try.prog 38 2 = 9 ∧
  fOf Try.prog 38 3 = some (3, 1, false) ∧
  fTy Try.prog 38 3 = 22 ∧
  fOf Try.prog 38 4 = some (4, 1, false) ∧
  fTy Try.prog 38 4 = 23 ∧
  zeroOf Try.prog 38 = some [.t (.int .i64 0), .t (.int .i64 0), .t (.str []), .nil 1, .nil 5] ∧
  isInt Try.prog 38 = none ∧
  szOf Try.prog 39 = 5 ∧
  aggOf Try.prog 39 = true ∧
  known Try.prog 39 = true ∧
  Try.prog.bytesOf 39 = 80 ∧
  elOf Try.prog 39 = none ∧
  isStr Try.prog 39 = false ∧
  isSl Try.prog 39 = false ∧
  isBoolT Try.prog 39 = false ∧
  isIf Try.prog 39 = false ∧
  strOK Try.prog 39 = true ∧
  fOf Try.prog 39 0 = some (0, 1, false) ∧
  fTy Try.prog 39 0 = 3 ∧
  fOf Try.prog 39 1 = some (1, 1, false) ∧
  fTy Try.prog 39 1 = 3 ∧
  fOf Try.prog 39 2 = some (2, 1, false) ∧
  fTy Try.prog 39 2 = 9 ∧
  fOf Try.prog 39 3 = some (3, 1, false) ∧
  fTy Try.prog 39 3 = 22 ∧
  fOf Try.prog 39 4 = some (4, 1, false) ∧
  fTy Try.prog 39 4 = 23 ∧
  zeroOf Try.prog 39 = some [.t (.int .i64 0), .t (.int .i64 0), .t (.str []), .nil 1, .nil 5] ∧
  isInt Try.prog 39 = none ∧
  szOf Try.prog 40 = 1 ∧
  aggOf Try.prog 40 = false ∧
  known Try.prog 40 = true ∧
  Try.prog.bytesOf 40 = 8 ∧
  elOf Try.prog 40 = none ∧
  isStr Try.prog 40 = false ∧
  isSl Try.prog 40 = false ∧
  isBoolT Try.prog 40 = false ∧
  isIf Try.prog 40 = false ∧
  zeroOf Try.prog 40 = some [.t .nilf] ∧
  isInt Try.prog 40 = none ∧
  szOf Try.prog 42 = 1 ∧
  aggOf Try.prog 42 = false ∧
  known Try.prog 42 = true ∧
  Try.prog.bytesOf 42 = 8 ∧
  elOf Try.prog 42 = none ∧
  isStr Try.prog 42 = false ∧
  isSl Try.prog 42 = false ∧
  isBoolT Try.prog 42 = false ∧
  isIf Try.prog 42 = false ∧
  zeroOf Try.prog 42 = some [.t .nilf] ∧
  isInt Try.prog 42 = none ∧
  szOf Try.prog 43 = 1 ∧
  aggOf Try.prog 43 = false ∧
  known Try.prog 43 = true ∧
  Try.prog.bytesOf 43 = 8 ∧
  elOf Try.prog 43 = none ∧
  isStr Try.prog 43 = false ∧
  isSl Try.prog 43 = false ∧
  isBoolT Try.prog 43 = false ∧
  isIf Try.prog 43 = false ∧
  zeroOf Try.prog 43 = some [.t .nilf] ∧
  isInt Try.prog 43 = none ∧
  szOf Try.prog 44 = 1 ∧
  aggOf Try.prog 44 = false ∧
  known Try.prog 44 = true ∧
  Try.prog.bytesOf 44 = 8 ∧
  elOf Try.prog 44 = none ∧
  isStr Try.prog 44 = false ∧
  isSl Try.prog 44 = false ∧
  isBoolT Try.prog 44 = false ∧
  isIf Try.prog 44 = false ∧
  zeroOf Try.prog 44 = some [.t .nilf] ∧
  isInt Try.prog 44 = none ∧
  szOf Try.prog 45 = 1 ∧
  aggOf Try.prog 45 = false ∧
  known Try.prog 45 = true ∧
  Try.prog.bytesOf 45 = 8 ∧
  elOf Try.prog 45 = none ∧
  isStr Try.prog 45 = false ∧
  isSl Try.prog 45 = false ∧
  isBoolT Try.prog 45 = false ∧
  isIf Try.prog 45 = false ∧
  zeroOf Try.prog 45 = some [.t .nilf] ∧
  isInt Try.prog 45 = none ∧
  szOf Try.prog 46 = 1 ∧
  aggOf Try.prog 46 = false ∧
  known Try.prog 46 = true ∧
  Try.prog.bytesOf 46 = 8 ∧
  elOf Try.prog 46 = none ∧
  isStr Try.prog 46 = false ∧
  isSl Try.prog 46 = false ∧
  isBoolT Try.prog 46 = false ∧
  isIf Try.prog 46 = false ∧
  zeroOf Try.prog 46 = some [.t .nilf] ∧
  isInt Try.prog 46 = none ∧
  szOf Try.prog 47 = 1 ∧
  aggOf Try.prog 47 = false ∧
  known Try.prog 47 = true ∧
  Try.prog.bytesOf 47 = 24 ∧
  elOf Try.prog 47 = some 77 ∧
  isStr Try.prog 47 = false ∧
  isSl Try.prog 47 = true ∧
  isBoolT Try.prog 47 = false ∧
  isIf Try.prog 47 = false ∧
  zeroOf Try.prog 47 = some [.nil 6] ∧
  isInt Try.prog 47 = none ∧
  szOf Try.prog 48 = 2 ∧
  aggOf Try.prog 48 = true ∧
  known Try.prog 48 = true ∧
  Try.prog.bytesOf 48 = 48 ∧
  elOf Try.prog 48 = none ∧
  isStr Try.prog 48 = false ∧
  isSl Try.prog 48 = false ∧
  isBoolT Try.prog 48 = false ∧
  isIf Try.prog 48 = false ∧
  strOK Try.prog 48 = true ∧
  fOf Try.prog 48 0 = some (0, 1, false) ∧
  fTy Try.prog 48 0 = 22 ∧
  fOf Try.prog 48 1 = some (1, 1, false) ∧
  fTy Try.prog 48 1 = 47 ∧
  zeroOf Try.prog 48 = some [.nil 1, .nil 6] ∧
  isInt Try.prog 48 = none ∧
  szOf Try.prog 49 = 2 ∧
  aggOf Try.prog 49 = true ∧
  known Try.prog 49 = true ∧
  Try.prog.bytesOf 49 = 48 ∧
  elOf Try.prog 49 = none ∧
  isStr Try.prog 49 = false ∧
  isSl Try.prog 49 = false ∧
  isBoolT Try.prog 49 = false ∧
  isIf Try.prog 49 = false ∧
  strOK Try.prog 49 = true ∧
  fOf Try.prog 49 0 = some (0, 1, false) ∧
  fTy Try.prog 49 0 = 22 ∧
  fOf Try.prog 49 1 = some (1, 1, false) ∧
  fTy Try.prog 49 1 = 47 ∧
  zeroOf Try.prog 49 = some [.nil 1, .nil 6] ∧
  isInt Try.prog 49 = none ∧
  szOf Try.prog 50 = 1 ∧
  aggOf Try.prog 50 = false ∧
  known Try.prog 50 = true ∧
  Try.prog.bytesOf 50 = 8 ∧
  elOf Try.prog 50 = none ∧
  isStr Try.prog 50 = false ∧
  isSl Try.prog 50 = false ∧
  isBoolT Try.prog 50 = false ∧
  isIf Try.prog 50 = false ∧
  zeroOf Try.prog 50 = some [.t .nilf] ∧
  isInt Try.prog 50 = none ∧
  szOf Try.prog 51 = 1 ∧
  aggOf Try.prog 51 = false ∧
  known Try.prog 51 = true ∧
  Try.prog.bytesOf 51 = 24 ∧
  elOf Try.prog 51 = some 68 ∧
  isStr Try.prog 51 = false ∧
  isSl Try.prog 51 = true ∧
  isBoolT Try.prog 51 = false ∧
  isIf Try.prog 51 = false ∧
  zeroOf Try.prog 51 = some [.nil 6] ∧
  isInt Try.prog 51 = none ∧
  szOf Try.prog 52 = 2 ∧
  aggOf Try.prog 52 = true ∧
  known Try.prog 52 = true ∧
  Try.prog.bytesOf 52 = 48 ∧
  elOf Try.prog 52 = none ∧
  isStr Try.prog 52 = false ∧
  isSl Try.prog 52 = false ∧
  isBoolT Try.prog 52 = false ∧
  isIf Try.prog 52 = false ∧
  strOK Try.prog 52 = true ∧
  fOf Try.prog 52 0 = some (0, 1, false) ∧
  fTy Try.prog 52 0 = 22 ∧
  fOf Try.prog 52 1 = some (1, 1, false) ∧
  fTy Try.prog 52 1 = 51 ∧
  zeroOf Try.prog 52 = some [.nil 1, .nil 6] ∧
  isInt Try.prog 52 = none ∧
  szOf Try.prog 53 = 2 ∧
  aggOf Try.prog 53 = true ∧
  known Try.prog 53 = true ∧
  Try.prog.bytesOf 53 = 48 ∧
  elOf Try.prog 53 = none ∧
  isStr Try.prog 53 = false ∧
  isSl Try.prog 53 = false ∧
  isBoolT Try.prog 53 = false ∧
  isIf Try.prog 53 = false ∧
  strOK Try.prog 53 = true ∧
  fOf Try.prog 53 0 = some (0, 1, false) ∧
  fTy Try.prog 53 0 = 22 ∧
  fOf Try.prog 53 1 = some (1, 1, false) ∧
  fTy Try.prog 53 1 = 51 ∧
  zeroOf Try.prog 53 = some [.nil 1, .nil 6] ∧
  isInt Try.prog 53 = none ∧
  szOf Try.prog 54 = 1 ∧
  aggOf Try.prog 54 = false ∧
  known Try.prog 54 = true ∧
  Try.prog.bytesOf 54 = 8 ∧
  elOf Try.prog 54 = none ∧
  isStr Try.prog 54 = false ∧
  isSl Try.prog 54 = false ∧
  isBoolT Try.prog 54 = false ∧
  isIf Try.prog 54 = false ∧
  zeroOf Try.prog 54 = some [.t .nilf] ∧
  isInt Try.prog 54 = none ∧
  szOf Try.prog 55 = 1 ∧
  aggOf Try.prog 55 = false ∧
  known Try.prog 55 = true ∧
  Try.prog.bytesOf 55 = 8 ∧
  elOf Try.prog 55 = none ∧
  isStr Try.prog 55 = false ∧
  isSl Try.prog 55 = false ∧
  isBoolT Try.prog 55 = false ∧
  isIf Try.prog 55 = false ∧
  zeroOf Try.prog 55 = some [.t .nilf] ∧
  isInt Try.prog 55 = none ∧
  szOf Try.prog 56 = 1 ∧
  aggOf Try.prog 56 = false ∧
  known Try.prog 56 = true ∧
  Try.prog.bytesOf 56 = 8 ∧
  elOf Try.prog 56 = none ∧
  isStr Try.prog 56 = false ∧
  isSl Try.prog 56 = false ∧
  isBoolT Try.prog 56 = false ∧
  isIf Try.prog 56 = false ∧
  zeroOf Try.prog 56 = some [.t .nilf] ∧
  isInt Try.prog 56 = none ∧
  szOf Try.prog 57 = 1 ∧
  aggOf Try.prog 57 = false ∧
  known Try.prog 57 = true ∧
  Try.prog.bytesOf 57 = 8 ∧
  elOf Try.prog 57 = none ∧
  isStr Try.prog 57 = false ∧
  isSl Try.prog 57 = false ∧
  isBoolT Try.prog 57 = false ∧
  isIf Try.prog 57 = false ∧
  zeroOf Try.prog 57 = some [.t .nilf] ∧
  isInt Try.prog 57 = none ∧
  szOf Try.prog 58 = 1 ∧
  aggOf Try.prog 58 = false ∧
  known Try.prog 58 = true ∧
  Try.prog.bytesOf 58 = 8 ∧
  elOf Try.prog 58 = none ∧
  isStr Try.prog 58 = false ∧
  isSl Try.prog 58 = false ∧
  isBoolT Try.prog 58 = false ∧
  isIf Try.prog 58 = false ∧
  zeroOf Try.prog 58 = some [.t .nilf] ∧
  isInt Try.prog 58 = none ∧
  szOf Try.prog 59 = 1 ∧
  aggOf Try.prog 59 = false ∧
  known Try.prog 59 = true ∧
  Try.prog.bytesOf 59 = 8 ∧
  elOf Try.prog 59 = none ∧
  isStr Try.prog 59 = false ∧
  isSl Try.prog 59 = false ∧
  isBoolT Try.prog 59 = false ∧
  isIf Try.prog 59 = false ∧
  zeroOf Try.prog 59 = some [.t .nilf] ∧
  isInt Try.prog 59 = none ∧
  szOf Try.prog 60 = 1 ∧
  aggOf Try.prog 60 = false ∧
  known Try.prog 60 = true ∧
  Try.prog.bytesOf 60 = 8 ∧
  elOf Try.prog 60 = none ∧
  isStr Try.prog 60 = false ∧
  isSl Try.prog 60 = false ∧
  isBoolT Try.prog 60 = false ∧
  isIf Try.prog 60 = false ∧
  zeroOf Try.prog 60 = some [.t .nilf] ∧
  isInt Try.prog 60 = none ∧
  szOf Try.prog 61 = 1 ∧
  aggOf Try.prog 61 = false ∧
  known Try.prog 61 = true ∧
  Try.prog.bytesOf 61 = 8 ∧
  elOf Try.prog 61 = none ∧
  isStr Try.prog 61 = false ∧
  isSl Try.prog 61 = false ∧
  isBoolT Try.prog 61 = false ∧
  isIf Try.prog 61 = false ∧
  zeroOf Try.prog 61 = some [.t .nilf] ∧
  isInt Try.prog 61 = none ∧
  szOf Try.prog 62 = 1 ∧
  aggOf Try.prog 62 = false ∧
  known Try.prog 62 = true ∧
  Try.prog.bytesOf 62 = 8 ∧
  elOf Try.prog 62 = none ∧
  isStr Try.prog 62 = false ∧
  isSl Try.prog 62 = false ∧
  isBoolT Try.prog 62 = false ∧
  isIf Try.prog 62 = false ∧
  zeroOf Try.prog 62 = some [.t .nilf] ∧
  isInt Try.prog 62 = none ∧
  szOf Try.prog 63 = 1 ∧
  aggOf Try.prog 63 = false ∧
  known Try.prog 63 = true ∧
  Try.prog.bytesOf 63 = 8 ∧
  elOf Try.prog 63 = none ∧
  isStr Try.prog 63 = false ∧
  isSl Try.prog 63 = false ∧
  isBoolT Try.prog 63 = false ∧
  isIf Try.prog 63 = false ∧
  zeroOf Try.prog 63 = some [.t .nilf] ∧
  isInt Try.prog 63 = none ∧
  szOf Try.prog 64 = 1 ∧
  aggOf Try.prog 64 = false ∧
  known Try.prog 64 = true ∧
  Try.prog.bytesOf 64 = 8 ∧
  elOf Try.prog 64 = none ∧
  isStr Try.prog 64 = false ∧
  isSl Try.prog 64 = false ∧
  isBoolT Try.prog 64 = false ∧
  isIf Try.prog 64 = false ∧
  zeroOf Try.prog 64 = some [.t .nilf] ∧
  isInt Try.prog 64 = none ∧
  szOf Try.prog 65 = 1 ∧
  aggOf Try.prog 65 = false ∧
  known Try.prog 65 = true ∧
  Try.prog.bytesOf 65 = 8 ∧
  elOf Try.prog 65 = none ∧
  isStr Try.prog 65 = false ∧
  isSl Try.prog 65 = false ∧
  isBoolT Try.prog 65 = false ∧
  isIf Try.prog 65 = false ∧
  zeroOf Try.prog 65 = some [.t .nilf] ∧
  isInt Try.prog 65 = none ∧
  szOf Try.prog 66 = 1 ∧
  aggOf Try.prog 66 = false ∧
  known Try.prog 66 = true ∧
  Try.prog.bytesOf 66 = 24 ∧
  elOf Try.prog 66 = some 82 ∧
  isStr Try.prog 66 = false ∧
  isSl Try.prog 66 = true ∧
  isBoolT Try.prog 66 = false ∧
  isIf Try.prog 66 = false ∧
  zeroOf Try.prog 66 = some [.nil 2] ∧
  isInt Try.prog 66 = none ∧
  szOf Try.prog 67 = 6 ∧
  aggOf Try.prog 67 = true ∧
  known Try.prog 67 = true ∧
  Try.prog.bytesOf 67 = 104 ∧
  elOf Try.prog 67 = none ∧
  isStr Try.prog 67 = false ∧
  isSl Try.prog 67 = false ∧
  isBoolT Try.prog 67 = false ∧
  isIf Try.prog 67 = false ∧
  strOK Try.prog 67 = true ∧
  fOf Try.prog 67 0 = some (0, 1, false) ∧
  fTy Try.prog 67 0 = 9 ∧
  fOf Try.prog 67 1 = some (1, 1, false) ∧
  fTy Try.prog 67 1 = 9 ∧
  fOf Try.prog 67 2 = some (2, 1, false) ∧
  fTy Try.prog 67 2 = 9 ∧
  fOf Try.prog 67 3 = some (3, 1, false) ∧
  fTy Try.prog 67 3 = 66 ∧
  fOf Try.prog 67 4 = some (4, 1, false) ∧
  fTy Try.prog 67 4 = 4 ∧
  fOf Try.prog 67 5 = some (5, 1, false) ∧
  fTy Try.prog 67 5 = 22 ∧
  zeroOf Try.prog 67 = some [.t (.str []), .t (.str []), .t (.str []), .nil 2, .t (.bool false), .nil 1] ∧
  isInt Try.prog 67 = none ∧
  szOf Try.prog 68 = 6 ∧
  aggOf Try.prog 68 = true ∧
  known Try.prog 68 = true ∧
  Try.prog.bytesOf 68 = 104 ∧
  elOf Try.prog 68 = none ∧
  isStr Try.prog 68 = false ∧
  isSl Try.prog 68 = false ∧
  isBoolT Try.prog 68 = false ∧
  isIf Try.prog 68 = false ∧
  strOK Try.prog 68 = true ∧
  fOf Try.prog 68 0 = some (0, 1, false) ∧
  fTy Try.prog 68 0 = 9 ∧
  fOf Try.prog 68 1 = some (1, 1, false) ∧
  fTy Try.prog 68 1 = 9 ∧
  fOf Try.prog 68 2 = some (2, 1, false) ∧
  fTy Try.prog 68 2 = 9 ∧
  fOf Try.prog 68 3 = some (3, 1, false) ∧
  fTy Try.prog 68 3 = 66 ∧
  fOf Try.prog 68 4 = some (4, 1, false) ∧
  fTy Try.prog 68 4 = 4 ∧
  fOf Try.prog 68 5 = some (5, 1, false) ∧
  fTy Try.prog 68 5 = 22 ∧
  zeroOf Try.prog 68 = some [.t (.str []), .t (.str []), .t (.str []), .nil 2, .t (.bool false), .nil 1] ∧
  isInt Try.prog 68 = none ∧
  szOf Try.prog 69 = 1 ∧
  aggOf Try.prog 69 = false ∧
  known Try.prog 69 = true ∧
  Try.prog.bytesOf 69 = 8 ∧
  elOf Try.prog 69 = none ∧
  isStr Try.prog 69 = false ∧
  isSl Try.prog 69 = false ∧
  isBoolT Try.prog 69 = false ∧
  isIf Try.prog 69 = false ∧
  zeroOf Try.prog 69 = some [.t .nilf] ∧
  isInt Try.prog 69 = none ∧
  szOf Try.prog 70 = 1 ∧
  aggOf Try.prog 70 = false ∧
  known Try.prog 70 = true ∧
  Try.prog.bytesOf 70 = 8 ∧
  elOf Try.prog 70 = none ∧
  isStr Try.prog 70 = false ∧
  isSl Try.prog 70 = false ∧
  isBoolT Try.prog 70 = false ∧
  isIf Try.prog 70 = false ∧
  zeroOf Try.prog 70 = some [.t .nilf] ∧
  isInt Try.prog 70 = none ∧
  szOf Try.prog 71 = 1 ∧
  aggOf Try.prog 71 = false ∧
  known Try.prog 71 = true ∧
  Try.prog.bytesOf 71 = 8 ∧
  elOf Try.prog 71 = none ∧
  isStr Try.prog 71 = false ∧
  isSl Try.prog 71 = false ∧
  isBoolT Try.prog 71 = false ∧
  isIf Try.prog 71 = false ∧
  zeroOf Try.prog 71 = some [.t .nilf] ∧
  isInt Try.prog 71 = none ∧
  szOf Try.prog 72 = 1 ∧
  aggOf Try.prog 72 = false ∧
  known Try.prog 72 = true ∧
  Try.prog.bytesOf 72 = 8 ∧
  elOf Try.prog 72 = none ∧
  isStr Try.prog 72 = false ∧
  isSl Try.prog 72 = false ∧
  isBoolT Try.prog 72 = false ∧
  isIf Try.prog 72 = false ∧
  zeroOf Try.prog 72 = some [.t .nilf] ∧
  isInt Try.prog 72 = none ∧
  szOf Try.prog 73 = 1 ∧
  aggOf Try.prog 73 = false ∧
  known Try.prog 73 = true ∧
  Try.prog.bytesOf 73 = 24 ∧
  elOf Try.prog 73 = some 5 ∧
  isStr Try.prog 73 = false ∧
  isSl Try.prog 73 = true ∧
  isBoolT Try.prog 73 = false ∧
  isIf Try.prog 73 = false ∧
  zeroOf Try.prog 73 = some [.nil 1] ∧
  isInt Try.prog 73 = none ∧
  szOf Try.prog 74 = 1 ∧
  aggOf Try.prog 74 = false ∧
  known Try.prog 74 = true ∧
  Try.prog.bytesOf 74 = 8 ∧
  elOf Try.prog 74 = none ∧
  isStr Try.prog 74 = false ∧
  isSl Try.prog 74 = false ∧
  isBoolT Try.prog 74 = false ∧
  isIf Try.prog 74 = false ∧
  zeroOf Try.prog 74 = some [.t .nilf] ∧
  isInt Try.prog 74 = none ∧
  szOf Try.prog 75 = 1 ∧
  aggOf Try.prog 75 = false ∧
  known Try.prog 75 = true ∧
  Try.prog.bytesOf 75 = 24 ∧
  elOf Try.prog 75 = some 89 ∧
  isStr Try.prog 75 = false ∧
  isSl Try.prog 75 = true ∧
  isBoolT Try.prog 75 = false ∧
  isIf Try.prog 75 = false ∧
  zeroOf Try.prog 75 = some [.nil 2] ∧
  isInt Try.prog 75 = none ∧
  szOf Try.prog 76 = 6 ∧
  aggOf Try.prog 76 = true ∧
  known Try.prog 76 = true ∧
  Try.prog.bytesOf 76 = 104 ∧
  elOf Try.prog 76 = none ∧
  isStr Try.prog 76 = false ∧
  isSl Try.prog 76 = false ∧
  isBoolT Try.prog 76 = false ∧
  isIf Try.prog 76 = false ∧
  strOK Try.prog 76 = true ∧
  fOf Try.prog 76 0 = some (0, 1, false) ∧
  fTy Try.prog 76 0 = 9 ∧
  fOf Try.prog 76 1 = some (1, 1, false) ∧
  fTy Try.prog 76 1 = 9 ∧
  fOf Try.prog 76 2 = some (2, 1, false) ∧
  fTy Try.prog 76 2 = 9 ∧
  fOf Try.prog 76 3 = some (3, 1, false) ∧
  fTy Try.prog 76 3 = 75 ∧
  fOf Try.prog 76 4 = some (4, 1, false) ∧
  fTy Try.prog 76 4 = 4 ∧
  fOf Try.prog 76 5 = some (5, 1, false) ∧
  fTy Try.prog 76 5 = 22 ∧
  zeroOf Try.prog 76 = some [.t (.str []), .t (.str []), .t (.str []), .nil 2, .t (.bool false), .nil 1] ∧
  isInt Try.prog 76 = none ∧
  szOf Try.prog 77 = 6 ∧
  aggOf Try.prog 77 = true ∧
  known Try.prog 77 = true ∧
  Try.prog.bytesOf 77 = 104 ∧
  elOf Try.prog 77 = none ∧
  isStr Try.prog 77 = false ∧
  isSl Try.prog 77 = false ∧
  isBoolT Try.prog 77 = false ∧
  isIf Try.prog 77 = false ∧
  strOK Try.prog 77 = true ∧
  fOf Try.prog 77 0 = some (0, 1, false) ∧
  fTy Try.prog 77 0 = 9 ∧
  fOf Try.prog 77 1 = some (1, 1, false) ∧
  fTy Try.prog 77 1 = 9 ∧
  fOf Try.prog 77 2 = some (2, 1, false) ∧
  fTy Try.prog 77 2 = 9 ∧
  fOf Try.prog 77 3 = some (3, 1, false) ∧
  fTy Try.prog 77 3 = 75 ∧
  fOf Try.prog 77 4 = some (4, 1, false) ∧
  fTy Try.prog 77 4 = 4 ∧
  fOf Try.prog 77 5 = some (5, 1, false) ∧
  fTy Try.prog 77 5 = 22 ∧
  zeroOf Try.prog 77 = some [.t (.str []), .t (.str []), .t (.str []), .nil 2, .t (.bool false), .nil 1] ∧
  isInt Try.prog 77 = none ∧
  szOf Try.prog 78 = 1 ∧
  aggOf Try.prog 78 = false ∧
  known Try.prog 78 = true ∧
  Try.prog.bytesOf 78 = 8 ∧
  elOf Try.prog 78 = none ∧
  isStr Try.prog 78 = false ∧
  isSl Try.prog 78 = false ∧
  isBoolT Try.prog 78 = false ∧
  isIf Try.prog 78 = false ∧
  zeroOf Try.prog 78 = some [.t .nilf] ∧
  isInt Try.prog 78 = none ∧
  szOf Try.prog 79 = 1 ∧
  aggOf Try.prog 79 = false ∧
  known Try.prog 79 = true ∧
  Try.prog.bytesOf 79 = 8 ∧
  elOf Try.prog 79 = none ∧
  isStr Try.prog 79 = false ∧
  isSl Try.prog 79 = false ∧
  isBoolT Try.prog 79 = false ∧
  isIf Try.prog 79 = false ∧
  zeroOf Try.prog 79 = some [.t .nilf] ∧
  isInt Try.prog 79 = none ∧
  szOf Try.prog 80 = 1 ∧
  aggOf Try.prog 80 = false ∧
  known Try.prog 80 = true ∧
  Try.prog.bytesOf 80 = 8 ∧
  elOf Try.prog 80 = none ∧
  isStr Try.prog 80 = false ∧
  isSl Try.prog 80 = false ∧
  isBoolT Try.prog 80 = false ∧
  isIf Try.prog 80 = false ∧
  zeroOf Try.prog 80 = some [.t .nilf] ∧
  isInt Try.prog 80 = none ∧
  szOf Try.prog 81 = 2 ∧
  aggOf Try.prog 81 = true ∧
  known Try.prog 81 = true ∧
  Try.prog.bytesOf 81 = 32 ∧
  elOf Try.prog 81 = none ∧
  isStr Try.prog 81 = false ∧
  isSl Try.prog 81 = false ∧
  isBoolT Try.prog 81 = false ∧
  isIf Try.prog 81 = false ∧
  strOK Try.prog 81 = true ∧
  fOf Try.prog 81 0 = some (0, 1, false) ∧
  fTy Try.prog 81 0 = 9 ∧
  fOf Try.prog 81 1 = some (1, 1, false) ∧
  fTy Try.prog 81 1 = 9 ∧
  zeroOf Try.prog 81 = some [.t (.str []), .t (.str [])] ∧
  isInt Try.prog 81 = none ∧
  szOf Try.prog 82 = 2 ∧
  aggOf Try.prog 82 = true ∧
  known Try.prog 82 = true ∧
  Try.prog.bytesOf 82 = 32 ∧
  elOf Try.prog 82 = none ∧
  isStr Try.prog 82 = false ∧
  isSl Try.prog 82 = false ∧
  isBoolT Try.prog 82 = false ∧
  isIf Try.prog 82 = false ∧
  strOK Try.prog 82 = true ∧
  fOf Try.prog 82 0 = some (0, 1, false) ∧
  fTy Try.prog 82 0 = 9 ∧
  fOf Try.prog 82 1 = some (1, 1, false) ∧
  fTy Try.prog 82 1 = 9 ∧
  zeroOf Try.prog 82 = some [.t (.str []), .t (.str [])] ∧
  isInt Try.prog 82 = none ∧
  szOf Try.prog 83 = 1 ∧
  aggOf Try.prog 83 = false ∧
  known Try.prog 83 = true ∧
  Try.prog.bytesOf 83 = 8 ∧
  elOf Try.prog 83 = none ∧
  isStr Try.prog 83 = false ∧
  isSl Try.prog 83 = false ∧
  isBoolT Try.prog 83 = false ∧
  isIf Try.prog 83 = false ∧
  zeroOf Try.prog 83 = some [.t .nilf] ∧
  isInt Try.prog 83 = none ∧
  szOf Try.prog 84 = 1 ∧
  aggOf Try.prog 84 = false ∧
  known Try.prog 84 = true ∧
  Try.prog.bytesOf 84 = 8 ∧
  elOf Try.prog 84 = none ∧
  isStr Try.prog 84 = false ∧
  isSl Try.prog 84 = false ∧
  isBoolT Try.prog 84 = false ∧
  isIf Try.prog 84 = false ∧
  zeroOf Try.prog 84 = some [.t .nilf] ∧
  isInt Try.prog 84 = none ∧
  szOf Try.prog 85 = 1 ∧
  aggOf Try.prog 85 = false ∧
  known Try.prog 85 = true ∧
  Try.prog.bytesOf 85 = 8 ∧
  elOf Try.prog 85 = none ∧
  isStr Try.prog 85 = false ∧
  isSl Try.prog 85 = false ∧
  isBoolT Try.prog 85 = false ∧
  isIf Try.prog 85 = false ∧
  zeroOf Try.prog 85 = some [.t .nilf] ∧
  isInt Try.prog 85 = none ∧
  szOf Try.prog 86 = 1 ∧
  aggOf Try.prog 86 = false ∧
  known Try.prog 86 = true ∧
  Try.prog.bytesOf 86 = 8 ∧
  elOf Try.prog 86 = none ∧
  isStr Try.prog 86 = false ∧
  isSl Try.prog 86 = false ∧
  isBoolT Try.prog 86 = false ∧
  isIf Try.prog 86 = false ∧
  zeroOf Try.prog 86 = some [.t .nilf] ∧
  isInt Try.prog 86 = none ∧
  szOf Try.prog 87 = 1 ∧
  aggOf Try.prog 87 = false ∧
  known Try.prog 87 = true ∧
  Try.prog.bytesOf 87 = 8 ∧
  elOf Try.prog 87 = none ∧
  isStr Try.prog 87 = false ∧
  isSl Try.prog 87 = false ∧
  isBoolT Try.prog 87 = false ∧
  isIf Try.prog 87 = false ∧
  zeroOf Try.prog 87 = some [.t .nilf] ∧
  isInt Try.prog 87 = none ∧
  szOf Try.prog 88 = 1 ∧
  aggOf Try.prog 88 = false ∧
  known Try.prog 88 = true ∧
  Try.prog.bytesOf 88 = 8 ∧
  elOf Try.prog 88 = none ∧
  isStr Try.prog 88 = false ∧
  isSl Try.prog 88 = false ∧
  isBoolT Try.prog 88 = false ∧
  isIf Try.prog 88 = false ∧
  zeroOf Try.prog 88 = some [.t .nilf] ∧
  isInt Try.prog 88 = none ∧
  szOf Try.prog 89 = 2 ∧
  aggOf Try.prog 89 = true ∧
  known Try.prog 89 = true ∧
  Try.prog.bytesOf 89 = 32 ∧
  elOf Try.prog 89 = none ∧
  isStr Try.prog 89 = false ∧
  isSl Try.prog 89 = false ∧
  isBoolT Try.prog 89 = false ∧
  isIf Try.prog 89 = false ∧
  strOK Try.prog 89 = true ∧
  fOf Try.prog 89 0 = some (0, 1, false) ∧
  fTy Try.prog 89 0 = 9 ∧
  fOf Try.prog 89 1 = some (1, 1, false) ∧
  fTy Try.prog 89 1 = 9 ∧
  zeroOf Try.prog 89 = some [.t (.str []), .t (.str [])] ∧
  isInt Try.prog 89 = none ∧
  szOf Try.prog 90 = 1 ∧
  aggOf Try.prog 90 = false ∧
  known Try.prog 90 = true ∧
  Try.prog.bytesOf 90 = 8 ∧
  elOf Try.prog 90 = none ∧
  isStr Try.prog 90 = false ∧
  isSl Try.prog 90 = false ∧
  isBoolT Try.prog 90 = false ∧
  isIf Try.prog 90 = false ∧
  zeroOf Try.prog 90 = some [.t .nilf] ∧
  isInt Try.prog 90 = none ∧
  szOf Try.prog 91 = 1 ∧
  aggOf Try.prog 91 = false ∧
  known Try.prog 91 = true ∧
  Try.prog.bytesOf 91 = 8 ∧
  elOf Try.prog 91 = none ∧
  isStr Try.prog 91 = false ∧
  isSl Try.prog 91 = false ∧
  isBoolT Try.prog 91 = false ∧
  isIf Try.prog 91 = false ∧
  zeroOf Try.prog 91 = some [.t .nilf] ∧
  isInt Try.prog 91 = none ∧
  szOf Try.prog 92 = 1 ∧
  aggOf Try.prog 92 = false ∧
  known Try.prog 92 = true ∧
  Try.prog.bytesOf 92 = 8 ∧
  elOf Try.prog 92 = none ∧
  isStr Try.prog 92 = false ∧
  isSl Try.prog 92 = false ∧
  isBoolT Try.prog 92 = false ∧
  isIf Try.prog 92 = false ∧
  zeroOf Try.prog 92 = some [.t .nilf] ∧
  isInt Try.prog 92 = none ∧
  szOf Try.prog 93 = 4 ∧
  aggOf Try.prog 93 = true ∧
  known Try.prog 93 = true ∧
  Try.prog.bytesOf 93 = 40 ∧
  elOf Try.prog 93 = none ∧
  isStr Try.prog 93 = false ∧
  isSl Try.prog 93 = false ∧
  isBoolT Try.prog 93 = false ∧
  isIf Try.prog 93 = false ∧
  strOK Try.prog 93 = true ∧
  fOf Try.prog 93 0 = some (0, 1, false) ∧
  fTy Try.prog 93 0 = 17 ∧
  fOf Try.prog 93 1 = some (1, 1, false) ∧
  fTy Try.prog 93 1 = 17 ∧
  fOf Try.prog 93 2 = some (2, 1, false) ∧
  fTy Try.prog 93 2 = 17 ∧
  fOf Try.prog 93 3 = some (3, 1, false) ∧
  fTy Try.prog 93 3 = 9 ∧
  zeroOf Try.prog 93 = some [.t .nilp, .t .nilp, .t .nilp, .t (.str [])] ∧
  isInt Try.prog 93 = none ∧
  szOf Try.prog 94 = 4 ∧
  aggOf Try.prog 94 = true ∧
  known Try.prog 94 = true ∧
  Try.prog.bytesOf 94 = 40 ∧
  elOf Try.prog 94 = none ∧
  isStr Try.prog 94 = false ∧
  isSl Try.prog 94 = false ∧
  isBoolT Try.prog 94 = false ∧
  isIf Try.prog 94 = false ∧
  strOK Try.prog 94 = true ∧
  fOf Try.prog 94 0 = some (0, 1, false) ∧
  fTy Try.prog 94 0 = 17 ∧
  fOf Try.prog 94 1 = some (1, 1, false) ∧
  fTy Try.prog 94 1 = 17 ∧
  fOf Try.prog 94 2 = some (2, 1, false) ∧
  fTy Try.prog 94 2 = 17 ∧
  fOf Try.prog 94 3 = some (3, 1, false) ∧
  fTy Try.prog 94 3 = 9 ∧
  zeroOf Try.prog 94 = some [.t .nilp, .t .nilp, .t .nilp, .t (.str [])] ∧
  isInt Try.prog 94 = none ∧
  szOf Try.prog 98 = 1 ∧
  aggOf Try.prog 98 = false ∧
  known Try.prog 98 = true ∧
  Try.prog.bytesOf 98 = 8 ∧
  elOf Try.prog 98 = none ∧
  isStr Try.prog 98 = false ∧
  isSl Try.prog 98 = false ∧
  isBoolT Try.prog 98 = false ∧
  isIf Try.prog 98 = false ∧
  zeroOf Try.prog 98 = some [.t .nilf] ∧
  isInt Try.prog 98 = none ∧
  szOf Try.prog 99 = 1 ∧
  aggOf Try.prog 99 = false ∧
  known Try.prog 99 = true ∧
  Try.prog.bytesOf 99 = 4 ∧
  elOf Try.prog 99 = none ∧
  isStr Try.prog 99 = false ∧
  isSl Try.prog 99 = false ∧
  isBoolT Try.prog 99 = false ∧
  isIf Try.prog 99 = false ∧
  zeroOf Try.prog 99 = some [.t (.int .u32 0)] ∧
  isInt Try.prog 99 = some .u32 ∧
  szOf Try.prog 100 = 1 ∧
  aggOf Try.prog 100 = false ∧
  known Try.prog 100 = true ∧
  Try.prog.bytesOf 100 = 1 ∧
  elOf Try.prog 100 = none ∧
  isStr Try.prog 100 = false ∧
  isSl Try.prog 100 = false ∧
  isBoolT Try.prog 100 = false ∧
  isIf Try.prog 100 = false ∧
  zeroOf Try.prog 100 = some [.t (.int .u8 0)] ∧
  isInt Try.prog 100 = some .u8 ∧
  szOf Try.prog 101 = 1 ∧
  aggOf Try.prog 101 = false ∧
  known Try.prog 101 = true ∧
  Try.prog.bytesOf 101 = 1 ∧
  elOf Try.prog 101 = none ∧
  isStr Try.prog 101 = false ∧
  isSl Try.prog 101 = false ∧
  isBoolT Try.prog 101 = false ∧
  isIf Try.prog 101 = false ∧
  zeroOf Try.prog 101 = some [.t (.int .u8 0)] ∧
  isInt Try.prog 101 = some .u8 ∧
  szOf Try.prog 102 = 1 ∧
  aggOf Try.prog 102 = false ∧
  known Try.prog 102 = true ∧
  Try.prog.bytesOf 102 = 8 ∧
  elOf Try.prog 102 = none ∧
  isStr Try.prog 102 = false ∧
  isSl Try.prog 102 = false ∧
  isBoolT Try.prog 102 = false ∧
  isIf Try.prog 102 = false ∧
  zeroOf Try.prog 102 = some [.t .nilf] ∧
  isInt Try.prog 102 = none ∧
  szOf Try.prog 103 = 1 ∧
  aggOf Try.prog 103 = false ∧
  known Try.prog 103 = true ∧
  Try.prog.bytesOf 103 = 8 ∧
  elOf Try.prog 103 = none ∧
  isStr Try.prog 103 = false ∧
  isSl Try.prog 103 = false ∧
  isBoolT Try.prog 103 = false ∧
  isIf Try.prog 103 = false ∧
  zeroOf Try.prog 103 = some [.t .nilp] ∧
  isInt Try.prog 103 = none ∧
  szOf Try.prog 104 = 1 ∧
  aggOf Try.prog 104 = false ∧
  known Try.prog 104 = true ∧
  Try.prog.bytesOf 104 = 4 ∧
  elOf Try.prog 104 = none ∧
  isStr Try.prog 104 = false ∧
  isSl Try.prog 104 = false ∧
  isBoolT Try.prog 104 = false ∧
  isIf Try.prog 104 = false ∧
  zeroOf Try.prog 104 = some [.t (.int .i32 0)] ∧
  isInt Try.prog 104 = some .i32 ∧
  szOf Try.prog 105 = 1 ∧
  aggOf Try.prog 105 = false ∧
  known Try.prog 105 = true ∧
  Try.prog.bytesOf 105 = 4 ∧
  elOf Try.prog 105 = none ∧
  isStr Try.prog 105 = false ∧
  isSl Try.prog 105 = false ∧
  isBoolT Try.prog 105 = false ∧
  isIf Try.prog 105 = false ∧
  zeroOf Try.prog 105 = some [.t (.int .i32 0)] ∧
  isInt Try.prog 105 = some .i32 ∧
  szOf Try.prog 106 = 11 ∧
  aggOf Try.prog 106 = true ∧
  known Try.prog 106 = true ∧
  Try.prog.bytesOf 106 = 48 ∧
  elOf Try.prog 106 = none ∧
  isStr Try.prog 106 = false ∧
  isSl Try.prog 106 = false ∧
  isBoolT Try.prog 106 = false ∧
  isIf Try.prog 106 = false ∧
  strOK Try.prog 106 = true ∧
  fOf Try.prog 106 0 = some (0, 1, false) ∧
  fTy Try.prog 106 0 = 12 ∧
  fOf Try.prog 106 1 = some (1, 1, false) ∧
  fTy Try.prog 106 1 = 12 ∧
  fOf Try.prog 106 2 = some (2, 1, false) ∧
  fTy Try.prog 106 2 = 99 ∧
  fOf Try.prog 106 3 = some (3, 1, false) ∧
  fTy Try.prog 106 3 = 100 ∧
  fOf Try.prog 106 4 = some (4, 1, false) ∧
  fTy Try.prog 106 4 = 5 ∧
  fOf Try.prog 106 5 = some (5, 1, false) ∧
  fTy Try.prog 106 5 = 5 ∧
  fOf Try.prog 106 6 = some (6, 1, false) ∧
  fTy Try.prog 106 6 = 101 ∧
  fOf Try.prog 106 7 = some (7, 1, false) ∧
  fTy Try.prog 106 7 = 102 ∧
  fOf Try.prog 106 8 = some (8, 1, false) ∧
  fTy Try.prog 106 8 = 103 ∧
  fOf Try.prog 106 9 = some (9, 1, false) ∧
  fTy Try.prog 106 9 = 104 ∧
  fOf Try.prog 106 10 = some (10, 1, false) ∧
  fTy Try.prog 106 10 = 105 ∧
  zeroOf Try.prog 106 = some [.t (.int .u64 0), .t (.int .u64 0), .t (.int .u32 0), .t (.int .u8 0), .t (.int .u8 0), .t (.int .u8 0), .t (.int .u8 0), .t .nilf, .t .nilp, .t (.int .i32 0), .t (.int .i32 0)] ∧
  isInt Try.prog 106 = none ∧
  szOf Try.prog 107 = 11 ∧
  aggOf Try.prog 107 = true ∧
  known Try.prog 107 = true ∧
  Try.prog.bytesOf 107 = 48 ∧
  elOf Try.prog 107 = none ∧
  isStr Try.prog 107 = false ∧
  isSl Try.prog 107 = false ∧
  isBoolT Try.prog 107 = false ∧
  isIf Try.prog 107 = false ∧
  strOK Try.prog 107 = true ∧
  fOf Try.prog 107 0 = some (0, 1, false) ∧
  fTy Try.prog 107 0 = 12 ∧
  fOf Try.prog 107 1 = some (1, 1, false) ∧
  fTy Try.prog 107 1 = 12 ∧
  fOf Try.prog 107 2 = some (2, 1, false) ∧
  fTy Try.prog 107 2 = 99 ∧
  fOf Try.prog 107 3 = some (3, 1, false) ∧
  fTy Try.prog 107 3 = 100 ∧
  fOf Try.prog 107 4 = some (4, 1, false) ∧
  fTy Try.prog 107 4 = 5 ∧
  fOf Try.prog 107 5 = some (5, 1, false) ∧
  fTy Try.prog 107 5 = 5 ∧
  fOf Try.prog 107 6 = some (6, 1, false) ∧
  fTy Try.prog 107 6 = 101 ∧
  fOf Try.prog 107 7 = some (7, 1, false) ∧
  fTy Try.prog 107 7 = 102 ∧
  fOf Try.prog 107 8 = some (8, 1, false) ∧
  fTy Try.prog 107 8 = 103 ∧
  fOf Try.prog 107 9 = some (9, 1, false) ∧
  fTy Try.prog 107 9 = 104 ∧
  fOf Try.prog 107 10 = some (10, 1, false) ∧
  fTy Try.prog 107 10 = 105 ∧
  zeroOf Try.prog 107 = some [.t (.int .u64 0), .t (.int .u64 0), .t (.int .u32 0), .t (.int .u8 0), .t (.int .u8 0), .t (.int .u8 0), .t (.int .u8 0), .t .nilf, .t .nilp, .t (.int .i32 0), .t (.int .i32 0)] ∧
  isInt Try.prog 107 = none ∧
  szOf Try.prog 108 = 1 ∧
  aggOf Try.prog 108 = false ∧
  known Try.prog 108 = true ∧
  Try.prog.bytesOf 108 = 8 ∧
  elOf Try.prog 108 = none ∧
  isStr Try.prog 108 = false ∧
  isSl Try.prog 108 = false ∧
  isBoolT Try.prog 108 = false ∧
  isIf Try.prog 108 = false ∧
  zeroOf Try.prog 108 = some [.t .nilf] ∧
  isInt Try.prog 108 = none :=
  ⟨TY_0, TY_1, TY_2, TY_3, TY_4, TY_5, TY_6, TY_7, TY_8, TY_9, TY_10, TY_11, TY_12, TY_13, TY_14, TY_15, TY_16, TY_17, TY_18, TY_19, TY_20, TY_21, TY_22, TY_23, TY_24, TY_25, TY_26, TY_27, TY_28, TY_29, TY_30, TY_31, TY_32, TY_33, TY_34, TY_35, TY_36, TY_37, TY_38, TY_39, TY_40, TY_41, TY_42, TY_43, TY_44, TY_45, TY_46, TY_47, TY_48, TY_49, TY_50, TY_51, TY_52, TY_53, TY_54, TY_55, TY_56, TY_57, TY_58, TY_59, TY_60, TY_61, TY_62, TY_63, TY_64, TY_65, TY_66, TY_67, TY_68, TY_69, TY_70, TY_71, TY_72, TY_73, TY_74, TY_75, TY_76, TY_77, TY_78, TY_79, TY_80, TY_81, TY_82, TY_83, TY_84, TY_85, TY_86, TY_87, TY_88, TY_89, TY_90, TY_91, TY_92, TY_93, TY_94, TY_95, TY_96, TY_97, TY_98, TY_99, TY_100, TY_101, TY_102, TY_103, TY_104, TY_105, TY_106, TY_107, TY_108, TY_109, TY_110, TY_111, TY_112, TY_113, TY_114, TY_115, TY_116, TY_117, TY_118, TY_119, TY_120, TY_121, TY_122, TY_123, TY_124, TY_125, TY_126, TY_127, TY_128, TY_129, TY_130, TY_131, TY_132, TY_133, TY_134, TY_135, TY_136, TY_137, TY_138, TY_139, TY_140, TY_141, TY_142, TY_143, TY_144, TY_145, TY_146, TY_147, TY_148, TY_149, TY_150, TY_151, TY_152, TY_153, TY_154, TY_155, TY_156, TY_157, TY_158, TY_159, TY_160, TY_161, TY_162, TY_163, TY_164, TY_165, TY_166, TY_167, TY_168, TY_169, TY_170, TY_171, TY_172, TY_173, TY_174, TY_175, TY_176, TY_177, TY_178, TY_179, TY_180, TY_181, TY_182, TY_183, TY_184, TY_185, TY_186, TY_187, TY_188, TY_189, TY_190, TY_191, TY_192, TY_193, TY_194, TY_195, TY_196, TY_197, TY_198, TY_199, TY_200, TY_201, TY_202, TY_203, TY_204, TY_205, TY_206, TY_207, TY_208, TY_209, TY_210, TY_211, TY_212, TY_213, TY_214, TY_215, TY_216, TY_217, TY_218, TY_219, TY_220, TY_221, TY_222, TY_223, TY_224, TY_225, TY_226, TY_227, TY_228, TY_229, TY_230, TY_231, TY_232, TY_233, TY_234, TY_235, TY_236, TY_237, TY_238, TY_239, TY_240, TY_241, TY_242, TY_243, TY_244, TY_245, TY_246, TY_247, TY_248, TY_249, TY_250, TY_251, TY_252, TY_253, TY_254, TY_255, TY_256, TY_257, TY_258, TY_259, TY_260, TY_261, TY_262, TY_263, TY_264, TY_265, TY_266, TY_267, TY_268, TY_269, TY_270, TY_271, TY_272, TY_273, TY_274, TY_275, TY_276, TY_277, TY_278, TY_279, TY_280, TY_281, TY_282, TY_283, TY_284, TY_285, TY_286, TY_287, TY_288, TY_289, TY_290, TY_291, TY_292, TY_293, TY_294, TY_295, TY_296, TY_297, TY_298, TY_299, TY_300, TY_301, TY_302, TY_303, TY_304, TY_305, TY_306, TY_307, TY_308, TY_309, TY_310, TY_311, TY_312, TY_313, TY_314, TY_315, TY_316, TY_317, TY_318, TY_319, TY_320, TY_321, TY_322, TY_323, TY_324, TY_325, TY_326, TY_327, TY_328, TY_329, TY_330, TY_331, TY_332, TY_333, TY_334, TY_335, TY_336, TY_337, TY_338, TY_339, TY_340, TY_341, TY_342, TY_343, TY_344, TY_345, TY_346, TY_347, TY_348, TY_349, TY_350, TY_351, TY_352, TY_353, TY_354, TY_355, TY_356, TY_357, TY_358, TY_359, TY_360, TY_361, TY_362, TY_363, TY_364, TY_365, TY_366, TY_367, TY_368, TY_369, TY_370, TY_371, TY_372, TY_373, TY_374, TY_375, TY_376, TY_377, TY_378, TY_379, TY_380, TY_381, TY_382, TY_383, TY_384, TY_385, TY_386, TY_387, TY_388, TY_389, TY_390, TY_391, TY_392, TY_393, TY_394, TY_395, TY_396, TY_397, TY_398, TY_399, TY_400, TY_401, TY_402, TY_403, TY_404, TY_405, TY_406, TY_407, TY_408, TY_409, TY_410, TY_411, TY_412, TY_413, TY_414, TY_415, TY_416, TY_417, TY_418, TY_419, TY_420, TY_421, TY_422, TY_423, TY_424, TY_425, TY_426, TY_427, TY_428, TY_429, TY_430, TY_431, TY_432, TY_433, TY_434, TY_435, TY_436, TY_437, TY_438, TY_439, TY_440, TY_441, TY_442, TY_443, TY_444, TY_445, TY_446, TY_447, TY_448, TY_449, TY_450, TY_451, TY_452, TY_453, TY_454, TY_455, TY_456, TY_457, TY_458, TY_459, TY_460, TY_461, TY_462, TY_463, TY_464, TY_465, TY_466, TY_467, TY_468, TY_469, TY_470, TY_471, TY_472, TY_473, TY_474, TY_475, TY_476, TY_477, TY_478, TY_479, TY_480, TY_481, TY_482, TY_483, TY_484, TY_485, TY_486, TY_487, TY_488, TY_489, TY_490, TY_491, TY_492, TY_493, TY_494, TY_495, TY_496, TY_497, TY_498, TY_499, TY_500, TY_501, TY_502, TY_503, TY_504, TY_505, TY_506, TY_507, TY_508, TY_509, TY_510, TY_511, TY_512, TY_513, TY_514, TY_515, TY_516, TY_517, TY_518, TY_519, TY_520, TY_521, TY_522, TY_523, TY_524, TY_525, TY_526, TY_527, TY_528, TY_529, TY_530, TY_531, TY_532, TY_533, TY_534, TY_535, TY_536, TY_537, TY_538, TY_539, TY_540, TY_541, TY_542, TY_543, TY_544, TY_545, TY_546, TY_547, TY_548, TY_549, TY_550, TY_551, TY_552, TY_553, TY_554, TY_555, TY_556, TY_557, TY_558, TY_559, TY_560, TY_561, TY_562, TY_563, TY_564, TY_565, TY_566, TY_567, TY_568, TY_569, TY_570, TY_571, TY_572, TY_573, TY_574, TY_575, TY_576, TY_577, TY_578, TY_579, TY_580, TY_581, TY_582, TY_583, TY_584, TY_585, TY_586, TY_587, TY_588, TY_589, TY_590, TY_591, TY_592, TY_593, TY_594, TY_595, TY_596, TY_597, TY_598, TY_599, TY_600, TY_601, TY_602, TY_603, TY_604, TY_605, TY_606, TY_607, TY_608, TY_609, TY_610, TY_611, TY_612, TY_613, TY_614, TY_615, TY_616, TY_617, TY_618, TY_619, TY_620, TY_621, TY_622, TY_623, TY_624, TY_625, TY_626, TY_627, TY_628, TY_629, TY_630, TY_631, TY_632, TY_633, TY_634, TY_635, TY_636, TY_637, TY_638, TY_639, TY_640, TY_641, TY_642, TY_643, TY_644, TY_645, TY_646, TY_647, TY_648, TY_649, TY_650, TY_651, TY_652, TY_653, TY_654, TY_655, TY_656, TY_657, TY_658, TY_659, TY_660, TY_661, TY_662, TY_663, TY_664, TY_665, TY_666, TY_667, TY_668, TY_669, TY_670, TY_671, TY_672, TY_673, TY_674, TY_675, TY_676, TY_677, TY_678, TY_679, TY_680, TY_681, TY_682, TY_683, TY_684, TY_685, TY_686, TY_687, TY_688, TY_689, TY_690, TY_691, TY_692, TY_693, TY_694, TY_695, TY_696, TY_697, TY_698, TY_699, TY_700, TY_701, TY_702, TY_703, TY_704, TY_705, TY_706, TY_707, TY_708, TY_709, TY_710, TY_711, TY_712, TY_713, TY_714, TY_715, TY_716, TY_717, TY_718, TY_719, TY_720, TY_721, TY_722, TY_723, TY_724, TY_725, TY_726, TY_727, TY_728, TY_729, TY_730, TY_731, TY_732, TY_733, TY_734, TY_735, TY_736, TY_737, TY_738, TY_739, TY_740, TY_741, TY_742, TY_743, TY_744, TY_745, TY_746, TY_747, TY_748, TY_749, TY_750, TY_751, TY_752, TY_753, TY_754, TY_755, TY_756, TY_757, TY_758, TY_759, TY_760, TY_761, TY_762, TY_763, TY_764, TY_765, TY_766, TY_767, TY_768, TY_769, TY_770, TY_771, TY_772, TY_773, TY_774, TY_775, TY_776, TY_777, TY_778, TY_779, TY_780, TY_781, TY_782, TY_783, TY_784, TY_785, TY_786, TY_787, TY_788, TY_789, TY_790, TY_791, TY_792, TY_793, TY_794, TY_795, TY_796, TY_797, TY_798, TY_799, TY_800, TY_801, TY_802, TY_803, TY_804, TY_805, TY_806, TY_807, TY_808, TY_809, TY_810, TY_811, TY_812, TY_813, TY_814, TY_815, TY_816, TY_817, TY_818, TY_819, TY_820, TY_821, TY_822, TY_823, TY_824, TY_825, TY_826, TY_827, TY_828, TY_829, TY_830, TY_831, TY_832, TY_833, TY_834, TY_835, TY_836, TY_837, TY_838, TY_839, TY_840, TY_841, TY_842, TY_843, TY_844, TY_845, TY_846, TY_847, TY_848, TY_849, TY_850, TY_851, TY_852, TY_853, TY_854, TY_855, TY_856, TY_857, TY_858, TY_859, TY_860, TY_861, TY_862, TY_863, TY_864, TY_865, TY_866, TY_867, TY_868, TY_869, TY_870, TY_871, TY_872, TY_873, TY_874, TY_875, TY_876, TY_877, TY_878, TY_879, TY_880, TY_881, TY_882, TY_883, TY_884, TY_885, TY_886, TY_887, TY_888, TY_889, TY_890, TY_891, TY_892, TY_893, TY_894, TY_895, TY_896, TY_897, TY_898, TY_899, TY_900, TY_901, TY_902, TY_903, TY_904, TY_905, TY_906, TY_907, TY_908, TY_909, TY_910, TY_911, TY_912, TY_913, TY_914, TY_915, TY_916, TY_917, TY_918, TY_919, TY_920, TY_921, TY_922, TY_923, TY_924, TY_925, TY_926, TY_927, TY_928, TY_929, TY_930, TY_931, TY_932, TY_933, TY_934, TY_935, TY_936, TY_937, TY_938, TY_939, TY_940, TY_941, TY_942, TY_943, TY_944, TY_945, TY_946, TY_947, TY_948, TY_949, TY_950, TY_951, TY_952, TY_953, TY_954, TY_955, TY_956, TY_957, TY_958, TY_959, TY_960, TY_961, TY_962, TY_963, TY_964, TY_965, TY_966, TY_967, TY_968, TY_969, TY_970, TY_971, TY_972, TY_973, TY_974, TY_975, TY_976, TY_977, TY_978, TY_979, TY_980, TY_981, TY_982, TY_983, TY_984, TY_985, TY_986, TY_987, TY_988, TY_989, TY_990, TY_991, TY_992, TY_993, TY_994, TY_995, TY_996, TY_997, TY_998, TY_999, TY_1000, TY_1001, TY_1002, TY_1003, TY_1004, TY_1005, TY_1006, TY_1007, TY_1008, TY_1009, TY_1010, TY_1011, TY_1012, TY_1013, TY_1014, TY_1015, TY_1016, TY_1017, TY_1018, TY_1019, TY_1020, TY_1021, TY_1022, TY_1023, TY_1024, TY_1025, TY_1026, TY_1027, TY_1028, TY_1029, TY_1030, TY_1031, TY_1032, TY_1033, TY_1034, TY_1035, TY_1036, TY_1037, TY_1038, TY_1039, TY_1040, TY_1041, TY_1042, TY_1043, TY_1044, TY_1045, TY_1046, TY_1047, TY_1048, TY_1049, TY_1050, TY_1051, TY_1052, TY_1053, TY_1054, TY_1055, TY_1056, TY_1057, TY_1058, TY_1059, TY_1060, TY_1061, TY_1062, TY_1063, TY_1064, TY_1065, TY_1066, TY_1067, TY_1068, TY_1069, TY_1070, TY_1071, TY_1072, TY_1073, TY_1074, TY_1075, TY_1076, TY_1077, TY_1078, TY_1079, TY_1080, TY_1081, TY_1082, TY_1083, TY_1084, TY_1085, TY_1086, TY_1087, TY_1088, TY_1089, TY_1090, TY_1091, TY_1092, TY_1093, TY_1094, TY_1095, TY_1096, TY_1097, TY_1098, TY_1099, TY_1100, TY_1101, TY_1102, TY_1103, TY_1104, TY_1105, TY_1106, TY_1107, TY_1108, TY_1109, TY_1110, TY_1111, TY_1112, TY_1113, TY_1114, TY_1115, TY_1116, TY_1117, TY_1118, TY_1119, TY_1120, TY_1121, TY_1122, TY_1123, TY_1124, TY_1125, TY_1126, TY_1127, TY_1128, TY_1129, TY_1130, TY_1131, TY_1132, TY_1133, TY_1134, TY_1135, TY_1136, TY_1137, TY_1138, TY_1139, TY_1140, TY_1141, TY_1142, TY_1143, TY_1144, TY_1145, TY_1146, TY_1147, TY_1148, TY_1149, TY_1150, TY_1151, TY_1152, TY_1153, TY_1154, TY_1155, TY_1156, TY_1157, TY_1158, TY_1159, TY_1160, TY_1161, TY_1162, TY_1163, TY_1164, TY_1165, TY_1166, TY_1167, TY_1168, TY_1169, TY_1170, TY_1171, TY_1172, TY_1173, TY_1174, TY_1175, TY_1176, TY_1177, TY_1178, TY_1179, TY_1180, TY_1181, TY_1182, TY_1183, TY_1184, TY_1185, TY_1186, TY_1187, TY_1188, TY_1189, TY_1190, TY_1191, TY_1192, TY_1193, TY_1194, TY_1195, TY_1196, TY_1197, TY_1198, TY_1199, TY_1200, TY_1201, TY_1202, TY_1203, TY_1204, TY_1205, TY_1206, TY_1207, TY_1208, TY_1209, TY_1210, TY_1211, TY_1212, TY_1213, TY_1214, TY_1215, TY_1216, TY_1217, TY_1218, TY_1219, TY_1220, TY_1221, TY_1222, TY_1223, TY_1224, TY_1225, TY_1226, TY_1227, TY_1228, TY_1229, TY_1230, TY_1231, TY_1232, TY_1233, TY_1234, TY_1235, TY_1236, TY_1237, TY_1238, TY_1239, TY_1240, TY_1241, TY_1242, TY_1243, TY_1244, TY_1245, TY_1246, TY_1247, TY_1248, TY_1249, TY_1250, TY_1251, TY_1252, TY_1253, TY_1254, TY_1255, TY_1256, TY_1257, TY_1258, TY_1259, TY_1260, TY_1261, TY_1262, TY_1263, TY_1264, TY_1265, TY_1266, TY_1267, TY_1268, TY_1269, TY_1270, TY_1271, TY_1272, TY_1273, TY_1274, TY_1275, TY_1276, TY_1277, TY_1278, TY_1279, TY_1280, TY_1281, TY_1282, TY_1283, TY_1284, TY_1285, TY_1286, TY_1287, TY_1288, TY_1289, TY_1290, TY_1291, TY_1292, TY_1293, TY_1294, TY_1295, TY_1296, TY_1297, TY_1298, TY_1299, TY_1300, TY_1301, TY_1302, TY_1303, TY_1304, TY_1305, TY_1306, TY_1307, TY_1308, TY_1309, TY_1310, TY_1311, TY_1312, TY_1313, TY_1314, TY_1315, TY_1316, TY_1317, TY_1318, TY_1319, TY_1320, TY_1321, TY_1322, TY_1323, TY_1324, TY_1325, TY_1326, TY_1327, TY_1328, TY_1329, TY_1330, TY_1331, TY_1332, TY_1333, TY_1334, TY_1335, TY_1336, TY_1337, TY_1338, TY_1339, TY_1340, TY_1341, TY_1342, TY_1343, TY_1344, TY_1345, TY_1346, TY_1347, TY_1348, TY_1349, TY_1350, TY_1351, TY_1352, TY_1353, TY_1354, TY_1355, TY_1356, TY_1357, TY_1358, TY_1359, TY_1360, TY_1361, TY_1362, TY_1363, TY_1364, TY_1365, TY_1366, TY_1367, TY_1368, TY_1369, TY_1370, TY_1371, TY_1372⟩
end Go.Proofs.Ytcphjdfmjhijkaa
