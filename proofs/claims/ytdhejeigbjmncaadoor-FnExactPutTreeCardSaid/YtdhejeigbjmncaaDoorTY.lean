/- The types' facts of this seat, written by a program of mine (tys.py) and checked one by one. Conditions: none. -/
import Derived.Test.YtdhejeigbjmncaaDoorE17
import Derived.Test.YtdhejeigbjmncaaDoorChecked
namespace Go.Proofs.YtdhejeigbjmncaaDoor
open E
set_option maxRecDepth 100000
theorem TY_0 : szOf Tryd.prog 1 = 1 := by kernel_rfl
theorem TY_1 : aggOf Tryd.prog 1 = false := by kernel_rfl
theorem TY_2 : known Tryd.prog 1 = true := by kernel_rfl
theorem TY_3 : Tryd.prog.bytesOf 1 = 8 := by kernel_rfl
theorem TY_4 : elOf Tryd.prog 1 = none := by kernel_rfl
theorem TY_5 : isStr Tryd.prog 1 = false := by kernel_rfl
theorem TY_6 : isSl Tryd.prog 1 = false := by kernel_rfl
theorem TY_7 : isBoolT Tryd.prog 1 = false := by kernel_rfl
theorem TY_8 : isIf Tryd.prog 1 = false := by kernel_rfl
theorem TY_9 : zeroOf Tryd.prog 1 = some [.t .nilf] := by kernel_rfl
theorem TY_10 : isInt Tryd.prog 1 = none := by kernel_rfl
theorem TY_11 : szOf Tryd.prog 2 = 1 := by kernel_rfl
theorem TY_12 : aggOf Tryd.prog 2 = false := by kernel_rfl
theorem TY_13 : known Tryd.prog 2 = true := by kernel_rfl
theorem TY_14 : Tryd.prog.bytesOf 2 = 8 := by kernel_rfl
theorem TY_15 : elOf Tryd.prog 2 = none := by kernel_rfl
theorem TY_16 : isStr Tryd.prog 2 = false := by kernel_rfl
theorem TY_17 : isSl Tryd.prog 2 = false := by kernel_rfl
theorem TY_18 : isBoolT Tryd.prog 2 = false := by kernel_rfl
theorem TY_19 : isIf Tryd.prog 2 = false := by kernel_rfl
theorem TY_20 : zeroOf Tryd.prog 2 = some [.t (.int .i64 0)] := by kernel_rfl
theorem TY_21 : isInt Tryd.prog 2 = some .i64 := by kernel_rfl
theorem TY_22 : szOf Tryd.prog 3 = 1 := by kernel_rfl
theorem TY_23 : aggOf Tryd.prog 3 = false := by kernel_rfl
theorem TY_24 : known Tryd.prog 3 = true := by kernel_rfl
theorem TY_25 : Tryd.prog.bytesOf 3 = 8 := by kernel_rfl
theorem TY_26 : elOf Tryd.prog 3 = none := by kernel_rfl
theorem TY_27 : isStr Tryd.prog 3 = false := by kernel_rfl
theorem TY_28 : isSl Tryd.prog 3 = false := by kernel_rfl
theorem TY_29 : isBoolT Tryd.prog 3 = false := by kernel_rfl
theorem TY_30 : isIf Tryd.prog 3 = false := by kernel_rfl
theorem TY_31 : zeroOf Tryd.prog 3 = some [.t (.int .i64 0)] := by kernel_rfl
theorem TY_32 : isInt Tryd.prog 3 = some .i64 := by kernel_rfl
theorem TY_33 : szOf Tryd.prog 4 = 1 := by kernel_rfl
theorem TY_34 : aggOf Tryd.prog 4 = false := by kernel_rfl
theorem TY_35 : known Tryd.prog 4 = true := by kernel_rfl
theorem TY_36 : Tryd.prog.bytesOf 4 = 1 := by kernel_rfl
theorem TY_37 : elOf Tryd.prog 4 = none := by kernel_rfl
theorem TY_38 : isStr Tryd.prog 4 = false := by kernel_rfl
theorem TY_39 : isSl Tryd.prog 4 = false := by kernel_rfl
theorem TY_40 : isBoolT Tryd.prog 4 = true := by kernel_rfl
theorem TY_41 : isIf Tryd.prog 4 = false := by kernel_rfl
theorem TY_42 : zeroOf Tryd.prog 4 = some [.t (.bool false)] := by kernel_rfl
theorem TY_43 : isInt Tryd.prog 4 = none := by kernel_rfl
theorem TY_44 : szOf Tryd.prog 5 = 1 := by kernel_rfl
theorem TY_45 : aggOf Tryd.prog 5 = false := by kernel_rfl
theorem TY_46 : known Tryd.prog 5 = true := by kernel_rfl
theorem TY_47 : Tryd.prog.bytesOf 5 = 1 := by kernel_rfl
theorem TY_48 : elOf Tryd.prog 5 = none := by kernel_rfl
theorem TY_49 : isStr Tryd.prog 5 = false := by kernel_rfl
theorem TY_50 : isSl Tryd.prog 5 = false := by kernel_rfl
theorem TY_51 : isBoolT Tryd.prog 5 = false := by kernel_rfl
theorem TY_52 : isIf Tryd.prog 5 = false := by kernel_rfl
theorem TY_53 : zeroOf Tryd.prog 5 = some [.t (.int .u8 0)] := by kernel_rfl
theorem TY_54 : isInt Tryd.prog 5 = some .u8 := by kernel_rfl
theorem TY_55 : szOf Tryd.prog 6 = 1 := by kernel_rfl
theorem TY_56 : aggOf Tryd.prog 6 = false := by kernel_rfl
theorem TY_57 : known Tryd.prog 6 = true := by kernel_rfl
theorem TY_58 : Tryd.prog.bytesOf 6 = 1 := by kernel_rfl
theorem TY_59 : elOf Tryd.prog 6 = none := by kernel_rfl
theorem TY_60 : isStr Tryd.prog 6 = false := by kernel_rfl
theorem TY_61 : isSl Tryd.prog 6 = false := by kernel_rfl
theorem TY_62 : isBoolT Tryd.prog 6 = false := by kernel_rfl
theorem TY_63 : isIf Tryd.prog 6 = false := by kernel_rfl
theorem TY_64 : zeroOf Tryd.prog 6 = some [.t (.int .u8 0)] := by kernel_rfl
theorem TY_65 : isInt Tryd.prog 6 = some .u8 := by kernel_rfl
theorem TY_66 : szOf Tryd.prog 7 = 4 := by kernel_rfl
theorem TY_67 : aggOf Tryd.prog 7 = true := by kernel_rfl
theorem TY_68 : known Tryd.prog 7 = true := by kernel_rfl
theorem TY_69 : Tryd.prog.bytesOf 7 = 24 := by kernel_rfl
theorem TY_70 : elOf Tryd.prog 7 = none := by kernel_rfl
theorem TY_71 : isStr Tryd.prog 7 = false := by kernel_rfl
theorem TY_72 : isSl Tryd.prog 7 = false := by kernel_rfl
theorem TY_73 : isBoolT Tryd.prog 7 = false := by kernel_rfl
theorem TY_74 : isIf Tryd.prog 7 = false := by kernel_rfl
theorem TY_75 : strOK Tryd.prog 7 = true := by kernel_rfl
theorem TY_76 : fOf Tryd.prog 7 0 = some (0, 1, false) := by kernel_rfl
theorem TY_77 : fTy Tryd.prog 7 0 = 2 := by kernel_rfl
theorem TY_78 : fOf Tryd.prog 7 1 = some (1, 1, false) := by kernel_rfl
theorem TY_79 : fTy Tryd.prog 7 1 = 3 := by kernel_rfl
theorem TY_80 : fOf Tryd.prog 7 2 = some (2, 1, false) := by kernel_rfl
theorem TY_81 : fTy Tryd.prog 7 2 = 4 := by kernel_rfl
theorem TY_82 : fOf Tryd.prog 7 3 = some (3, 1, false) := by kernel_rfl
theorem TY_83 : fTy Tryd.prog 7 3 = 6 := by kernel_rfl
theorem TY_84 : zeroOf Tryd.prog 7 = some [.t (.int .i64 0), .t (.int .i64 0), .t (.bool false), .t (.int .u8 0)] := by kernel_rfl
theorem TY_85 : isInt Tryd.prog 7 = none := by kernel_rfl
theorem TY_86 : szOf Tryd.prog 8 = 4 := by kernel_rfl
theorem TY_87 : aggOf Tryd.prog 8 = true := by kernel_rfl
theorem TY_88 : known Tryd.prog 8 = true := by kernel_rfl
theorem TY_89 : Tryd.prog.bytesOf 8 = 24 := by kernel_rfl
theorem TY_90 : elOf Tryd.prog 8 = none := by kernel_rfl
theorem TY_91 : isStr Tryd.prog 8 = false := by kernel_rfl
theorem TY_92 : isSl Tryd.prog 8 = false := by kernel_rfl
theorem TY_93 : isBoolT Tryd.prog 8 = false := by kernel_rfl
theorem TY_94 : isIf Tryd.prog 8 = false := by kernel_rfl
theorem TY_95 : strOK Tryd.prog 8 = true := by kernel_rfl
theorem TY_96 : fOf Tryd.prog 8 0 = some (0, 1, false) := by kernel_rfl
theorem TY_97 : fTy Tryd.prog 8 0 = 2 := by kernel_rfl
theorem TY_98 : fOf Tryd.prog 8 1 = some (1, 1, false) := by kernel_rfl
theorem TY_99 : fTy Tryd.prog 8 1 = 3 := by kernel_rfl
theorem TY_100 : fOf Tryd.prog 8 2 = some (2, 1, false) := by kernel_rfl
theorem TY_101 : fTy Tryd.prog 8 2 = 4 := by kernel_rfl
theorem TY_102 : fOf Tryd.prog 8 3 = some (3, 1, false) := by kernel_rfl
theorem TY_103 : fTy Tryd.prog 8 3 = 6 := by kernel_rfl
theorem TY_104 : zeroOf Tryd.prog 8 = some [.t (.int .i64 0), .t (.int .i64 0), .t (.bool false), .t (.int .u8 0)] := by kernel_rfl
theorem TY_105 : isInt Tryd.prog 8 = none := by kernel_rfl
theorem TY_106 : szOf Tryd.prog 9 = 1 := by kernel_rfl
theorem TY_107 : aggOf Tryd.prog 9 = false := by kernel_rfl
theorem TY_108 : known Tryd.prog 9 = true := by kernel_rfl
theorem TY_109 : Tryd.prog.bytesOf 9 = 16 := by kernel_rfl
theorem TY_110 : elOf Tryd.prog 9 = none := by kernel_rfl
theorem TY_111 : isStr Tryd.prog 9 = true := by kernel_rfl
theorem TY_112 : isSl Tryd.prog 9 = false := by kernel_rfl
theorem TY_113 : isBoolT Tryd.prog 9 = false := by kernel_rfl
theorem TY_114 : isIf Tryd.prog 9 = false := by kernel_rfl
theorem TY_115 : zeroOf Tryd.prog 9 = some [.t (.str [])] := by kernel_rfl
theorem TY_116 : isInt Tryd.prog 9 = none := by kernel_rfl
theorem TY_117 : szOf Tryd.prog 10 = 1 := by kernel_rfl
theorem TY_118 : aggOf Tryd.prog 10 = false := by kernel_rfl
theorem TY_119 : known Tryd.prog 10 = true := by kernel_rfl
theorem TY_120 : Tryd.prog.bytesOf 10 = 16 := by kernel_rfl
theorem TY_121 : elOf Tryd.prog 10 = none := by kernel_rfl
theorem TY_122 : isStr Tryd.prog 10 = true := by kernel_rfl
theorem TY_123 : isSl Tryd.prog 10 = false := by kernel_rfl
theorem TY_124 : isBoolT Tryd.prog 10 = false := by kernel_rfl
theorem TY_125 : isIf Tryd.prog 10 = false := by kernel_rfl
theorem TY_126 : zeroOf Tryd.prog 10 = some [.t (.str [])] := by kernel_rfl
theorem TY_127 : isInt Tryd.prog 10 = none := by kernel_rfl
theorem TY_128 : szOf Tryd.prog 11 = 1 := by kernel_rfl
theorem TY_129 : aggOf Tryd.prog 11 = false := by kernel_rfl
theorem TY_130 : known Tryd.prog 11 = true := by kernel_rfl
theorem TY_131 : Tryd.prog.bytesOf 11 = 16 := by kernel_rfl
theorem TY_132 : elOf Tryd.prog 11 = none := by kernel_rfl
theorem TY_133 : isStr Tryd.prog 11 = true := by kernel_rfl
theorem TY_134 : isSl Tryd.prog 11 = false := by kernel_rfl
theorem TY_135 : isBoolT Tryd.prog 11 = false := by kernel_rfl
theorem TY_136 : isIf Tryd.prog 11 = false := by kernel_rfl
theorem TY_137 : zeroOf Tryd.prog 11 = some [.t (.str [])] := by kernel_rfl
theorem TY_138 : isInt Tryd.prog 11 = none := by kernel_rfl
theorem TY_139 : szOf Tryd.prog 12 = 1 := by kernel_rfl
theorem TY_140 : aggOf Tryd.prog 12 = false := by kernel_rfl
theorem TY_141 : known Tryd.prog 12 = true := by kernel_rfl
theorem TY_142 : Tryd.prog.bytesOf 12 = 8 := by kernel_rfl
theorem TY_143 : elOf Tryd.prog 12 = none := by kernel_rfl
theorem TY_144 : isStr Tryd.prog 12 = false := by kernel_rfl
theorem TY_145 : isSl Tryd.prog 12 = false := by kernel_rfl
theorem TY_146 : isBoolT Tryd.prog 12 = false := by kernel_rfl
theorem TY_147 : isIf Tryd.prog 12 = false := by kernel_rfl
theorem TY_148 : zeroOf Tryd.prog 12 = some [.t (.int .u64 0)] := by kernel_rfl
theorem TY_149 : isInt Tryd.prog 12 = some .u64 := by kernel_rfl
theorem TY_150 : szOf Tryd.prog 13 = 2 := by kernel_rfl
theorem TY_151 : aggOf Tryd.prog 13 = true := by kernel_rfl
theorem TY_152 : known Tryd.prog 13 = true := by kernel_rfl
theorem TY_153 : Tryd.prog.bytesOf 13 = 24 := by kernel_rfl
theorem TY_154 : elOf Tryd.prog 13 = none := by kernel_rfl
theorem TY_155 : isStr Tryd.prog 13 = false := by kernel_rfl
theorem TY_156 : isSl Tryd.prog 13 = false := by kernel_rfl
theorem TY_157 : isBoolT Tryd.prog 13 = false := by kernel_rfl
theorem TY_158 : isIf Tryd.prog 13 = false := by kernel_rfl
theorem TY_159 : strOK Tryd.prog 13 = true := by kernel_rfl
theorem TY_160 : fOf Tryd.prog 13 0 = some (0, 1, false) := by kernel_rfl
theorem TY_161 : fTy Tryd.prog 13 0 = 9 := by kernel_rfl
theorem TY_162 : fOf Tryd.prog 13 1 = some (1, 1, false) := by kernel_rfl
theorem TY_163 : fTy Tryd.prog 13 1 = 12 := by kernel_rfl
theorem TY_164 : zeroOf Tryd.prog 13 = some [.t (.str []), .t (.int .u64 0)] := by kernel_rfl
theorem TY_165 : isInt Tryd.prog 13 = none := by kernel_rfl
theorem TY_166 : szOf Tryd.prog 14 = 2 := by kernel_rfl
theorem TY_167 : aggOf Tryd.prog 14 = true := by kernel_rfl
theorem TY_168 : known Tryd.prog 14 = true := by kernel_rfl
theorem TY_169 : Tryd.prog.bytesOf 14 = 24 := by kernel_rfl
theorem TY_170 : elOf Tryd.prog 14 = none := by kernel_rfl
theorem TY_171 : isStr Tryd.prog 14 = false := by kernel_rfl
theorem TY_172 : isSl Tryd.prog 14 = false := by kernel_rfl
theorem TY_173 : isBoolT Tryd.prog 14 = false := by kernel_rfl
theorem TY_174 : isIf Tryd.prog 14 = false := by kernel_rfl
theorem TY_175 : strOK Tryd.prog 14 = true := by kernel_rfl
theorem TY_176 : fOf Tryd.prog 14 0 = some (0, 1, false) := by kernel_rfl
theorem TY_177 : fTy Tryd.prog 14 0 = 9 := by kernel_rfl
theorem TY_178 : fOf Tryd.prog 14 1 = some (1, 1, false) := by kernel_rfl
theorem TY_179 : fTy Tryd.prog 14 1 = 12 := by kernel_rfl
theorem TY_180 : zeroOf Tryd.prog 14 = some [.t (.str []), .t (.int .u64 0)] := by kernel_rfl
theorem TY_181 : isInt Tryd.prog 14 = none := by kernel_rfl
theorem TY_182 : szOf Tryd.prog 15 = 1 := by kernel_rfl
theorem TY_183 : aggOf Tryd.prog 15 = false := by kernel_rfl
theorem TY_184 : known Tryd.prog 15 = true := by kernel_rfl
theorem TY_185 : Tryd.prog.bytesOf 15 = 8 := by kernel_rfl
theorem TY_186 : elOf Tryd.prog 15 = none := by kernel_rfl
theorem TY_187 : isStr Tryd.prog 15 = false := by kernel_rfl
theorem TY_188 : isSl Tryd.prog 15 = false := by kernel_rfl
theorem TY_189 : isBoolT Tryd.prog 15 = false := by kernel_rfl
theorem TY_190 : isIf Tryd.prog 15 = false := by kernel_rfl
theorem TY_191 : zeroOf Tryd.prog 15 = some [.t .nilp] := by kernel_rfl
theorem TY_192 : isInt Tryd.prog 15 = none := by kernel_rfl
theorem TY_193 : szOf Tryd.prog 16 = 1 := by kernel_rfl
theorem TY_194 : aggOf Tryd.prog 16 = false := by kernel_rfl
theorem TY_195 : known Tryd.prog 16 = true := by kernel_rfl
theorem TY_196 : Tryd.prog.bytesOf 16 = 8 := by kernel_rfl
theorem TY_197 : elOf Tryd.prog 16 = none := by kernel_rfl
theorem TY_198 : isStr Tryd.prog 16 = false := by kernel_rfl
theorem TY_199 : isSl Tryd.prog 16 = false := by kernel_rfl
theorem TY_200 : isBoolT Tryd.prog 16 = false := by kernel_rfl
theorem TY_201 : isIf Tryd.prog 16 = false := by kernel_rfl
theorem TY_202 : zeroOf Tryd.prog 16 = some [.t .nilp] := by kernel_rfl
theorem TY_203 : isInt Tryd.prog 16 = none := by kernel_rfl
theorem TY_204 : szOf Tryd.prog 17 = 1 := by kernel_rfl
theorem TY_205 : aggOf Tryd.prog 17 = false := by kernel_rfl
theorem TY_206 : known Tryd.prog 17 = true := by kernel_rfl
theorem TY_207 : Tryd.prog.bytesOf 17 = 8 := by kernel_rfl
theorem TY_208 : elOf Tryd.prog 17 = none := by kernel_rfl
theorem TY_209 : isStr Tryd.prog 17 = false := by kernel_rfl
theorem TY_210 : isSl Tryd.prog 17 = false := by kernel_rfl
theorem TY_211 : isBoolT Tryd.prog 17 = false := by kernel_rfl
theorem TY_212 : isIf Tryd.prog 17 = false := by kernel_rfl
theorem TY_213 : zeroOf Tryd.prog 17 = some [.t .nilp] := by kernel_rfl
theorem TY_214 : isInt Tryd.prog 17 = none := by kernel_rfl
theorem TY_215 : szOf Tryd.prog 18 = 1 := by kernel_rfl
theorem TY_216 : aggOf Tryd.prog 18 = true := by kernel_rfl
theorem TY_217 : known Tryd.prog 18 = true := by kernel_rfl
theorem TY_218 : Tryd.prog.bytesOf 18 = 8 := by kernel_rfl
theorem TY_219 : elOf Tryd.prog 18 = none := by kernel_rfl
theorem TY_220 : isStr Tryd.prog 18 = false := by kernel_rfl
theorem TY_221 : isSl Tryd.prog 18 = false := by kernel_rfl
theorem TY_222 : isBoolT Tryd.prog 18 = false := by kernel_rfl
theorem TY_223 : isIf Tryd.prog 18 = false := by kernel_rfl
theorem TY_224 : strOK Tryd.prog 18 = true := by kernel_rfl
theorem TY_225 : fOf Tryd.prog 18 0 = some (0, 1, false) := by kernel_rfl
theorem TY_226 : fTy Tryd.prog 18 0 = 17 := by kernel_rfl
theorem TY_227 : zeroOf Tryd.prog 18 = some [.t .nilp] := by kernel_rfl
theorem TY_228 : isInt Tryd.prog 18 = none := by kernel_rfl
theorem TY_229 : szOf Tryd.prog 19 = 1 := by kernel_rfl
theorem TY_230 : aggOf Tryd.prog 19 = true := by kernel_rfl
theorem TY_231 : known Tryd.prog 19 = true := by kernel_rfl
theorem TY_232 : Tryd.prog.bytesOf 19 = 8 := by kernel_rfl
theorem TY_233 : elOf Tryd.prog 19 = none := by kernel_rfl
theorem TY_234 : isStr Tryd.prog 19 = false := by kernel_rfl
theorem TY_235 : isSl Tryd.prog 19 = false := by kernel_rfl
theorem TY_236 : isBoolT Tryd.prog 19 = false := by kernel_rfl
theorem TY_237 : isIf Tryd.prog 19 = false := by kernel_rfl
theorem TY_238 : strOK Tryd.prog 19 = true := by kernel_rfl
theorem TY_239 : fOf Tryd.prog 19 0 = some (0, 1, false) := by kernel_rfl
theorem TY_240 : fTy Tryd.prog 19 0 = 17 := by kernel_rfl
theorem TY_241 : zeroOf Tryd.prog 19 = some [.t .nilp] := by kernel_rfl
theorem TY_242 : isInt Tryd.prog 19 = none := by kernel_rfl
theorem TY_243 : szOf Tryd.prog 20 = 1 := by kernel_rfl
theorem TY_244 : aggOf Tryd.prog 20 = false := by kernel_rfl
theorem TY_245 : known Tryd.prog 20 = true := by kernel_rfl
theorem TY_246 : Tryd.prog.bytesOf 20 = 16 := by kernel_rfl
theorem TY_247 : elOf Tryd.prog 20 = none := by kernel_rfl
theorem TY_248 : isStr Tryd.prog 20 = false := by kernel_rfl
theorem TY_249 : isSl Tryd.prog 20 = false := by kernel_rfl
theorem TY_250 : isBoolT Tryd.prog 20 = false := by kernel_rfl
theorem TY_251 : isIf Tryd.prog 20 = true := by kernel_rfl
theorem TY_252 : zeroOf Tryd.prog 20 = some [.t .nili] := by kernel_rfl
theorem TY_253 : isInt Tryd.prog 20 = none := by kernel_rfl
theorem TY_254 : szOf Tryd.prog 21 = 1 := by kernel_rfl
theorem TY_255 : aggOf Tryd.prog 21 = false := by kernel_rfl
theorem TY_256 : known Tryd.prog 21 = true := by kernel_rfl
theorem TY_257 : Tryd.prog.bytesOf 21 = 4 := by kernel_rfl
theorem TY_258 : elOf Tryd.prog 21 = none := by kernel_rfl
theorem TY_259 : isStr Tryd.prog 21 = false := by kernel_rfl
theorem TY_260 : isSl Tryd.prog 21 = false := by kernel_rfl
theorem TY_261 : isBoolT Tryd.prog 21 = false := by kernel_rfl
theorem TY_262 : isIf Tryd.prog 21 = false := by kernel_rfl
theorem TY_263 : zeroOf Tryd.prog 21 = some [.t (.int .i32 0)] := by kernel_rfl
theorem TY_264 : isInt Tryd.prog 21 = some .i32 := by kernel_rfl
theorem TY_265 : szOf Tryd.prog 22 = 1 := by kernel_rfl
theorem TY_266 : aggOf Tryd.prog 22 = false := by kernel_rfl
theorem TY_267 : known Tryd.prog 22 = true := by kernel_rfl
theorem TY_268 : Tryd.prog.bytesOf 22 = 24 := by kernel_rfl
theorem TY_269 : elOf Tryd.prog 22 = some 9 := by kernel_rfl
theorem TY_270 : isStr Tryd.prog 22 = false := by kernel_rfl
theorem TY_271 : isSl Tryd.prog 22 = true := by kernel_rfl
theorem TY_272 : isBoolT Tryd.prog 22 = false := by kernel_rfl
theorem TY_273 : isIf Tryd.prog 22 = false := by kernel_rfl
theorem TY_274 : zeroOf Tryd.prog 22 = some [.nil 1] := by kernel_rfl
theorem TY_275 : isInt Tryd.prog 22 = none := by kernel_rfl
theorem TY_276 : szOf Tryd.prog 23 = 1 := by kernel_rfl
theorem TY_277 : aggOf Tryd.prog 23 = false := by kernel_rfl
theorem TY_278 : known Tryd.prog 23 = true := by kernel_rfl
theorem TY_279 : Tryd.prog.bytesOf 23 = 24 := by kernel_rfl
theorem TY_280 : elOf Tryd.prog 23 = some 25 := by kernel_rfl
theorem TY_281 : isStr Tryd.prog 23 = false := by kernel_rfl
theorem TY_282 : isSl Tryd.prog 23 = true := by kernel_rfl
theorem TY_283 : isBoolT Tryd.prog 23 = false := by kernel_rfl
theorem TY_284 : isIf Tryd.prog 23 = false := by kernel_rfl
theorem TY_285 : zeroOf Tryd.prog 23 = some [.nil 5] := by kernel_rfl
theorem TY_286 : isInt Tryd.prog 23 = none := by kernel_rfl
theorem TY_287 : szOf Tryd.prog 24 = 5 := by kernel_rfl
theorem TY_288 : aggOf Tryd.prog 24 = true := by kernel_rfl
theorem TY_289 : known Tryd.prog 24 = true := by kernel_rfl
theorem TY_290 : Tryd.prog.bytesOf 24 = 80 := by kernel_rfl
theorem TY_291 : elOf Tryd.prog 24 = none := by kernel_rfl
theorem TY_292 : isStr Tryd.prog 24 = false := by kernel_rfl
theorem TY_293 : isSl Tryd.prog 24 = false := by kernel_rfl
theorem TY_294 : isBoolT Tryd.prog 24 = false := by kernel_rfl
theorem TY_295 : isIf Tryd.prog 24 = false := by kernel_rfl
theorem TY_296 : strOK Tryd.prog 24 = true := by kernel_rfl
theorem TY_297 : fOf Tryd.prog 24 0 = some (0, 1, false) := by kernel_rfl
theorem TY_298 : fTy Tryd.prog 24 0 = 3 := by kernel_rfl
theorem TY_299 : fOf Tryd.prog 24 1 = some (1, 1, false) := by kernel_rfl
theorem TY_300 : fTy Tryd.prog 24 1 = 3 := by kernel_rfl
theorem TY_301 : fOf Tryd.prog 24 2 = some (2, 1, false) := by kernel_rfl
theorem TY_302 : fTy Tryd.prog 24 2 = 9 := by kernel_rfl
theorem TY_303 : fOf Tryd.prog 24 3 = some (3, 1, false) := by kernel_rfl
theorem TY_304 : fTy Tryd.prog 24 3 = 22 := by kernel_rfl
theorem TY_305 : fOf Tryd.prog 24 4 = some (4, 1, false) := by kernel_rfl
theorem TY_306 : fTy Tryd.prog 24 4 = 23 := by kernel_rfl
theorem TY_307 : zeroOf Tryd.prog 24 = some [.t (.int .i64 0), .t (.int .i64 0), .t (.str []), .nil 1, .nil 5] := by kernel_rfl
theorem TY_308 : isInt Tryd.prog 24 = none := by kernel_rfl
theorem TY_309 : szOf Tryd.prog 25 = 5 := by kernel_rfl
theorem TY_310 : aggOf Tryd.prog 25 = true := by kernel_rfl
theorem TY_311 : known Tryd.prog 25 = true := by kernel_rfl
theorem TY_312 : Tryd.prog.bytesOf 25 = 80 := by kernel_rfl
theorem TY_313 : elOf Tryd.prog 25 = none := by kernel_rfl
theorem TY_314 : isStr Tryd.prog 25 = false := by kernel_rfl
theorem TY_315 : isSl Tryd.prog 25 = false := by kernel_rfl
theorem TY_316 : isBoolT Tryd.prog 25 = false := by kernel_rfl
theorem TY_317 : isIf Tryd.prog 25 = false := by kernel_rfl
theorem TY_318 : strOK Tryd.prog 25 = true := by kernel_rfl
theorem TY_319 : fOf Tryd.prog 25 0 = some (0, 1, false) := by kernel_rfl
theorem TY_320 : fTy Tryd.prog 25 0 = 3 := by kernel_rfl
theorem TY_321 : fOf Tryd.prog 25 1 = some (1, 1, false) := by kernel_rfl
theorem TY_322 : fTy Tryd.prog 25 1 = 3 := by kernel_rfl
theorem TY_323 : fOf Tryd.prog 25 2 = some (2, 1, false) := by kernel_rfl
theorem TY_324 : fTy Tryd.prog 25 2 = 9 := by kernel_rfl
theorem TY_325 : fOf Tryd.prog 25 3 = some (3, 1, false) := by kernel_rfl
theorem TY_326 : fTy Tryd.prog 25 3 = 22 := by kernel_rfl
theorem TY_327 : fOf Tryd.prog 25 4 = some (4, 1, false) := by kernel_rfl
theorem TY_328 : fTy Tryd.prog 25 4 = 23 := by kernel_rfl
theorem TY_329 : zeroOf Tryd.prog 25 = some [.t (.int .i64 0), .t (.int .i64 0), .t (.str []), .nil 1, .nil 5] := by kernel_rfl
theorem TY_330 : isInt Tryd.prog 25 = none := by kernel_rfl
theorem TY_331 : szOf Tryd.prog 26 = 1 := by kernel_rfl
theorem TY_332 : aggOf Tryd.prog 26 = false := by kernel_rfl
theorem TY_333 : known Tryd.prog 26 = true := by kernel_rfl
theorem TY_334 : Tryd.prog.bytesOf 26 = 8 := by kernel_rfl
theorem TY_335 : elOf Tryd.prog 26 = none := by kernel_rfl
theorem TY_336 : isStr Tryd.prog 26 = false := by kernel_rfl
theorem TY_337 : isSl Tryd.prog 26 = false := by kernel_rfl
theorem TY_338 : isBoolT Tryd.prog 26 = false := by kernel_rfl
theorem TY_339 : isIf Tryd.prog 26 = false := by kernel_rfl
theorem TY_340 : zeroOf Tryd.prog 26 = some [.t .nilf] := by kernel_rfl
theorem TY_341 : isInt Tryd.prog 26 = none := by kernel_rfl
theorem TY_342 : szOf Tryd.prog 27 = 1 := by kernel_rfl
theorem TY_343 : aggOf Tryd.prog 27 = false := by kernel_rfl
theorem TY_344 : known Tryd.prog 27 = true := by kernel_rfl
theorem TY_345 : Tryd.prog.bytesOf 27 = 8 := by kernel_rfl
theorem TY_346 : elOf Tryd.prog 27 = none := by kernel_rfl
theorem TY_347 : isStr Tryd.prog 27 = false := by kernel_rfl
theorem TY_348 : isSl Tryd.prog 27 = false := by kernel_rfl
theorem TY_349 : isBoolT Tryd.prog 27 = false := by kernel_rfl
theorem TY_350 : isIf Tryd.prog 27 = false := by kernel_rfl
theorem TY_351 : zeroOf Tryd.prog 27 = some [.t .nilf] := by kernel_rfl
theorem TY_352 : isInt Tryd.prog 27 = none := by kernel_rfl
theorem TY_353 : szOf Tryd.prog 28 = 1 := by kernel_rfl
theorem TY_354 : aggOf Tryd.prog 28 = false := by kernel_rfl
theorem TY_355 : known Tryd.prog 28 = true := by kernel_rfl
theorem TY_356 : Tryd.prog.bytesOf 28 = 24 := by kernel_rfl
theorem TY_357 : elOf Tryd.prog 28 = some 30 := by kernel_rfl
theorem TY_358 : isStr Tryd.prog 28 = false := by kernel_rfl
theorem TY_359 : isSl Tryd.prog 28 = true := by kernel_rfl
theorem TY_360 : isBoolT Tryd.prog 28 = false := by kernel_rfl
theorem TY_361 : isIf Tryd.prog 28 = false := by kernel_rfl
theorem TY_362 : zeroOf Tryd.prog 28 = some [.nil 5] := by kernel_rfl
theorem TY_363 : isInt Tryd.prog 28 = none := by kernel_rfl
theorem TY_364 : szOf Tryd.prog 29 = 5 := by kernel_rfl
theorem TY_365 : aggOf Tryd.prog 29 = true := by kernel_rfl
theorem TY_366 : known Tryd.prog 29 = true := by kernel_rfl
theorem TY_367 : Tryd.prog.bytesOf 29 = 80 := by kernel_rfl
theorem TY_368 : elOf Tryd.prog 29 = none := by kernel_rfl
theorem TY_369 : isStr Tryd.prog 29 = false := by kernel_rfl
theorem TY_370 : isSl Tryd.prog 29 = false := by kernel_rfl
theorem TY_371 : isBoolT Tryd.prog 29 = false := by kernel_rfl
theorem TY_372 : isIf Tryd.prog 29 = false := by kernel_rfl
theorem TY_373 : strOK Tryd.prog 29 = true := by kernel_rfl
theorem TY_374 : fOf Tryd.prog 29 0 = some (0, 1, false) := by kernel_rfl
theorem TY_375 : fTy Tryd.prog 29 0 = 3 := by kernel_rfl
theorem TY_376 : fOf Tryd.prog 29 1 = some (1, 1, false) := by kernel_rfl
theorem TY_377 : fTy Tryd.prog 29 1 = 3 := by kernel_rfl
theorem TY_378 : fOf Tryd.prog 29 2 = some (2, 1, false) := by kernel_rfl
theorem TY_379 : fTy Tryd.prog 29 2 = 9 := by kernel_rfl
theorem TY_380 : fOf Tryd.prog 29 3 = some (3, 1, false) := by kernel_rfl
theorem TY_381 : fTy Tryd.prog 29 3 = 22 := by kernel_rfl
theorem TY_382 : fOf Tryd.prog 29 4 = some (4, 1, false) := by kernel_rfl
theorem TY_383 : fTy Tryd.prog 29 4 = 28 := by kernel_rfl
theorem TY_384 : zeroOf Tryd.prog 29 = some [.t (.int .i64 0), .t (.int .i64 0), .t (.str []), .nil 1, .nil 5] := by kernel_rfl
theorem TY_385 : isInt Tryd.prog 29 = none := by kernel_rfl
theorem TY_386 : szOf Tryd.prog 30 = 5 := by kernel_rfl
theorem TY_387 : aggOf Tryd.prog 30 = true := by kernel_rfl
theorem TY_388 : known Tryd.prog 30 = true := by kernel_rfl
theorem TY_389 : Tryd.prog.bytesOf 30 = 80 := by kernel_rfl
theorem TY_390 : elOf Tryd.prog 30 = none := by kernel_rfl
theorem TY_391 : isStr Tryd.prog 30 = false := by kernel_rfl
theorem TY_392 : isSl Tryd.prog 30 = false := by kernel_rfl
theorem TY_393 : isBoolT Tryd.prog 30 = false := by kernel_rfl
theorem TY_394 : isIf Tryd.prog 30 = false := by kernel_rfl
theorem TY_395 : strOK Tryd.prog 30 = true := by kernel_rfl
theorem TY_396 : fOf Tryd.prog 30 0 = some (0, 1, false) := by kernel_rfl
theorem TY_397 : fTy Tryd.prog 30 0 = 3 := by kernel_rfl
theorem TY_398 : fOf Tryd.prog 30 1 = some (1, 1, false) := by kernel_rfl
theorem TY_399 : fTy Tryd.prog 30 1 = 3 := by kernel_rfl
theorem TY_400 : fOf Tryd.prog 30 2 = some (2, 1, false) := by kernel_rfl
theorem TY_401 : fTy Tryd.prog 30 2 = 9 := by kernel_rfl
theorem TY_402 : fOf Tryd.prog 30 3 = some (3, 1, false) := by kernel_rfl
theorem TY_403 : fTy Tryd.prog 30 3 = 22 := by kernel_rfl
theorem TY_404 : fOf Tryd.prog 30 4 = some (4, 1, false) := by kernel_rfl
theorem TY_405 : fTy Tryd.prog 30 4 = 28 := by kernel_rfl
theorem TY_406 : zeroOf Tryd.prog 30 = some [.t (.int .i64 0), .t (.int .i64 0), .t (.str []), .nil 1, .nil 5] := by kernel_rfl
theorem TY_407 : isInt Tryd.prog 30 = none := by kernel_rfl
theorem TY_408 : szOf Tryd.prog 31 = 1 := by kernel_rfl
theorem TY_409 : aggOf Tryd.prog 31 = false := by kernel_rfl
theorem TY_410 : known Tryd.prog 31 = true := by kernel_rfl
theorem TY_411 : Tryd.prog.bytesOf 31 = 8 := by kernel_rfl
theorem TY_412 : elOf Tryd.prog 31 = none := by kernel_rfl
theorem TY_413 : isStr Tryd.prog 31 = false := by kernel_rfl
theorem TY_414 : isSl Tryd.prog 31 = false := by kernel_rfl
theorem TY_415 : isBoolT Tryd.prog 31 = false := by kernel_rfl
theorem TY_416 : isIf Tryd.prog 31 = false := by kernel_rfl
theorem TY_417 : zeroOf Tryd.prog 31 = some [.t .nilf] := by kernel_rfl
theorem TY_418 : isInt Tryd.prog 31 = none := by kernel_rfl
theorem TY_419 : szOf Tryd.prog 32 = 1 := by kernel_rfl
theorem TY_420 : aggOf Tryd.prog 32 = false := by kernel_rfl
theorem TY_421 : known Tryd.prog 32 = true := by kernel_rfl
theorem TY_422 : Tryd.prog.bytesOf 32 = 8 := by kernel_rfl
theorem TY_423 : elOf Tryd.prog 32 = none := by kernel_rfl
theorem TY_424 : isStr Tryd.prog 32 = false := by kernel_rfl
theorem TY_425 : isSl Tryd.prog 32 = false := by kernel_rfl
theorem TY_426 : isBoolT Tryd.prog 32 = false := by kernel_rfl
theorem TY_427 : isIf Tryd.prog 32 = false := by kernel_rfl
theorem TY_428 : zeroOf Tryd.prog 32 = some [.t .nilf] := by kernel_rfl
theorem TY_429 : isInt Tryd.prog 32 = none := by kernel_rfl
theorem TY_430 : szOf Tryd.prog 33 = 1 := by kernel_rfl
theorem TY_431 : aggOf Tryd.prog 33 = false := by kernel_rfl
theorem TY_432 : known Tryd.prog 33 = true := by kernel_rfl
theorem TY_433 : Tryd.prog.bytesOf 33 = 8 := by kernel_rfl
theorem TY_434 : elOf Tryd.prog 33 = none := by kernel_rfl
theorem TY_435 : isStr Tryd.prog 33 = false := by kernel_rfl
theorem TY_436 : isSl Tryd.prog 33 = false := by kernel_rfl
theorem TY_437 : isBoolT Tryd.prog 33 = false := by kernel_rfl
theorem TY_438 : isIf Tryd.prog 33 = false := by kernel_rfl
theorem TY_439 : zeroOf Tryd.prog 33 = some [.t .nilf] := by kernel_rfl
theorem TY_440 : isInt Tryd.prog 33 = none := by kernel_rfl
theorem TY_441 : szOf Tryd.prog 34 = 1 := by kernel_rfl
theorem TY_442 : aggOf Tryd.prog 34 = false := by kernel_rfl
theorem TY_443 : known Tryd.prog 34 = true := by kernel_rfl
theorem TY_444 : Tryd.prog.bytesOf 34 = 8 := by kernel_rfl
theorem TY_445 : elOf Tryd.prog 34 = none := by kernel_rfl
theorem TY_446 : isStr Tryd.prog 34 = false := by kernel_rfl
theorem TY_447 : isSl Tryd.prog 34 = false := by kernel_rfl
theorem TY_448 : isBoolT Tryd.prog 34 = false := by kernel_rfl
theorem TY_449 : isIf Tryd.prog 34 = false := by kernel_rfl
theorem TY_450 : zeroOf Tryd.prog 34 = some [.t .nilf] := by kernel_rfl
theorem TY_451 : isInt Tryd.prog 34 = none := by kernel_rfl
theorem TY_452 : szOf Tryd.prog 35 = 1 := by kernel_rfl
theorem TY_453 : aggOf Tryd.prog 35 = false := by kernel_rfl
theorem TY_454 : known Tryd.prog 35 = true := by kernel_rfl
theorem TY_455 : Tryd.prog.bytesOf 35 = 8 := by kernel_rfl
theorem TY_456 : elOf Tryd.prog 35 = none := by kernel_rfl
theorem TY_457 : isStr Tryd.prog 35 = false := by kernel_rfl
theorem TY_458 : isSl Tryd.prog 35 = false := by kernel_rfl
theorem TY_459 : isBoolT Tryd.prog 35 = false := by kernel_rfl
theorem TY_460 : isIf Tryd.prog 35 = false := by kernel_rfl
theorem TY_461 : zeroOf Tryd.prog 35 = some [.t .nilf] := by kernel_rfl
theorem TY_462 : isInt Tryd.prog 35 = none := by kernel_rfl
theorem TY_463 : szOf Tryd.prog 36 = 1 := by kernel_rfl
theorem TY_464 : aggOf Tryd.prog 36 = false := by kernel_rfl
theorem TY_465 : known Tryd.prog 36 = true := by kernel_rfl
theorem TY_466 : Tryd.prog.bytesOf 36 = 8 := by kernel_rfl
theorem TY_467 : elOf Tryd.prog 36 = none := by kernel_rfl
theorem TY_468 : isStr Tryd.prog 36 = false := by kernel_rfl
theorem TY_469 : isSl Tryd.prog 36 = false := by kernel_rfl
theorem TY_470 : isBoolT Tryd.prog 36 = false := by kernel_rfl
theorem TY_471 : isIf Tryd.prog 36 = false := by kernel_rfl
theorem TY_472 : zeroOf Tryd.prog 36 = some [.t .nilf] := by kernel_rfl
theorem TY_473 : isInt Tryd.prog 36 = none := by kernel_rfl
theorem TY_474 : szOf Tryd.prog 37 = 1 := by kernel_rfl
theorem TY_475 : aggOf Tryd.prog 37 = false := by kernel_rfl
theorem TY_476 : known Tryd.prog 37 = true := by kernel_rfl
theorem TY_477 : Tryd.prog.bytesOf 37 = 8 := by kernel_rfl
theorem TY_478 : elOf Tryd.prog 37 = none := by kernel_rfl
theorem TY_479 : isStr Tryd.prog 37 = false := by kernel_rfl
theorem TY_480 : isSl Tryd.prog 37 = false := by kernel_rfl
theorem TY_481 : isBoolT Tryd.prog 37 = false := by kernel_rfl
theorem TY_482 : isIf Tryd.prog 37 = false := by kernel_rfl
theorem TY_483 : zeroOf Tryd.prog 37 = some [.t .nilf] := by kernel_rfl
theorem TY_484 : isInt Tryd.prog 37 = none := by kernel_rfl
theorem TY_485 : szOf Tryd.prog 38 = 1 := by kernel_rfl
theorem TY_486 : aggOf Tryd.prog 38 = false := by kernel_rfl
theorem TY_487 : known Tryd.prog 38 = true := by kernel_rfl
theorem TY_488 : Tryd.prog.bytesOf 38 = 8 := by kernel_rfl
theorem TY_489 : elOf Tryd.prog 38 = none := by kernel_rfl
theorem TY_490 : isStr Tryd.prog 38 = false := by kernel_rfl
theorem TY_491 : isSl Tryd.prog 38 = false := by kernel_rfl
theorem TY_492 : isBoolT Tryd.prog 38 = false := by kernel_rfl
theorem TY_493 : isIf Tryd.prog 38 = false := by kernel_rfl
theorem TY_494 : zeroOf Tryd.prog 38 = some [.t .nilf] := by kernel_rfl
theorem TY_495 : isInt Tryd.prog 38 = none := by kernel_rfl
theorem TY_496 : szOf Tryd.prog 39 = 1 := by kernel_rfl
theorem TY_497 : aggOf Tryd.prog 39 = false := by kernel_rfl
theorem TY_498 : known Tryd.prog 39 = true := by kernel_rfl
theorem TY_499 : Tryd.prog.bytesOf 39 = 8 := by kernel_rfl
theorem TY_500 : elOf Tryd.prog 39 = none := by kernel_rfl
theorem TY_501 : isStr Tryd.prog 39 = false := by kernel_rfl
theorem TY_502 : isSl Tryd.prog 39 = false := by kernel_rfl
theorem TY_503 : isBoolT Tryd.prog 39 = false := by kernel_rfl
theorem TY_504 : isIf Tryd.prog 39 = false := by kernel_rfl
theorem TY_505 : zeroOf Tryd.prog 39 = some [.t .nilf] := by kernel_rfl
theorem TY_506 : isInt Tryd.prog 39 = none := by kernel_rfl
theorem TY_507 : szOf Tryd.prog 40 = 1 := by kernel_rfl
theorem TY_508 : aggOf Tryd.prog 40 = false := by kernel_rfl
theorem TY_509 : known Tryd.prog 40 = true := by kernel_rfl
theorem TY_510 : Tryd.prog.bytesOf 40 = 8 := by kernel_rfl
theorem TY_511 : elOf Tryd.prog 40 = none := by kernel_rfl
theorem TY_512 : isStr Tryd.prog 40 = false := by kernel_rfl
theorem TY_513 : isSl Tryd.prog 40 = false := by kernel_rfl
theorem TY_514 : isBoolT Tryd.prog 40 = false := by kernel_rfl
theorem TY_515 : isIf Tryd.prog 40 = false := by kernel_rfl
theorem TY_516 : zeroOf Tryd.prog 40 = some [.t .nilf] := by kernel_rfl
theorem TY_517 : isInt Tryd.prog 40 = none := by kernel_rfl
theorem TY_518 : szOf Tryd.prog 41 = 1 := by kernel_rfl
theorem TY_519 : aggOf Tryd.prog 41 = false := by kernel_rfl
theorem TY_520 : known Tryd.prog 41 = true := by kernel_rfl
theorem TY_521 : Tryd.prog.bytesOf 41 = 8 := by kernel_rfl
theorem TY_522 : elOf Tryd.prog 41 = none := by kernel_rfl
theorem TY_523 : isStr Tryd.prog 41 = false := by kernel_rfl
theorem TY_524 : isSl Tryd.prog 41 = false := by kernel_rfl
theorem TY_525 : isBoolT Tryd.prog 41 = false := by kernel_rfl
theorem TY_526 : isIf Tryd.prog 41 = false := by kernel_rfl
theorem TY_527 : zeroOf Tryd.prog 41 = some [.t .nilf] := by kernel_rfl
theorem TY_528 : isInt Tryd.prog 41 = none := by kernel_rfl
theorem TY_529 : szOf Tryd.prog 42 = 1 := by kernel_rfl
theorem TY_530 : aggOf Tryd.prog 42 = false := by kernel_rfl
theorem TY_531 : known Tryd.prog 42 = true := by kernel_rfl
theorem TY_532 : Tryd.prog.bytesOf 42 = 8 := by kernel_rfl
theorem TY_533 : elOf Tryd.prog 42 = none := by kernel_rfl
theorem TY_534 : isStr Tryd.prog 42 = false := by kernel_rfl
theorem TY_535 : isSl Tryd.prog 42 = false := by kernel_rfl
theorem TY_536 : isBoolT Tryd.prog 42 = false := by kernel_rfl
theorem TY_537 : isIf Tryd.prog 42 = false := by kernel_rfl
theorem TY_538 : zeroOf Tryd.prog 42 = some [.t .nilf] := by kernel_rfl
theorem TY_539 : isInt Tryd.prog 42 = none := by kernel_rfl
theorem TY_540 : szOf Tryd.prog 43 = 1 := by kernel_rfl
theorem TY_541 : aggOf Tryd.prog 43 = false := by kernel_rfl
theorem TY_542 : known Tryd.prog 43 = true := by kernel_rfl
theorem TY_543 : Tryd.prog.bytesOf 43 = 8 := by kernel_rfl
theorem TY_544 : elOf Tryd.prog 43 = none := by kernel_rfl
theorem TY_545 : isStr Tryd.prog 43 = false := by kernel_rfl
theorem TY_546 : isSl Tryd.prog 43 = false := by kernel_rfl
theorem TY_547 : isBoolT Tryd.prog 43 = false := by kernel_rfl
theorem TY_548 : isIf Tryd.prog 43 = false := by kernel_rfl
theorem TY_549 : zeroOf Tryd.prog 43 = some [.t .nilf] := by kernel_rfl
theorem TY_550 : isInt Tryd.prog 43 = none := by kernel_rfl
theorem TY_551 : szOf Tryd.prog 44 = 1 := by kernel_rfl
theorem TY_552 : aggOf Tryd.prog 44 = false := by kernel_rfl
theorem TY_553 : known Tryd.prog 44 = true := by kernel_rfl
theorem TY_554 : Tryd.prog.bytesOf 44 = 8 := by kernel_rfl
theorem TY_555 : elOf Tryd.prog 44 = none := by kernel_rfl
theorem TY_556 : isStr Tryd.prog 44 = false := by kernel_rfl
theorem TY_557 : isSl Tryd.prog 44 = false := by kernel_rfl
theorem TY_558 : isBoolT Tryd.prog 44 = false := by kernel_rfl
theorem TY_559 : isIf Tryd.prog 44 = false := by kernel_rfl
theorem TY_560 : zeroOf Tryd.prog 44 = some [.t .nilf] := by kernel_rfl
theorem TY_561 : isInt Tryd.prog 44 = none := by kernel_rfl
theorem TY_562 : szOf Tryd.prog 45 = 1 := by kernel_rfl
theorem TY_563 : aggOf Tryd.prog 45 = false := by kernel_rfl
theorem TY_564 : known Tryd.prog 45 = true := by kernel_rfl
theorem TY_565 : Tryd.prog.bytesOf 45 = 8 := by kernel_rfl
theorem TY_566 : elOf Tryd.prog 45 = none := by kernel_rfl
theorem TY_567 : isStr Tryd.prog 45 = false := by kernel_rfl
theorem TY_568 : isSl Tryd.prog 45 = false := by kernel_rfl
theorem TY_569 : isBoolT Tryd.prog 45 = false := by kernel_rfl
theorem TY_570 : isIf Tryd.prog 45 = false := by kernel_rfl
theorem TY_571 : zeroOf Tryd.prog 45 = some [.t .nilf] := by kernel_rfl
theorem TY_572 : isInt Tryd.prog 45 = none := by kernel_rfl
theorem TY_573 : szOf Tryd.prog 46 = 1 := by kernel_rfl
theorem TY_574 : aggOf Tryd.prog 46 = false := by kernel_rfl
theorem TY_575 : known Tryd.prog 46 = true := by kernel_rfl
theorem TY_576 : Tryd.prog.bytesOf 46 = 8 := by kernel_rfl
theorem TY_577 : elOf Tryd.prog 46 = none := by kernel_rfl
theorem TY_578 : isStr Tryd.prog 46 = false := by kernel_rfl
theorem TY_579 : isSl Tryd.prog 46 = false := by kernel_rfl
theorem TY_580 : isBoolT Tryd.prog 46 = false := by kernel_rfl
theorem TY_581 : isIf Tryd.prog 46 = false := by kernel_rfl
theorem TY_582 : zeroOf Tryd.prog 46 = some [.t .nilf] := by kernel_rfl
theorem TY_583 : isInt Tryd.prog 46 = none := by kernel_rfl
theorem TY_584 : szOf Tryd.prog 47 = 1 := by kernel_rfl
theorem TY_585 : aggOf Tryd.prog 47 = false := by kernel_rfl
theorem TY_586 : known Tryd.prog 47 = true := by kernel_rfl
theorem TY_587 : Tryd.prog.bytesOf 47 = 8 := by kernel_rfl
theorem TY_588 : elOf Tryd.prog 47 = none := by kernel_rfl
theorem TY_589 : isStr Tryd.prog 47 = false := by kernel_rfl
theorem TY_590 : isSl Tryd.prog 47 = false := by kernel_rfl
theorem TY_591 : isBoolT Tryd.prog 47 = false := by kernel_rfl
theorem TY_592 : isIf Tryd.prog 47 = false := by kernel_rfl
theorem TY_593 : zeroOf Tryd.prog 47 = some [.t .nilp] := by kernel_rfl
theorem TY_594 : isInt Tryd.prog 47 = none := by kernel_rfl
theorem TY_595 : szOf Tryd.prog 48 = 1 := by kernel_rfl
theorem TY_596 : aggOf Tryd.prog 48 = false := by kernel_rfl
theorem TY_597 : known Tryd.prog 48 = true := by kernel_rfl
theorem TY_598 : Tryd.prog.bytesOf 48 = 8 := by kernel_rfl
theorem TY_599 : elOf Tryd.prog 48 = none := by kernel_rfl
theorem TY_600 : isStr Tryd.prog 48 = false := by kernel_rfl
theorem TY_601 : isSl Tryd.prog 48 = false := by kernel_rfl
theorem TY_602 : isBoolT Tryd.prog 48 = false := by kernel_rfl
theorem TY_603 : isIf Tryd.prog 48 = false := by kernel_rfl
theorem TY_604 : zeroOf Tryd.prog 48 = some [.t .nilf] := by kernel_rfl
theorem TY_605 : isInt Tryd.prog 48 = none := by kernel_rfl
theorem TY_606 : szOf Tryd.prog 49 = 1 := by kernel_rfl
theorem TY_607 : aggOf Tryd.prog 49 = false := by kernel_rfl
theorem TY_608 : known Tryd.prog 49 = true := by kernel_rfl
theorem TY_609 : Tryd.prog.bytesOf 49 = 24 := by kernel_rfl
theorem TY_610 : elOf Tryd.prog 49 = some 5 := by kernel_rfl
theorem TY_611 : isStr Tryd.prog 49 = false := by kernel_rfl
theorem TY_612 : isSl Tryd.prog 49 = true := by kernel_rfl
theorem TY_613 : isBoolT Tryd.prog 49 = false := by kernel_rfl
theorem TY_614 : isIf Tryd.prog 49 = false := by kernel_rfl
theorem TY_615 : zeroOf Tryd.prog 49 = some [.nil 1] := by kernel_rfl
theorem TY_616 : isInt Tryd.prog 49 = none := by kernel_rfl
theorem TY_617 : szOf Tryd.prog 50 = 1 := by kernel_rfl
theorem TY_618 : aggOf Tryd.prog 50 = false := by kernel_rfl
theorem TY_619 : known Tryd.prog 50 = true := by kernel_rfl
theorem TY_620 : Tryd.prog.bytesOf 50 = 8 := by kernel_rfl
theorem TY_621 : elOf Tryd.prog 50 = none := by kernel_rfl
theorem TY_622 : isStr Tryd.prog 50 = false := by kernel_rfl
theorem TY_623 : isSl Tryd.prog 50 = false := by kernel_rfl
theorem TY_624 : isBoolT Tryd.prog 50 = false := by kernel_rfl
theorem TY_625 : isIf Tryd.prog 50 = false := by kernel_rfl
theorem TY_626 : zeroOf Tryd.prog 50 = some [.t .nilf] := by kernel_rfl
theorem TY_627 : isInt Tryd.prog 50 = none := by kernel_rfl
theorem TY_628 : szOf Tryd.prog 51 = 1 := by kernel_rfl
theorem TY_629 : aggOf Tryd.prog 51 = false := by kernel_rfl
theorem TY_630 : known Tryd.prog 51 = true := by kernel_rfl
theorem TY_631 : Tryd.prog.bytesOf 51 = 8 := by kernel_rfl
theorem TY_632 : elOf Tryd.prog 51 = none := by kernel_rfl
theorem TY_633 : isStr Tryd.prog 51 = false := by kernel_rfl
theorem TY_634 : isSl Tryd.prog 51 = false := by kernel_rfl
theorem TY_635 : isBoolT Tryd.prog 51 = false := by kernel_rfl
theorem TY_636 : isIf Tryd.prog 51 = false := by kernel_rfl
theorem TY_637 : zeroOf Tryd.prog 51 = some [.t .nilf] := by kernel_rfl
theorem TY_638 : isInt Tryd.prog 51 = none := by kernel_rfl
theorem TY_639 : szOf Tryd.prog 52 = 1 := by kernel_rfl
theorem TY_640 : aggOf Tryd.prog 52 = false := by kernel_rfl
theorem TY_641 : known Tryd.prog 52 = true := by kernel_rfl
theorem TY_642 : Tryd.prog.bytesOf 52 = 8 := by kernel_rfl
theorem TY_643 : elOf Tryd.prog 52 = none := by kernel_rfl
theorem TY_644 : isStr Tryd.prog 52 = false := by kernel_rfl
theorem TY_645 : isSl Tryd.prog 52 = false := by kernel_rfl
theorem TY_646 : isBoolT Tryd.prog 52 = false := by kernel_rfl
theorem TY_647 : isIf Tryd.prog 52 = false := by kernel_rfl
theorem TY_648 : zeroOf Tryd.prog 52 = some [.t .nilp] := by kernel_rfl
theorem TY_649 : isInt Tryd.prog 52 = none := by kernel_rfl
theorem TY_650 : szOf Tryd.prog 53 = 2 := by kernel_rfl
theorem TY_651 : aggOf Tryd.prog 53 = true := by kernel_rfl
theorem TY_652 : known Tryd.prog 53 = true := by kernel_rfl
theorem TY_653 : Tryd.prog.bytesOf 53 = 32 := by kernel_rfl
theorem TY_654 : elOf Tryd.prog 53 = none := by kernel_rfl
theorem TY_655 : isStr Tryd.prog 53 = false := by kernel_rfl
theorem TY_656 : isSl Tryd.prog 53 = false := by kernel_rfl
theorem TY_657 : isBoolT Tryd.prog 53 = false := by kernel_rfl
theorem TY_658 : isIf Tryd.prog 53 = false := by kernel_rfl
theorem TY_659 : strOK Tryd.prog 53 = true := by kernel_rfl
theorem TY_660 : fOf Tryd.prog 53 0 = some (0, 1, false) := by kernel_rfl
theorem TY_661 : fTy Tryd.prog 53 0 = 52 := by kernel_rfl
theorem TY_662 : fOf Tryd.prog 53 1 = some (1, 1, false) := by kernel_rfl
theorem TY_663 : fTy Tryd.prog 53 1 = 49 := by kernel_rfl
theorem TY_664 : zeroOf Tryd.prog 53 = some [.t .nilp, .nil 1] := by kernel_rfl
theorem TY_665 : isInt Tryd.prog 53 = none := by kernel_rfl
theorem TY_666 : szOf Tryd.prog 54 = 2 := by kernel_rfl
theorem TY_667 : aggOf Tryd.prog 54 = true := by kernel_rfl
theorem TY_668 : known Tryd.prog 54 = true := by kernel_rfl
theorem TY_669 : Tryd.prog.bytesOf 54 = 32 := by kernel_rfl
theorem TY_670 : elOf Tryd.prog 54 = none := by kernel_rfl
theorem TY_671 : isStr Tryd.prog 54 = false := by kernel_rfl
theorem TY_672 : isSl Tryd.prog 54 = false := by kernel_rfl
theorem TY_673 : isBoolT Tryd.prog 54 = false := by kernel_rfl
theorem TY_674 : isIf Tryd.prog 54 = false := by kernel_rfl
theorem TY_675 : strOK Tryd.prog 54 = true := by kernel_rfl
theorem TY_676 : fOf Tryd.prog 54 0 = some (0, 1, false) := by kernel_rfl
theorem TY_677 : fTy Tryd.prog 54 0 = 52 := by kernel_rfl
theorem TY_678 : fOf Tryd.prog 54 1 = some (1, 1, false) := by kernel_rfl
theorem TY_679 : fTy Tryd.prog 54 1 = 49 := by kernel_rfl
theorem TY_680 : zeroOf Tryd.prog 54 = some [.t .nilp, .nil 1] := by kernel_rfl
theorem TY_681 : isInt Tryd.prog 54 = none := by kernel_rfl
theorem TY_682 : szOf Tryd.prog 55 = 1 := by kernel_rfl
theorem TY_683 : aggOf Tryd.prog 55 = false := by kernel_rfl
theorem TY_684 : known Tryd.prog 55 = true := by kernel_rfl
theorem TY_685 : Tryd.prog.bytesOf 55 = 8 := by kernel_rfl
theorem TY_686 : elOf Tryd.prog 55 = none := by kernel_rfl
theorem TY_687 : isStr Tryd.prog 55 = false := by kernel_rfl
theorem TY_688 : isSl Tryd.prog 55 = false := by kernel_rfl
theorem TY_689 : isBoolT Tryd.prog 55 = false := by kernel_rfl
theorem TY_690 : isIf Tryd.prog 55 = false := by kernel_rfl
theorem TY_691 : zeroOf Tryd.prog 55 = some [.t .nilf] := by kernel_rfl
theorem TY_692 : isInt Tryd.prog 55 = none := by kernel_rfl
theorem TY_693 : szOf Tryd.prog 56 = 1 := by kernel_rfl
theorem TY_694 : aggOf Tryd.prog 56 = false := by kernel_rfl
theorem TY_695 : known Tryd.prog 56 = true := by kernel_rfl
theorem TY_696 : Tryd.prog.bytesOf 56 = 16 := by kernel_rfl
theorem TY_697 : elOf Tryd.prog 56 = none := by kernel_rfl
theorem TY_698 : isStr Tryd.prog 56 = false := by kernel_rfl
theorem TY_699 : isSl Tryd.prog 56 = false := by kernel_rfl
theorem TY_700 : isBoolT Tryd.prog 56 = false := by kernel_rfl
theorem TY_701 : isIf Tryd.prog 56 = true := by kernel_rfl
theorem TY_702 : zeroOf Tryd.prog 56 = some [.t .nili] := by kernel_rfl
theorem TY_703 : isInt Tryd.prog 56 = none := by kernel_rfl
theorem TY_704 : szOf Tryd.prog 57 = 1 := by kernel_rfl
theorem TY_705 : aggOf Tryd.prog 57 = false := by kernel_rfl
theorem TY_706 : known Tryd.prog 57 = true := by kernel_rfl
theorem TY_707 : Tryd.prog.bytesOf 57 = 16 := by kernel_rfl
theorem TY_708 : elOf Tryd.prog 57 = none := by kernel_rfl
theorem TY_709 : isStr Tryd.prog 57 = false := by kernel_rfl
theorem TY_710 : isSl Tryd.prog 57 = false := by kernel_rfl
theorem TY_711 : isBoolT Tryd.prog 57 = false := by kernel_rfl
theorem TY_712 : isIf Tryd.prog 57 = true := by kernel_rfl
theorem TY_713 : zeroOf Tryd.prog 57 = some [.t .nili] := by kernel_rfl
theorem TY_714 : isInt Tryd.prog 57 = none := by kernel_rfl
theorem TY_715 : szOf Tryd.prog 59 = 1 := by kernel_rfl
theorem TY_716 : aggOf Tryd.prog 59 = false := by kernel_rfl
theorem TY_717 : known Tryd.prog 59 = true := by kernel_rfl
theorem TY_718 : Tryd.prog.bytesOf 59 = 8 := by kernel_rfl
theorem TY_719 : elOf Tryd.prog 59 = none := by kernel_rfl
theorem TY_720 : isStr Tryd.prog 59 = false := by kernel_rfl
theorem TY_721 : isSl Tryd.prog 59 = false := by kernel_rfl
theorem TY_722 : isBoolT Tryd.prog 59 = false := by kernel_rfl
theorem TY_723 : isIf Tryd.prog 59 = false := by kernel_rfl
theorem TY_724 : zeroOf Tryd.prog 59 = some [.t .nilf] := by kernel_rfl
theorem TY_725 : isInt Tryd.prog 59 = none := by kernel_rfl
theorem TY_726 : szOf Tryd.prog 60 = 1 := by kernel_rfl
theorem TY_727 : aggOf Tryd.prog 60 = false := by kernel_rfl
theorem TY_728 : known Tryd.prog 60 = true := by kernel_rfl
theorem TY_729 : Tryd.prog.bytesOf 60 = 8 := by kernel_rfl
theorem TY_730 : elOf Tryd.prog 60 = none := by kernel_rfl
theorem TY_731 : isStr Tryd.prog 60 = false := by kernel_rfl
theorem TY_732 : isSl Tryd.prog 60 = false := by kernel_rfl
theorem TY_733 : isBoolT Tryd.prog 60 = false := by kernel_rfl
theorem TY_734 : isIf Tryd.prog 60 = false := by kernel_rfl
theorem TY_735 : zeroOf Tryd.prog 60 = some [.t .nilf] := by kernel_rfl
theorem TY_736 : isInt Tryd.prog 60 = none := by kernel_rfl
theorem TY_737 : szOf Tryd.prog 61 = 1 := by kernel_rfl
theorem TY_738 : aggOf Tryd.prog 61 = false := by kernel_rfl
theorem TY_739 : known Tryd.prog 61 = true := by kernel_rfl
theorem TY_740 : Tryd.prog.bytesOf 61 = 8 := by kernel_rfl
theorem TY_741 : elOf Tryd.prog 61 = none := by kernel_rfl
theorem TY_742 : isStr Tryd.prog 61 = false := by kernel_rfl
theorem TY_743 : isSl Tryd.prog 61 = false := by kernel_rfl
theorem TY_744 : isBoolT Tryd.prog 61 = false := by kernel_rfl
theorem TY_745 : isIf Tryd.prog 61 = false := by kernel_rfl
theorem TY_746 : zeroOf Tryd.prog 61 = some [.t .nilf] := by kernel_rfl
theorem TY_747 : isInt Tryd.prog 61 = none := by kernel_rfl
theorem TY_748 : szOf Tryd.prog 62 = 1 := by kernel_rfl
theorem TY_749 : aggOf Tryd.prog 62 = false := by kernel_rfl
theorem TY_750 : known Tryd.prog 62 = true := by kernel_rfl
theorem TY_751 : Tryd.prog.bytesOf 62 = 8 := by kernel_rfl
theorem TY_752 : elOf Tryd.prog 62 = none := by kernel_rfl
theorem TY_753 : isStr Tryd.prog 62 = false := by kernel_rfl
theorem TY_754 : isSl Tryd.prog 62 = false := by kernel_rfl
theorem TY_755 : isBoolT Tryd.prog 62 = false := by kernel_rfl
theorem TY_756 : isIf Tryd.prog 62 = false := by kernel_rfl
theorem TY_757 : zeroOf Tryd.prog 62 = some [.t .nilf] := by kernel_rfl
theorem TY_758 : isInt Tryd.prog 62 = none := by kernel_rfl
theorem TY_759 : szOf Tryd.prog 63 = 1 := by kernel_rfl
theorem TY_760 : aggOf Tryd.prog 63 = false := by kernel_rfl
theorem TY_761 : known Tryd.prog 63 = true := by kernel_rfl
theorem TY_762 : Tryd.prog.bytesOf 63 = 8 := by kernel_rfl
theorem TY_763 : elOf Tryd.prog 63 = none := by kernel_rfl
theorem TY_764 : isStr Tryd.prog 63 = false := by kernel_rfl
theorem TY_765 : isSl Tryd.prog 63 = false := by kernel_rfl
theorem TY_766 : isBoolT Tryd.prog 63 = false := by kernel_rfl
theorem TY_767 : isIf Tryd.prog 63 = false := by kernel_rfl
theorem TY_768 : zeroOf Tryd.prog 63 = some [.t (.int .u64 0)] := by kernel_rfl
theorem TY_769 : isInt Tryd.prog 63 = some .u64 := by kernel_rfl
theorem TY_770 : szOf Tryd.prog 64 = 1 := by kernel_rfl
theorem TY_771 : aggOf Tryd.prog 64 = false := by kernel_rfl
theorem TY_772 : known Tryd.prog 64 = true := by kernel_rfl
theorem TY_773 : Tryd.prog.bytesOf 64 = 8 := by kernel_rfl
theorem TY_774 : elOf Tryd.prog 64 = none := by kernel_rfl
theorem TY_775 : isStr Tryd.prog 64 = false := by kernel_rfl
theorem TY_776 : isSl Tryd.prog 64 = false := by kernel_rfl
theorem TY_777 : isBoolT Tryd.prog 64 = false := by kernel_rfl
theorem TY_778 : isIf Tryd.prog 64 = false := by kernel_rfl
theorem TY_779 : zeroOf Tryd.prog 64 = some [.t .nilp] := by kernel_rfl
theorem TY_780 : isInt Tryd.prog 64 = none := by kernel_rfl
theorem TY_781 : szOf Tryd.prog 65 = 1 := by kernel_rfl
theorem TY_782 : aggOf Tryd.prog 65 = false := by kernel_rfl
theorem TY_783 : known Tryd.prog 65 = true := by kernel_rfl
theorem TY_784 : Tryd.prog.bytesOf 65 = 8 := by kernel_rfl
theorem TY_785 : elOf Tryd.prog 65 = none := by kernel_rfl
theorem TY_786 : isStr Tryd.prog 65 = false := by kernel_rfl
theorem TY_787 : isSl Tryd.prog 65 = false := by kernel_rfl
theorem TY_788 : isBoolT Tryd.prog 65 = false := by kernel_rfl
theorem TY_789 : isIf Tryd.prog 65 = false := by kernel_rfl
theorem TY_790 : zeroOf Tryd.prog 65 = some [.t .nilf] := by kernel_rfl
theorem TY_791 : isInt Tryd.prog 65 = none := by kernel_rfl
theorem TY_792 : szOf Tryd.prog 67 = 1 := by kernel_rfl
theorem TY_793 : aggOf Tryd.prog 67 = false := by kernel_rfl
theorem TY_794 : known Tryd.prog 67 = true := by kernel_rfl
theorem TY_795 : Tryd.prog.bytesOf 67 = 8 := by kernel_rfl
theorem TY_796 : elOf Tryd.prog 67 = none := by kernel_rfl
theorem TY_797 : isStr Tryd.prog 67 = false := by kernel_rfl
theorem TY_798 : isSl Tryd.prog 67 = false := by kernel_rfl
theorem TY_799 : isBoolT Tryd.prog 67 = false := by kernel_rfl
theorem TY_800 : isIf Tryd.prog 67 = false := by kernel_rfl
theorem TY_801 : zeroOf Tryd.prog 67 = some [.t .nilf] := by kernel_rfl
theorem TY_802 : isInt Tryd.prog 67 = none := by kernel_rfl
theorem TY_803 : szOf Tryd.prog 68 = 1 := by kernel_rfl
theorem TY_804 : aggOf Tryd.prog 68 = false := by kernel_rfl
theorem TY_805 : known Tryd.prog 68 = true := by kernel_rfl
theorem TY_806 : Tryd.prog.bytesOf 68 = 8 := by kernel_rfl
theorem TY_807 : elOf Tryd.prog 68 = none := by kernel_rfl
theorem TY_808 : isStr Tryd.prog 68 = false := by kernel_rfl
theorem TY_809 : isSl Tryd.prog 68 = false := by kernel_rfl
theorem TY_810 : isBoolT Tryd.prog 68 = false := by kernel_rfl
theorem TY_811 : isIf Tryd.prog 68 = false := by kernel_rfl
theorem TY_812 : zeroOf Tryd.prog 68 = some [.t .nilf] := by kernel_rfl
theorem TY_813 : isInt Tryd.prog 68 = none := by kernel_rfl
theorem TY_814 : szOf Tryd.prog 70 = 1 := by kernel_rfl
theorem TY_815 : aggOf Tryd.prog 70 = false := by kernel_rfl
theorem TY_816 : known Tryd.prog 70 = true := by kernel_rfl
theorem TY_817 : Tryd.prog.bytesOf 70 = 8 := by kernel_rfl
theorem TY_818 : elOf Tryd.prog 70 = none := by kernel_rfl
theorem TY_819 : isStr Tryd.prog 70 = false := by kernel_rfl
theorem TY_820 : isSl Tryd.prog 70 = false := by kernel_rfl
theorem TY_821 : isBoolT Tryd.prog 70 = false := by kernel_rfl
theorem TY_822 : isIf Tryd.prog 70 = false := by kernel_rfl
theorem TY_823 : zeroOf Tryd.prog 70 = some [.t (.int .u64 0)] := by kernel_rfl
theorem TY_824 : isInt Tryd.prog 70 = some .u64 := by kernel_rfl
theorem TY_825 : szOf Tryd.prog 71 = 1 := by kernel_rfl
theorem TY_826 : aggOf Tryd.prog 71 = false := by kernel_rfl
theorem TY_827 : known Tryd.prog 71 = true := by kernel_rfl
theorem TY_828 : Tryd.prog.bytesOf 71 = 8 := by kernel_rfl
theorem TY_829 : elOf Tryd.prog 71 = none := by kernel_rfl
theorem TY_830 : isStr Tryd.prog 71 = false := by kernel_rfl
theorem TY_831 : isSl Tryd.prog 71 = false := by kernel_rfl
theorem TY_832 : isBoolT Tryd.prog 71 = false := by kernel_rfl
theorem TY_833 : isIf Tryd.prog 71 = false := by kernel_rfl
theorem TY_834 : zeroOf Tryd.prog 71 = some [.t .nilf] := by kernel_rfl
theorem TY_835 : isInt Tryd.prog 71 = none := by kernel_rfl
theorem TY_836 : szOf Tryd.prog 72 = 1 := by kernel_rfl
theorem TY_837 : aggOf Tryd.prog 72 = false := by kernel_rfl
theorem TY_838 : known Tryd.prog 72 = true := by kernel_rfl
theorem TY_839 : Tryd.prog.bytesOf 72 = 8 := by kernel_rfl
theorem TY_840 : elOf Tryd.prog 72 = none := by kernel_rfl
theorem TY_841 : isStr Tryd.prog 72 = false := by kernel_rfl
theorem TY_842 : isSl Tryd.prog 72 = false := by kernel_rfl
theorem TY_843 : isBoolT Tryd.prog 72 = false := by kernel_rfl
theorem TY_844 : isIf Tryd.prog 72 = false := by kernel_rfl
theorem TY_845 : zeroOf Tryd.prog 72 = some [.t .nilf] := by kernel_rfl
theorem TY_846 : isInt Tryd.prog 72 = none := by kernel_rfl
theorem TY_847 : szOf Tryd.prog 74 = 1 := by kernel_rfl
theorem TY_848 : aggOf Tryd.prog 74 = false := by kernel_rfl
theorem TY_849 : known Tryd.prog 74 = true := by kernel_rfl
theorem TY_850 : Tryd.prog.bytesOf 74 = 8 := by kernel_rfl
theorem TY_851 : elOf Tryd.prog 74 = none := by kernel_rfl
theorem TY_852 : isStr Tryd.prog 74 = false := by kernel_rfl
theorem TY_853 : isSl Tryd.prog 74 = false := by kernel_rfl
theorem TY_854 : isBoolT Tryd.prog 74 = false := by kernel_rfl
theorem TY_855 : isIf Tryd.prog 74 = false := by kernel_rfl
theorem TY_856 : zeroOf Tryd.prog 74 = some [.t .nilf] := by kernel_rfl
theorem TY_857 : isInt Tryd.prog 74 = none := by kernel_rfl
theorem TY_858 : szOf Tryd.prog 75 = 1 := by kernel_rfl
theorem TY_859 : aggOf Tryd.prog 75 = false := by kernel_rfl
theorem TY_860 : known Tryd.prog 75 = true := by kernel_rfl
theorem TY_861 : Tryd.prog.bytesOf 75 = 8 := by kernel_rfl
theorem TY_862 : elOf Tryd.prog 75 = none := by kernel_rfl
theorem TY_863 : isStr Tryd.prog 75 = false := by kernel_rfl
theorem TY_864 : isSl Tryd.prog 75 = false := by kernel_rfl
theorem TY_865 : isBoolT Tryd.prog 75 = false := by kernel_rfl
theorem TY_866 : isIf Tryd.prog 75 = false := by kernel_rfl
theorem TY_867 : zeroOf Tryd.prog 75 = some [.t .nilf] := by kernel_rfl
theorem TY_868 : isInt Tryd.prog 75 = none := by kernel_rfl
theorem TY_869 : szOf Tryd.prog 76 = 1 := by kernel_rfl
theorem TY_870 : aggOf Tryd.prog 76 = false := by kernel_rfl
theorem TY_871 : known Tryd.prog 76 = true := by kernel_rfl
theorem TY_872 : Tryd.prog.bytesOf 76 = 8 := by kernel_rfl
theorem TY_873 : elOf Tryd.prog 76 = none := by kernel_rfl
theorem TY_874 : isStr Tryd.prog 76 = false := by kernel_rfl
theorem TY_875 : isSl Tryd.prog 76 = false := by kernel_rfl
theorem TY_876 : isBoolT Tryd.prog 76 = false := by kernel_rfl
theorem TY_877 : isIf Tryd.prog 76 = false := by kernel_rfl
theorem TY_878 : zeroOf Tryd.prog 76 = some [.t .nilf] := by kernel_rfl
theorem TY_879 : isInt Tryd.prog 76 = none := by kernel_rfl
theorem TY_880 : szOf Tryd.prog 78 = 1 := by kernel_rfl
theorem TY_881 : aggOf Tryd.prog 78 = false := by kernel_rfl
theorem TY_882 : known Tryd.prog 78 = true := by kernel_rfl
theorem TY_883 : Tryd.prog.bytesOf 78 = 4 := by kernel_rfl
theorem TY_884 : elOf Tryd.prog 78 = none := by kernel_rfl
theorem TY_885 : isStr Tryd.prog 78 = false := by kernel_rfl
theorem TY_886 : isSl Tryd.prog 78 = false := by kernel_rfl
theorem TY_887 : isBoolT Tryd.prog 78 = false := by kernel_rfl
theorem TY_888 : isIf Tryd.prog 78 = false := by kernel_rfl
theorem TY_889 : zeroOf Tryd.prog 78 = some [.t (.int .u32 0)] := by kernel_rfl
theorem TY_890 : isInt Tryd.prog 78 = some .u32 := by kernel_rfl
theorem TY_891 : szOf Tryd.prog 80 = 1 := by kernel_rfl
theorem TY_892 : aggOf Tryd.prog 80 = false := by kernel_rfl
theorem TY_893 : known Tryd.prog 80 = true := by kernel_rfl
theorem TY_894 : Tryd.prog.bytesOf 80 = 8 := by kernel_rfl
theorem TY_895 : elOf Tryd.prog 80 = none := by kernel_rfl
theorem TY_896 : isStr Tryd.prog 80 = false := by kernel_rfl
theorem TY_897 : isSl Tryd.prog 80 = false := by kernel_rfl
theorem TY_898 : isBoolT Tryd.prog 80 = false := by kernel_rfl
theorem TY_899 : isIf Tryd.prog 80 = false := by kernel_rfl
theorem TY_900 : zeroOf Tryd.prog 80 = some [.t .nilf] := by kernel_rfl
theorem TY_901 : isInt Tryd.prog 80 = none := by kernel_rfl
theorem TY_902 : szOf Tryd.prog 81 = 1 := by kernel_rfl
theorem TY_903 : aggOf Tryd.prog 81 = false := by kernel_rfl
theorem TY_904 : known Tryd.prog 81 = true := by kernel_rfl
theorem TY_905 : Tryd.prog.bytesOf 81 = 8 := by kernel_rfl
theorem TY_906 : elOf Tryd.prog 81 = none := by kernel_rfl
theorem TY_907 : isStr Tryd.prog 81 = false := by kernel_rfl
theorem TY_908 : isSl Tryd.prog 81 = false := by kernel_rfl
theorem TY_909 : isBoolT Tryd.prog 81 = false := by kernel_rfl
theorem TY_910 : isIf Tryd.prog 81 = false := by kernel_rfl
theorem TY_911 : zeroOf Tryd.prog 81 = some [.t .nilf] := by kernel_rfl
theorem TY_912 : isInt Tryd.prog 81 = none := by kernel_rfl
theorem TY_913 : szOf Tryd.prog 82 = 1 := by kernel_rfl
theorem TY_914 : aggOf Tryd.prog 82 = false := by kernel_rfl
theorem TY_915 : known Tryd.prog 82 = true := by kernel_rfl
theorem TY_916 : Tryd.prog.bytesOf 82 = 8 := by kernel_rfl
theorem TY_917 : elOf Tryd.prog 82 = none := by kernel_rfl
theorem TY_918 : isStr Tryd.prog 82 = false := by kernel_rfl
theorem TY_919 : isSl Tryd.prog 82 = false := by kernel_rfl
theorem TY_920 : isBoolT Tryd.prog 82 = false := by kernel_rfl
theorem TY_921 : isIf Tryd.prog 82 = false := by kernel_rfl
theorem TY_922 : zeroOf Tryd.prog 82 = some [.t .nilf] := by kernel_rfl
theorem TY_923 : isInt Tryd.prog 82 = none := by kernel_rfl
theorem TY_924 : szOf Tryd.prog 85 = 4 := by kernel_rfl
theorem TY_925 : aggOf Tryd.prog 85 = true := by kernel_rfl
theorem TY_926 : known Tryd.prog 85 = true := by kernel_rfl
theorem TY_927 : Tryd.prog.bytesOf 85 = 40 := by kernel_rfl
theorem TY_928 : elOf Tryd.prog 85 = none := by kernel_rfl
theorem TY_929 : isStr Tryd.prog 85 = false := by kernel_rfl
theorem TY_930 : isSl Tryd.prog 85 = false := by kernel_rfl
theorem TY_931 : isBoolT Tryd.prog 85 = false := by kernel_rfl
theorem TY_932 : isIf Tryd.prog 85 = false := by kernel_rfl
theorem TY_933 : strOK Tryd.prog 85 = true := by kernel_rfl
theorem TY_934 : fOf Tryd.prog 85 0 = some (0, 1, false) := by kernel_rfl
theorem TY_935 : fTy Tryd.prog 85 0 = 17 := by kernel_rfl
theorem TY_936 : fOf Tryd.prog 85 1 = some (1, 1, false) := by kernel_rfl
theorem TY_937 : fTy Tryd.prog 85 1 = 17 := by kernel_rfl
theorem TY_938 : fOf Tryd.prog 85 2 = some (2, 1, false) := by kernel_rfl
theorem TY_939 : fTy Tryd.prog 85 2 = 17 := by kernel_rfl
theorem TY_940 : fOf Tryd.prog 85 3 = some (3, 1, false) := by kernel_rfl
theorem TY_941 : fTy Tryd.prog 85 3 = 9 := by kernel_rfl
theorem TY_942 : zeroOf Tryd.prog 85 = some [.t .nilp, .t .nilp, .t .nilp, .t (.str [])] := by kernel_rfl
theorem TY_943 : isInt Tryd.prog 85 = none := by kernel_rfl
theorem TY_944 : szOf Tryd.prog 86 = 4 := by kernel_rfl
theorem TY_945 : aggOf Tryd.prog 86 = true := by kernel_rfl
theorem TY_946 : known Tryd.prog 86 = true := by kernel_rfl
theorem TY_947 : Tryd.prog.bytesOf 86 = 40 := by kernel_rfl
theorem TY_948 : elOf Tryd.prog 86 = none := by kernel_rfl
theorem TY_949 : isStr Tryd.prog 86 = false := by kernel_rfl
theorem TY_950 : isSl Tryd.prog 86 = false := by kernel_rfl
theorem TY_951 : isBoolT Tryd.prog 86 = false := by kernel_rfl
theorem TY_952 : isIf Tryd.prog 86 = false := by kernel_rfl
theorem TY_953 : strOK Tryd.prog 86 = true := by kernel_rfl
theorem TY_954 : fOf Tryd.prog 86 0 = some (0, 1, false) := by kernel_rfl
theorem TY_955 : fTy Tryd.prog 86 0 = 17 := by kernel_rfl
theorem TY_956 : fOf Tryd.prog 86 1 = some (1, 1, false) := by kernel_rfl
theorem TY_957 : fTy Tryd.prog 86 1 = 17 := by kernel_rfl
theorem TY_958 : fOf Tryd.prog 86 2 = some (2, 1, false) := by kernel_rfl
theorem TY_959 : fTy Tryd.prog 86 2 = 17 := by kernel_rfl
theorem TY_960 : fOf Tryd.prog 86 3 = some (3, 1, false) := by kernel_rfl
theorem TY_961 : fTy Tryd.prog 86 3 = 9 := by kernel_rfl
theorem TY_962 : zeroOf Tryd.prog 86 = some [.t .nilp, .t .nilp, .t .nilp, .t (.str [])] := by kernel_rfl
theorem TY_963 : isInt Tryd.prog 86 = none := by kernel_rfl
theorem TY_964 : szOf Tryd.prog 90 = 1 := by kernel_rfl
theorem TY_965 : aggOf Tryd.prog 90 = false := by kernel_rfl
theorem TY_966 : known Tryd.prog 90 = true := by kernel_rfl
theorem TY_967 : Tryd.prog.bytesOf 90 = 8 := by kernel_rfl
theorem TY_968 : elOf Tryd.prog 90 = none := by kernel_rfl
theorem TY_969 : isStr Tryd.prog 90 = false := by kernel_rfl
theorem TY_970 : isSl Tryd.prog 90 = false := by kernel_rfl
theorem TY_971 : isBoolT Tryd.prog 90 = false := by kernel_rfl
theorem TY_972 : isIf Tryd.prog 90 = false := by kernel_rfl
theorem TY_973 : zeroOf Tryd.prog 90 = some [.t .nilf] := by kernel_rfl
theorem TY_974 : isInt Tryd.prog 90 = none := by kernel_rfl
theorem TY_975 : szOf Tryd.prog 91 = 1 := by kernel_rfl
theorem TY_976 : aggOf Tryd.prog 91 = false := by kernel_rfl
theorem TY_977 : known Tryd.prog 91 = true := by kernel_rfl
theorem TY_978 : Tryd.prog.bytesOf 91 = 1 := by kernel_rfl
theorem TY_979 : elOf Tryd.prog 91 = none := by kernel_rfl
theorem TY_980 : isStr Tryd.prog 91 = false := by kernel_rfl
theorem TY_981 : isSl Tryd.prog 91 = false := by kernel_rfl
theorem TY_982 : isBoolT Tryd.prog 91 = false := by kernel_rfl
theorem TY_983 : isIf Tryd.prog 91 = false := by kernel_rfl
theorem TY_984 : zeroOf Tryd.prog 91 = some [.t (.int .u8 0)] := by kernel_rfl
theorem TY_985 : isInt Tryd.prog 91 = some .u8 := by kernel_rfl
theorem TY_986 : szOf Tryd.prog 92 = 1 := by kernel_rfl
theorem TY_987 : aggOf Tryd.prog 92 = false := by kernel_rfl
theorem TY_988 : known Tryd.prog 92 = true := by kernel_rfl
theorem TY_989 : Tryd.prog.bytesOf 92 = 1 := by kernel_rfl
theorem TY_990 : elOf Tryd.prog 92 = none := by kernel_rfl
theorem TY_991 : isStr Tryd.prog 92 = false := by kernel_rfl
theorem TY_992 : isSl Tryd.prog 92 = false := by kernel_rfl
theorem TY_993 : isBoolT Tryd.prog 92 = false := by kernel_rfl
theorem TY_994 : isIf Tryd.prog 92 = false := by kernel_rfl
theorem TY_995 : zeroOf Tryd.prog 92 = some [.t (.int .u8 0)] := by kernel_rfl
theorem TY_996 : isInt Tryd.prog 92 = some .u8 := by kernel_rfl
theorem TY_997 : szOf Tryd.prog 93 = 1 := by kernel_rfl
theorem TY_998 : aggOf Tryd.prog 93 = false := by kernel_rfl
theorem TY_999 : known Tryd.prog 93 = true := by kernel_rfl
theorem TY_1000 : Tryd.prog.bytesOf 93 = 8 := by kernel_rfl
theorem TY_1001 : elOf Tryd.prog 93 = none := by kernel_rfl
theorem TY_1002 : isStr Tryd.prog 93 = false := by kernel_rfl
theorem TY_1003 : isSl Tryd.prog 93 = false := by kernel_rfl
theorem TY_1004 : isBoolT Tryd.prog 93 = false := by kernel_rfl
theorem TY_1005 : isIf Tryd.prog 93 = false := by kernel_rfl
theorem TY_1006 : zeroOf Tryd.prog 93 = some [.t .nilf] := by kernel_rfl
theorem TY_1007 : isInt Tryd.prog 93 = none := by kernel_rfl
theorem TY_1008 : szOf Tryd.prog 94 = 1 := by kernel_rfl
theorem TY_1009 : aggOf Tryd.prog 94 = false := by kernel_rfl
theorem TY_1010 : known Tryd.prog 94 = true := by kernel_rfl
theorem TY_1011 : Tryd.prog.bytesOf 94 = 4 := by kernel_rfl
theorem TY_1012 : elOf Tryd.prog 94 = none := by kernel_rfl
theorem TY_1013 : isStr Tryd.prog 94 = false := by kernel_rfl
theorem TY_1014 : isSl Tryd.prog 94 = false := by kernel_rfl
theorem TY_1015 : isBoolT Tryd.prog 94 = false := by kernel_rfl
theorem TY_1016 : isIf Tryd.prog 94 = false := by kernel_rfl
theorem TY_1017 : zeroOf Tryd.prog 94 = some [.t (.int .i32 0)] := by kernel_rfl
theorem TY_1018 : isInt Tryd.prog 94 = some .i32 := by kernel_rfl
theorem TY_1019 : szOf Tryd.prog 95 = 1 := by kernel_rfl
theorem TY_1020 : aggOf Tryd.prog 95 = false := by kernel_rfl
theorem TY_1021 : known Tryd.prog 95 = true := by kernel_rfl
theorem TY_1022 : Tryd.prog.bytesOf 95 = 4 := by kernel_rfl
theorem TY_1023 : elOf Tryd.prog 95 = none := by kernel_rfl
theorem TY_1024 : isStr Tryd.prog 95 = false := by kernel_rfl
theorem TY_1025 : isSl Tryd.prog 95 = false := by kernel_rfl
theorem TY_1026 : isBoolT Tryd.prog 95 = false := by kernel_rfl
theorem TY_1027 : isIf Tryd.prog 95 = false := by kernel_rfl
theorem TY_1028 : zeroOf Tryd.prog 95 = some [.t (.int .i32 0)] := by kernel_rfl
theorem TY_1029 : isInt Tryd.prog 95 = some .i32 := by kernel_rfl
theorem TY_1030 : szOf Tryd.prog 96 = 11 := by kernel_rfl
theorem TY_1031 : aggOf Tryd.prog 96 = true := by kernel_rfl
theorem TY_1032 : known Tryd.prog 96 = true := by kernel_rfl
theorem TY_1033 : Tryd.prog.bytesOf 96 = 48 := by kernel_rfl
theorem TY_1034 : elOf Tryd.prog 96 = none := by kernel_rfl
theorem TY_1035 : isStr Tryd.prog 96 = false := by kernel_rfl
theorem TY_1036 : isSl Tryd.prog 96 = false := by kernel_rfl
theorem TY_1037 : isBoolT Tryd.prog 96 = false := by kernel_rfl
theorem TY_1038 : isIf Tryd.prog 96 = false := by kernel_rfl
theorem TY_1039 : strOK Tryd.prog 96 = true := by kernel_rfl
theorem TY_1040 : fOf Tryd.prog 96 0 = some (0, 1, false) := by kernel_rfl
theorem TY_1041 : fTy Tryd.prog 96 0 = 12 := by kernel_rfl
theorem TY_1042 : fOf Tryd.prog 96 1 = some (1, 1, false) := by kernel_rfl
theorem TY_1043 : fTy Tryd.prog 96 1 = 12 := by kernel_rfl
theorem TY_1044 : fOf Tryd.prog 96 2 = some (2, 1, false) := by kernel_rfl
theorem TY_1045 : fTy Tryd.prog 96 2 = 78 := by kernel_rfl
theorem TY_1046 : fOf Tryd.prog 96 3 = some (3, 1, false) := by kernel_rfl
theorem TY_1047 : fTy Tryd.prog 96 3 = 91 := by kernel_rfl
theorem TY_1048 : fOf Tryd.prog 96 4 = some (4, 1, false) := by kernel_rfl
theorem TY_1049 : fTy Tryd.prog 96 4 = 5 := by kernel_rfl
theorem TY_1050 : fOf Tryd.prog 96 5 = some (5, 1, false) := by kernel_rfl
theorem TY_1051 : fTy Tryd.prog 96 5 = 5 := by kernel_rfl
theorem TY_1052 : fOf Tryd.prog 96 6 = some (6, 1, false) := by kernel_rfl
theorem TY_1053 : fTy Tryd.prog 96 6 = 92 := by kernel_rfl
theorem TY_1054 : fOf Tryd.prog 96 7 = some (7, 1, false) := by kernel_rfl
theorem TY_1055 : fTy Tryd.prog 96 7 = 93 := by kernel_rfl
theorem TY_1056 : fOf Tryd.prog 96 8 = some (8, 1, false) := by kernel_rfl
theorem TY_1057 : fTy Tryd.prog 96 8 = 64 := by kernel_rfl
theorem TY_1058 : fOf Tryd.prog 96 9 = some (9, 1, false) := by kernel_rfl
theorem TY_1059 : fTy Tryd.prog 96 9 = 94 := by kernel_rfl
theorem TY_1060 : fOf Tryd.prog 96 10 = some (10, 1, false) := by kernel_rfl
theorem TY_1061 : fTy Tryd.prog 96 10 = 95 := by kernel_rfl
theorem TY_1062 : zeroOf Tryd.prog 96 = some [.t (.int .u64 0), .t (.int .u64 0), .t (.int .u32 0), .t (.int .u8 0), .t (.int .u8 0), .t (.int .u8 0), .t (.int .u8 0), .t .nilf, .t .nilp, .t (.int .i32 0), .t (.int .i32 0)] := by kernel_rfl
theorem TY_1063 : isInt Tryd.prog 96 = none := by kernel_rfl
theorem TY_1064 : szOf Tryd.prog 97 = 11 := by kernel_rfl
theorem TY_1065 : aggOf Tryd.prog 97 = true := by kernel_rfl
theorem TY_1066 : known Tryd.prog 97 = true := by kernel_rfl
theorem TY_1067 : Tryd.prog.bytesOf 97 = 48 := by kernel_rfl
theorem TY_1068 : elOf Tryd.prog 97 = none := by kernel_rfl
theorem TY_1069 : isStr Tryd.prog 97 = false := by kernel_rfl
theorem TY_1070 : isSl Tryd.prog 97 = false := by kernel_rfl
theorem TY_1071 : isBoolT Tryd.prog 97 = false := by kernel_rfl
theorem TY_1072 : isIf Tryd.prog 97 = false := by kernel_rfl
theorem TY_1073 : strOK Tryd.prog 97 = true := by kernel_rfl
theorem TY_1074 : fOf Tryd.prog 97 0 = some (0, 1, false) := by kernel_rfl
theorem TY_1075 : fTy Tryd.prog 97 0 = 12 := by kernel_rfl
theorem TY_1076 : fOf Tryd.prog 97 1 = some (1, 1, false) := by kernel_rfl
theorem TY_1077 : fTy Tryd.prog 97 1 = 12 := by kernel_rfl
theorem TY_1078 : fOf Tryd.prog 97 2 = some (2, 1, false) := by kernel_rfl
theorem TY_1079 : fTy Tryd.prog 97 2 = 78 := by kernel_rfl
theorem TY_1080 : fOf Tryd.prog 97 3 = some (3, 1, false) := by kernel_rfl
theorem TY_1081 : fTy Tryd.prog 97 3 = 91 := by kernel_rfl
theorem TY_1082 : fOf Tryd.prog 97 4 = some (4, 1, false) := by kernel_rfl
theorem TY_1083 : fTy Tryd.prog 97 4 = 5 := by kernel_rfl
theorem TY_1084 : fOf Tryd.prog 97 5 = some (5, 1, false) := by kernel_rfl
theorem TY_1085 : fTy Tryd.prog 97 5 = 5 := by kernel_rfl
theorem TY_1086 : fOf Tryd.prog 97 6 = some (6, 1, false) := by kernel_rfl
theorem TY_1087 : fTy Tryd.prog 97 6 = 92 := by kernel_rfl
theorem TY_1088 : fOf Tryd.prog 97 7 = some (7, 1, false) := by kernel_rfl
theorem TY_1089 : fTy Tryd.prog 97 7 = 93 := by kernel_rfl
theorem TY_1090 : fOf Tryd.prog 97 8 = some (8, 1, false) := by kernel_rfl
theorem TY_1091 : fTy Tryd.prog 97 8 = 64 := by kernel_rfl
theorem TY_1092 : fOf Tryd.prog 97 9 = some (9, 1, false) := by kernel_rfl
theorem TY_1093 : fTy Tryd.prog 97 9 = 94 := by kernel_rfl
theorem TY_1094 : fOf Tryd.prog 97 10 = some (10, 1, false) := by kernel_rfl
theorem TY_1095 : fTy Tryd.prog 97 10 = 95 := by kernel_rfl
theorem TY_1096 : zeroOf Tryd.prog 97 = some [.t (.int .u64 0), .t (.int .u64 0), .t (.int .u32 0), .t (.int .u8 0), .t (.int .u8 0), .t (.int .u8 0), .t (.int .u8 0), .t .nilf, .t .nilp, .t (.int .i32 0), .t (.int .i32 0)] := by kernel_rfl
theorem TY_1097 : isInt Tryd.prog 97 = none := by kernel_rfl
theorem TYS : szOf Tryd.prog 1 = 1 ∧
  aggOf Tryd.prog 1 = false ∧
  known Tryd.prog 1 = true ∧
  Tryd.prog.bytesOf 1 = 8 ∧
  elOf Tryd.prog 1 = none ∧
  isStr Tryd.prog 1 = false ∧
  isSl Tryd.prog 1 = false ∧
  isBoolT Tryd.prog 1 = false ∧
  isIf Tryd.prog 1 = false ∧
  zeroOf Tryd.prog 1 = some [.t .nilf] ∧
  isInt Tryd.prog 1 = none ∧
  szOf Tryd.prog 2 = 1 ∧
  aggOf Tryd.prog 2 = false ∧
  known Tryd.prog 2 = true ∧
  Tryd.prog.bytesOf 2 = 8 ∧
  elOf Tryd.prog 2 = none ∧
  isStr Tryd.prog 2 = false ∧
  isSl Tryd.prog 2 = false ∧
  isBoolT Tryd.prog 2 = false ∧
  isIf Tryd.prog 2 = false ∧
  zeroOf Tryd.prog 2 = some [.t (.int .i64 0)] ∧
  isInt Tryd.prog 2 = some .i64 ∧
  szOf Tryd.prog 3 = 1 ∧
  aggOf Tryd.prog 3 = false ∧
  known Tryd.prog 3 = true ∧
  Tryd.prog.bytesOf 3 = 8 ∧
  elOf Tryd.prog 3 = none ∧
  isStr Tryd.prog 3 = false ∧
  isSl Tryd.prog 3 = false ∧
  isBoolT Tryd.prog 3 = false ∧
  isIf Tryd.prog 3 = false ∧
  zeroOf Tryd.prog 3 = some [.t (.int .i64 0)] ∧
  isInt Tryd.prog 3 = some .i64 ∧
  szOf Tryd.prog 4 = 1 ∧
  aggOf Tryd.prog 4 = false ∧
  known Tryd.prog 4 = true ∧
  Tryd.prog.bytesOf 4 = 1 ∧
  elOf Tryd.prog 4 = none ∧
  isStr Tryd.prog 4 = false ∧
  isSl Tryd.prog 4 = false ∧
  isBoolT Tryd.prog 4 = true ∧
  isIf Tryd.prog 4 = false ∧
  zeroOf Tryd.prog 4 = some [.t (.bool false)] ∧
  isInt Tryd.prog 4 = none ∧
  szOf Tryd.prog 5 = 1 ∧
  aggOf Tryd.prog 5 = false ∧
  known Tryd.prog 5 = true ∧
  Tryd.prog.bytesOf 5 = 1 ∧
  elOf Tryd.prog 5 = none ∧
  isStr Tryd.prog 5 = false ∧
  isSl Tryd.prog 5 = false ∧
  isBoolT Tryd.prog 5 = false ∧
  isIf Tryd.prog 5 = false ∧
  zeroOf Tryd.prog 5 = some [.t (.int .u8 0)] ∧
  isInt Tryd.prog 5 = some .u8 ∧
  szOf Tryd.prog 6 = 1 ∧
  aggOf Tryd.prog 6 = false ∧
  known Tryd.prog 6 = true ∧
  Tryd.prog.bytesOf 6 = 1 ∧
  elOf Tryd.prog 6 = none ∧
  isStr Tryd.prog 6 = false ∧
  isSl Tryd.prog 6 = false ∧
  isBoolT Tryd.prog 6 = false ∧
  isIf Tryd.prog 6 = false ∧
  zeroOf Tryd.prog 6 = some [.t (.int .u8 0)] ∧
  isInt Tryd.prog 6 = some .u8 ∧
  szOf Tryd.prog 7 = 4 ∧
  aggOf Tryd.prog 7 = true ∧
  known Tryd.prog 7 = true ∧
  Tryd.prog.bytesOf 7 = 24 ∧
  elOf Tryd.prog 7 = none ∧
  isStr Tryd.prog 7 = false ∧
  isSl Tryd.prog 7 = false ∧
  isBoolT Tryd.prog 7 = false ∧
  isIf Tryd.prog 7 = false ∧
  strOK Tryd.prog 7 = true ∧
  fOf Tryd.prog 7 0 = some (0, 1, false) ∧
  fTy Tryd.prog 7 0 = 2 ∧
  fOf Tryd.prog 7 1 = some (1, 1, false) ∧
  fTy Tryd.prog 7 1 = 3 ∧
  fOf Tryd.prog 7 2 = some (2, 1, false) ∧
  fTy Tryd.prog 7 2 = 4 ∧
  fOf Tryd.prog 7 3 = some (3, 1, false) ∧
  fTy Tryd.prog 7 3 = 6 ∧
  zeroOf Tryd.prog 7 = some [.t (.int .i64 0), .t (.int .i64 0), .t (.bool false), .t (.int .u8 0)] ∧
  isInt Tryd.prog 7 = none ∧
  szOf Tryd.prog 8 = 4 ∧
  aggOf Tryd.prog 8 = true ∧
  known Tryd.prog 8 = true ∧
  Tryd.prog.bytesOf 8 = 24 ∧
  elOf Tryd.prog 8 = none ∧
  isStr Tryd.prog 8 = false ∧
  isSl Tryd.prog 8 = false ∧
  isBoolT Tryd.prog 8 = false ∧
  isIf Tryd.prog 8 = false ∧
  strOK Tryd.prog 8 = true ∧
  fOf Tryd.prog 8 0 = some (0, 1, false) ∧
  fTy Tryd.prog 8 0 = 2 ∧
  fOf Tryd.prog 8 1 = some (1, 1, false) ∧
  fTy Tryd.prog 8 1 = 3 ∧
  fOf Tryd.prog 8 2 = some (2, 1, false) ∧
  fTy Tryd.prog 8 2 = 4 ∧
  fOf Tryd.prog 8 3 = some (3, 1, false) ∧
  fTy Tryd.prog 8 3 = 6 ∧
  zeroOf Tryd.prog 8 = some [.t (.int .i64 0), .t (.int .i64 0), .t (.bool false), .t (.int .u8 0)] ∧
  isInt Tryd.prog 8 = none ∧
  szOf Tryd.prog 9 = 1 ∧
  aggOf Tryd.prog 9 = false ∧
  known Tryd.prog 9 = true ∧
  Tryd.prog.bytesOf 9 = 16 ∧
  elOf Tryd.prog 9 = none ∧
  isStr Tryd.prog 9 = true ∧
  isSl Tryd.prog 9 = false ∧
  isBoolT Tryd.prog 9 = false ∧
  isIf Tryd.prog 9 = false ∧
  zeroOf Tryd.prog 9 = some [.t (.str [])] ∧
  isInt Tryd.prog 9 = none ∧
  szOf Tryd.prog 10 = 1 ∧
  aggOf Tryd.prog 10 = false ∧
  known Tryd.prog 10 = true ∧
  Tryd.prog.bytesOf 10 = 16 ∧
  elOf Tryd.prog 10 = none ∧
  isStr Tryd.prog 10 = true ∧
  isSl Tryd.prog 10 = false ∧
  isBoolT Tryd.prog 10 = false ∧
  isIf Tryd.prog 10 = false ∧
  zeroOf Tryd.prog 10 = some [.t (.str [])] ∧
  isInt Tryd.prog 10 = none ∧
  szOf Tryd.prog 11 = 1 ∧
  aggOf Tryd.prog 11 = false ∧
  known Tryd.prog 11 = true ∧
  Tryd.prog.bytesOf 11 = 16 ∧
  elOf Tryd.prog 11 = none ∧
  isStr Tryd.prog 11 = true ∧
  isSl Tryd.prog 11 = false ∧
  isBoolT Tryd.prog 11 = false ∧
  isIf Tryd.prog 11 = false ∧
  zeroOf Tryd.prog 11 = some [.t (.str [])] ∧
  isInt Tryd.prog 11 = none ∧
  szOf Tryd.prog 12 = 1 ∧
  aggOf Tryd.prog 12 = false ∧
  known Tryd.prog 12 = true ∧
  Tryd.prog.bytesOf 12 = 8 ∧
  elOf Tryd.prog 12 = none ∧
  isStr Tryd.prog 12 = false ∧
  isSl Tryd.prog 12 = false ∧
  isBoolT Tryd.prog 12 = false ∧
  isIf Tryd.prog 12 = false ∧
  zeroOf Tryd.prog 12 = some [.t (.int .u64 0)] ∧
  isInt Tryd.prog 12 = some .u64 ∧
  szOf Tryd.prog 13 = 2 ∧
  aggOf Tryd.prog 13 = true ∧
  known Tryd.prog 13 = true ∧
  Tryd.prog.bytesOf 13 = 24 ∧
  elOf Tryd.prog 13 = none ∧
  isStr Tryd.prog 13 = false ∧
  isSl Tryd.prog 13 = false ∧
  isBoolT Tryd.prog 13 = false ∧
  isIf Tryd.prog 13 = false ∧
  strOK Tryd.prog 13 = true ∧
  fOf Tryd.prog 13 0 = some (0, 1, false) ∧
  fTy Tryd.prog 13 0 = 9 ∧
  fOf Tryd.prog 13 1 = some (1, 1, false) ∧
  fTy Tryd.prog 13 1 = 12 ∧
  zeroOf Tryd.prog 13 = some [.t (.str []), .t (.int .u64 0)] ∧
  isInt Tryd.prog 13 = none ∧
  szOf Tryd.prog 14 = 2 ∧
  aggOf Tryd.prog 14 = true ∧
  known Tryd.prog 14 = true ∧
  Tryd.prog.bytesOf 14 = 24 ∧
  elOf Tryd.prog 14 = none ∧
  isStr Tryd.prog 14 = false ∧
  isSl Tryd.prog 14 = false ∧
  isBoolT Tryd.prog 14 = false ∧
  isIf Tryd.prog 14 = false ∧
  strOK Tryd.prog 14 = true ∧
  fOf Tryd.prog 14 0 = some (0, 1, false) ∧
  fTy Tryd.prog 14 0 = 9 ∧
  fOf Tryd.prog 14 1 = some (1, 1, false) ∧
  fTy Tryd.prog 14 1 = 12 ∧
  zeroOf Tryd.prog 14 = some [.t (.str []), .t (.int .u64 0)] ∧
  isInt Tryd.prog 14 = none ∧
  szOf Tryd.prog 15 = 1 ∧
  aggOf Tryd.prog 15 = false ∧
  known Tryd.prog 15 = true ∧
  Tryd.prog.bytesOf 15 = 8 ∧
  elOf Tryd.prog 15 = none ∧
  isStr Tryd.prog 15 = false ∧
  isSl Tryd.prog 15 = false ∧
  isBoolT Tryd.prog 15 = false ∧
  isIf Tryd.prog 15 = false ∧
  zeroOf Tryd.prog 15 = some [.t .nilp] ∧
  isInt Tryd.prog 15 = none ∧
  szOf Tryd.prog 16 = 1 ∧
  aggOf Tryd.prog 16 = false ∧
  known Tryd.prog 16 = true ∧
  Tryd.prog.bytesOf 16 = 8 ∧
  elOf Tryd.prog 16 = none ∧
  isStr Tryd.prog 16 = false ∧
  isSl Tryd.prog 16 = false ∧
  isBoolT Tryd.prog 16 = false ∧
  isIf Tryd.prog 16 = false ∧
  zeroOf Tryd.prog 16 = some [.t .nilp] ∧
  isInt Tryd.prog 16 = none ∧
  szOf Tryd.prog 17 = 1 ∧
  aggOf Tryd.prog 17 = false ∧
  known Tryd.prog 17 = true ∧
  Tryd.prog.bytesOf 17 = 8 ∧
  elOf Tryd.prog 17 = none ∧
  isStr Tryd.prog 17 = false ∧
  isSl Tryd.prog 17 = false ∧
  isBoolT Tryd.prog 17 = false ∧
  isIf Tryd.prog 17 = false ∧
  zeroOf Tryd.prog 17 = some [.t .nilp] ∧
  isInt Tryd.prog 17 = none ∧
  szOf Tryd.prog 18 = 1 ∧
  aggOf Tryd.prog 18 = true ∧
  known Tryd.prog 18 = true ∧
  Tryd.prog.bytesOf 18 = 8 ∧
  elOf Tryd.prog 18 = none ∧
  isStr Tryd.prog 18 = false ∧
  isSl Tryd.prog 18 = false ∧
  isBoolT Tryd.prog 18 = false ∧
  isIf Tryd.prog 18 = false ∧
  strOK Tryd.prog 18 = true ∧
  fOf Tryd.prog 18 0 = some (0, 1, false) ∧
  fTy Tryd.prog 18 0 = 17 ∧
  zeroOf Tryd.prog 18 = some [.t .nilp] ∧
  isInt Tryd.prog 18 = none ∧
  szOf Tryd.prog 19 = 1 ∧
  aggOf Tryd.prog 19 = true ∧
  known Tryd.prog 19 = true ∧
  Tryd.prog.bytesOf 19 = 8 ∧
  elOf Tryd.prog 19 = none ∧
  isStr Tryd.prog 19 = false ∧
  isSl Tryd.prog 19 = false ∧
  isBoolT Tryd.prog 19 = false ∧
  isIf Tryd.prog 19 = false ∧
  strOK Tryd.prog 19 = true ∧
  fOf Tryd.prog 19 0 = some (0, 1, false) ∧
  fTy Tryd.prog 19 0 = 17 ∧
  zeroOf Tryd.prog 19 = some [.t .nilp] ∧
  isInt Tryd.prog 19 = none ∧
  szOf Tryd.prog 20 = 1 ∧
  aggOf Tryd.prog 20 = false ∧
  known Tryd.prog 20 = true ∧
  Tryd.prog.bytesOf 20 = 16 ∧
  elOf Tryd.prog 20 = none ∧
  isStr Tryd.prog 20 = false ∧
  isSl Tryd.prog 20 = false ∧
  isBoolT Tryd.prog 20 = false ∧
  isIf Tryd.prog 20 = true ∧
  zeroOf Tryd.prog 20 = some [.t .nili] ∧
  isInt Tryd.prog 20 = none ∧
  szOf Tryd.prog 21 = 1 ∧
  aggOf Tryd.prog 21 = false ∧
  known Tryd.prog 21 = true ∧
  Tryd.prog.bytesOf 21 = 4 ∧
  elOf Tryd.prog 21 = none ∧
  isStr Tryd.prog 21 = false ∧
  isSl Tryd.prog 21 = false ∧
  isBoolT Tryd.prog 21 = false ∧
  isIf Tryd.prog 21 = false ∧
  zeroOf Tryd.prog 21 = some [.t (.int .i32 0)] ∧
  isInt Tryd.prog 21 = some .i32 ∧
  szOf Tryd.prog 22 = 1 ∧
  aggOf Tryd.prog 22 = false ∧
  known Tryd.prog 22 = true ∧
  Tryd.prog.bytesOf 22 = 24 ∧
  elOf Tryd.prog 22 = some 9 ∧
  isStr Tryd.prog 22 = false ∧
  isSl Tryd.prog 22 = true ∧
  isBoolT Tryd.prog 22 = false ∧
  isIf Tryd.prog 22 = false ∧
  zeroOf Tryd.prog 22 = some [.nil 1] ∧
  isInt Tryd.prog 22 = none ∧
  szOf Tryd.prog 23 = 1 ∧
  aggOf Tryd.prog 23 = false ∧
  known Tryd.prog 23 = true ∧
  Tryd.prog.bytesOf 23 = 24 ∧
  elOf Tryd.prog 23 = some 25 ∧
  isStr Tryd.prog 23 = false ∧
  isSl Tryd.prog 23 = true ∧
  isBoolT Tryd.prog 23 = false ∧
  isIf Tryd.prog 23 = false ∧
  zeroOf Tryd.prog 23 = some [.nil 5] ∧
  isInt Tryd.prog 23 = none ∧
  szOf Tryd.prog 24 = 5 ∧
  aggOf Tryd.prog 24 = true ∧
  known Tryd.prog 24 = true ∧
  Tryd.prog.bytesOf 24 = 80 ∧
  elOf Tryd.prog 24 = none ∧
  isStr Tryd.prog 24 = false ∧
  isSl Tryd.prog 24 = false ∧
  isBoolT Tryd.prog 24 = false ∧
  isIf Tryd.prog 24 = false ∧
  strOK Tryd.prog 24 = true ∧
  fOf Tryd.prog 24 0 = some (0, 1, false) ∧
  fTy Tryd.prog 24 0 = 3 ∧
  fOf Tryd.prog 24 1 = some (1, 1, false) ∧
  fTy Tryd.prog 24 1 = 3 ∧
  fOf Tryd.prog 24 2 = some (2, 1, false) ∧
  fTy Tryd.prog 24 2 = 9 ∧
  fOf Tryd.prog 24 3 = some (3, 1, false) ∧
  fTy Tryd.prog 24 3 = 22 ∧
  fOf Tryd.prog 24 4 = some (4, 1, false) ∧
  fTy Tryd.prog 24 4 = 23 ∧
  zeroOf Tryd.prog 24 = some [.t (.int .i64 0), .t (.int .i64 0), .t (.str []), .nil 1, .nil 5] ∧
  isInt Tryd.prog 24 = none ∧
  szOf Tryd.prog 25 = 5 ∧
  aggOf Tryd.prog 25 = true ∧
  known Tryd.prog 25 = true ∧
  Tryd.prog.bytesOf 25 = 80 ∧
  elOf Tryd.prog 25 = none ∧
  isStr Tryd.prog 25 = false ∧
  isSl Tryd.prog 25 = false ∧
  isBoolT Tryd.prog 25 = false ∧
  isIf Tryd.prog 25 = false ∧
  strOK Tryd.prog 25 = true ∧
  fOf Tryd.prog 25 0 = some (0, 1, false) ∧
  fTy Tryd.prog 25 0 = 3 ∧
  fOf Tryd.prog 25 1 = some (1, 1, false) ∧
  fTy Tryd.prog 25 1 = 3 ∧
  fOf Tryd.prog 25 2 = some (2, 1, false) ∧
  fTy Tryd.prog 25 2 = 9 ∧
  fOf Tryd.prog 25 3 = some (3, 1, false) ∧
  fTy Tryd.prog 25 3 = 22 ∧
  fOf Tryd.prog 25 4 = some (4, 1, false) ∧
  fTy Tryd.prog 25 4 = 23 ∧
  zeroOf Tryd.prog 25 = some [.t (.int .i64 0), .t (.int .i64 0), .t (.str []), .nil 1, .nil 5] ∧
  isInt Tryd.prog 25 = none ∧
  szOf Tryd.prog 26 = 1 ∧
  aggOf Tryd.prog 26 = false ∧
  known Tryd.prog 26 = true ∧
  Tryd.prog.bytesOf 26 = 8 ∧
  elOf Tryd.prog 26 = none ∧
  isStr Tryd.prog 26 = false ∧
  isSl Tryd.prog 26 = false ∧
  isBoolT Tryd.prog 26 = false ∧
  isIf Tryd.prog 26 = false ∧
  zeroOf Tryd.prog 26 = some [.t .nilf] ∧
  isInt Tryd.prog 26 = none ∧
  szOf Tryd.prog 27 = 1 ∧
  aggOf Tryd.prog 27 = false ∧
  known Tryd.prog 27 = true ∧
  Tryd.prog.bytesOf 27 = 8 ∧
  elOf Tryd.prog 27 = none ∧
  isStr Tryd.prog 27 = false ∧
  isSl Tryd.prog 27 = false ∧
  isBoolT Tryd.prog 27 = false ∧
  isIf Tryd.prog 27 = false ∧
  zeroOf Tryd.prog 27 = some [.t .nilf] ∧
  isInt Tryd.prog 27 = none ∧
  szOf Tryd.prog 28 = 1 ∧
  aggOf Tryd.prog 28 = false ∧
  known Tryd.prog 28 = true ∧
  Tryd.prog.bytesOf 28 = 24 ∧
  elOf Tryd.prog 28 = some 30 ∧
  isStr Tryd.prog 28 = false ∧
  isSl Tryd.prog 28 = true ∧
  isBoolT Tryd.prog 28 = false ∧
  isIf Tryd.prog 28 = false ∧
  zeroOf Tryd.prog 28 = some [.nil 5] ∧
  isInt Tryd.prog 28 = none ∧
  szOf Tryd.prog 29 = 5 ∧
  aggOf Tryd.prog 29 = true ∧
  known Tryd.prog 29 = true ∧
  Tryd.prog.bytesOf 29 = 80 ∧
  elOf Tryd.prog 29 = none ∧
  isStr Tryd.prog 29 = false ∧
  isSl Tryd.prog 29 = false ∧
  isBoolT Tryd.prog 29 = false ∧
  isIf Tryd.prog 29 = false ∧
  strOK Tryd.prog 29 = true ∧
  fOf Tryd.prog 29 0 = some (0, 1, false) ∧
  fTy Tryd.prog 29 0 = 3 ∧
  fOf Tryd.prog 29 1 = some (1, 1, false) ∧
  fTy Tryd.prog 29 1 = 3 ∧
  fOf Tryd.prog 29 2 = some (2, 1, false) ∧
  fTy Tryd.prog 29 2 = 9 ∧
  fOf Tryd.prog 29 3 = some (3, 1, false) ∧
  fTy Tryd.prog 29 3 = 22 ∧
  fOf Tryd.prog 29 4 = some (4, 1, false) ∧
  fTy Tryd.prog 29 4 = 28 ∧
  zeroOf Tryd.prog 29 = some [.t (.int .i64 0), .t (.int .i64 0), .t (.str []), .nil 1, .nil 5] ∧
  isInt Tryd.prog 29 = none ∧
  szOf Tryd.prog 30 = 5 ∧
  aggOf Tryd.prog 30 = true ∧
  known Tryd.prog 30 = true ∧
  Tryd.prog.bytesOf 30 = 80 ∧
  elOf Tryd.prog 30 = none ∧
  isStr Tryd.prog 30 = false ∧
  isSl Tryd.prog 30 = false ∧
  isBoolT Tryd.prog 30 = false ∧
  isIf Tryd.prog 30 = false ∧
  strOK Tryd.prog 30 = true ∧
  fOf Tryd.prog 30 0 = some (0, 1, false) ∧
  fTy Tryd.prog 30 0 = 3 ∧
  fOf Tryd.prog 30 1 = some (1, 1, false) ∧
  fTy Tryd.prog 30 1 = 3 ∧
  fOf Tryd.prog 30 2 = some (2, 1, false) ∧
  fTy Tryd.prog 30 2 = 9 ∧
  fOf Tryd.prog 30 3 = some (3, 1, false) ∧
  fTy Tryd.prog 30 3 = 22 ∧
  fOf Tryd.prog 30 4 = some (4, 1, false) ∧
  fTy Tryd.prog 30 4 = 28 ∧
  zeroOf Tryd.prog 30 = some [.t (.int .i64 0), .t (.int .i64 0), .t (.str []), .nil 1, .nil 5] ∧
  isInt Tryd.prog 30 = none ∧
  szOf Tryd.prog 31 = 1 ∧
  aggOf Tryd.prog 31 = false ∧
  known Tryd.prog 31 = true ∧
  Tryd.prog.bytesOf 31 = 8 ∧
  elOf Tryd.prog 31 = none ∧
  isStr Tryd.prog 31 = false ∧
  isSl Tryd.prog 31 = false ∧
  isBoolT Tryd.prog 31 = false ∧
  isIf Tryd.prog 31 = false ∧
  zeroOf Tryd.prog 31 = some [.t .nilf] ∧
  isInt Tryd.prog 31 = none ∧
  szOf Tryd.prog 32 = 1 ∧
  aggOf Tryd.prog 32 = false ∧
  known Tryd.prog 32 = true ∧
  Tryd.prog.bytesOf 32 = 8 ∧
  elOf Tryd.prog 32 = none ∧
  isStr Tryd.prog 32 = false ∧
  isSl Tryd.prog 32 = false ∧
  isBoolT Tryd.prog 32 = false ∧
  isIf Tryd.prog 32 = false ∧
  zeroOf Tryd.prog 32 = some [.t .nilf] ∧
  isInt Tryd.prog 32 = none ∧
  szOf Tryd.prog 33 = 1 ∧
  aggOf Tryd.prog 33 = false ∧
  known Tryd.prog 33 = true ∧
  Tryd.prog.bytesOf 33 = 8 ∧
  elOf Tryd.prog 33 = none ∧
  isStr Tryd.prog 33 = false ∧
  isSl Tryd.prog 33 = false ∧
  isBoolT Tryd.prog 33 = false ∧
  isIf Tryd.prog 33 = false ∧
  zeroOf Tryd.prog 33 = some [.t .nilf] ∧
  isInt Tryd.prog 33 = none ∧
  szOf Tryd.prog 34 = 1 ∧
  aggOf Tryd.prog 34 = false ∧
  known Tryd.prog 34 = true ∧
  Tryd.prog.bytesOf 34 = 8 ∧
  elOf Tryd.prog 34 = none ∧
  isStr Tryd.prog 34 = false ∧
  isSl Tryd.prog 34 = false ∧
  isBoolT Tryd.prog 34 = false ∧
  isIf Tryd.prog 34 = false ∧
  zeroOf Tryd.prog 34 = some [.t .nilf] ∧
  isInt Tryd.prog 34 = none ∧
  szOf Tryd.prog 35 = 1 ∧
  aggOf Tryd.prog 35 = false ∧
  known Tryd.prog 35 = true ∧
  Tryd.prog.bytesOf 35 = 8 ∧
  elOf Tryd.prog 35 = none ∧
  isStr Tryd.prog 35 = false ∧
  isSl Tryd.prog 35 = false ∧
  isBoolT Tryd.prog 35 = false ∧
  isIf Tryd.prog 35 = false ∧
  zeroOf Tryd.prog 35 = some [.t .nilf] ∧
  isInt Tryd.prog 35 = none ∧
  szOf Tryd.prog 36 = 1 ∧
  aggOf Tryd.prog 36 = false ∧
  known Tryd.prog 36 = true ∧
  Tryd.prog.bytesOf 36 = 8 ∧
  elOf Tryd.prog 36 = none ∧
  isStr Tryd.prog 36 = false ∧
  isSl Tryd.prog 36 = false ∧
  isBoolT Tryd.prog 36 = false ∧
  isIf Tryd.prog 36 = false ∧
  zeroOf Tryd.prog 36 = some [.t .nilf] ∧
  isInt Tryd.prog 36 = none ∧
  szOf Tryd.prog 37 = 1 ∧
  aggOf Tryd.prog 37 = false ∧
  known Tryd.prog 37 = true ∧
  Tryd.prog.bytesOf 37 = 8 ∧
  elOf Tryd.prog 37 = none ∧
  isStr Tryd.prog 37 = false ∧
  isSl Tryd.prog 37 = false ∧
  isBoolT Tryd.prog 37 = false ∧
  isIf Tryd.prog 37 = false ∧
  zeroOf Tryd.prog 37 = some [.t .nilf] ∧
  isInt Tryd.prog 37 = none ∧
  szOf Tryd.prog 38 = 1 ∧
  aggOf Tryd.prog 38 = false ∧
  known Tryd.prog 38 = true ∧
  Tryd.prog.bytesOf 38 = 8 ∧
  elOf Tryd.prog 38 = none ∧
  isStr Tryd.prog 38 = false ∧
  isSl Tryd.prog 38 = false ∧
  isBoolT Tryd.prog 38 = false ∧
  isIf Tryd.prog 38 = false ∧
  zeroOf Tryd.prog 38 = some [.t .nilf] ∧
  isInt Tryd.prog 38 = none ∧
  szOf Tryd.prog 39 = 1 ∧
  aggOf Tryd.prog 39 = false ∧
  known Tryd.prog 39 = true ∧
  Tryd.prog.bytesOf 39 = 8 ∧
  elOf Tryd.prog 39 = none ∧
  isStr Tryd.prog 39 = false ∧
  isSl Tryd.prog 39 = false ∧
  isBoolT Tryd.prog 39 = false ∧
  isIf Tryd.prog 39 = false ∧
  zeroOf Tryd.prog 39 = some [.t .nilf] ∧
  isInt Tryd.prog 39 = none ∧
  szOf Tryd.prog 40 = 1 ∧
  aggOf Tryd.prog 40 = false ∧
  known Tryd.prog 40 = true ∧
  Tryd.prog.bytesOf 40 = 8 ∧
  elOf Tryd.prog 40 = none ∧
  isStr Tryd.prog 40 = false ∧
  isSl Tryd.prog 40 = false ∧
  isBoolT Tryd.prog 40 = false ∧
  isIf Tryd.prog 40 = false ∧
  zeroOf Tryd.prog 40 = some [.t .nilf] ∧
  isInt Tryd.prog 40 = none ∧
  szOf Tryd.prog 41 = 1 ∧
  aggOf Tryd.prog 41 = false ∧
  known Tryd.prog 41 = true ∧
  Tryd.prog.bytesOf 41 = 8 ∧
  elOf Tryd.prog 41 = none ∧
  isStr Tryd.prog 41 = false ∧
  isSl Tryd.prog 41 = false ∧
  isBoolT Tryd.prog 41 = false ∧
  isIf Tryd.prog 41 = false ∧
  zeroOf Tryd.prog 41 = some [.t .nilf] ∧
  isInt Tryd.prog 41 = none ∧
  szOf Tryd.prog 42 = 1 ∧
  aggOf Tryd.prog 42 = false ∧
  known Tryd.prog 42 = true ∧
  Tryd.prog.bytesOf 42 = 8 ∧
  elOf Tryd.prog 42 = none ∧
  isStr Tryd.prog 42 = false ∧
  isSl Tryd.prog 42 = false ∧
  isBoolT Tryd.prog 42 = false ∧
  isIf Tryd.prog 42 = false ∧
  zeroOf Tryd.prog 42 = some [.t .nilf] ∧
  isInt Tryd.prog 42 = none ∧
  szOf Tryd.prog 43 = 1 ∧
  aggOf Tryd.prog 43 = false ∧
  known Tryd.prog 43 = true ∧
  Tryd.prog.bytesOf 43 = 8 ∧
  elOf Tryd.prog 43 = none ∧
  isStr Tryd.prog 43 = false ∧
  isSl Tryd.prog 43 = false ∧
  isBoolT Tryd.prog 43 = false ∧
  isIf Tryd.prog 43 = false ∧
  zeroOf Tryd.prog 43 = some [.t .nilf] ∧
  isInt Tryd.prog 43 = none ∧
  szOf Tryd.prog 44 = 1 ∧
  aggOf Tryd.prog 44 = false ∧
  known Tryd.prog 44 = true ∧
  Tryd.prog.bytesOf 44 = 8 ∧
  elOf Tryd.prog 44 = none ∧
  isStr Tryd.prog 44 = false ∧
  isSl Tryd.prog 44 = false ∧
  isBoolT Tryd.prog 44 = false ∧
  isIf Tryd.prog 44 = false ∧
  zeroOf Tryd.prog 44 = some [.t .nilf] ∧
  isInt Tryd.prog 44 = none ∧
  szOf Tryd.prog 45 = 1 ∧
  aggOf Tryd.prog 45 = false ∧
  known Tryd.prog 45 = true ∧
  Tryd.prog.bytesOf 45 = 8 ∧
  elOf Tryd.prog 45 = none ∧
  isStr Tryd.prog 45 = false ∧
  isSl Tryd.prog 45 = false ∧
  isBoolT Tryd.prog 45 = false ∧
  isIf Tryd.prog 45 = false ∧
  zeroOf Tryd.prog 45 = some [.t .nilf] ∧
  isInt Tryd.prog 45 = none ∧
  szOf Tryd.prog 46 = 1 ∧
  aggOf Tryd.prog 46 = false ∧
  known Tryd.prog 46 = true ∧
  Tryd.prog.bytesOf 46 = 8 ∧
  elOf Tryd.prog 46 = none ∧
  isStr Tryd.prog 46 = false ∧
  isSl Tryd.prog 46 = false ∧
  isBoolT Tryd.prog 46 = false ∧
  isIf Tryd.prog 46 = false ∧
  zeroOf Tryd.prog 46 = some [.t .nilf] ∧
  isInt Tryd.prog 46 = none ∧
  szOf Tryd.prog 47 = 1 ∧
  aggOf Tryd.prog 47 = false ∧
  known Tryd.prog 47 = true ∧
  Tryd.prog.bytesOf 47 = 8 ∧
  elOf Tryd.prog 47 = none ∧
  isStr Tryd.prog 47 = false ∧
  isSl Tryd.prog 47 = false ∧
  isBoolT Tryd.prog 47 = false ∧
  isIf Tryd.prog 47 = false ∧
  zeroOf Tryd.prog 47 = some [.t .nilp] ∧
  isInt Tryd.prog 47 = none ∧
  szOf Tryd.prog 48 = 1 ∧
  aggOf Tryd.prog 48 = false ∧
  known Tryd.prog 48 = true ∧
  Tryd.prog.bytesOf 48 = 8 ∧
  elOf Tryd.prog 48 = none ∧
  isStr Tryd.prog 48 = false ∧
  isSl Tryd.prog 48 = false ∧
  isBoolT Tryd.prog 48 = false ∧
  isIf Tryd.prog 48 = false ∧
  zeroOf Tryd.prog 48 = some [.t .nilf] ∧
  isInt Tryd.prog 48 = none ∧
  szOf Tryd.prog 49 = 1 ∧
  aggOf Tryd.prog 49 = false ∧
  known Tryd.prog 49 = true ∧
  Tryd.prog.bytesOf 49 = 24 ∧
  elOf Tryd.prog 49 = some 5 ∧
  isStr Tryd.prog 49 = false ∧
  isSl Tryd.prog 49 = true ∧
  isBoolT Tryd.prog 49 = false ∧
  isIf Tryd.prog 49 = false ∧
  zeroOf Tryd.prog 49 = some [.nil 1] ∧
  isInt Tryd.prog 49 = none ∧
  szOf Tryd.prog 50 = 1 ∧
  aggOf Tryd.prog 50 = false ∧
  known Tryd.prog 50 = true ∧
  Tryd.prog.bytesOf 50 = 8 ∧
  elOf Tryd.prog 50 = none ∧
  isStr Tryd.prog 50 = false ∧
  isSl Tryd.prog 50 = false ∧
  isBoolT Tryd.prog 50 = false ∧
  isIf Tryd.prog 50 = false ∧
  zeroOf Tryd.prog 50 = some [.t .nilf] ∧
  isInt Tryd.prog 50 = none ∧
  szOf Tryd.prog 51 = 1 ∧
  aggOf Tryd.prog 51 = false ∧
  known Tryd.prog 51 = true ∧
  Tryd.prog.bytesOf 51 = 8 ∧
  elOf Tryd.prog 51 = none ∧
  isStr Tryd.prog 51 = false ∧
  isSl Tryd.prog 51 = false ∧
  isBoolT Tryd.prog 51 = false ∧
  isIf Tryd.prog 51 = false ∧
  zeroOf Tryd.prog 51 = some [.t .nilf] ∧
  isInt Tryd.prog 51 = none ∧
  szOf Tryd.prog 52 = 1 ∧
  aggOf Tryd.prog 52 = false ∧
  known Tryd.prog 52 = true ∧
  Tryd.prog.bytesOf 52 = 8 ∧
  elOf Tryd.prog 52 = none ∧
  isStr Tryd.prog 52 = false ∧
  isSl Tryd.prog 52 = false ∧
  isBoolT Tryd.prog 52 = false ∧
  isIf Tryd.prog 52 = false ∧
  zeroOf Tryd.prog 52 = some [.t .nilp] ∧
  isInt Tryd.prog 52 = none ∧
  szOf Tryd.prog 53 = 2 ∧
  aggOf Tryd.prog 53 = true ∧
  known Tryd.prog 53 = true ∧
  Tryd.prog.bytesOf 53 = 32 ∧
  elOf Tryd.prog 53 = none ∧
  isStr Tryd.prog 53 = false ∧
  isSl Tryd.prog 53 = false ∧
  isBoolT Tryd.prog 53 = false ∧
  isIf Tryd.prog 53 = false ∧
  strOK Tryd.prog 53 = true ∧
  fOf Tryd.prog 53 0 = some (0, 1, false) ∧
  fTy Tryd.prog 53 0 = 52 ∧
  fOf Tryd.prog 53 1 = some (1, 1, false) ∧
  fTy Tryd.prog 53 1 = 49 ∧
  zeroOf Tryd.prog 53 = some [.t .nilp, .nil 1] ∧
  isInt Tryd.prog 53 = none ∧
  szOf Tryd.prog 54 = 2 ∧
  aggOf Tryd.prog 54 = true ∧
  known Tryd.prog 54 = true ∧
  Tryd.prog.bytesOf 54 = 32 ∧
  elOf Tryd.prog 54 = none ∧
  isStr Tryd.prog 54 = false ∧
  isSl Tryd.prog 54 = false ∧
  isBoolT Tryd.prog 54 = false ∧
  isIf Tryd.prog 54 = false ∧
  strOK Tryd.prog 54 = true ∧
  fOf Tryd.prog 54 0 = some (0, 1, false) ∧
  fTy Tryd.prog 54 0 = 52 ∧
  fOf Tryd.prog 54 1 = some (1, 1, false) ∧
  fTy Tryd.prog 54 1 = 49 ∧
  zeroOf Tryd.prog 54 = some [.t .nilp, .nil 1] ∧
  isInt Tryd.prog 54 = none ∧
  szOf Tryd.prog 55 = 1 ∧
  aggOf Tryd.prog 55 = false ∧
  known Tryd.prog 55 = true ∧
  Tryd.prog.bytesOf 55 = 8 ∧
  elOf Tryd.prog 55 = none ∧
  isStr Tryd.prog 55 = false ∧
  isSl Tryd.prog 55 = false ∧
  isBoolT Tryd.prog 55 = false ∧
  isIf Tryd.prog 55 = false ∧
  zeroOf Tryd.prog 55 = some [.t .nilf] ∧
  isInt Tryd.prog 55 = none ∧
  szOf Tryd.prog 56 = 1 ∧
  aggOf Tryd.prog 56 = false ∧
  known Tryd.prog 56 = true ∧
  Tryd.prog.bytesOf 56 = 16 ∧
  elOf Tryd.prog 56 = none ∧
  isStr Tryd.prog 56 = false ∧
  isSl Tryd.prog 56 = false ∧
  isBoolT Tryd.prog 56 = false ∧
  isIf Tryd.prog 56 = true ∧
  zeroOf Tryd.prog 56 = some [.t .nili] ∧
  isInt Tryd.prog 56 = none ∧
  szOf Tryd.prog 57 = 1 ∧
  aggOf Tryd.prog 57 = false ∧
  known Tryd.prog 57 = true ∧
  Tryd.prog.bytesOf 57 = 16 ∧
  elOf Tryd.prog 57 = none ∧
  isStr Tryd.prog 57 = false ∧
  isSl Tryd.prog 57 = false ∧
  isBoolT Tryd.prog 57 = false ∧
  isIf Tryd.prog 57 = true ∧
  zeroOf Tryd.prog 57 = some [.t .nili] ∧
  isInt Tryd.prog 57 = none ∧
  szOf Tryd.prog 59 = 1 ∧
  aggOf Tryd.prog 59 = false ∧
  known Tryd.prog 59 = true ∧
  Tryd.prog.bytesOf 59 = 8 ∧
  elOf Tryd.prog 59 = none ∧
  isStr Tryd.prog 59 = false ∧
  isSl Tryd.prog 59 = false ∧
  isBoolT Tryd.prog 59 = false ∧
  isIf Tryd.prog 59 = false ∧
  zeroOf Tryd.prog 59 = some [.t .nilf] ∧
  isInt Tryd.prog 59 = none ∧
  szOf Tryd.prog 60 = 1 ∧
  aggOf Tryd.prog 60 = false ∧
  known Tryd.prog 60 = true ∧
  Tryd.prog.bytesOf 60 = 8 ∧
  elOf Tryd.prog 60 = none ∧
  isStr Tryd.prog 60 = false ∧
  isSl Tryd.prog 60 = false ∧
  isBoolT Tryd.prog 60 = false ∧
  isIf Tryd.prog 60 = false ∧
  zeroOf Tryd.prog 60 = some [.t .nilf] ∧
  isInt Tryd.prog 60 = none ∧
  szOf Tryd.prog 61 = 1 ∧
  aggOf Tryd.prog 61 = false ∧
  known Tryd.prog 61 = true ∧
  Tryd.prog.bytesOf 61 = 8 ∧
  elOf Tryd.prog 61 = none ∧
  isStr Tryd.prog 61 = false ∧
  isSl Tryd.prog 61 = false ∧
  isBoolT Tryd.prog 61 = false ∧
  isIf Tryd.prog 61 = false ∧
  zeroOf Tryd.prog 61 = some [.t .nilf] ∧
  isInt Tryd.prog 61 = none ∧
  szOf Tryd.prog 62 = 1 ∧
  aggOf Tryd.prog 62 = false ∧
  known Tryd.prog 62 = true ∧
  Tryd.prog.bytesOf 62 = 8 ∧
  elOf Tryd.prog 62 = none ∧
  isStr Tryd.prog 62 = false ∧
  isSl Tryd.prog 62 = false ∧
  isBoolT Tryd.prog 62 = false ∧
  isIf Tryd.prog 62 = false ∧
  zeroOf Tryd.prog 62 = some [.t .nilf] ∧
  isInt Tryd.prog 62 = none ∧
  szOf Tryd.prog 63 = 1 ∧
  aggOf Tryd.prog 63 = false ∧
  known Tryd.prog 63 = true ∧
  Tryd.prog.bytesOf 63 = 8 ∧
  elOf Tryd.prog 63 = none ∧
  isStr Tryd.prog 63 = false ∧
  isSl Tryd.prog 63 = false ∧
  isBoolT Tryd.prog 63 = false ∧
  isIf Tryd.prog 63 = false ∧
  zeroOf Tryd.prog 63 = some [.t (.int .u64 0)] ∧
  isInt Tryd.prog 63 = some .u64 ∧
  szOf Tryd.prog 64 = 1 ∧
  aggOf Tryd.prog 64 = false ∧
  known Tryd.prog 64 = true ∧
  Tryd.prog.bytesOf 64 = 8 ∧
  elOf Tryd.prog 64 = none ∧
  isStr Tryd.prog 64 = false ∧
  isSl Tryd.prog 64 = false ∧
  isBoolT Tryd.prog 64 = false ∧
  isIf Tryd.prog 64 = false ∧
  zeroOf Tryd.prog 64 = some [.t .nilp] ∧
  isInt Tryd.prog 64 = none ∧
  szOf Tryd.prog 65 = 1 ∧
  aggOf Tryd.prog 65 = false ∧
  known Tryd.prog 65 = true ∧
  Tryd.prog.bytesOf 65 = 8 ∧
  elOf Tryd.prog 65 = none ∧
  isStr Tryd.prog 65 = false ∧
  isSl Tryd.prog 65 = false ∧
  isBoolT Tryd.prog 65 = false ∧
  isIf Tryd.prog 65 = false ∧
  zeroOf Tryd.prog 65 = some [.t .nilf] ∧
  isInt Tryd.prog 65 = none ∧
  szOf Tryd.prog 67 = 1 ∧
  aggOf Tryd.prog 67 = false ∧
  known Tryd.prog 67 = true ∧
  Tryd.prog.bytesOf 67 = 8 ∧
  elOf Tryd.prog 67 = none ∧
  isStr Tryd.prog 67 = false ∧
  isSl Tryd.prog 67 = false ∧
  isBoolT Tryd.prog 67 = false ∧
  isIf Tryd.prog 67 = false ∧
  zeroOf Tryd.prog 67 = some [.t .nilf] ∧
  isInt Tryd.prog 67 = none ∧
  szOf Tryd.prog 68 = 1 ∧
  aggOf Tryd.prog 68 = false ∧
  known Tryd.prog 68 = true ∧
  Tryd.prog.bytesOf 68 = 8 ∧
  elOf Tryd.prog 68 = none ∧
  isStr Tryd.prog 68 = false ∧
  isSl Tryd.prog 68 = false ∧
  isBoolT Tryd.prog 68 = false ∧
  isIf Tryd.prog 68 = false ∧
  zeroOf Tryd.prog 68 = some [.t .nilf] ∧
  isInt Tryd.prog 68 = none ∧
  szOf Tryd.prog 70 = 1 ∧
  aggOf Tryd.prog 70 = false ∧
  known Tryd.prog 70 = true ∧
  Tryd.prog.bytesOf 70 = 8 ∧
  elOf Tryd.prog 70 = none ∧
  isStr Tryd.prog 70 = false ∧
  isSl Tryd.prog 70 = false ∧
  isBoolT Tryd.prog 70 = false ∧
  isIf Tryd.prog 70 = false ∧
  zeroOf Tryd.prog 70 = some [.t (.int .u64 0)] ∧
  isInt Tryd.prog 70 = some .u64 ∧
  szOf Tryd.prog 71 = 1 ∧
  aggOf Tryd.prog 71 = false ∧
  known Tryd.prog 71 = true ∧
  Tryd.prog.bytesOf 71 = 8 ∧
  elOf Tryd.prog 71 = none ∧
  isStr Tryd.prog 71 = false ∧
  isSl Tryd.prog 71 = false ∧
  isBoolT Tryd.prog 71 = false ∧
  isIf Tryd.prog 71 = false ∧
  zeroOf Tryd.prog 71 = some [.t .nilf] ∧
  isInt Tryd.prog 71 = none ∧
  szOf Tryd.prog 72 = 1 ∧
  aggOf Tryd.prog 72 = false ∧
  known Tryd.prog 72 = true ∧
  Tryd.prog.bytesOf 72 = 8 ∧
  elOf Tryd.prog 72 = none ∧
  isStr Tryd.prog 72 = false ∧
  isSl Tryd.prog 72 = false ∧
  isBoolT Tryd.prog 72 = false ∧
  isIf Tryd.prog 72 = false ∧
  zeroOf Tryd.prog 72 = some [.t .nilf] ∧
  isInt Tryd.prog 72 = none ∧
  szOf Tryd.prog 74 = 1 ∧
  aggOf Tryd.prog 74 = false ∧
  known Tryd.prog 74 = true ∧
  Tryd.prog.bytesOf 74 = 8 ∧
  elOf Tryd.prog 74 = none ∧
  isStr Tryd.prog 74 = false ∧
  isSl Tryd.prog 74 = false ∧
  isBoolT Tryd.prog 74 = false ∧
  isIf Tryd.prog 74 = false ∧
  zeroOf Tryd.prog 74 = some [.t .nilf] ∧
  isInt Tryd.prog 74 = none ∧
  szOf Tryd.prog 75 = 1 ∧
  aggOf Tryd.prog 75 = false ∧
  known Tryd.prog 75 = true ∧
  Tryd.prog.bytesOf 75 = 8 ∧
  elOf Tryd.prog 75 = none ∧
  isStr Tryd.prog 75 = false ∧
  isSl Tryd.prog 75 = false ∧
  isBoolT Tryd.prog 75 = false ∧
  isIf Tryd.prog 75 = false ∧
  zeroOf Tryd.prog 75 = some [.t .nilf] ∧
  isInt Tryd.prog 75 = none ∧
  szOf Tryd.prog 76 = 1 ∧
  aggOf Tryd.prog 76 = false ∧
  known Tryd.prog 76 = true ∧
  Tryd.prog.bytesOf 76 = 8 ∧
  elOf Tryd.prog 76 = none ∧
  isStr Tryd.prog 76 = false ∧
  isSl Tryd.prog 76 = false ∧
  isBoolT Tryd.prog 76 = false ∧
  isIf Tryd.prog 76 = false ∧
  zeroOf Tryd.prog 76 = some [.t .nilf] ∧
  isInt Tryd.prog 76 = none ∧
  szOf Tryd.prog 78 = 1 ∧
  aggOf Tryd.prog 78 = false ∧
  known Tryd.prog 78 = true ∧
  Tryd.prog.bytesOf 78 = 4 ∧
  elOf Tryd.prog 78 = none ∧
  isStr Tryd.prog 78 = false ∧
  isSl Tryd.prog 78 = false ∧
  isBoolT Tryd.prog 78 = false ∧
  isIf Tryd.prog 78 = false ∧
  zeroOf Tryd.prog 78 = some [.t (.int .u32 0)] ∧
  isInt Tryd.prog 78 = some .u32 ∧
  szOf Tryd.prog 80 = 1 ∧
  aggOf Tryd.prog 80 = false ∧
  known Tryd.prog 80 = true ∧
  Tryd.prog.bytesOf 80 = 8 ∧
  elOf Tryd.prog 80 = none ∧
  isStr Tryd.prog 80 = false ∧
  isSl Tryd.prog 80 = false ∧
  isBoolT Tryd.prog 80 = false ∧
  isIf Tryd.prog 80 = false ∧
  zeroOf Tryd.prog 80 = some [.t .nilf] ∧
  isInt Tryd.prog 80 = none ∧
  szOf Tryd.prog 81 = 1 ∧
  aggOf Tryd.prog 81 = false ∧
  known Tryd.prog 81 = true ∧
  Tryd.prog.bytesOf 81 = 8 ∧
  elOf Tryd.prog 81 = none ∧
  isStr Tryd.prog 81 = false ∧
  isSl Tryd.prog 81 = false ∧
  isBoolT Tryd.prog 81 = false ∧
  isIf Tryd.prog 81 = false ∧
  zeroOf Tryd.prog 81 = some [.t .nilf] ∧
  isInt Tryd.prog 81 = none ∧
  szOf Tryd.prog 82 = 1 ∧
  aggOf Tryd.prog 82 = false ∧
  known Tryd.prog 82 = true ∧
  Tryd.prog.bytesOf 82 = 8 ∧
  elOf Tryd.prog 82 = none ∧
  isStr Tryd.prog 82 = false ∧
  isSl Tryd.prog 82 = false ∧
  isBoolT Tryd.prog 82 = false ∧
  isIf Tryd.prog 82 = false ∧
  zeroOf Tryd.prog 82 = some [.t .nilf] ∧
  isInt Tryd.prog 82 = none ∧
  szOf Tryd.prog 85 = 4 ∧
  aggOf Tryd.prog 85 = true ∧
  known Tryd.prog 85 = true ∧
  Tryd.prog.bytesOf 85 = 40 ∧
  elOf Tryd.prog 85 = none ∧
  isStr Tryd.prog 85 = false ∧
  isSl Tryd.prog 85 = false ∧
  isBoolT Tryd.prog 85 = false ∧
  isIf Tryd.prog 85 = false ∧
  strOK Tryd.prog 85 = true ∧
  fOf Tryd.prog 85 0 = some (0, 1, false) ∧
  fTy Tryd.prog 85 0 = 17 ∧
  fOf Tryd.prog 85 1 = some (1, 1, false) ∧
  fTy Tryd.prog 85 1 = 17 ∧
  fOf Tryd.prog 85 2 = some (2, 1, false) ∧
  fTy Tryd.prog 85 2 = 17 ∧
  fOf Tryd.prog 85 3 = some (3, 1, false) ∧
  fTy Tryd.prog 85 3 = 9 ∧
  zeroOf Tryd.prog 85 = some [.t .nilp, .t .nilp, .t .nilp, .t (.str [])] ∧
  isInt Tryd.prog 85 = none ∧
  szOf Tryd.prog 86 = 4 ∧
  aggOf Tryd.prog 86 = true ∧
  known Tryd.prog 86 = true ∧
  Tryd.prog.bytesOf 86 = 40 ∧
  elOf Tryd.prog 86 = none ∧
  isStr Tryd.prog 86 = false ∧
  isSl Tryd.prog 86 = false ∧
  isBoolT Tryd.prog 86 = false ∧
  isIf Tryd.prog 86 = false ∧
  strOK Tryd.prog 86 = true ∧
  fOf Tryd.prog 86 0 = some (0, 1, false) ∧
  fTy Tryd.prog 86 0 = 17 ∧
  fOf Tryd.prog 86 1 = some (1, 1, false) ∧
  fTy Tryd.prog 86 1 = 17 ∧
  fOf Tryd.prog 86 2 = some (2, 1, false) ∧
  fTy Tryd.prog 86 2 = 17 ∧
  fOf Tryd.prog 86 3 = some (3, 1, false) ∧
  fTy Tryd.prog 86 3 = 9 ∧
  zeroOf Tryd.prog 86 = some [.t .nilp, .t .nilp, .t .nilp, .t (.str [])] ∧
  isInt Tryd.prog 86 = none ∧
  szOf Tryd.prog 90 = 1 ∧
  aggOf Tryd.prog 90 = false ∧
  known Tryd.prog 90 = true ∧
  Tryd.prog.bytesOf 90 = 8 ∧
  elOf Tryd.prog 90 = none ∧
  isStr Tryd.prog 90 = false ∧
  isSl Tryd.prog 90 = false ∧
  isBoolT Tryd.prog 90 = false ∧
  isIf Tryd.prog 90 = false ∧
  zeroOf Tryd.prog 90 = some [.t .nilf] ∧
  isInt Tryd.prog 90 = none ∧
  szOf Tryd.prog 91 = 1 ∧
  aggOf Tryd.prog 91 = false ∧
  known Tryd.prog 91 = true ∧
  Tryd.prog.bytesOf 91 = 1 ∧
  elOf Tryd.prog 91 = none ∧
  isStr Tryd.prog 91 = false ∧
  isSl Tryd.prog 91 = false ∧
  isBoolT Tryd.prog 91 = false ∧
  isIf Tryd.prog 91 = false ∧
  zeroOf Tryd.prog 91 = some [.t (.int .u8 0)] ∧
  isInt Tryd.prog 91 = some .u8 ∧
  szOf Tryd.prog 92 = 1 ∧
  aggOf Tryd.prog 92 = false ∧
  known Tryd.prog 92 = true ∧
  Tryd.prog.bytesOf 92 = 1 ∧
  elOf Tryd.prog 92 = none ∧
  isStr Tryd.prog 92 = false ∧
  isSl Tryd.prog 92 = false ∧
  isBoolT Tryd.prog 92 = false ∧
  isIf Tryd.prog 92 = false ∧
  zeroOf Tryd.prog 92 = some [.t (.int .u8 0)] ∧
  isInt Tryd.prog 92 = some .u8 ∧
  szOf Tryd.prog 93 = 1 ∧
  aggOf Tryd.prog 93 = false ∧
  known Tryd.prog 93 = true ∧
  Tryd.prog.bytesOf 93 = 8 ∧
  elOf Tryd.prog 93 = none ∧
  isStr Tryd.prog 93 = false ∧
  isSl Tryd.prog 93 = false ∧
  isBoolT Tryd.prog 93 = false ∧
  isIf Tryd.prog 93 = false ∧
  zeroOf Tryd.prog 93 = some [.t .nilf] ∧
  isInt Tryd.prog 93 = none ∧
  szOf Tryd.prog 94 = 1 ∧
  aggOf Tryd.prog 94 = false ∧
  known Tryd.prog 94 = true ∧
  Tryd.prog.bytesOf 94 = 4 ∧
  elOf Tryd.prog 94 = none ∧
  isStr Tryd.prog 94 = false ∧
  isSl Tryd.prog 94 = false ∧
  isBoolT Tryd.prog 94 = false ∧
  isIf Tryd.prog 94 = false ∧
  zeroOf Tryd.prog 94 = some [.t (.int .i32 0)] ∧
  isInt Tryd.prog 94 = some .i32 ∧
  szOf Tryd.prog 95 = 1 ∧
  aggOf Tryd.prog 95 = false ∧
  known Tryd.prog 95 = true ∧
  Tryd.prog.bytesOf 95 = 4 ∧
  elOf Tryd.prog 95 = none ∧
  isStr Tryd.prog 95 = false ∧
  isSl Tryd.prog 95 = false ∧
  isBoolT Tryd.prog 95 = false ∧
  isIf Tryd.prog 95 = false ∧
  zeroOf Tryd.prog 95 = some [.t (.int .i32 0)] ∧
  isInt Tryd.prog 95 = some .i32 ∧
  szOf Tryd.prog 96 = 11 ∧
  aggOf Tryd.prog 96 = true ∧
  known Tryd.prog 96 = true ∧
  Tryd.prog.bytesOf 96 = 48 ∧
  elOf Tryd.prog 96 = none ∧
  isStr Tryd.prog 96 = false ∧
  isSl Tryd.prog 96 = false ∧
  isBoolT Tryd.prog 96 = false ∧
  isIf Tryd.prog 96 = false ∧
  strOK Tryd.prog 96 = true ∧
  fOf Tryd.prog 96 0 = some (0, 1, false) ∧
  fTy Tryd.prog 96 0 = 12 ∧
  fOf Tryd.prog 96 1 = some (1, 1, false) ∧
  fTy Tryd.prog 96 1 = 12 ∧
  fOf Tryd.prog 96 2 = some (2, 1, false) ∧
  fTy Tryd.prog 96 2 = 78 ∧
  fOf Tryd.prog 96 3 = some (3, 1, false) ∧
  fTy Tryd.prog 96 3 = 91 ∧
  fOf Tryd.prog 96 4 = some (4, 1, false) ∧
  fTy Tryd.prog 96 4 = 5 ∧
  fOf Tryd.prog 96 5 = some (5, 1, false) ∧
  fTy Tryd.prog 96 5 = 5 ∧
  fOf Tryd.prog 96 6 = some (6, 1, false) ∧
  fTy Tryd.prog 96 6 = 92 ∧
  fOf Tryd.prog 96 7 = some (7, 1, false) ∧
  fTy Tryd.prog 96 7 = 93 ∧
  fOf Tryd.prog 96 8 = some (8, 1, false) ∧
  fTy Tryd.prog 96 8 = 64 ∧
  fOf Tryd.prog 96 9 = some (9, 1, false) ∧
  fTy Tryd.prog 96 9 = 94 ∧
  fOf Tryd.prog 96 10 = some (10, 1, false) ∧
  fTy Tryd.prog 96 10 = 95 ∧
  zeroOf Tryd.prog 96 = some [.t (.int .u64 0), .t (.int .u64 0), .t (.int .u32 0), .t (.int .u8 0), .t (.int .u8 0), .t (.int .u8 0), .t (.int .u8 0), .t .nilf, .t .nilp, .t (.int .i32 0), .t (.int .i32 0)] ∧
  isInt Tryd.prog 96 = none ∧
  szOf Tryd.prog 97 = 11 ∧
  aggOf Tryd.prog 97 = true ∧
  known Tryd.prog 97 = true ∧
  Tryd.prog.bytesOf 97 = 48 ∧
  elOf Tryd.prog 97 = none ∧
  isStr Tryd.prog 97 = false ∧
  isSl Tryd.prog 97 = false ∧
  isBoolT Tryd.prog 97 = false ∧
  isIf Tryd.prog 97 = false ∧
  strOK Tryd.prog 97 = true ∧
  fOf Tryd.prog 97 0 = some (0, 1, false) ∧
  fTy Tryd.prog 97 0 = 12 ∧
  fOf Tryd.prog 97 1 = some (1, 1, false) ∧
  fTy Tryd.prog 97 1 = 12 ∧
  fOf Tryd.prog 97 2 = some (2, 1, false) ∧
  fTy Tryd.prog 97 2 = 78 ∧
  fOf Tryd.prog 97 3 = some (3, 1, false) ∧
  fTy Tryd.prog 97 3 = 91 ∧
  fOf Tryd.prog 97 4 = some (4, 1, false) ∧
  fTy Tryd.prog 97 4 = 5 ∧
  fOf Tryd.prog 97 5 = some (5, 1, false) ∧
  fTy Tryd.prog 97 5 = 5 ∧
  fOf Tryd.prog 97 6 = some (6, 1, false) ∧
  fTy Tryd.prog 97 6 = 92 ∧
  fOf Tryd.prog 97 7 = some (7, 1, false) ∧
  fTy Tryd.prog 97 7 = 93 ∧
  fOf Tryd.prog 97 8 = some (8, 1, false) ∧
  fTy Tryd.prog 97 8 = 64 ∧
  fOf Tryd.prog 97 9 = some (9, 1, false) ∧
  fTy Tryd.prog 97 9 = 94 ∧
  fOf Tryd.prog 97 10 = some (10, 1, false) ∧
  fTy Tryd.prog 97 10 = 95 ∧
  zeroOf Tryd.prog 97 = some [.t (.int .u64 0), .t (.int .u64 0), .t (.int .u32 0), .t (.int .u8 0), .t (.int .u8 0), .t (.int .u8 0), .t (.int .u8 0), .t .nilf, .t .nilp, .t (.int .i32 0), .t (.int .i32 0)] ∧
  isInt Tryd.prog 97 = none :=
  ⟨TY_0, TY_1, TY_2, TY_3, TY_4, TY_5, TY_6, TY_7, TY_8, TY_9, TY_10, TY_11, TY_12, TY_13, TY_14, TY_15, TY_16, TY_17, TY_18, TY_19, TY_20, TY_21, TY_22, TY_23, TY_24, TY_25, TY_26, TY_27, TY_28, TY_29, TY_30, TY_31, TY_32, TY_33, TY_34, TY_35, TY_36, TY_37, TY_38, TY_39, TY_40, TY_41, TY_42, TY_43, TY_44, TY_45, TY_46, TY_47, TY_48, TY_49, TY_50, TY_51, TY_52, TY_53, TY_54, TY_55, TY_56, TY_57, TY_58, TY_59, TY_60, TY_61, TY_62, TY_63, TY_64, TY_65, TY_66, TY_67, TY_68, TY_69, TY_70, TY_71, TY_72, TY_73, TY_74, TY_75, TY_76, TY_77, TY_78, TY_79, TY_80, TY_81, TY_82, TY_83, TY_84, TY_85, TY_86, TY_87, TY_88, TY_89, TY_90, TY_91, TY_92, TY_93, TY_94, TY_95, TY_96, TY_97, TY_98, TY_99, TY_100, TY_101, TY_102, TY_103, TY_104, TY_105, TY_106, TY_107, TY_108, TY_109, TY_110, TY_111, TY_112, TY_113, TY_114, TY_115, TY_116, TY_117, TY_118, TY_119, TY_120, TY_121, TY_122, TY_123, TY_124, TY_125, TY_126, TY_127, TY_128, TY_129, TY_130, TY_131, TY_132, TY_133, TY_134, TY_135, TY_136, TY_137, TY_138, TY_139, TY_140, TY_141, TY_142, TY_143, TY_144, TY_145, TY_146, TY_147, TY_148, TY_149, TY_150, TY_151, TY_152, TY_153, TY_154, TY_155, TY_156, TY_157, TY_158, TY_159, TY_160, TY_161, TY_162, TY_163, TY_164, TY_165, TY_166, TY_167, TY_168, TY_169, TY_170, TY_171, TY_172, TY_173, TY_174, TY_175, TY_176, TY_177, TY_178, TY_179, TY_180, TY_181, TY_182, TY_183, TY_184, TY_185, TY_186, TY_187, TY_188, TY_189, TY_190, TY_191, TY_192, TY_193, TY_194, TY_195, TY_196, TY_197, TY_198, TY_199, TY_200, TY_201, TY_202, TY_203, TY_204, TY_205, TY_206, TY_207, TY_208, TY_209, TY_210, TY_211, TY_212, TY_213, TY_214, TY_215, TY_216, TY_217, TY_218, TY_219, TY_220, TY_221, TY_222, TY_223, TY_224, TY_225, TY_226, TY_227, TY_228, TY_229, TY_230, TY_231, TY_232, TY_233, TY_234, TY_235, TY_236, TY_237, TY_238, TY_239, TY_240, TY_241, TY_242, TY_243, TY_244, TY_245, TY_246, TY_247, TY_248, TY_249, TY_250, TY_251, TY_252, TY_253, TY_254, TY_255, TY_256, TY_257, TY_258, TY_259, TY_260, TY_261, TY_262, TY_263, TY_264, TY_265, TY_266, TY_267, TY_268, TY_269, TY_270, TY_271, TY_272, TY_273, TY_274, TY_275, TY_276, TY_277, TY_278, TY_279, TY_280, TY_281, TY_282, TY_283, TY_284, TY_285, TY_286, TY_287, TY_288, TY_289, TY_290, TY_291, TY_292, TY_293, TY_294, TY_295, TY_296, TY_297, TY_298, TY_299, TY_300, TY_301, TY_302, TY_303, TY_304, TY_305, TY_306, TY_307, TY_308, TY_309, TY_310, TY_311, TY_312, TY_313, TY_314, TY_315, TY_316, TY_317, TY_318, TY_319, TY_320, TY_321, TY_322, TY_323, TY_324, TY_325, TY_326, TY_327, TY_328, TY_329, TY_330, TY_331, TY_332, TY_333, TY_334, TY_335, TY_336, TY_337, TY_338, TY_339, TY_340, TY_341, TY_342, TY_343, TY_344, TY_345, TY_346, TY_347, TY_348, TY_349, TY_350, TY_351, TY_352, TY_353, TY_354, TY_355, TY_356, TY_357, TY_358, TY_359, TY_360, TY_361, TY_362, TY_363, TY_364, TY_365, TY_366, TY_367, TY_368, TY_369, TY_370, TY_371, TY_372, TY_373, TY_374, TY_375, TY_376, TY_377, TY_378, TY_379, TY_380, TY_381, TY_382, TY_383, TY_384, TY_385, TY_386, TY_387, TY_388, TY_389, TY_390, TY_391, TY_392, TY_393, TY_394, TY_395, TY_396, TY_397, TY_398, TY_399, TY_400, TY_401, TY_402, TY_403, TY_404, TY_405, TY_406, TY_407, TY_408, TY_409, TY_410, TY_411, TY_412, TY_413, TY_414, TY_415, TY_416, TY_417, TY_418, TY_419, TY_420, TY_421, TY_422, TY_423, TY_424, TY_425, TY_426, TY_427, TY_428, TY_429, TY_430, TY_431, TY_432, TY_433, TY_434, TY_435, TY_436, TY_437, TY_438, TY_439, TY_440, TY_441, TY_442, TY_443, TY_444, TY_445, TY_446, TY_447, TY_448, TY_449, TY_450, TY_451, TY_452, TY_453, TY_454, TY_455, TY_456, TY_457, TY_458, TY_459, TY_460, TY_461, TY_462, TY_463, TY_464, TY_465, TY_466, TY_467, TY_468, TY_469, TY_470, TY_471, TY_472, TY_473, TY_474, TY_475, TY_476, TY_477, TY_478, TY_479, TY_480, TY_481, TY_482, TY_483, TY_484, TY_485, TY_486, TY_487, TY_488, TY_489, TY_490, TY_491, TY_492, TY_493, TY_494, TY_495, TY_496, TY_497, TY_498, TY_499, TY_500, TY_501, TY_502, TY_503, TY_504, TY_505, TY_506, TY_507, TY_508, TY_509, TY_510, TY_511, TY_512, TY_513, TY_514, TY_515, TY_516, TY_517, TY_518, TY_519, TY_520, TY_521, TY_522, TY_523, TY_524, TY_525, TY_526, TY_527, TY_528, TY_529, TY_530, TY_531, TY_532, TY_533, TY_534, TY_535, TY_536, TY_537, TY_538, TY_539, TY_540, TY_541, TY_542, TY_543, TY_544, TY_545, TY_546, TY_547, TY_548, TY_549, TY_550, TY_551, TY_552, TY_553, TY_554, TY_555, TY_556, TY_557, TY_558, TY_559, TY_560, TY_561, TY_562, TY_563, TY_564, TY_565, TY_566, TY_567, TY_568, TY_569, TY_570, TY_571, TY_572, TY_573, TY_574, TY_575, TY_576, TY_577, TY_578, TY_579, TY_580, TY_581, TY_582, TY_583, TY_584, TY_585, TY_586, TY_587, TY_588, TY_589, TY_590, TY_591, TY_592, TY_593, TY_594, TY_595, TY_596, TY_597, TY_598, TY_599, TY_600, TY_601, TY_602, TY_603, TY_604, TY_605, TY_606, TY_607, TY_608, TY_609, TY_610, TY_611, TY_612, TY_613, TY_614, TY_615, TY_616, TY_617, TY_618, TY_619, TY_620, TY_621, TY_622, TY_623, TY_624, TY_625, TY_626, TY_627, TY_628, TY_629, TY_630, TY_631, TY_632, TY_633, TY_634, TY_635, TY_636, TY_637, TY_638, TY_639, TY_640, TY_641, TY_642, TY_643, TY_644, TY_645, TY_646, TY_647, TY_648, TY_649, TY_650, TY_651, TY_652, TY_653, TY_654, TY_655, TY_656, TY_657, TY_658, TY_659, TY_660, TY_661, TY_662, TY_663, TY_664, TY_665, TY_666, TY_667, TY_668, TY_669, TY_670, TY_671, TY_672, TY_673, TY_674, TY_675, TY_676, TY_677, TY_678, TY_679, TY_680, TY_681, TY_682, TY_683, TY_684, TY_685, TY_686, TY_687, TY_688, TY_689, TY_690, TY_691, TY_692, TY_693, TY_694, TY_695, TY_696, TY_697, TY_698, TY_699, TY_700, TY_701, TY_702, TY_703, TY_704, TY_705, TY_706, TY_707, TY_708, TY_709, TY_710, TY_711, TY_712, TY_713, TY_714, TY_715, TY_716, TY_717, TY_718, TY_719, TY_720, TY_721, TY_722, TY_723, TY_724, TY_725, TY_726, TY_727, TY_728, TY_729, TY_730, TY_731, TY_732, TY_733, TY_734, TY_735, TY_736, TY_737, TY_738, TY_739, TY_740, TY_741, TY_742, TY_743, TY_744, TY_745, TY_746, TY_747, TY_748, TY_749, TY_750, TY_751, TY_752, TY_753, TY_754, TY_755, TY_756, TY_757, TY_758, TY_759, TY_760, TY_761, TY_762, TY_763, TY_764, TY_765, TY_766, TY_767, TY_768, TY_769, TY_770, TY_771, TY_772, TY_773, TY_774, TY_775, TY_776, TY_777, TY_778, TY_779, TY_780, TY_781, TY_782, TY_783, TY_784, TY_785, TY_786, TY_787, TY_788, TY_789, TY_790, TY_791, TY_792, TY_793, TY_794, TY_795, TY_796, TY_797, TY_798, TY_799, TY_800, TY_801, TY_802, TY_803, TY_804, TY_805, TY_806, TY_807, TY_808, TY_809, TY_810, TY_811, TY_812, TY_813, TY_814, TY_815, TY_816, TY_817, TY_818, TY_819, TY_820, TY_821, TY_822, TY_823, TY_824, TY_825, TY_826, TY_827, TY_828, TY_829, TY_830, TY_831, TY_832, TY_833, TY_834, TY_835, TY_836, TY_837, TY_838, TY_839, TY_840, TY_841, TY_842, TY_843, TY_844, TY_845, TY_846, TY_847, TY_848, TY_849, TY_850, TY_851, TY_852, TY_853, TY_854, TY_855, TY_856, TY_857, TY_858, TY_859, TY_860, TY_861, TY_862, TY_863, TY_864, TY_865, TY_866, TY_867, TY_868, TY_869, TY_870, TY_871, TY_872, TY_873, TY_874, TY_875, TY_876, TY_877, TY_878, TY_879, TY_880, TY_881, TY_882, TY_883, TY_884, TY_885, TY_886, TY_887, TY_888, TY_889, TY_890, TY_891, TY_892, TY_893, TY_894, TY_895, TY_896, TY_897, TY_898, TY_899, TY_900, TY_901, TY_902, TY_903, TY_904, TY_905, TY_906, TY_907, TY_908, TY_909, TY_910, TY_911, TY_912, TY_913, TY_914, TY_915, TY_916, TY_917, TY_918, TY_919, TY_920, TY_921, TY_922, TY_923, TY_924, TY_925, TY_926, TY_927, TY_928, TY_929, TY_930, TY_931, TY_932, TY_933, TY_934, TY_935, TY_936, TY_937, TY_938, TY_939, TY_940, TY_941, TY_942, TY_943, TY_944, TY_945, TY_946, TY_947, TY_948, TY_949, TY_950, TY_951, TY_952, TY_953, TY_954, TY_955, TY_956, TY_957, TY_958, TY_959, TY_960, TY_961, TY_962, TY_963, TY_964, TY_965, TY_966, TY_967, TY_968, TY_969, TY_970, TY_971, TY_972, TY_973, TY_974, TY_975, TY_976, TY_977, TY_978, TY_979, TY_980, TY_981, TY_982, TY_983, TY_984, TY_985, TY_986, TY_987, TY_988, TY_989, TY_990, TY_991, TY_992, TY_993, TY_994, TY_995, TY_996, TY_997, TY_998, TY_999, TY_1000, TY_1001, TY_1002, TY_1003, TY_1004, TY_1005, TY_1006, TY_1007, TY_1008, TY_1009, TY_1010, TY_1011, TY_1012, TY_1013, TY_1014, TY_1015, TY_1016, TY_1017, TY_1018, TY_1019, TY_1020, TY_1021, TY_1022, TY_1023, TY_1024, TY_1025, TY_1026, TY_1027, TY_1028, TY_1029, TY_1030, TY_1031, TY_1032, TY_1033, TY_1034, TY_1035, TY_1036, TY_1037, TY_1038, TY_1039, TY_1040, TY_1041, TY_1042, TY_1043, TY_1044, TY_1045, TY_1046, TY_1047, TY_1048, TY_1049, TY_1050, TY_1051, TY_1052, TY_1053, TY_1054, TY_1055, TY_1056, TY_1057, TY_1058, TY_1059, TY_1060, TY_1061, TY_1062, TY_1063, TY_1064, TY_1065, TY_1066, TY_1067, TY_1068, TY_1069, TY_1070, TY_1071, TY_1072, TY_1073, TY_1074, TY_1075, TY_1076, TY_1077, TY_1078, TY_1079, TY_1080, TY_1081, TY_1082, TY_1083, TY_1084, TY_1085, TY_1086, TY_1087, TY_1088, TY_1089, TY_1090, TY_1091, TY_1092, TY_1093, TY_1094, TY_1095, TY_1096, TY_1097⟩
end Go.Proofs.YtdhejeigbjmncaaDoor
