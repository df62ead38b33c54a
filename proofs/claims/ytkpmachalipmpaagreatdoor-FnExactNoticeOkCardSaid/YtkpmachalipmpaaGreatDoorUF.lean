/- Joined: TY X5 S0 W6 P1 V1 N1. Conditions: those of each lemma. -/
import Derived.Test.YtkpmachalipmpaaGreatDoorUD
import Derived.Test.YtkpmachalipmpaaGreatDoorProg
import Derived.Test.YtkpmachalipmpaaGreatDoorUE
import Derived.Test.YtkpmachalipmpaaGreatDoorCards
import Derived.Test.YtkpmachalipmpaaGreatDoorTie
import Derived.WalkKit
import Derived.ProofKit
import Derived.OpenShut
import Derived.Deep.DeepHandedRow
import Derived.Lib.LaidTab
import Derived.Stop.LaidErr
import Derived.Lib.SplitLaws
import Derived.Lib.ItoaMem
import Derived.Lib.AtoiAll
set_option linter.unusedVariables false
set_option linter.unusedSimpArgs false
namespace Go.Proofs.YtkpmachalipmpaaGreatDoor
open E
set_option maxRecDepth 100000
theorem TY_0 : szOf Tryz.prog 1 = 1 := by kernel_rfl
theorem TY_1 : aggOf Tryz.prog 1 = false := by kernel_rfl
theorem TY_2 : known Tryz.prog 1 = true := by kernel_rfl
theorem TY_3 : Tryz.prog.bytesOf 1 = 8 := by kernel_rfl
theorem TY_4 : elOf Tryz.prog 1 = none := by kernel_rfl
theorem TY_5 : isStr Tryz.prog 1 = false := by kernel_rfl
theorem TY_6 : isSl Tryz.prog 1 = false := by kernel_rfl
theorem TY_7 : isBoolT Tryz.prog 1 = false := by kernel_rfl
theorem TY_8 : isIf Tryz.prog 1 = false := by kernel_rfl
theorem TY_9 : zeroOf Tryz.prog 1 = some [.t .nilf] := by kernel_rfl
theorem TY_10 : isInt Tryz.prog 1 = none := by kernel_rfl
theorem TY_11 : szOf Tryz.prog 2 = 1 := by kernel_rfl
theorem TY_12 : aggOf Tryz.prog 2 = false := by kernel_rfl
theorem TY_13 : known Tryz.prog 2 = true := by kernel_rfl
theorem TY_14 : Tryz.prog.bytesOf 2 = 8 := by kernel_rfl
theorem TY_15 : elOf Tryz.prog 2 = none := by kernel_rfl
theorem TY_16 : isStr Tryz.prog 2 = false := by kernel_rfl
theorem TY_17 : isSl Tryz.prog 2 = false := by kernel_rfl
theorem TY_18 : isBoolT Tryz.prog 2 = false := by kernel_rfl
theorem TY_19 : isIf Tryz.prog 2 = false := by kernel_rfl
theorem TY_20 : zeroOf Tryz.prog 2 = some [.t (.int .i64 0)] := by kernel_rfl
theorem TY_21 : isInt Tryz.prog 2 = some .i64 := by kernel_rfl
theorem TY_22 : szOf Tryz.prog 3 = 1 := by kernel_rfl
theorem TY_23 : aggOf Tryz.prog 3 = false := by kernel_rfl
theorem TY_24 : known Tryz.prog 3 = true := by kernel_rfl
theorem TY_25 : Tryz.prog.bytesOf 3 = 8 := by kernel_rfl
theorem TY_26 : elOf Tryz.prog 3 = none := by kernel_rfl
theorem TY_27 : isStr Tryz.prog 3 = false := by kernel_rfl
theorem TY_28 : isSl Tryz.prog 3 = false := by kernel_rfl
theorem TY_29 : isBoolT Tryz.prog 3 = false := by kernel_rfl
theorem TY_30 : isIf Tryz.prog 3 = false := by kernel_rfl
theorem TY_31 : zeroOf Tryz.prog 3 = some [.t (.int .i64 0)] := by kernel_rfl
theorem TY_32 : isInt Tryz.prog 3 = some .i64 := by kernel_rfl
theorem TY_33 : szOf Tryz.prog 4 = 1 := by kernel_rfl
theorem TY_34 : aggOf Tryz.prog 4 = false := by kernel_rfl
theorem TY_35 : known Tryz.prog 4 = true := by kernel_rfl
theorem TY_36 : Tryz.prog.bytesOf 4 = 1 := by kernel_rfl
theorem TY_37 : elOf Tryz.prog 4 = none := by kernel_rfl
theorem TY_38 : isStr Tryz.prog 4 = false := by kernel_rfl
theorem TY_39 : isSl Tryz.prog 4 = false := by kernel_rfl
theorem TY_40 : isBoolT Tryz.prog 4 = true := by kernel_rfl
theorem TY_41 : isIf Tryz.prog 4 = false := by kernel_rfl
theorem TY_42 : zeroOf Tryz.prog 4 = some [.t (.bool false)] := by kernel_rfl
theorem TY_43 : isInt Tryz.prog 4 = none := by kernel_rfl
theorem TY_44 : szOf Tryz.prog 5 = 1 := by kernel_rfl
theorem TY_45 : aggOf Tryz.prog 5 = false := by kernel_rfl
theorem TY_46 : known Tryz.prog 5 = true := by kernel_rfl
theorem TY_47 : Tryz.prog.bytesOf 5 = 1 := by kernel_rfl
theorem TY_48 : elOf Tryz.prog 5 = none := by kernel_rfl
theorem TY_49 : isStr Tryz.prog 5 = false := by kernel_rfl
theorem TY_50 : isSl Tryz.prog 5 = false := by kernel_rfl
theorem TY_51 : isBoolT Tryz.prog 5 = false := by kernel_rfl
theorem TY_52 : isIf Tryz.prog 5 = false := by kernel_rfl
theorem TY_53 : zeroOf Tryz.prog 5 = some [.t (.int .u8 0)] := by kernel_rfl
theorem TY_54 : isInt Tryz.prog 5 = some .u8 := by kernel_rfl
theorem TY_55 : szOf Tryz.prog 9 = 1 := by kernel_rfl
theorem TY_56 : aggOf Tryz.prog 9 = false := by kernel_rfl
theorem TY_57 : known Tryz.prog 9 = true := by kernel_rfl
theorem TY_58 : Tryz.prog.bytesOf 9 = 16 := by kernel_rfl
theorem TY_59 : elOf Tryz.prog 9 = none := by kernel_rfl
theorem TY_60 : isStr Tryz.prog 9 = true := by kernel_rfl
theorem TY_61 : isSl Tryz.prog 9 = false := by kernel_rfl
theorem TY_62 : isBoolT Tryz.prog 9 = false := by kernel_rfl
theorem TY_63 : isIf Tryz.prog 9 = false := by kernel_rfl
theorem TY_64 : zeroOf Tryz.prog 9 = some [.t (.str [])] := by kernel_rfl
theorem TY_65 : isInt Tryz.prog 9 = none := by kernel_rfl
theorem TY_66 : szOf Tryz.prog 25 = 3 := by kernel_rfl
theorem TY_67 : aggOf Tryz.prog 25 = true := by kernel_rfl
theorem TY_68 : known Tryz.prog 25 = true := by kernel_rfl
theorem TY_69 : Tryz.prog.bytesOf 25 = 48 := by kernel_rfl
theorem TY_70 : elOf Tryz.prog 25 = none := by kernel_rfl
theorem TY_71 : isStr Tryz.prog 25 = false := by kernel_rfl
theorem TY_72 : isSl Tryz.prog 25 = false := by kernel_rfl
theorem TY_73 : isBoolT Tryz.prog 25 = false := by kernel_rfl
theorem TY_74 : isIf Tryz.prog 25 = false := by kernel_rfl
theorem TY_75 : strOK Tryz.prog 25 = true := by kernel_rfl
theorem TY_76 : fOf Tryz.prog 25 0 = some (0, 1, false) := by kernel_rfl
theorem TY_77 : fTy Tryz.prog 25 0 = 9 := by kernel_rfl
theorem TY_78 : fOf Tryz.prog 25 1 = some (1, 1, false) := by kernel_rfl
theorem TY_79 : fTy Tryz.prog 25 1 = 9 := by kernel_rfl
theorem TY_80 : fOf Tryz.prog 25 2 = some (2, 1, false) := by kernel_rfl
theorem TY_81 : fTy Tryz.prog 25 2 = 9 := by kernel_rfl
theorem TY_82 : zeroOf Tryz.prog 25 = some [.t (.str []), .t (.str []), .t (.str [])] := by kernel_rfl
theorem TY_83 : isInt Tryz.prog 25 = none := by kernel_rfl
theorem TY_84 : szOf Tryz.prog 28 = 3 := by kernel_rfl
theorem TY_85 : aggOf Tryz.prog 28 = true := by kernel_rfl
theorem TY_86 : known Tryz.prog 28 = true := by kernel_rfl
theorem TY_87 : Tryz.prog.bytesOf 28 = 48 := by kernel_rfl
theorem TY_88 : elOf Tryz.prog 28 = none := by kernel_rfl
theorem TY_89 : isStr Tryz.prog 28 = false := by kernel_rfl
theorem TY_90 : isSl Tryz.prog 28 = false := by kernel_rfl
theorem TY_91 : isBoolT Tryz.prog 28 = false := by kernel_rfl
theorem TY_92 : isIf Tryz.prog 28 = false := by kernel_rfl
theorem TY_93 : strOK Tryz.prog 28 = true := by kernel_rfl
theorem TY_94 : fOf Tryz.prog 28 0 = some (0, 1, false) := by kernel_rfl
theorem TY_95 : fTy Tryz.prog 28 0 = 9 := by kernel_rfl
theorem TY_96 : fOf Tryz.prog 28 1 = some (1, 1, false) := by kernel_rfl
theorem TY_97 : fTy Tryz.prog 28 1 = 9 := by kernel_rfl
theorem TY_98 : fOf Tryz.prog 28 2 = some (2, 1, false) := by kernel_rfl
theorem TY_99 : fTy Tryz.prog 28 2 = 9 := by kernel_rfl
theorem TY_100 : zeroOf Tryz.prog 28 = some [.t (.str []), .t (.str []), .t (.str [])] := by kernel_rfl
theorem TY_101 : isInt Tryz.prog 28 = none := by kernel_rfl
theorem TY_102 : szOf Tryz.prog 31 = 1 := by kernel_rfl
theorem TY_103 : aggOf Tryz.prog 31 = false := by kernel_rfl
theorem TY_104 : known Tryz.prog 31 = true := by kernel_rfl
theorem TY_105 : Tryz.prog.bytesOf 31 = 24 := by kernel_rfl
theorem TY_106 : elOf Tryz.prog 31 = some 5 := by kernel_rfl
theorem TY_107 : isStr Tryz.prog 31 = false := by kernel_rfl
theorem TY_108 : isSl Tryz.prog 31 = true := by kernel_rfl
theorem TY_109 : isBoolT Tryz.prog 31 = false := by kernel_rfl
theorem TY_110 : isIf Tryz.prog 31 = false := by kernel_rfl
theorem TY_111 : zeroOf Tryz.prog 31 = some [.nil 1] := by kernel_rfl
theorem TY_112 : isInt Tryz.prog 31 = none := by kernel_rfl
theorem TY_113 : szOf Tryz.prog 33 = 1 := by kernel_rfl
theorem TY_114 : aggOf Tryz.prog 33 = false := by kernel_rfl
theorem TY_115 : known Tryz.prog 33 = true := by kernel_rfl
theorem TY_116 : Tryz.prog.bytesOf 33 = 24 := by kernel_rfl
theorem TY_117 : elOf Tryz.prog 33 = some 9 := by kernel_rfl
theorem TY_118 : isStr Tryz.prog 33 = false := by kernel_rfl
theorem TY_119 : isSl Tryz.prog 33 = true := by kernel_rfl
theorem TY_120 : isBoolT Tryz.prog 33 = false := by kernel_rfl
theorem TY_121 : isIf Tryz.prog 33 = false := by kernel_rfl
theorem TY_122 : zeroOf Tryz.prog 33 = some [.nil 1] := by kernel_rfl
theorem TY_123 : isInt Tryz.prog 33 = none := by kernel_rfl
theorem TY_124 : szOf Tryz.prog 34 = 1 := by kernel_rfl
theorem TY_125 : aggOf Tryz.prog 34 = false := by kernel_rfl
theorem TY_126 : known Tryz.prog 34 = true := by kernel_rfl
theorem TY_127 : Tryz.prog.bytesOf 34 = 24 := by kernel_rfl
theorem TY_128 : elOf Tryz.prog 34 = some 36 := by kernel_rfl
theorem TY_129 : isStr Tryz.prog 34 = false := by kernel_rfl
theorem TY_130 : isSl Tryz.prog 34 = true := by kernel_rfl
theorem TY_131 : isBoolT Tryz.prog 34 = false := by kernel_rfl
theorem TY_132 : isIf Tryz.prog 34 = false := by kernel_rfl
theorem TY_133 : zeroOf Tryz.prog 34 = some [.nil 5] := by kernel_rfl
theorem TY_134 : isInt Tryz.prog 34 = none := by kernel_rfl
theorem TY_135 : szOf Tryz.prog 36 = 5 := by kernel_rfl
theorem TY_136 : aggOf Tryz.prog 36 = true := by kernel_rfl
theorem TY_137 : known Tryz.prog 36 = true := by kernel_rfl
theorem TY_138 : Tryz.prog.bytesOf 36 = 80 := by kernel_rfl
theorem TY_139 : elOf Tryz.prog 36 = none := by kernel_rfl
theorem TY_140 : isStr Tryz.prog 36 = false := by kernel_rfl
theorem TY_141 : isSl Tryz.prog 36 = false := by kernel_rfl
theorem TY_142 : isBoolT Tryz.prog 36 = false := by kernel_rfl
theorem TY_143 : isIf Tryz.prog 36 = false := by kernel_rfl
theorem TY_144 : strOK Tryz.prog 36 = true := by kernel_rfl
theorem TY_145 : fOf Tryz.prog 36 0 = some (0, 1, false) := by kernel_rfl
theorem TY_146 : fTy Tryz.prog 36 0 = 3 := by kernel_rfl
theorem TY_147 : fOf Tryz.prog 36 1 = some (1, 1, false) := by kernel_rfl
theorem TY_148 : fTy Tryz.prog 36 1 = 3 := by kernel_rfl
theorem TY_149 : fOf Tryz.prog 36 2 = some (2, 1, false) := by kernel_rfl
theorem TY_150 : fTy Tryz.prog 36 2 = 9 := by kernel_rfl
theorem TY_151 : fOf Tryz.prog 36 3 = some (3, 1, false) := by kernel_rfl
theorem TY_152 : fTy Tryz.prog 36 3 = 33 := by kernel_rfl
theorem TY_153 : fOf Tryz.prog 36 4 = some (4, 1, false) := by kernel_rfl
theorem TY_154 : fTy Tryz.prog 36 4 = 34 := by kernel_rfl
theorem TY_155 : zeroOf Tryz.prog 36 = some [.t (.int .i64 0), .t (.int .i64 0), .t (.str []), .nil 1, .nil 5] := by kernel_rfl
theorem TY_156 : isInt Tryz.prog 36 = none := by kernel_rfl
theorem TY_157 : szOf Tryz.prog 57 = 1 := by kernel_rfl
theorem TY_158 : aggOf Tryz.prog 57 = false := by kernel_rfl
theorem TY_159 : known Tryz.prog 57 = true := by kernel_rfl
theorem TY_160 : Tryz.prog.bytesOf 57 = 24 := by kernel_rfl
theorem TY_161 : elOf Tryz.prog 57 = some 204 := by kernel_rfl
theorem TY_162 : isStr Tryz.prog 57 = false := by kernel_rfl
theorem TY_163 : isSl Tryz.prog 57 = true := by kernel_rfl
theorem TY_164 : isBoolT Tryz.prog 57 = false := by kernel_rfl
theorem TY_165 : isIf Tryz.prog 57 = false := by kernel_rfl
theorem TY_166 : zeroOf Tryz.prog 57 = some [.nil 6] := by kernel_rfl
theorem TY_167 : isInt Tryz.prog 57 = none := by kernel_rfl
theorem TY_168 : szOf Tryz.prog 59 = 2 := by kernel_rfl
theorem TY_169 : aggOf Tryz.prog 59 = true := by kernel_rfl
theorem TY_170 : known Tryz.prog 59 = true := by kernel_rfl
theorem TY_171 : Tryz.prog.bytesOf 59 = 48 := by kernel_rfl
theorem TY_172 : elOf Tryz.prog 59 = none := by kernel_rfl
theorem TY_173 : isStr Tryz.prog 59 = false := by kernel_rfl
theorem TY_174 : isSl Tryz.prog 59 = false := by kernel_rfl
theorem TY_175 : isBoolT Tryz.prog 59 = false := by kernel_rfl
theorem TY_176 : isIf Tryz.prog 59 = false := by kernel_rfl
theorem TY_177 : strOK Tryz.prog 59 = true := by kernel_rfl
theorem TY_178 : fOf Tryz.prog 59 0 = some (0, 1, false) := by kernel_rfl
theorem TY_179 : fTy Tryz.prog 59 0 = 33 := by kernel_rfl
theorem TY_180 : fOf Tryz.prog 59 1 = some (1, 1, false) := by kernel_rfl
theorem TY_181 : fTy Tryz.prog 59 1 = 57 := by kernel_rfl
theorem TY_182 : zeroOf Tryz.prog 59 = some [.nil 1, .nil 6] := by kernel_rfl
theorem TY_183 : isInt Tryz.prog 59 = none := by kernel_rfl
theorem TY_184 : szOf Tryz.prog 63 = 1 := by kernel_rfl
theorem TY_185 : aggOf Tryz.prog 63 = false := by kernel_rfl
theorem TY_186 : known Tryz.prog 63 = true := by kernel_rfl
theorem TY_187 : Tryz.prog.bytesOf 63 = 24 := by kernel_rfl
theorem TY_188 : elOf Tryz.prog 63 = some 79 := by kernel_rfl
theorem TY_189 : isStr Tryz.prog 63 = false := by kernel_rfl
theorem TY_190 : isSl Tryz.prog 63 = true := by kernel_rfl
theorem TY_191 : isBoolT Tryz.prog 63 = false := by kernel_rfl
theorem TY_192 : isIf Tryz.prog 63 = false := by kernel_rfl
theorem TY_193 : zeroOf Tryz.prog 63 = some [.nil 6] := by kernel_rfl
theorem TY_194 : isInt Tryz.prog 63 = none := by kernel_rfl
theorem TY_195 : szOf Tryz.prog 65 = 2 := by kernel_rfl
theorem TY_196 : aggOf Tryz.prog 65 = true := by kernel_rfl
theorem TY_197 : known Tryz.prog 65 = true := by kernel_rfl
theorem TY_198 : Tryz.prog.bytesOf 65 = 48 := by kernel_rfl
theorem TY_199 : elOf Tryz.prog 65 = none := by kernel_rfl
theorem TY_200 : isStr Tryz.prog 65 = false := by kernel_rfl
theorem TY_201 : isSl Tryz.prog 65 = false := by kernel_rfl
theorem TY_202 : isBoolT Tryz.prog 65 = false := by kernel_rfl
theorem TY_203 : isIf Tryz.prog 65 = false := by kernel_rfl
theorem TY_204 : strOK Tryz.prog 65 = true := by kernel_rfl
theorem TY_205 : fOf Tryz.prog 65 0 = some (0, 1, false) := by kernel_rfl
theorem TY_206 : fTy Tryz.prog 65 0 = 33 := by kernel_rfl
theorem TY_207 : fOf Tryz.prog 65 1 = some (1, 1, false) := by kernel_rfl
theorem TY_208 : fTy Tryz.prog 65 1 = 63 := by kernel_rfl
theorem TY_209 : zeroOf Tryz.prog 65 = some [.nil 1, .nil 6] := by kernel_rfl
theorem TY_210 : isInt Tryz.prog 65 = none := by kernel_rfl
theorem TY_211 : szOf Tryz.prog 77 = 1 := by kernel_rfl
theorem TY_212 : aggOf Tryz.prog 77 = false := by kernel_rfl
theorem TY_213 : known Tryz.prog 77 = true := by kernel_rfl
theorem TY_214 : Tryz.prog.bytesOf 77 = 24 := by kernel_rfl
theorem TY_215 : elOf Tryz.prog 77 = some 138 := by kernel_rfl
theorem TY_216 : isStr Tryz.prog 77 = false := by kernel_rfl
theorem TY_217 : isSl Tryz.prog 77 = true := by kernel_rfl
theorem TY_218 : isBoolT Tryz.prog 77 = false := by kernel_rfl
theorem TY_219 : isIf Tryz.prog 77 = false := by kernel_rfl
theorem TY_220 : zeroOf Tryz.prog 77 = some [.nil 2] := by kernel_rfl
theorem TY_221 : isInt Tryz.prog 77 = none := by kernel_rfl
theorem TY_222 : szOf Tryz.prog 79 = 6 := by kernel_rfl
theorem TY_223 : aggOf Tryz.prog 79 = true := by kernel_rfl
theorem TY_224 : known Tryz.prog 79 = true := by kernel_rfl
theorem TY_225 : Tryz.prog.bytesOf 79 = 104 := by kernel_rfl
theorem TY_226 : elOf Tryz.prog 79 = none := by kernel_rfl
theorem TY_227 : isStr Tryz.prog 79 = false := by kernel_rfl
theorem TY_228 : isSl Tryz.prog 79 = false := by kernel_rfl
theorem TY_229 : isBoolT Tryz.prog 79 = false := by kernel_rfl
theorem TY_230 : isIf Tryz.prog 79 = false := by kernel_rfl
theorem TY_231 : strOK Tryz.prog 79 = true := by kernel_rfl
theorem TY_232 : fOf Tryz.prog 79 0 = some (0, 1, false) := by kernel_rfl
theorem TY_233 : fTy Tryz.prog 79 0 = 9 := by kernel_rfl
theorem TY_234 : fOf Tryz.prog 79 1 = some (1, 1, false) := by kernel_rfl
theorem TY_235 : fTy Tryz.prog 79 1 = 9 := by kernel_rfl
theorem TY_236 : fOf Tryz.prog 79 2 = some (2, 1, false) := by kernel_rfl
theorem TY_237 : fTy Tryz.prog 79 2 = 9 := by kernel_rfl
theorem TY_238 : fOf Tryz.prog 79 3 = some (3, 1, false) := by kernel_rfl
theorem TY_239 : fTy Tryz.prog 79 3 = 77 := by kernel_rfl
theorem TY_240 : fOf Tryz.prog 79 4 = some (4, 1, false) := by kernel_rfl
theorem TY_241 : fTy Tryz.prog 79 4 = 4 := by kernel_rfl
theorem TY_242 : fOf Tryz.prog 79 5 = some (5, 1, false) := by kernel_rfl
theorem TY_243 : fTy Tryz.prog 79 5 = 33 := by kernel_rfl
theorem TY_244 : zeroOf Tryz.prog 79 = some [.t (.str []), .t (.str []), .t (.str []), .nil 2, .t (.bool false), .nil 1] := by kernel_rfl
theorem TY_245 : isInt Tryz.prog 79 = none := by kernel_rfl
theorem TY_246 : szOf Tryz.prog 98 = 1 := by kernel_rfl
theorem TY_247 : aggOf Tryz.prog 98 = false := by kernel_rfl
theorem TY_248 : known Tryz.prog 98 = true := by kernel_rfl
theorem TY_249 : Tryz.prog.bytesOf 98 = 24 := by kernel_rfl
theorem TY_250 : elOf Tryz.prog 98 = some 177 := by kernel_rfl
theorem TY_251 : isStr Tryz.prog 98 = false := by kernel_rfl
theorem TY_252 : isSl Tryz.prog 98 = true := by kernel_rfl
theorem TY_253 : isBoolT Tryz.prog 98 = false := by kernel_rfl
theorem TY_254 : isIf Tryz.prog 98 = false := by kernel_rfl
theorem TY_255 : zeroOf Tryz.prog 98 = some [.nil 2] := by kernel_rfl
theorem TY_256 : isInt Tryz.prog 98 = none := by kernel_rfl
theorem TY_257 : szOf Tryz.prog 124 = 1 := by kernel_rfl
theorem TY_258 : aggOf Tryz.prog 124 = false := by kernel_rfl
theorem TY_259 : known Tryz.prog 124 = true := by kernel_rfl
theorem TY_260 : Tryz.prog.bytesOf 124 = 8 := by kernel_rfl
theorem TY_261 : elOf Tryz.prog 124 = none := by kernel_rfl
theorem TY_262 : isStr Tryz.prog 124 = false := by kernel_rfl
theorem TY_263 : isSl Tryz.prog 124 = false := by kernel_rfl
theorem TY_264 : isBoolT Tryz.prog 124 = false := by kernel_rfl
theorem TY_265 : isIf Tryz.prog 124 = false := by kernel_rfl
theorem TY_266 : zeroOf Tryz.prog 124 = some [.t .nilp] := by kernel_rfl
theorem TY_267 : isInt Tryz.prog 124 = none := by kernel_rfl
theorem TY_268 : szOf Tryz.prog 138 = 2 := by kernel_rfl
theorem TY_269 : aggOf Tryz.prog 138 = true := by kernel_rfl
theorem TY_270 : known Tryz.prog 138 = true := by kernel_rfl
theorem TY_271 : Tryz.prog.bytesOf 138 = 32 := by kernel_rfl
theorem TY_272 : elOf Tryz.prog 138 = none := by kernel_rfl
theorem TY_273 : isStr Tryz.prog 138 = false := by kernel_rfl
theorem TY_274 : isSl Tryz.prog 138 = false := by kernel_rfl
theorem TY_275 : isBoolT Tryz.prog 138 = false := by kernel_rfl
theorem TY_276 : isIf Tryz.prog 138 = false := by kernel_rfl
theorem TY_277 : strOK Tryz.prog 138 = true := by kernel_rfl
theorem TY_278 : fOf Tryz.prog 138 0 = some (0, 1, false) := by kernel_rfl
theorem TY_279 : fTy Tryz.prog 138 0 = 9 := by kernel_rfl
theorem TY_280 : fOf Tryz.prog 138 1 = some (1, 1, false) := by kernel_rfl
theorem TY_281 : fTy Tryz.prog 138 1 = 9 := by kernel_rfl
theorem TY_282 : zeroOf Tryz.prog 138 = some [.t (.str []), .t (.str [])] := by kernel_rfl
theorem TY_283 : isInt Tryz.prog 138 = none := by kernel_rfl
theorem TY_284 : szOf Tryz.prog 139 = 1 := by kernel_rfl
theorem TY_285 : aggOf Tryz.prog 139 = false := by kernel_rfl
theorem TY_286 : known Tryz.prog 139 = true := by kernel_rfl
theorem TY_287 : Tryz.prog.bytesOf 139 = 8 := by kernel_rfl
theorem TY_288 : elOf Tryz.prog 139 = none := by kernel_rfl
theorem TY_289 : isStr Tryz.prog 139 = false := by kernel_rfl
theorem TY_290 : isSl Tryz.prog 139 = false := by kernel_rfl
theorem TY_291 : isBoolT Tryz.prog 139 = false := by kernel_rfl
theorem TY_292 : isIf Tryz.prog 139 = false := by kernel_rfl
theorem TY_293 : zeroOf Tryz.prog 139 = some [.t .nilf] := by kernel_rfl
theorem TY_294 : isInt Tryz.prog 139 = none := by kernel_rfl
theorem TY_295 : szOf Tryz.prog 142 = 6 := by kernel_rfl
theorem TY_296 : aggOf Tryz.prog 142 = true := by kernel_rfl
theorem TY_297 : known Tryz.prog 142 = true := by kernel_rfl
theorem TY_298 : Tryz.prog.bytesOf 142 = 96 := by kernel_rfl
theorem TY_299 : elOf Tryz.prog 142 = none := by kernel_rfl
theorem TY_300 : isStr Tryz.prog 142 = false := by kernel_rfl
theorem TY_301 : isSl Tryz.prog 142 = false := by kernel_rfl
theorem TY_302 : isBoolT Tryz.prog 142 = false := by kernel_rfl
theorem TY_303 : isIf Tryz.prog 142 = false := by kernel_rfl
theorem TY_304 : strOK Tryz.prog 142 = true := by kernel_rfl
theorem TY_305 : fOf Tryz.prog 142 0 = some (0, 1, false) := by kernel_rfl
theorem TY_306 : fTy Tryz.prog 142 0 = 9 := by kernel_rfl
theorem TY_307 : fOf Tryz.prog 142 1 = some (1, 5, true) := by kernel_rfl
theorem TY_308 : fTy Tryz.prog 142 1 = 36 := by kernel_rfl
theorem TY_309 : zeroOf Tryz.prog 142 = some [.t (.str []), .t (.int .i64 0), .t (.int .i64 0), .t (.str []), .nil 1, .nil 5] := by kernel_rfl
theorem TY_310 : isInt Tryz.prog 142 = none := by kernel_rfl
theorem TY_311 : szOf Tryz.prog 145 = 1 := by kernel_rfl
theorem TY_312 : aggOf Tryz.prog 145 = false := by kernel_rfl
theorem TY_313 : known Tryz.prog 145 = true := by kernel_rfl
theorem TY_314 : Tryz.prog.bytesOf 145 = 8 := by kernel_rfl
theorem TY_315 : elOf Tryz.prog 145 = none := by kernel_rfl
theorem TY_316 : isStr Tryz.prog 145 = false := by kernel_rfl
theorem TY_317 : isSl Tryz.prog 145 = false := by kernel_rfl
theorem TY_318 : isBoolT Tryz.prog 145 = false := by kernel_rfl
theorem TY_319 : isIf Tryz.prog 145 = false := by kernel_rfl
theorem TY_320 : zeroOf Tryz.prog 145 = some [.t .nilf] := by kernel_rfl
theorem TY_321 : isInt Tryz.prog 145 = none := by kernel_rfl
theorem TY_322 : szOf Tryz.prog 147 = 1 := by kernel_rfl
theorem TY_323 : aggOf Tryz.prog 147 = false := by kernel_rfl
theorem TY_324 : known Tryz.prog 147 = true := by kernel_rfl
theorem TY_325 : Tryz.prog.bytesOf 147 = 24 := by kernel_rfl
theorem TY_326 : elOf Tryz.prog 147 = some 213 := by kernel_rfl
theorem TY_327 : isStr Tryz.prog 147 = false := by kernel_rfl
theorem TY_328 : isSl Tryz.prog 147 = true := by kernel_rfl
theorem TY_329 : isBoolT Tryz.prog 147 = false := by kernel_rfl
theorem TY_330 : isIf Tryz.prog 147 = false := by kernel_rfl
theorem TY_331 : zeroOf Tryz.prog 147 = some [.nil 2] := by kernel_rfl
theorem TY_332 : isInt Tryz.prog 147 = none := by kernel_rfl
theorem TY_333 : szOf Tryz.prog 167 = 4 := by kernel_rfl
theorem TY_334 : aggOf Tryz.prog 167 = true := by kernel_rfl
theorem TY_335 : known Tryz.prog 167 = true := by kernel_rfl
theorem TY_336 : Tryz.prog.bytesOf 167 = 48 := by kernel_rfl
theorem TY_337 : elOf Tryz.prog 167 = none := by kernel_rfl
theorem TY_338 : isStr Tryz.prog 167 = false := by kernel_rfl
theorem TY_339 : isSl Tryz.prog 167 = false := by kernel_rfl
theorem TY_340 : isBoolT Tryz.prog 167 = false := by kernel_rfl
theorem TY_341 : isIf Tryz.prog 167 = false := by kernel_rfl
theorem TY_342 : strOK Tryz.prog 167 = true := by kernel_rfl
theorem TY_343 : fOf Tryz.prog 167 0 = some (0, 1, false) := by kernel_rfl
theorem TY_344 : fTy Tryz.prog 167 0 = 3 := by kernel_rfl
theorem TY_345 : fOf Tryz.prog 167 1 = some (1, 1, false) := by kernel_rfl
theorem TY_346 : fTy Tryz.prog 167 1 = 3 := by kernel_rfl
theorem TY_347 : fOf Tryz.prog 167 2 = some (2, 1, false) := by kernel_rfl
theorem TY_348 : fTy Tryz.prog 167 2 = 3 := by kernel_rfl
theorem TY_349 : fOf Tryz.prog 167 3 = some (3, 1, false) := by kernel_rfl
theorem TY_350 : fTy Tryz.prog 167 3 = 33 := by kernel_rfl
theorem TY_351 : zeroOf Tryz.prog 167 = some [.t (.int .i64 0), .t (.int .i64 0), .t (.int .i64 0), .nil 1] := by kernel_rfl
theorem TY_352 : isInt Tryz.prog 167 = none := by kernel_rfl
theorem TY_353 : szOf Tryz.prog 177 = 2 := by kernel_rfl
theorem TY_354 : aggOf Tryz.prog 177 = true := by kernel_rfl
theorem TY_355 : known Tryz.prog 177 = true := by kernel_rfl
theorem TY_356 : Tryz.prog.bytesOf 177 = 32 := by kernel_rfl
theorem TY_357 : elOf Tryz.prog 177 = none := by kernel_rfl
theorem TY_358 : isStr Tryz.prog 177 = false := by kernel_rfl
theorem TY_359 : isSl Tryz.prog 177 = false := by kernel_rfl
theorem TY_360 : isBoolT Tryz.prog 177 = false := by kernel_rfl
theorem TY_361 : isIf Tryz.prog 177 = false := by kernel_rfl
theorem TY_362 : strOK Tryz.prog 177 = true := by kernel_rfl
theorem TY_363 : fOf Tryz.prog 177 0 = some (0, 1, false) := by kernel_rfl
theorem TY_364 : fTy Tryz.prog 177 0 = 9 := by kernel_rfl
theorem TY_365 : fOf Tryz.prog 177 1 = some (1, 1, false) := by kernel_rfl
theorem TY_366 : fTy Tryz.prog 177 1 = 9 := by kernel_rfl
theorem TY_367 : zeroOf Tryz.prog 177 = some [.t (.str []), .t (.str [])] := by kernel_rfl
theorem TY_368 : isInt Tryz.prog 177 = none := by kernel_rfl
theorem TY_369 : szOf Tryz.prog 181 = 1 := by kernel_rfl
theorem TY_370 : aggOf Tryz.prog 181 = false := by kernel_rfl
theorem TY_371 : known Tryz.prog 181 = true := by kernel_rfl
theorem TY_372 : Tryz.prog.bytesOf 181 = 8 := by kernel_rfl
theorem TY_373 : elOf Tryz.prog 181 = none := by kernel_rfl
theorem TY_374 : isStr Tryz.prog 181 = false := by kernel_rfl
theorem TY_375 : isSl Tryz.prog 181 = false := by kernel_rfl
theorem TY_376 : isBoolT Tryz.prog 181 = false := by kernel_rfl
theorem TY_377 : isIf Tryz.prog 181 = false := by kernel_rfl
theorem TY_378 : zeroOf Tryz.prog 181 = some [.t .nilf] := by kernel_rfl
theorem TY_379 : isInt Tryz.prog 181 = none := by kernel_rfl
theorem TY_380 : szOf Tryz.prog 188 = 1 := by kernel_rfl
theorem TY_381 : aggOf Tryz.prog 188 = false := by kernel_rfl
theorem TY_382 : known Tryz.prog 188 = true := by kernel_rfl
theorem TY_383 : Tryz.prog.bytesOf 188 = 24 := by kernel_rfl
theorem TY_384 : elOf Tryz.prog 188 = some 3 := by kernel_rfl
theorem TY_385 : isStr Tryz.prog 188 = false := by kernel_rfl
theorem TY_386 : isSl Tryz.prog 188 = true := by kernel_rfl
theorem TY_387 : isBoolT Tryz.prog 188 = false := by kernel_rfl
theorem TY_388 : isIf Tryz.prog 188 = false := by kernel_rfl
theorem TY_389 : zeroOf Tryz.prog 188 = some [.nil 1] := by kernel_rfl
theorem TY_390 : isInt Tryz.prog 188 = none := by kernel_rfl
theorem TY_391 : szOf Tryz.prog 202 = 1 := by kernel_rfl
theorem TY_392 : aggOf Tryz.prog 202 = false := by kernel_rfl
theorem TY_393 : known Tryz.prog 202 = true := by kernel_rfl
theorem TY_394 : Tryz.prog.bytesOf 202 = 24 := by kernel_rfl
theorem TY_395 : elOf Tryz.prog 202 = some 289 := by kernel_rfl
theorem TY_396 : isStr Tryz.prog 202 = false := by kernel_rfl
theorem TY_397 : isSl Tryz.prog 202 = true := by kernel_rfl
theorem TY_398 : isBoolT Tryz.prog 202 = false := by kernel_rfl
theorem TY_399 : isIf Tryz.prog 202 = false := by kernel_rfl
theorem TY_400 : zeroOf Tryz.prog 202 = some [.nil 2] := by kernel_rfl
theorem TY_401 : isInt Tryz.prog 202 = none := by kernel_rfl
theorem TY_402 : szOf Tryz.prog 204 = 6 := by kernel_rfl
theorem TY_403 : aggOf Tryz.prog 204 = true := by kernel_rfl
theorem TY_404 : known Tryz.prog 204 = true := by kernel_rfl
theorem TY_405 : Tryz.prog.bytesOf 204 = 104 := by kernel_rfl
theorem TY_406 : elOf Tryz.prog 204 = none := by kernel_rfl
theorem TY_407 : isStr Tryz.prog 204 = false := by kernel_rfl
theorem TY_408 : isSl Tryz.prog 204 = false := by kernel_rfl
theorem TY_409 : isBoolT Tryz.prog 204 = false := by kernel_rfl
theorem TY_410 : isIf Tryz.prog 204 = false := by kernel_rfl
theorem TY_411 : strOK Tryz.prog 204 = true := by kernel_rfl
theorem TY_412 : fOf Tryz.prog 204 0 = some (0, 1, false) := by kernel_rfl
theorem TY_413 : fTy Tryz.prog 204 0 = 9 := by kernel_rfl
theorem TY_414 : fOf Tryz.prog 204 1 = some (1, 1, false) := by kernel_rfl
theorem TY_415 : fTy Tryz.prog 204 1 = 9 := by kernel_rfl
theorem TY_416 : fOf Tryz.prog 204 2 = some (2, 1, false) := by kernel_rfl
theorem TY_417 : fTy Tryz.prog 204 2 = 9 := by kernel_rfl
theorem TY_418 : fOf Tryz.prog 204 3 = some (3, 1, false) := by kernel_rfl
theorem TY_419 : fTy Tryz.prog 204 3 = 202 := by kernel_rfl
theorem TY_420 : fOf Tryz.prog 204 4 = some (4, 1, false) := by kernel_rfl
theorem TY_421 : fTy Tryz.prog 204 4 = 4 := by kernel_rfl
theorem TY_422 : fOf Tryz.prog 204 5 = some (5, 1, false) := by kernel_rfl
theorem TY_423 : fTy Tryz.prog 204 5 = 33 := by kernel_rfl
theorem TY_424 : zeroOf Tryz.prog 204 = some [.t (.str []), .t (.str []), .t (.str []), .nil 2, .t (.bool false), .nil 1] := by kernel_rfl
theorem TY_425 : isInt Tryz.prog 204 = none := by kernel_rfl
theorem TY_426 : szOf Tryz.prog 207 = 1 := by kernel_rfl
theorem TY_427 : aggOf Tryz.prog 207 = false := by kernel_rfl
theorem TY_428 : known Tryz.prog 207 = true := by kernel_rfl
theorem TY_429 : Tryz.prog.bytesOf 207 = 24 := by kernel_rfl
theorem TY_430 : elOf Tryz.prog 207 = some 142 := by kernel_rfl
theorem TY_431 : isStr Tryz.prog 207 = false := by kernel_rfl
theorem TY_432 : isSl Tryz.prog 207 = true := by kernel_rfl
theorem TY_433 : isBoolT Tryz.prog 207 = false := by kernel_rfl
theorem TY_434 : isIf Tryz.prog 207 = false := by kernel_rfl
theorem TY_435 : zeroOf Tryz.prog 207 = some [.nil 6] := by kernel_rfl
theorem TY_436 : isInt Tryz.prog 207 = none := by kernel_rfl
theorem TY_437 : szOf Tryz.prog 209 = 1 := by kernel_rfl
theorem TY_438 : aggOf Tryz.prog 209 = false := by kernel_rfl
theorem TY_439 : known Tryz.prog 209 = true := by kernel_rfl
theorem TY_440 : Tryz.prog.bytesOf 209 = 8 := by kernel_rfl
theorem TY_441 : elOf Tryz.prog 209 = none := by kernel_rfl
theorem TY_442 : isStr Tryz.prog 209 = false := by kernel_rfl
theorem TY_443 : isSl Tryz.prog 209 = false := by kernel_rfl
theorem TY_444 : isBoolT Tryz.prog 209 = false := by kernel_rfl
theorem TY_445 : isIf Tryz.prog 209 = false := by kernel_rfl
theorem TY_446 : zeroOf Tryz.prog 209 = some [.t (.int .u64 0)] := by kernel_rfl
theorem TY_447 : isInt Tryz.prog 209 = some .u64 := by kernel_rfl
theorem TY_448 : szOf Tryz.prog 211 = 1 := by kernel_rfl
theorem TY_449 : aggOf Tryz.prog 211 = false := by kernel_rfl
theorem TY_450 : known Tryz.prog 211 = true := by kernel_rfl
theorem TY_451 : Tryz.prog.bytesOf 211 = 24 := by kernel_rfl
theorem TY_452 : elOf Tryz.prog 211 = some 216 := by kernel_rfl
theorem TY_453 : isStr Tryz.prog 211 = false := by kernel_rfl
theorem TY_454 : isSl Tryz.prog 211 = true := by kernel_rfl
theorem TY_455 : isBoolT Tryz.prog 211 = false := by kernel_rfl
theorem TY_456 : isIf Tryz.prog 211 = false := by kernel_rfl
theorem TY_457 : zeroOf Tryz.prog 211 = some [.nil 4] := by kernel_rfl
theorem TY_458 : isInt Tryz.prog 211 = none := by kernel_rfl
theorem TY_459 : szOf Tryz.prog 213 = 2 := by kernel_rfl
theorem TY_460 : aggOf Tryz.prog 213 = true := by kernel_rfl
theorem TY_461 : known Tryz.prog 213 = true := by kernel_rfl
theorem TY_462 : Tryz.prog.bytesOf 213 = 40 := by kernel_rfl
theorem TY_463 : elOf Tryz.prog 213 = none := by kernel_rfl
theorem TY_464 : isStr Tryz.prog 213 = false := by kernel_rfl
theorem TY_465 : isSl Tryz.prog 213 = false := by kernel_rfl
theorem TY_466 : isBoolT Tryz.prog 213 = false := by kernel_rfl
theorem TY_467 : isIf Tryz.prog 213 = false := by kernel_rfl
theorem TY_468 : strOK Tryz.prog 213 = true := by kernel_rfl
theorem TY_469 : fOf Tryz.prog 213 0 = some (0, 1, false) := by kernel_rfl
theorem TY_470 : fTy Tryz.prog 213 0 = 9 := by kernel_rfl
theorem TY_471 : fOf Tryz.prog 213 1 = some (1, 1, false) := by kernel_rfl
theorem TY_472 : fTy Tryz.prog 213 1 = 211 := by kernel_rfl
theorem TY_473 : zeroOf Tryz.prog 213 = some [.t (.str []), .nil 4] := by kernel_rfl
theorem TY_474 : isInt Tryz.prog 213 = none := by kernel_rfl
theorem TY_475 : szOf Tryz.prog 216 = 4 := by kernel_rfl
theorem TY_476 : aggOf Tryz.prog 216 = true := by kernel_rfl
theorem TY_477 : known Tryz.prog 216 = true := by kernel_rfl
theorem TY_478 : Tryz.prog.bytesOf 216 = 64 := by kernel_rfl
theorem TY_479 : elOf Tryz.prog 216 = none := by kernel_rfl
theorem TY_480 : isStr Tryz.prog 216 = false := by kernel_rfl
theorem TY_481 : isSl Tryz.prog 216 = false := by kernel_rfl
theorem TY_482 : isBoolT Tryz.prog 216 = false := by kernel_rfl
theorem TY_483 : isIf Tryz.prog 216 = false := by kernel_rfl
theorem TY_484 : strOK Tryz.prog 216 = true := by kernel_rfl
theorem TY_485 : fOf Tryz.prog 216 0 = some (0, 1, false) := by kernel_rfl
theorem TY_486 : fTy Tryz.prog 216 0 = 9 := by kernel_rfl
theorem TY_487 : fOf Tryz.prog 216 1 = some (1, 1, false) := by kernel_rfl
theorem TY_488 : fTy Tryz.prog 216 1 = 9 := by kernel_rfl
theorem TY_489 : fOf Tryz.prog 216 2 = some (2, 1, false) := by kernel_rfl
theorem TY_490 : fTy Tryz.prog 216 2 = 33 := by kernel_rfl
theorem TY_491 : fOf Tryz.prog 216 3 = some (3, 1, false) := by kernel_rfl
theorem TY_492 : fTy Tryz.prog 216 3 = 4 := by kernel_rfl
theorem TY_493 : zeroOf Tryz.prog 216 = some [.t (.str []), .t (.str []), .nil 1, .t (.bool false)] := by kernel_rfl
theorem TY_494 : isInt Tryz.prog 216 = none := by kernel_rfl
theorem TY_495 : szOf Tryz.prog 219 = 1 := by kernel_rfl
theorem TY_496 : aggOf Tryz.prog 219 = false := by kernel_rfl
theorem TY_497 : known Tryz.prog 219 = true := by kernel_rfl
theorem TY_498 : Tryz.prog.bytesOf 219 = 8 := by kernel_rfl
theorem TY_499 : elOf Tryz.prog 219 = none := by kernel_rfl
theorem TY_500 : isStr Tryz.prog 219 = false := by kernel_rfl
theorem TY_501 : isSl Tryz.prog 219 = false := by kernel_rfl
theorem TY_502 : isBoolT Tryz.prog 219 = false := by kernel_rfl
theorem TY_503 : isIf Tryz.prog 219 = false := by kernel_rfl
theorem TY_504 : zeroOf Tryz.prog 219 = some [.t .nilf] := by kernel_rfl
theorem TY_505 : isInt Tryz.prog 219 = none := by kernel_rfl
theorem TY_506 : szOf Tryz.prog 220 = 1 := by kernel_rfl
theorem TY_507 : aggOf Tryz.prog 220 = false := by kernel_rfl
theorem TY_508 : known Tryz.prog 220 = true := by kernel_rfl
theorem TY_509 : Tryz.prog.bytesOf 220 = 8 := by kernel_rfl
theorem TY_510 : elOf Tryz.prog 220 = none := by kernel_rfl
theorem TY_511 : isStr Tryz.prog 220 = false := by kernel_rfl
theorem TY_512 : isSl Tryz.prog 220 = false := by kernel_rfl
theorem TY_513 : isBoolT Tryz.prog 220 = false := by kernel_rfl
theorem TY_514 : isIf Tryz.prog 220 = false := by kernel_rfl
theorem TY_515 : zeroOf Tryz.prog 220 = some [.t .nilp] := by kernel_rfl
theorem TY_516 : isInt Tryz.prog 220 = none := by kernel_rfl
theorem TY_517 : szOf Tryz.prog 221 = 1 := by kernel_rfl
theorem TY_518 : aggOf Tryz.prog 221 = false := by kernel_rfl
theorem TY_519 : known Tryz.prog 221 = true := by kernel_rfl
theorem TY_520 : Tryz.prog.bytesOf 221 = 8 := by kernel_rfl
theorem TY_521 : elOf Tryz.prog 221 = none := by kernel_rfl
theorem TY_522 : isStr Tryz.prog 221 = false := by kernel_rfl
theorem TY_523 : isSl Tryz.prog 221 = false := by kernel_rfl
theorem TY_524 : isBoolT Tryz.prog 221 = false := by kernel_rfl
theorem TY_525 : isIf Tryz.prog 221 = false := by kernel_rfl
theorem TY_526 : zeroOf Tryz.prog 221 = some [.t .nilf] := by kernel_rfl
theorem TY_527 : isInt Tryz.prog 221 = none := by kernel_rfl
theorem TY_528 : szOf Tryz.prog 249 = 1 := by kernel_rfl
theorem TY_529 : aggOf Tryz.prog 249 = false := by kernel_rfl
theorem TY_530 : known Tryz.prog 249 = true := by kernel_rfl
theorem TY_531 : Tryz.prog.bytesOf 249 = 16 := by kernel_rfl
theorem TY_532 : elOf Tryz.prog 249 = none := by kernel_rfl
theorem TY_533 : isStr Tryz.prog 249 = false := by kernel_rfl
theorem TY_534 : isSl Tryz.prog 249 = false := by kernel_rfl
theorem TY_535 : isBoolT Tryz.prog 249 = false := by kernel_rfl
theorem TY_536 : isIf Tryz.prog 249 = true := by kernel_rfl
theorem TY_537 : zeroOf Tryz.prog 249 = some [.t .nili] := by kernel_rfl
theorem TY_538 : isInt Tryz.prog 249 = none := by kernel_rfl
theorem TY_539 : szOf Tryz.prog 263 = 1 := by kernel_rfl
theorem TY_540 : aggOf Tryz.prog 263 = false := by kernel_rfl
theorem TY_541 : known Tryz.prog 263 = true := by kernel_rfl
theorem TY_542 : Tryz.prog.bytesOf 263 = 8 := by kernel_rfl
theorem TY_543 : elOf Tryz.prog 263 = none := by kernel_rfl
theorem TY_544 : isStr Tryz.prog 263 = false := by kernel_rfl
theorem TY_545 : isSl Tryz.prog 263 = false := by kernel_rfl
theorem TY_546 : isBoolT Tryz.prog 263 = false := by kernel_rfl
theorem TY_547 : isIf Tryz.prog 263 = false := by kernel_rfl
theorem TY_548 : zeroOf Tryz.prog 263 = some [.t .nilf] := by kernel_rfl
theorem TY_549 : isInt Tryz.prog 263 = none := by kernel_rfl
theorem TY_550 : szOf Tryz.prog 276 = 1 := by kernel_rfl
theorem TY_551 : aggOf Tryz.prog 276 = false := by kernel_rfl
theorem TY_552 : known Tryz.prog 276 = true := by kernel_rfl
theorem TY_553 : Tryz.prog.bytesOf 276 = 4 := by kernel_rfl
theorem TY_554 : elOf Tryz.prog 276 = none := by kernel_rfl
theorem TY_555 : isStr Tryz.prog 276 = false := by kernel_rfl
theorem TY_556 : isSl Tryz.prog 276 = false := by kernel_rfl
theorem TY_557 : isBoolT Tryz.prog 276 = false := by kernel_rfl
theorem TY_558 : isIf Tryz.prog 276 = false := by kernel_rfl
theorem TY_559 : zeroOf Tryz.prog 276 = some [.t (.int .u32 0)] := by kernel_rfl
theorem TY_560 : isInt Tryz.prog 276 = some .u32 := by kernel_rfl
theorem TY_561 : szOf Tryz.prog 289 = 2 := by kernel_rfl
theorem TY_562 : aggOf Tryz.prog 289 = true := by kernel_rfl
theorem TY_563 : known Tryz.prog 289 = true := by kernel_rfl
theorem TY_564 : Tryz.prog.bytesOf 289 = 32 := by kernel_rfl
theorem TY_565 : elOf Tryz.prog 289 = none := by kernel_rfl
theorem TY_566 : isStr Tryz.prog 289 = false := by kernel_rfl
theorem TY_567 : isSl Tryz.prog 289 = false := by kernel_rfl
theorem TY_568 : isBoolT Tryz.prog 289 = false := by kernel_rfl
theorem TY_569 : isIf Tryz.prog 289 = false := by kernel_rfl
theorem TY_570 : strOK Tryz.prog 289 = true := by kernel_rfl
theorem TY_571 : fOf Tryz.prog 289 0 = some (0, 1, false) := by kernel_rfl
theorem TY_572 : fTy Tryz.prog 289 0 = 9 := by kernel_rfl
theorem TY_573 : fOf Tryz.prog 289 1 = some (1, 1, false) := by kernel_rfl
theorem TY_574 : fTy Tryz.prog 289 1 = 9 := by kernel_rfl
theorem TY_575 : zeroOf Tryz.prog 289 = some [.t (.str []), .t (.str [])] := by kernel_rfl
theorem TY_576 : isInt Tryz.prog 289 = none := by kernel_rfl
theorem TYS : szOf Tryz.prog 1 = 1 ∧
  aggOf Tryz.prog 1 = false ∧
  known Tryz.prog 1 = true ∧
  Tryz.prog.bytesOf 1 = 8 ∧
  elOf Tryz.prog 1 = none ∧
  isStr Tryz.prog 1 = false ∧
  isSl Tryz.prog 1 = false ∧
  isBoolT Tryz.prog 1 = false ∧
  isIf Tryz.prog 1 = false ∧
  zeroOf Tryz.prog 1 = some [.t .nilf] ∧
  isInt Tryz.prog 1 = none ∧
  szOf Tryz.prog 2 = 1 ∧
  aggOf Tryz.prog 2 = false ∧
  known Tryz.prog 2 = true ∧
  Tryz.prog.bytesOf 2 = 8 ∧
  elOf Tryz.prog 2 = none ∧
  isStr Tryz.prog 2 = false ∧
  isSl Tryz.prog 2 = false ∧
  isBoolT Tryz.prog 2 = false ∧
  isIf Tryz.prog 2 = false ∧
  zeroOf Tryz.prog 2 = some [.t (.int .i64 0)] ∧
  isInt Tryz.prog 2 = some .i64 ∧
  szOf Tryz.prog 3 = 1 ∧
  aggOf Tryz.prog 3 = false ∧
  known Tryz.prog 3 = true ∧
  Tryz.prog.bytesOf 3 = 8 ∧
  elOf Tryz.prog 3 = none ∧
  isStr Tryz.prog 3 = false ∧
  isSl Tryz.prog 3 = false ∧
  isBoolT Tryz.prog 3 = false ∧
  isIf Tryz.prog 3 = false ∧
  zeroOf Tryz.prog 3 = some [.t (.int .i64 0)] ∧
  isInt Tryz.prog 3 = some .i64 ∧
  szOf Tryz.prog 4 = 1 ∧
  aggOf Tryz.prog 4 = false ∧
  known Tryz.prog 4 = true ∧
  Tryz.prog.bytesOf 4 = 1 ∧
  elOf Tryz.prog 4 = none ∧
  isStr Tryz.prog 4 = false ∧
  isSl Tryz.prog 4 = false ∧
  isBoolT Tryz.prog 4 = true ∧
  isIf Tryz.prog 4 = false ∧
  zeroOf Tryz.prog 4 = some [.t (.bool false)] ∧
  isInt Tryz.prog 4 = none ∧
  szOf Tryz.prog 5 = 1 ∧
  aggOf Tryz.prog 5 = false ∧
  known Tryz.prog 5 = true ∧
  Tryz.prog.bytesOf 5 = 1 ∧
  elOf Tryz.prog 5 = none ∧
  isStr Tryz.prog 5 = false ∧
  isSl Tryz.prog 5 = false ∧
  isBoolT Tryz.prog 5 = false ∧
  isIf Tryz.prog 5 = false ∧
  zeroOf Tryz.prog 5 = some [.t (.int .u8 0)] ∧
  isInt Tryz.prog 5 = some .u8 ∧
  szOf Tryz.prog 9 = 1 ∧
  aggOf Tryz.prog 9 = false ∧
  known Tryz.prog 9 = true ∧
  Tryz.prog.bytesOf 9 = 16 ∧
  elOf Tryz.prog 9 = none ∧
  isStr Tryz.prog 9 = true ∧
  isSl Tryz.prog 9 = false ∧
  isBoolT Tryz.prog 9 = false ∧
  isIf Tryz.prog 9 = false ∧
  zeroOf Tryz.prog 9 = some [.t (.str [])] ∧
  isInt Tryz.prog 9 = none ∧
  szOf Tryz.prog 25 = 3 ∧
  aggOf Tryz.prog 25 = true ∧
  known Tryz.prog 25 = true ∧
  Tryz.prog.bytesOf 25 = 48 ∧
  elOf Tryz.prog 25 = none ∧
  isStr Tryz.prog 25 = false ∧
  isSl Tryz.prog 25 = false ∧
  isBoolT Tryz.prog 25 = false ∧
  isIf Tryz.prog 25 = false ∧
  strOK Tryz.prog 25 = true ∧
  fOf Tryz.prog 25 0 = some (0, 1, false) ∧
  fTy Tryz.prog 25 0 = 9 ∧
  fOf Tryz.prog 25 1 = some (1, 1, false) ∧
  fTy Tryz.prog 25 1 = 9 ∧
  fOf Tryz.prog 25 2 = some (2, 1, false) ∧
  fTy Tryz.prog 25 2 = 9 ∧
  zeroOf Tryz.prog 25 = some [.t (.str []), .t (.str []), .t (.str [])] ∧
  isInt Tryz.prog 25 = none ∧
  szOf Tryz.prog 28 = 3 ∧
  aggOf Tryz.prog 28 = true ∧
  known Tryz.prog 28 = true ∧
  Tryz.prog.bytesOf 28 = 48 ∧
  elOf Tryz.prog 28 = none ∧
  isStr Tryz.prog 28 = false ∧
  isSl Tryz.prog 28 = false ∧
  isBoolT Tryz.prog 28 = false ∧
  isIf Tryz.prog 28 = false ∧
  strOK Tryz.prog 28 = true ∧
  fOf Tryz.prog 28 0 = some (0, 1, false) ∧
  fTy Tryz.prog 28 0 = 9 ∧
  fOf Tryz.prog 28 1 = some (1, 1, false) ∧
  fTy Tryz.prog 28 1 = 9 ∧
  fOf Tryz.prog 28 2 = some (2, 1, false) ∧
  fTy Tryz.prog 28 2 = 9 ∧
  zeroOf Tryz.prog 28 = some [.t (.str []), .t (.str []), .t (.str [])] ∧
  isInt Tryz.prog 28 = none ∧
  szOf Tryz.prog 31 = 1 ∧
  aggOf Tryz.prog 31 = false ∧
  known Tryz.prog 31 = true ∧
  Tryz.prog.bytesOf 31 = 24 ∧
  elOf Tryz.prog 31 = some 5 ∧
  isStr Tryz.prog 31 = false ∧
  isSl Tryz.prog 31 = true ∧
  isBoolT Tryz.prog 31 = false ∧
  isIf Tryz.prog 31 = false ∧
  zeroOf Tryz.prog 31 = some [.nil 1] ∧
  isInt Tryz.prog 31 = none ∧
  szOf Tryz.prog 33 = 1 ∧
  aggOf Tryz.prog 33 = false ∧
  known Tryz.prog 33 = true ∧
  Tryz.prog.bytesOf 33 = 24 ∧
  elOf Tryz.prog 33 = some 9 ∧
  isStr Tryz.prog 33 = false ∧
  isSl Tryz.prog 33 = true ∧
  isBoolT Tryz.prog 33 = false ∧
  isIf Tryz.prog 33 = false ∧
  zeroOf Tryz.prog 33 = some [.nil 1] ∧
  isInt Tryz.prog 33 = none ∧
  szOf Tryz.prog 34 = 1 ∧
  aggOf Tryz.prog 34 = false ∧
  known Tryz.prog 34 = true ∧
  Tryz.prog.bytesOf 34 = 24 ∧
  elOf Tryz.prog 34 = some 36 ∧
  isStr Tryz.prog 34 = false ∧
  isSl Tryz.prog 34 = true ∧
  isBoolT Tryz.prog 34 = false ∧
  isIf Tryz.prog 34 = false ∧
  zeroOf Tryz.prog 34 = some [.nil 5] ∧
  isInt Tryz.prog 34 = none ∧
  szOf Tryz.prog 36 = 5 ∧
  aggOf Tryz.prog 36 = true ∧
  known Tryz.prog 36 = true ∧
  Tryz.prog.bytesOf 36 = 80 ∧
  elOf Tryz.prog 36 = none ∧
  isStr Tryz.prog 36 = false ∧
  isSl Tryz.prog 36 = false ∧
  isBoolT Tryz.prog 36 = false ∧
  isIf Tryz.prog 36 = false ∧
  strOK Tryz.prog 36 = true ∧
  fOf Tryz.prog 36 0 = some (0, 1, false) ∧
  fTy Tryz.prog 36 0 = 3 ∧
  fOf Tryz.prog 36 1 = some (1, 1, false) ∧
  fTy Tryz.prog 36 1 = 3 ∧
  fOf Tryz.prog 36 2 = some (2, 1, false) ∧
  fTy Tryz.prog 36 2 = 9 ∧
  fOf Tryz.prog 36 3 = some (3, 1, false) ∧
  fTy Tryz.prog 36 3 = 33 ∧
  fOf Tryz.prog 36 4 = some (4, 1, false) ∧
  fTy Tryz.prog 36 4 = 34 ∧
  zeroOf Tryz.prog 36 = some [.t (.int .i64 0), .t (.int .i64 0), .t (.str []), .nil 1, .nil 5] ∧
  isInt Tryz.prog 36 = none ∧
  szOf Tryz.prog 57 = 1 ∧
  aggOf Tryz.prog 57 = false ∧
  known Tryz.prog 57 = true ∧
  Tryz.prog.bytesOf 57 = 24 ∧
  elOf Tryz.prog 57 = some 204 ∧
  isStr Tryz.prog 57 = false ∧
  isSl Tryz.prog 57 = true ∧
  isBoolT Tryz.prog 57 = false ∧
  isIf Tryz.prog 57 = false ∧
  zeroOf Tryz.prog 57 = some [.nil 6] ∧
  isInt Tryz.prog 57 = none ∧
  szOf Tryz.prog 59 = 2 ∧
  aggOf Tryz.prog 59 = true ∧
  known Tryz.prog 59 = true ∧
  Tryz.prog.bytesOf 59 = 48 ∧
  elOf Tryz.prog 59 = none ∧
  isStr Tryz.prog 59 = false ∧
  isSl Tryz.prog 59 = false ∧
  isBoolT Tryz.prog 59 = false ∧
  isIf Tryz.prog 59 = false ∧
  strOK Tryz.prog 59 = true ∧
  fOf Tryz.prog 59 0 = some (0, 1, false) ∧
  fTy Tryz.prog 59 0 = 33 ∧
  fOf Tryz.prog 59 1 = some (1, 1, false) ∧
  fTy Tryz.prog 59 1 = 57 ∧
  zeroOf Tryz.prog 59 = some [.nil 1, .nil 6] ∧
  isInt Tryz.prog 59 = none ∧
  szOf Tryz.prog 63 = 1 ∧
  aggOf Tryz.prog 63 = false ∧
  known Tryz.prog 63 = true ∧
  Tryz.prog.bytesOf 63 = 24 ∧
  elOf Tryz.prog 63 = some 79 ∧
  isStr Tryz.prog 63 = false ∧
  isSl Tryz.prog 63 = true ∧
  isBoolT Tryz.prog 63 = false ∧
  isIf Tryz.prog 63 = false ∧
  zeroOf Tryz.prog 63 = some [.nil 6] ∧
  isInt Tryz.prog 63 = none ∧
  szOf Tryz.prog 65 = 2 ∧
  aggOf Tryz.prog 65 = true ∧
  known Tryz.prog 65 = true ∧
  Tryz.prog.bytesOf 65 = 48 ∧
  elOf Tryz.prog 65 = none ∧
  isStr Tryz.prog 65 = false ∧
  isSl Tryz.prog 65 = false ∧
  isBoolT Tryz.prog 65 = false ∧
  isIf Tryz.prog 65 = false ∧
  strOK Tryz.prog 65 = true ∧
  fOf Tryz.prog 65 0 = some (0, 1, false) ∧
  fTy Tryz.prog 65 0 = 33 ∧
  fOf Tryz.prog 65 1 = some (1, 1, false) ∧
  fTy Tryz.prog 65 1 = 63 ∧
  zeroOf Tryz.prog 65 = some [.nil 1, .nil 6] ∧
  isInt Tryz.prog 65 = none ∧
  szOf Tryz.prog 77 = 1 ∧
  aggOf Tryz.prog 77 = false ∧
  known Tryz.prog 77 = true ∧
  Tryz.prog.bytesOf 77 = 24 ∧
  elOf Tryz.prog 77 = some 138 ∧
  isStr Tryz.prog 77 = false ∧
  isSl Tryz.prog 77 = true ∧
  isBoolT Tryz.prog 77 = false ∧
  isIf Tryz.prog 77 = false ∧
  zeroOf Tryz.prog 77 = some [.nil 2] ∧
  isInt Tryz.prog 77 = none ∧
  szOf Tryz.prog 79 = 6 ∧
  aggOf Tryz.prog 79 = true ∧
  known Tryz.prog 79 = true ∧
  Tryz.prog.bytesOf 79 = 104 ∧
  elOf Tryz.prog 79 = none ∧
  isStr Tryz.prog 79 = false ∧
  isSl Tryz.prog 79 = false ∧
  isBoolT Tryz.prog 79 = false ∧
  isIf Tryz.prog 79 = false ∧
  strOK Tryz.prog 79 = true ∧
  fOf Tryz.prog 79 0 = some (0, 1, false) ∧
  fTy Tryz.prog 79 0 = 9 ∧
  fOf Tryz.prog 79 1 = some (1, 1, false) ∧
  fTy Tryz.prog 79 1 = 9 ∧
  fOf Tryz.prog 79 2 = some (2, 1, false) ∧
  fTy Tryz.prog 79 2 = 9 ∧
  fOf Tryz.prog 79 3 = some (3, 1, false) ∧
  fTy Tryz.prog 79 3 = 77 ∧
  fOf Tryz.prog 79 4 = some (4, 1, false) ∧
  fTy Tryz.prog 79 4 = 4 ∧
  fOf Tryz.prog 79 5 = some (5, 1, false) ∧
  fTy Tryz.prog 79 5 = 33 ∧
  zeroOf Tryz.prog 79 = some [.t (.str []), .t (.str []), .t (.str []), .nil 2, .t (.bool false), .nil 1] ∧
  isInt Tryz.prog 79 = none ∧
  szOf Tryz.prog 98 = 1 ∧
  aggOf Tryz.prog 98 = false ∧
  known Tryz.prog 98 = true ∧
  Tryz.prog.bytesOf 98 = 24 ∧
  elOf Tryz.prog 98 = some 177 ∧
  isStr Tryz.prog 98 = false ∧
  isSl Tryz.prog 98 = true ∧
  isBoolT Tryz.prog 98 = false ∧
  isIf Tryz.prog 98 = false ∧
  zeroOf Tryz.prog 98 = some [.nil 2] ∧
  isInt Tryz.prog 98 = none ∧
  szOf Tryz.prog 124 = 1 ∧
  aggOf Tryz.prog 124 = false ∧
  known Tryz.prog 124 = true ∧
  Tryz.prog.bytesOf 124 = 8 ∧
  elOf Tryz.prog 124 = none ∧
  isStr Tryz.prog 124 = false ∧
  isSl Tryz.prog 124 = false ∧
  isBoolT Tryz.prog 124 = false ∧
  isIf Tryz.prog 124 = false ∧
  zeroOf Tryz.prog 124 = some [.t .nilp] ∧
  isInt Tryz.prog 124 = none ∧
  szOf Tryz.prog 138 = 2 ∧
  aggOf Tryz.prog 138 = true ∧
  known Tryz.prog 138 = true ∧
  Tryz.prog.bytesOf 138 = 32 ∧
  elOf Tryz.prog 138 = none ∧
  isStr Tryz.prog 138 = false ∧
  isSl Tryz.prog 138 = false ∧
  isBoolT Tryz.prog 138 = false ∧
  isIf Tryz.prog 138 = false ∧
  strOK Tryz.prog 138 = true ∧
  fOf Tryz.prog 138 0 = some (0, 1, false) ∧
  fTy Tryz.prog 138 0 = 9 ∧
  fOf Tryz.prog 138 1 = some (1, 1, false) ∧
  fTy Tryz.prog 138 1 = 9 ∧
  zeroOf Tryz.prog 138 = some [.t (.str []), .t (.str [])] ∧
  isInt Tryz.prog 138 = none ∧
  szOf Tryz.prog 139 = 1 ∧
  aggOf Tryz.prog 139 = false ∧
  known Tryz.prog 139 = true ∧
  Tryz.prog.bytesOf 139 = 8 ∧
  elOf Tryz.prog 139 = none ∧
  isStr Tryz.prog 139 = false ∧
  isSl Tryz.prog 139 = false ∧
  isBoolT Tryz.prog 139 = false ∧
  isIf Tryz.prog 139 = false ∧
  zeroOf Tryz.prog 139 = some [.t .nilf] ∧
  isInt Tryz.prog 139 = none ∧
  szOf Tryz.prog 142 = 6 ∧
  aggOf Tryz.prog 142 = true ∧
  known Tryz.prog 142 = true ∧
  Tryz.prog.bytesOf 142 = 96 ∧
  elOf Tryz.prog 142 = none ∧
  isStr Tryz.prog 142 = false ∧
  isSl Tryz.prog 142 = false ∧
  isBoolT Tryz.prog 142 = false ∧
  isIf Tryz.prog 142 = false ∧
  strOK Tryz.prog 142 = true ∧
  fOf Tryz.prog 142 0 = some (0, 1, false) ∧
  fTy Tryz.prog 142 0 = 9 ∧
  fOf Tryz.prog 142 1 = some (1, 5, true) ∧
  fTy Tryz.prog 142 1 = 36 ∧
  zeroOf Tryz.prog 142 = some [.t (.str []), .t (.int .i64 0), .t (.int .i64 0), .t (.str []), .nil 1, .nil 5] ∧
  isInt Tryz.prog 142 = none ∧
  szOf Tryz.prog 145 = 1 ∧
  aggOf Tryz.prog 145 = false ∧
  known Tryz.prog 145 = true ∧
  Tryz.prog.bytesOf 145 = 8 ∧
  elOf Tryz.prog 145 = none ∧
  isStr Tryz.prog 145 = false ∧
  isSl Tryz.prog 145 = false ∧
  isBoolT Tryz.prog 145 = false ∧
  isIf Tryz.prog 145 = false ∧
  zeroOf Tryz.prog 145 = some [.t .nilf] ∧
  isInt Tryz.prog 145 = none ∧
  szOf Tryz.prog 147 = 1 ∧
  aggOf Tryz.prog 147 = false ∧
  known Tryz.prog 147 = true ∧
  Tryz.prog.bytesOf 147 = 24 ∧
  elOf Tryz.prog 147 = some 213 ∧
  isStr Tryz.prog 147 = false ∧
  isSl Tryz.prog 147 = true ∧
  isBoolT Tryz.prog 147 = false ∧
  isIf Tryz.prog 147 = false ∧
  zeroOf Tryz.prog 147 = some [.nil 2] ∧
  isInt Tryz.prog 147 = none ∧
  szOf Tryz.prog 167 = 4 ∧
  aggOf Tryz.prog 167 = true ∧
  known Tryz.prog 167 = true ∧
  Tryz.prog.bytesOf 167 = 48 ∧
  elOf Tryz.prog 167 = none ∧
  isStr Tryz.prog 167 = false ∧
  isSl Tryz.prog 167 = false ∧
  isBoolT Tryz.prog 167 = false ∧
  isIf Tryz.prog 167 = false ∧
  strOK Tryz.prog 167 = true ∧
  fOf Tryz.prog 167 0 = some (0, 1, false) ∧
  fTy Tryz.prog 167 0 = 3 ∧
  fOf Tryz.prog 167 1 = some (1, 1, false) ∧
  fTy Tryz.prog 167 1 = 3 ∧
  fOf Tryz.prog 167 2 = some (2, 1, false) ∧
  fTy Tryz.prog 167 2 = 3 ∧
  fOf Tryz.prog 167 3 = some (3, 1, false) ∧
  fTy Tryz.prog 167 3 = 33 ∧
  zeroOf Tryz.prog 167 = some [.t (.int .i64 0), .t (.int .i64 0), .t (.int .i64 0), .nil 1] ∧
  isInt Tryz.prog 167 = none ∧
  szOf Tryz.prog 177 = 2 ∧
  aggOf Tryz.prog 177 = true ∧
  known Tryz.prog 177 = true ∧
  Tryz.prog.bytesOf 177 = 32 ∧
  elOf Tryz.prog 177 = none ∧
  isStr Tryz.prog 177 = false ∧
  isSl Tryz.prog 177 = false ∧
  isBoolT Tryz.prog 177 = false ∧
  isIf Tryz.prog 177 = false ∧
  strOK Tryz.prog 177 = true ∧
  fOf Tryz.prog 177 0 = some (0, 1, false) ∧
  fTy Tryz.prog 177 0 = 9 ∧
  fOf Tryz.prog 177 1 = some (1, 1, false) ∧
  fTy Tryz.prog 177 1 = 9 ∧
  zeroOf Tryz.prog 177 = some [.t (.str []), .t (.str [])] ∧
  isInt Tryz.prog 177 = none ∧
  szOf Tryz.prog 181 = 1 ∧
  aggOf Tryz.prog 181 = false ∧
  known Tryz.prog 181 = true ∧
  Tryz.prog.bytesOf 181 = 8 ∧
  elOf Tryz.prog 181 = none ∧
  isStr Tryz.prog 181 = false ∧
  isSl Tryz.prog 181 = false ∧
  isBoolT Tryz.prog 181 = false ∧
  isIf Tryz.prog 181 = false ∧
  zeroOf Tryz.prog 181 = some [.t .nilf] ∧
  isInt Tryz.prog 181 = none ∧
  szOf Tryz.prog 188 = 1 ∧
  aggOf Tryz.prog 188 = false ∧
  known Tryz.prog 188 = true ∧
  Tryz.prog.bytesOf 188 = 24 ∧
  elOf Tryz.prog 188 = some 3 ∧
  isStr Tryz.prog 188 = false ∧
  isSl Tryz.prog 188 = true ∧
  isBoolT Tryz.prog 188 = false ∧
  isIf Tryz.prog 188 = false ∧
  zeroOf Tryz.prog 188 = some [.nil 1] ∧
  isInt Tryz.prog 188 = none ∧
  szOf Tryz.prog 202 = 1 ∧
  aggOf Tryz.prog 202 = false ∧
  known Tryz.prog 202 = true ∧
  Tryz.prog.bytesOf 202 = 24 ∧
  elOf Tryz.prog 202 = some 289 ∧
  isStr Tryz.prog 202 = false ∧
  isSl Tryz.prog 202 = true ∧
  isBoolT Tryz.prog 202 = false ∧
  isIf Tryz.prog 202 = false ∧
  zeroOf Tryz.prog 202 = some [.nil 2] ∧
  isInt Tryz.prog 202 = none ∧
  szOf Tryz.prog 204 = 6 ∧
  aggOf Tryz.prog 204 = true ∧
  known Tryz.prog 204 = true ∧
  Tryz.prog.bytesOf 204 = 104 ∧
  elOf Tryz.prog 204 = none ∧
  isStr Tryz.prog 204 = false ∧
  isSl Tryz.prog 204 = false ∧
  isBoolT Tryz.prog 204 = false ∧
  isIf Tryz.prog 204 = false ∧
  strOK Tryz.prog 204 = true ∧
  fOf Tryz.prog 204 0 = some (0, 1, false) ∧
  fTy Tryz.prog 204 0 = 9 ∧
  fOf Tryz.prog 204 1 = some (1, 1, false) ∧
  fTy Tryz.prog 204 1 = 9 ∧
  fOf Tryz.prog 204 2 = some (2, 1, false) ∧
  fTy Tryz.prog 204 2 = 9 ∧
  fOf Tryz.prog 204 3 = some (3, 1, false) ∧
  fTy Tryz.prog 204 3 = 202 ∧
  fOf Tryz.prog 204 4 = some (4, 1, false) ∧
  fTy Tryz.prog 204 4 = 4 ∧
  fOf Tryz.prog 204 5 = some (5, 1, false) ∧
  fTy Tryz.prog 204 5 = 33 ∧
  zeroOf Tryz.prog 204 = some [.t (.str []), .t (.str []), .t (.str []), .nil 2, .t (.bool false), .nil 1] ∧
  isInt Tryz.prog 204 = none ∧
  szOf Tryz.prog 207 = 1 ∧
  aggOf Tryz.prog 207 = false ∧
  known Tryz.prog 207 = true ∧
  Tryz.prog.bytesOf 207 = 24 ∧
  elOf Tryz.prog 207 = some 142 ∧
  isStr Tryz.prog 207 = false ∧
  isSl Tryz.prog 207 = true ∧
  isBoolT Tryz.prog 207 = false ∧
  isIf Tryz.prog 207 = false ∧
  zeroOf Tryz.prog 207 = some [.nil 6] ∧
  isInt Tryz.prog 207 = none ∧
  szOf Tryz.prog 209 = 1 ∧
  aggOf Tryz.prog 209 = false ∧
  known Tryz.prog 209 = true ∧
  Tryz.prog.bytesOf 209 = 8 ∧
  elOf Tryz.prog 209 = none ∧
  isStr Tryz.prog 209 = false ∧
  isSl Tryz.prog 209 = false ∧
  isBoolT Tryz.prog 209 = false ∧
  isIf Tryz.prog 209 = false ∧
  zeroOf Tryz.prog 209 = some [.t (.int .u64 0)] ∧
  isInt Tryz.prog 209 = some .u64 ∧
  szOf Tryz.prog 211 = 1 ∧
  aggOf Tryz.prog 211 = false ∧
  known Tryz.prog 211 = true ∧
  Tryz.prog.bytesOf 211 = 24 ∧
  elOf Tryz.prog 211 = some 216 ∧
  isStr Tryz.prog 211 = false ∧
  isSl Tryz.prog 211 = true ∧
  isBoolT Tryz.prog 211 = false ∧
  isIf Tryz.prog 211 = false ∧
  zeroOf Tryz.prog 211 = some [.nil 4] ∧
  isInt Tryz.prog 211 = none ∧
  szOf Tryz.prog 213 = 2 ∧
  aggOf Tryz.prog 213 = true ∧
  known Tryz.prog 213 = true ∧
  Tryz.prog.bytesOf 213 = 40 ∧
  elOf Tryz.prog 213 = none ∧
  isStr Tryz.prog 213 = false ∧
  isSl Tryz.prog 213 = false ∧
  isBoolT Tryz.prog 213 = false ∧
  isIf Tryz.prog 213 = false ∧
  strOK Tryz.prog 213 = true ∧
  fOf Tryz.prog 213 0 = some (0, 1, false) ∧
  fTy Tryz.prog 213 0 = 9 ∧
  fOf Tryz.prog 213 1 = some (1, 1, false) ∧
  fTy Tryz.prog 213 1 = 211 ∧
  zeroOf Tryz.prog 213 = some [.t (.str []), .nil 4] ∧
  isInt Tryz.prog 213 = none ∧
  szOf Tryz.prog 216 = 4 ∧
  aggOf Tryz.prog 216 = true ∧
  known Tryz.prog 216 = true ∧
  Tryz.prog.bytesOf 216 = 64 ∧
  elOf Tryz.prog 216 = none ∧
  isStr Tryz.prog 216 = false ∧
  isSl Tryz.prog 216 = false ∧
  isBoolT Tryz.prog 216 = false ∧
  isIf Tryz.prog 216 = false ∧
  strOK Tryz.prog 216 = true ∧
  fOf Tryz.prog 216 0 = some (0, 1, false) ∧
  fTy Tryz.prog 216 0 = 9 ∧
  fOf Tryz.prog 216 1 = some (1, 1, false) ∧
  fTy Tryz.prog 216 1 = 9 ∧
  fOf Tryz.prog 216 2 = some (2, 1, false) ∧
  fTy Tryz.prog 216 2 = 33 ∧
  fOf Tryz.prog 216 3 = some (3, 1, false) ∧
  fTy Tryz.prog 216 3 = 4 ∧
  zeroOf Tryz.prog 216 = some [.t (.str []), .t (.str []), .nil 1, .t (.bool false)] ∧
  isInt Tryz.prog 216 = none ∧
  szOf Tryz.prog 219 = 1 ∧
  aggOf Tryz.prog 219 = false ∧
  known Tryz.prog 219 = true ∧
  Tryz.prog.bytesOf 219 = 8 ∧
  elOf Tryz.prog 219 = none ∧
  isStr Tryz.prog 219 = false ∧
  isSl Tryz.prog 219 = false ∧
  isBoolT Tryz.prog 219 = false ∧
  isIf Tryz.prog 219 = false ∧
  zeroOf Tryz.prog 219 = some [.t .nilf] ∧
  isInt Tryz.prog 219 = none ∧
  szOf Tryz.prog 220 = 1 ∧
  aggOf Tryz.prog 220 = false ∧
  known Tryz.prog 220 = true ∧
  Tryz.prog.bytesOf 220 = 8 ∧
  elOf Tryz.prog 220 = none ∧
  isStr Tryz.prog 220 = false ∧
  isSl Tryz.prog 220 = false ∧
  isBoolT Tryz.prog 220 = false ∧
  isIf Tryz.prog 220 = false ∧
  zeroOf Tryz.prog 220 = some [.t .nilp] ∧
  isInt Tryz.prog 220 = none ∧
  szOf Tryz.prog 221 = 1 ∧
  aggOf Tryz.prog 221 = false ∧
  known Tryz.prog 221 = true ∧
  Tryz.prog.bytesOf 221 = 8 ∧
  elOf Tryz.prog 221 = none ∧
  isStr Tryz.prog 221 = false ∧
  isSl Tryz.prog 221 = false ∧
  isBoolT Tryz.prog 221 = false ∧
  isIf Tryz.prog 221 = false ∧
  zeroOf Tryz.prog 221 = some [.t .nilf] ∧
  isInt Tryz.prog 221 = none ∧
  szOf Tryz.prog 249 = 1 ∧
  aggOf Tryz.prog 249 = false ∧
  known Tryz.prog 249 = true ∧
  Tryz.prog.bytesOf 249 = 16 ∧
  elOf Tryz.prog 249 = none ∧
  isStr Tryz.prog 249 = false ∧
  isSl Tryz.prog 249 = false ∧
  isBoolT Tryz.prog 249 = false ∧
  isIf Tryz.prog 249 = true ∧
  zeroOf Tryz.prog 249 = some [.t .nili] ∧
  isInt Tryz.prog 249 = none ∧
  szOf Tryz.prog 263 = 1 ∧
  aggOf Tryz.prog 263 = false ∧
  known Tryz.prog 263 = true ∧
  Tryz.prog.bytesOf 263 = 8 ∧
  elOf Tryz.prog 263 = none ∧
  isStr Tryz.prog 263 = false ∧
  isSl Tryz.prog 263 = false ∧
  isBoolT Tryz.prog 263 = false ∧
  isIf Tryz.prog 263 = false ∧
  zeroOf Tryz.prog 263 = some [.t .nilf] ∧
  isInt Tryz.prog 263 = none ∧
  szOf Tryz.prog 276 = 1 ∧
  aggOf Tryz.prog 276 = false ∧
  known Tryz.prog 276 = true ∧
  Tryz.prog.bytesOf 276 = 4 ∧
  elOf Tryz.prog 276 = none ∧
  isStr Tryz.prog 276 = false ∧
  isSl Tryz.prog 276 = false ∧
  isBoolT Tryz.prog 276 = false ∧
  isIf Tryz.prog 276 = false ∧
  zeroOf Tryz.prog 276 = some [.t (.int .u32 0)] ∧
  isInt Tryz.prog 276 = some .u32 ∧
  szOf Tryz.prog 289 = 2 ∧
  aggOf Tryz.prog 289 = true ∧
  known Tryz.prog 289 = true ∧
  Tryz.prog.bytesOf 289 = 32 ∧
  elOf Tryz.prog 289 = none ∧
  isStr Tryz.prog 289 = false ∧
  isSl Tryz.prog 289 = false ∧
  isBoolT Tryz.prog 289 = false ∧
  isIf Tryz.prog 289 = false ∧
  strOK Tryz.prog 289 = true ∧
  fOf Tryz.prog 289 0 = some (0, 1, false) ∧
  fTy Tryz.prog 289 0 = 9 ∧
  fOf Tryz.prog 289 1 = some (1, 1, false) ∧
  fTy Tryz.prog 289 1 = 9 ∧
  zeroOf Tryz.prog 289 = some [.t (.str []), .t (.str [])] ∧
  isInt Tryz.prog 289 = none :=
  ⟨TY_0, TY_1, TY_2, TY_3, TY_4, TY_5, TY_6, TY_7, TY_8, TY_9, TY_10, TY_11, TY_12, TY_13, TY_14, TY_15, TY_16, TY_17, TY_18, TY_19, TY_20, TY_21, TY_22, TY_23, TY_24, TY_25, TY_26, TY_27, TY_28, TY_29, TY_30, TY_31, TY_32, TY_33, TY_34, TY_35, TY_36, TY_37, TY_38, TY_39, TY_40, TY_41, TY_42, TY_43, TY_44, TY_45, TY_46, TY_47, TY_48, TY_49, TY_50, TY_51, TY_52, TY_53, TY_54, TY_55, TY_56, TY_57, TY_58, TY_59, TY_60, TY_61, TY_62, TY_63, TY_64, TY_65, TY_66, TY_67, TY_68, TY_69, TY_70, TY_71, TY_72, TY_73, TY_74, TY_75, TY_76, TY_77, TY_78, TY_79, TY_80, TY_81, TY_82, TY_83, TY_84, TY_85, TY_86, TY_87, TY_88, TY_89, TY_90, TY_91, TY_92, TY_93, TY_94, TY_95, TY_96, TY_97, TY_98, TY_99, TY_100, TY_101, TY_102, TY_103, TY_104, TY_105, TY_106, TY_107, TY_108, TY_109, TY_110, TY_111, TY_112, TY_113, TY_114, TY_115, TY_116, TY_117, TY_118, TY_119, TY_120, TY_121, TY_122, TY_123, TY_124, TY_125, TY_126, TY_127, TY_128, TY_129, TY_130, TY_131, TY_132, TY_133, TY_134, TY_135, TY_136, TY_137, TY_138, TY_139, TY_140, TY_141, TY_142, TY_143, TY_144, TY_145, TY_146, TY_147, TY_148, TY_149, TY_150, TY_151, TY_152, TY_153, TY_154, TY_155, TY_156, TY_157, TY_158, TY_159, TY_160, TY_161, TY_162, TY_163, TY_164, TY_165, TY_166, TY_167, TY_168, TY_169, TY_170, TY_171, TY_172, TY_173, TY_174, TY_175, TY_176, TY_177, TY_178, TY_179, TY_180, TY_181, TY_182, TY_183, TY_184, TY_185, TY_186, TY_187, TY_188, TY_189, TY_190, TY_191, TY_192, TY_193, TY_194, TY_195, TY_196, TY_197, TY_198, TY_199, TY_200, TY_201, TY_202, TY_203, TY_204, TY_205, TY_206, TY_207, TY_208, TY_209, TY_210, TY_211, TY_212, TY_213, TY_214, TY_215, TY_216, TY_217, TY_218, TY_219, TY_220, TY_221, TY_222, TY_223, TY_224, TY_225, TY_226, TY_227, TY_228, TY_229, TY_230, TY_231, TY_232, TY_233, TY_234, TY_235, TY_236, TY_237, TY_238, TY_239, TY_240, TY_241, TY_242, TY_243, TY_244, TY_245, TY_246, TY_247, TY_248, TY_249, TY_250, TY_251, TY_252, TY_253, TY_254, TY_255, TY_256, TY_257, TY_258, TY_259, TY_260, TY_261, TY_262, TY_263, TY_264, TY_265, TY_266, TY_267, TY_268, TY_269, TY_270, TY_271, TY_272, TY_273, TY_274, TY_275, TY_276, TY_277, TY_278, TY_279, TY_280, TY_281, TY_282, TY_283, TY_284, TY_285, TY_286, TY_287, TY_288, TY_289, TY_290, TY_291, TY_292, TY_293, TY_294, TY_295, TY_296, TY_297, TY_298, TY_299, TY_300, TY_301, TY_302, TY_303, TY_304, TY_305, TY_306, TY_307, TY_308, TY_309, TY_310, TY_311, TY_312, TY_313, TY_314, TY_315, TY_316, TY_317, TY_318, TY_319, TY_320, TY_321, TY_322, TY_323, TY_324, TY_325, TY_326, TY_327, TY_328, TY_329, TY_330, TY_331, TY_332, TY_333, TY_334, TY_335, TY_336, TY_337, TY_338, TY_339, TY_340, TY_341, TY_342, TY_343, TY_344, TY_345, TY_346, TY_347, TY_348, TY_349, TY_350, TY_351, TY_352, TY_353, TY_354, TY_355, TY_356, TY_357, TY_358, TY_359, TY_360, TY_361, TY_362, TY_363, TY_364, TY_365, TY_366, TY_367, TY_368, TY_369, TY_370, TY_371, TY_372, TY_373, TY_374, TY_375, TY_376, TY_377, TY_378, TY_379, TY_380, TY_381, TY_382, TY_383, TY_384, TY_385, TY_386, TY_387, TY_388, TY_389, TY_390, TY_391, TY_392, TY_393, TY_394, TY_395, TY_396, TY_397, TY_398, TY_399, TY_400, TY_401, TY_402, TY_403, TY_404, TY_405, TY_406, TY_407, TY_408, TY_409, TY_410, TY_411, TY_412, TY_413, TY_414, TY_415, TY_416, TY_417, TY_418, TY_419, TY_420, TY_421, TY_422, TY_423, TY_424, TY_425, TY_426, TY_427, TY_428, TY_429, TY_430, TY_431, TY_432, TY_433, TY_434, TY_435, TY_436, TY_437, TY_438, TY_439, TY_440, TY_441, TY_442, TY_443, TY_444, TY_445, TY_446, TY_447, TY_448, TY_449, TY_450, TY_451, TY_452, TY_453, TY_454, TY_455, TY_456, TY_457, TY_458, TY_459, TY_460, TY_461, TY_462, TY_463, TY_464, TY_465, TY_466, TY_467, TY_468, TY_469, TY_470, TY_471, TY_472, TY_473, TY_474, TY_475, TY_476, TY_477, TY_478, TY_479, TY_480, TY_481, TY_482, TY_483, TY_484, TY_485, TY_486, TY_487, TY_488, TY_489, TY_490, TY_491, TY_492, TY_493, TY_494, TY_495, TY_496, TY_497, TY_498, TY_499, TY_500, TY_501, TY_502, TY_503, TY_504, TY_505, TY_506, TY_507, TY_508, TY_509, TY_510, TY_511, TY_512, TY_513, TY_514, TY_515, TY_516, TY_517, TY_518, TY_519, TY_520, TY_521, TY_522, TY_523, TY_524, TY_525, TY_526, TY_527, TY_528, TY_529, TY_530, TY_531, TY_532, TY_533, TY_534, TY_535, TY_536, TY_537, TY_538, TY_539, TY_540, TY_541, TY_542, TY_543, TY_544, TY_545, TY_546, TY_547, TY_548, TY_549, TY_550, TY_551, TY_552, TY_553, TY_554, TY_555, TY_556, TY_557, TY_558, TY_559, TY_560, TY_561, TY_562, TY_563, TY_564, TY_565, TY_566, TY_567, TY_568, TY_569, TY_570, TY_571, TY_572, TY_573, TY_574, TY_575, TY_576⟩
end Go.Proofs.YtkpmachalipmpaaGreatDoor
/- What slices.Clone answers where its answer is to be written: a row of its own. Conditions: those of each lemma. -/
namespace Go.Proofs.YtkpmachalipmpaaGreatDoor
open E
set_option linter.unusedSimpArgs false
set_option linter.unusedVariables false
set_option maxRecDepth 100000
namespace Z5
def pmT (_ _ : Nat) : PM := .pure
noncomputable def pol : Pol := polOf Tryz.prog pmT liveT outsT (fun _ => true) (fun _ _ => none)
theorem pol_ok : ∀ f fn c, pol.no f = false → Tryz.prog.funcs[f]? = some fn → fn.body = some c → codeOK (drOK Tryz.prog pol f) fn.ntmps c = true := polOf_ok
theorem DRW : ∀ (rc : Rec) (f m p n : Nat) (fs : List Fr) (k : Fin') (e : Env) (h : Heap) (l : List Oper), goC ⟨Tryz.prog, pol, rc, f, m⟩ (.region n l.toArray true) p fs k e h = goD ⟨Tryz.prog, pol, rc, f, m⟩ (l.all (nonW pol f)) l fs k e h := fun _ _ _ _ _ _ _ _ _ _ => goC_draw _ _ _ _ _ _ _ _ rfl
theorem LVS : ∀ f p, pol.live f p = liveT f p := fun _ _ => rfl
theorem OVS : ∀ f p, pol.outs f p = outsT f p := fun _ _ => rfl
theorem PMS : ∀ f d, pol.pm f d = pmT f d := fun _ _ => rfl
theorem ext0 (W0 : World) : ExtOK Tryz.prog W0 pol := ⟨fun g args v hv => (by cases hv), fun g args h v h' hv => (by cases hv)⟩
end Z5
def cloneE (sz : Nat) (args : List V) (h : Heap) : Option (V × Heap) :=
  match args, h with
  | [.t (.list s es)], [] => if s = sz ∧ es.length ≤ 4194304 then some (.sl 0 0 es.length none, [.ts sz es]) else none
  | _, _ => none
theorem clone_ext (W0 : World) (g sz : Nat) (ht : EV Tryz.prog Z5.pol (.callO false g [.t (.nlist true sz [])] []) = some (.call (.nil sz) []))
    (hf : ∀ es : List (List T), es.length ≤ 4194304 → EV Tryz.prog Z5.pol (.callO false g [.t (.nlist false sz es)] []) = some (.call (.sl 0 0 es.length none) [.ts sz es])) : ExtOAt Tryz.prog W0 g (cloneE sz) := by
  intro args h v h' hv
  unfold cloneE at hv
  split at hv
  · rename_i s es
    split at hv
    · rename_i hl
      obtain ⟨rfl, hl⟩ := hl
      cases hv
      refine ⟨(EV_callO (Z5.ext0 W0) Z5.pol_ok ht).1, fun Ow w F ρ us hB hS hO hu => ?_⟩
      obtain ⟨us⟩ := us
      change RVs w F ρ us _ at hu
      cases hu with
      | cons h1 h2 =>
      cases h2
      cases h1 with
      | t u x hx =>
      have hx0 := hx
      cases hx with
      | list a n c sz es g' hn hc h0 hz hr =>
      cases ha : a.isNone with
      | false =>
        exact (EV_callO (Z5.ext0 W0) Z5.pol_ok (hf es hl)).2 Ow w F ρ _ hB hS hO (.cons (.t _ _ (.nlist _ _ _ _ _ _ ha hx0)) .nil)
      | true =>
        have hes : es = [] := by
          cases es with
          | nil => rfl
          | cons e r =>
            obtain ⟨b, o, e1, _⟩ := h0 (by simp at hn; omega)
            rw [e1] at ha; cases ha
        subst hes
        refine ((EV_callO (Z5.ext0 W0) Z5.pol_ok ht).2 Ow w F ρ _ hB hS hO (.cons (.t _ _ (.nlist _ _ _ _ _ _ ha hx0)) .nil)).mono fun e w' hp => ?_
        obtain ⟨u, F', ρ', e1, e2, e3, e4, e5⟩ := hp
        cases e2 with
        | nil _ =>
        refine ⟨_, F', fun r => if r = 0 then some none else ρ' r, e1, .slP 0 none _ (by simp) (.inl rfl), ⟨?_, ?_, e3.fsz, ?_⟩, e4, fun r l hr => by simp at hr⟩
        · intro r b hr
          match r with
          | 0 => simp at hr; subst hr; exact .inr ⟨by simp, rfl⟩
          | r + 1 => simp at hr
        · intro r r' b b' L L' hr hr' _ _ hL
          match r with
          | 0 => simp at hL
          | r + 1 => simp at hr
        · intro r hr
          have h1 := e3.out r (Nat.zero_le _)
          match r with
          | 0 => simp at hr
          | r + 1 => simpa using h1
    · cases hv
  · cases hv
namespace Z5
theorem clS_t : EV Tryz.prog pol (.callO false 136 [.t (.nlist true 1 [])] []) = some (.call (.nil 1) []) := by
  refine callO_eq Tryz.func136 rfl (by kernel_rfl) ?_
  unfold Tryz.f136
  simp (disch := ((try simp only [List.length_cons, List.length_append, List.length_nil, List.length_map]); omega)) only [↓GO, ↓DRW, GA, ren, renB, footX, refs, cellsV, cst, cstAt, nilC, idxAddr, E.load, E.store, binO, isC, bin, ibin, sbin, una, isShift, okCell, packV, lenV, blt, fnV, asArg, snapV, snapS, snapP, snapC, flatV, flatT, openK, layBack, allT, allZ, mkS, srcOf0, unN, idxV, nilEq, give, tupV, mkEnv, extV, pickV, LVS, OVS, LTS, TYS, PMS, pmT, Int.reduceToNat, Nat.reduceGT, ↓reduceIte, Nat.reduceAdd, Nat.reduceMul, Nat.reduceSub, Nat.reduceEqDiff, Nat.reduceLeDiff, Nat.reduceLT, Nat.reduceBEq, Int.reduceBEq, Int.reduceBNe, Int.reduceEq, Int.reduceLT, Int.reduceLE, Int.reduceGT, Int.reduceNeg, reduceCtorEq]
theorem clS_f (es : List (List T)) (hl : es.length ≤ 4194304) : EV Tryz.prog pol (.callO false 136 [.t (.nlist false 1 es)] []) = some (.call (.sl 0 0 es.length none) [.ts 1 es]) := by
  refine callO_eq Tryz.func136 rfl (by kernel_rfl) ?_
  unfold Tryz.f136
  simp (disch := ((try simp only [List.length_cons, List.length_append, List.length_nil, List.length_map]); omega)) only [↓GO, ↓DRW, GA, ren, renB, footX, refs, cellsV, cst, cstAt, nilC, idxAddr, E.load, E.store, binO, isC, bin, ibin, sbin, una, isShift, okCell, packV, lenV, blt, fnV, asArg, snapV, snapS, snapP, snapC, flatV, flatT, openK, layBack, allT, allZ, mkS, srcOf0, unN, idxV, nilEq, give, tupV, mkEnv, extV, pickV, LVS, OVS, LTS, TYS, PMS, pmT, Int.reduceToNat, Nat.reduceGT, ↓reduceIte, Nat.reduceAdd, Nat.reduceMul, Nat.reduceSub, Nat.reduceEqDiff, Nat.reduceLeDiff, Nat.reduceLT, Nat.reduceBEq, Int.reduceBEq, Int.reduceBNe, Int.reduceEq, Int.reduceLT, Int.reduceLE, Int.reduceGT, Int.reduceNeg, reduceCtorEq, le_T]
theorem clM_t : EV Tryz.prog pol (.callO false 230 [.t (.nlist true 2 [])] []) = some (.call (.nil 2) []) := by
  refine callO_eq Tryz.func230 rfl (by kernel_rfl) ?_
  unfold Tryz.f230
  simp (disch := ((try simp only [List.length_cons, List.length_append, List.length_nil, List.length_map]); omega)) only [↓GO, ↓DRW, GA, ren, renB, footX, refs, cellsV, cst, cstAt, nilC, idxAddr, E.load, E.store, binO, isC, bin, ibin, sbin, una, isShift, okCell, packV, lenV, blt, fnV, asArg, snapV, snapS, snapP, snapC, flatV, flatT, openK, layBack, allT, allZ, mkS, srcOf0, unN, idxV, nilEq, give, tupV, mkEnv, extV, pickV, LVS, OVS, LTS, TYS, PMS, pmT, Int.reduceToNat, Nat.reduceGT, ↓reduceIte, Nat.reduceAdd, Nat.reduceMul, Nat.reduceSub, Nat.reduceEqDiff, Nat.reduceLeDiff, Nat.reduceLT, Nat.reduceBEq, Int.reduceBEq, Int.reduceBNe, Int.reduceEq, Int.reduceLT, Int.reduceLE, Int.reduceGT, Int.reduceNeg, reduceCtorEq]
theorem clM_f (es : List (List T)) (hl : es.length ≤ 4194304) : EV Tryz.prog pol (.callO false 230 [.t (.nlist false 2 es)] []) = some (.call (.sl 0 0 es.length none) [.ts 2 es]) := by
  refine callO_eq Tryz.func230 rfl (by kernel_rfl) ?_
  unfold Tryz.f230
  simp (disch := ((try simp only [List.length_cons, List.length_append, List.length_nil, List.length_map]); omega)) only [↓GO, ↓DRW, GA, ren, renB, footX, refs, cellsV, cst, cstAt, nilC, idxAddr, E.load, E.store, binO, isC, bin, ibin, sbin, una, isShift, okCell, packV, lenV, blt, fnV, asArg, snapV, snapS, snapP, snapC, flatV, flatT, openK, layBack, allT, allZ, mkS, srcOf0, unN, idxV, nilEq, give, tupV, mkEnv, extV, pickV, LVS, OVS, LTS, TYS, PMS, pmT, Int.reduceToNat, Nat.reduceGT, ↓reduceIte, Nat.reduceAdd, Nat.reduceMul, Nat.reduceSub, Nat.reduceEqDiff, Nat.reduceLeDiff, Nat.reduceLT, Nat.reduceBEq, Int.reduceBEq, Int.reduceBNe, Int.reduceEq, Int.reduceLT, Int.reduceLE, Int.reduceGT, Int.reduceNeg, reduceCtorEq, le_T]
end Z5
theorem cloneS_at (W0 : World) : ExtOAt Tryz.prog W0 136 (cloneE 1) := clone_ext W0 _ 1 Z5.clS_t Z5.clS_f
theorem cloneM_at (W0 : World) : ExtOAt Tryz.prog W0 230 (cloneE 2) := clone_ext W0 _ 2 Z5.clM_t Z5.clM_f
end Go.Proofs.YtkpmachalipmpaaGreatDoor
/- The seat's facts: the policy; what is shown by other means. Conditions: none. -/
namespace Go.Proofs.YtkpmachalipmpaaGreatDoor
open E
set_option linter.unusedSimpArgs false
set_option linter.unusedVariables false
set_option maxRecDepth 100000
/-- the calls that do not hand on frozen values, or values as they are -/
def pmT (f d : Nat) : PM :=
  if f = 34 then .opn false else
  if f = 107 then (if d = 119 then .opn false else .pure) else
  if f = 314 ∧ d = 11 then .frz else
  if f = 259 ∧ d = 20 then .opn false else
  if f = 133 ∧ (d = 13 ∨ d = 35 ∨ d = 17 ∨ d = 62) then .opn false else
  if f = 217 ∧ (d = 24 ∨ d = 32 ∨ d = 42) then .frz else
  .pure
def drT (_ : Nat) : Bool := true
/-- what is shown by other means -/
def extT (f : Nat) (args : List V) : Option V :=
  if f = 193 then joinE args else
  if f = 264 then itoaE args else
  if f = 269 then atoiE args else
  if f = 83 then cutE args else
  if f = 181 then splitE args else
  none
/-- what is shown by other means, on rows -/
def extOT (f : Nat) (args : List V) (h : Heap) : Option (V × Heap) :=
  if f = 136 then cloneE 1 args h else
  if f = 230 then cloneE 2 args h else
  none
noncomputable def pol : Pol := polOf Tryz.prog pmT liveT outsT drT extT extOT
theorem pol_ok : ∀ f fn c, pol.no f = false → Tryz.prog.funcs[f]? = some fn → fn.body = some c → codeOK (drOK Tryz.prog pol f) fn.ntmps c = true := polOf_ok
theorem DRW : ∀ (rc : Rec) (f m p n : Nat) (fs : List Fr) (k : Fin') (e : Env) (h : Heap) (l : List Oper), goC ⟨Tryz.prog, pol, rc, f, m⟩ (.region n l.toArray true) p fs k e h = goD ⟨Tryz.prog, pol, rc, f, m⟩ (l.all (nonW pol f)) l fs k e h := fun _ _ _ _ _ _ _ _ _ _ => goC_draw _ _ _ _ _ _ _ _ rfl
theorem LVS : ∀ f p, pol.live f p = liveT f p := fun _ _ => rfl
theorem OVS : ∀ f p, pol.outs f p = outsT f p := fun _ _ => rfl
theorem PMS : ∀ f d, pol.pm f d = pmT f d := fun _ _ => rfl
theorem pol_extO (f : Nat) (args : List V) (h : Heap) : pol.extO f args h = extOT f args h := rfl
theorem pol_ext (f : Nat) (args : List V) : pol.ext f args = extT f args := rfl
/-- what the start's memory has to hold -/
def LaidOK (W0 : World) : Prop :=
  Lib.TabIs Tryz.prog W0 "internal/strconv.uint64pow10" .u64 Lib.pow10Tab ∧
  ((∃ tp p, W0.var? Tryz.prog "strconv.ErrSyntax" = some #[.iface tp p]) ∧ (∃ tp p, W0.var? Tryz.prog "strconv.ErrRange" = some #[.iface tp p])) ∧
  (∃ m, W0.cell? ⟨Tryz.laysM145_ren.g 1, 0, none⟩ = some (.int .i64 m)) ∧
  True
theorem extO_ok (W0 : World) (hL : LaidOK W0) (g : Nat) : ExtOAt Tryz.prog W0 g (pol.extO g) := by
  intro args h v h' hv
  have hv' : extOT g args h = some (v, h') := hv
  clear hv
  unfold extOT at hv'
  by_cases hg : g = 136
  · subst hg
    rw [if_pos rfl] at hv'
    exact cloneS_at W0 args h v h' hv'
  rw [if_neg hg] at hv'
  clear hg
  by_cases hg : g = 230
  · subst hg
    rw [if_pos rfl] at hv'
    exact cloneM_at W0 args h v h' hv'
  rw [if_neg hg] at hv'
  clear hg
  cases hv'
theorem ext_ok (W0 : World) (hL : LaidOK W0) : ExtOK Tryz.prog W0 pol := by
  refine ⟨?_, extO_ok W0 hL⟩
  intro g args v hv
  have hv' : extT g args = some v := hv
  clear hv
  unfold extT at hv'
  by_cases hg : g = 193
  · subst hg
    rw [if_pos rfl] at hv'
    exact join_at W0 args v hv'
  rw [if_neg hg] at hv'
  clear hg
  by_cases hg : g = 264
  · subst hg
    rw [if_pos rfl] at hv'
    exact itoa_at W0 hL.1 args v hv'
  rw [if_neg hg] at hv'
  clear hg
  by_cases hg : g = 269
  · subst hg
    rw [if_pos rfl] at hv'
    exact atoi_at W0 hL.2.1.1 hL.2.1.2 args v hv'
  rw [if_neg hg] at hv'
  clear hg
  by_cases hg : g = 83
  · subst hg
    rw [if_pos rfl] at hv'
    exact cut_at W0 hL.2.2.1 args v hv'
  rw [if_neg hg] at hv'
  clear hg
  by_cases hg : g = 181
  · subst hg
    rw [if_pos rfl] at hv'
    exact split_at W0 hL.2.2.1 args v hv'
  rw [if_neg hg] at hv'
  clear hg
  cases hv'
theorem c_join (ks : List Str) (sep : Str) (h1 : ks.length ≤ 140737488355328) (h2 : (Lib.join ks sep).length ≤ 140737488355328) : callPure (EV Tryz.prog pol) 193 [.t (.list 1 (strs ks)), .t (.str sep)] = some (.t (.str (Lib.join ks sep))) :=
  eq_call (EV_ext (by rw [pol_ext]; unfold extT; simp (config := { decide := true }) only [if_true, if_false, reduceIte, joinE, strsOf_strs]; rw [if_pos ⟨h1, h2⟩]))
theorem c_itoa (n : Int) (h1 : -9223372036854775808 ≤ n) (h2 : n ≤ 9223372036854775807) : callPure (EV Tryz.prog pol) 264 [.t (.int .i64 n)] = some (.t (.str (Lib.itoa n))) :=
  eq_call (EV_ext (by rw [pol_ext]; unfold extT; simp (config := { decide := true }) only [if_true, if_false, reduceIte, itoaE]; rw [if_pos ⟨h1, h2⟩]))
theorem c_atoi (s : Str) (h : s.length ≤ 281474976710656) : callPure (EV Tryz.prog pol) 269 [.t (.str s)] = some (match Lib.atoiAll s with
    | .ok v => .tup [.t (.int .i64 v), .t .nili]
    | .syntax => .tup [.t (.int .i64 0), .t .nni]
    | .range => .tup [.t (.int .i64 (Lib.atoiSat s)), .t .nni]) :=
  eq_call (EV_ext (by rw [pol_ext]; unfold extT; simp (config := { decide := true }) only [if_true, if_false, reduceIte, atoiE]; rw [if_pos h]; cases Lib.atoiAll s <;> rfl))
theorem c_cut (s sep : Str) (h : s.length < 4294967281) : callPure (EV Tryz.prog pol) 83 [.t (.str s), .t (.str sep)] = some (.tup [.t (.str (Lib.cut s sep).1), .t (.str (Lib.cut s sep).2.1), .t (.bool (Lib.cut s sep).2.2)]) :=
  eq_call (EV_ext (by rw [pol_ext]; unfold extT; simp (config := { decide := true }) only [if_true, if_false, reduceIte, cutE]; rw [if_pos h]))
theorem c_split (s sep : Str) (h : s.length < 4294967281) (h1 : 1 ≤ sep.length) : callPure (EV Tryz.prog pol) 181 [.t (.str s), .t (.str sep)] = some (.t (.list 1 (strs (splitS s sep)))) :=
  eq_call (EV_ext (by rw [pol_ext]; unfold extT; simp (config := { decide := true }) only [if_true, if_false, reduceIte, splitE]; rw [if_pos ⟨h, h1⟩]))
theorem c_cloneS (es : List (List T)) (h : es.length ≤ 4194304) : EV Tryz.prog pol (.callO false 136 [.t (.list 1 es)] []) = some (.call (.sl 0 0 es.length none) [.ts 1 es]) :=
  EV_extO (x := (.sl 0 0 es.length none, [.ts 1 es])) (by rw [pol_extO]; unfold extOT; simp (config := { decide := true }) only [if_true, if_false, reduceIte, cloneE]; rw [if_pos ⟨trivial, h⟩])
theorem c_cloneM (es : List (List T)) (h : es.length ≤ 4194304) : EV Tryz.prog pol (.callO false 230 [.t (.list 2 es)] []) = some (.call (.sl 0 0 es.length none) [.ts 2 es]) :=
  EV_extO (x := (.sl 0 0 es.length none, [.ts 2 es])) (by rw [pol_extO]; unfold extOT; simp (config := { decide := true }) only [if_true, if_false, reduceIte, cloneE]; rw [if_pos ⟨trivial, h⟩])
theorem asArg_sl (r off len : Nat) (cap : Option Nat) : asArg (.sl r off len cap) = none := rfl
theorem asArg_ptr (r i j : Nat) : asArg (.ptr r i j) = none := rfl
end Go.Proofs.YtkpmachalipmpaaGreatDoor
/- The start's memory: what the rows' lists give, and a world that meets them. Conditions: none. -/
namespace Go.Proofs.YtkpmachalipmpaaGreatDoor
open Go.ChangeShapes Go.WideShapes Go.ChangeAt Go.RowKit E
set_option maxRecDepth 100000
set_option linter.unusedVariables false
set_option linter.unusedSimpArgs false
theorem star : "*" ++ "errors.errorString" = "*errors.errorString" := by decide
theorem rowE (u : TypeId) (h : Tryz.prog.typeName? 3 u = some "*errors.errorString") : u = 356 :=
  typeName_ptr_named (nm := "errors.errorString") (by rw [star]; kernel_rfl) (by kernel_rfl) (by decide) u (by rw [star]; exact h)
abbrev synS : ByteArray := { data := #[105, 110, 118, 97, 108, 105, 100, 32, 115, 121, 110, 116, 97, 120] }
abbrev rngS : ByteArray := { data := #[118, 97, 108, 117, 101, 32, 111, 117, 116, 32, 111, 102, 32, 114, 97, 110, 103, 101] }
def accL : List Int := [128, 191, 160, 191, 128, 159, 144, 191, 128, 143, 0, 0, 0, 0, 0, 0, 0, 0, 0, 0, 0, 0, 0, 0, 0, 0, 0, 0, 0, 0, 0, 0]
def tab32 : List Int := [0, 1, 28, 2, 29, 14, 24, 3, 30, 22, 20, 15, 25, 17, 4, 8, 31, 27, 13, 23, 21, 19, 16, 7, 26, 12, 18, 6, 11, 5, 10, 9]
def tab64 : List Int := [0, 1, 56, 2, 57, 49, 28, 3, 61, 58, 42, 50, 38, 29, 17, 4, 62, 47, 59, 36, 45, 43, 51, 22, 53, 39, 33, 30, 24, 18, 12, 5, 63, 55, 48, 27, 60, 41, 37, 16, 46, 35, 44, 21, 52, 32, 23, 11, 54, 26, 40, 15, 34, 20, 31, 10, 25, 14, 19, 9, 13, 8, 7, 6]
def putCells (cs : List Value) : Obj → Obj
  | .cells _ t frozen => .cells cs.toArray t frozen
  | o => o
noncomputable def low : Nat := (World.holding Tryz.prog default ⟨#[], #[], []⟩).heap.size
/-- a world for the witness: the settled one, the variables holding what their initialisers lay -/
noncomputable def laidWorld (os : Os) : World :=
  let w0 := World.holding Tryz.prog os ⟨#[.cells #[.string synS] 358, .cells #[.string rngS] 358], #[], []⟩
  { w0 with heap := ((((((w0.heap.modify 1 (putCells [.iface 356 (.pointer (some ⟨low, 0, none⟩))])).modify 2 (putCells [.iface 356 (.pointer (some ⟨low + 1, 0, none⟩))])).modify 3 (putCells (Go.Pinned.utf8FirstZ.map fun n : Nat => .int .u8 (n : Int)))).modify 4 (putCells (accL.map (.int .u8)))).modify 5 (putCells (Lib.pow10Tab.map (.int .u64)))).modify 6 (putCells (tab32.map (.int .u8)))).modify 7 (putCells (tab64.map (.int .u8))) }
/-- what the lists give -/
theorem laid_parts {W : World} (hS : W.ShapedOpen Tryz.prog) (h1 : ∃ r, laidMet Tryz.prog (("internal/strconv.uint64pow10", Rows.laid_internal_strconv_uint64pow10) :: r) W)
    (h2 : ∃ r, laidMet Tryz.prog (("strconv.ErrRange", Rows.laid_strconv_ErrRange) :: r) W) (h3 : ∃ r, laidMet Tryz.prog (("strconv.ErrSyntax", Rows.laid_strconv_ErrSyntax) :: r) W) : LaidOK W := by
  obtain ⟨r1, h1⟩ := h1
  obtain ⟨r2, h2⟩ := h2
  obtain ⟨r3, h3⟩ := h3
  refine ⟨Lib.tabIs_of_head (k := .u64) (zs := Lib.pow10Tab) (rest := r1) (show Tryz.prog.globalNamed "internal/strconv.uint64pow10" = some 5 by kernel_rfl) (show (Tryz.prog.globals[5]?).map (·.type) = some 352 by kernel_rfl)
    Tryz.underlying352 Tryz.underlying278 (by kernel_rfl) (by kernel_rfl) h1, ⟨?_, ?_⟩, ?_, trivial⟩
  · obtain ⟨a, s, q1, _⟩ := laid_sentinel (nm := "*errors.errorString") h3 (show Tryz.prog.globalNamed "strconv.ErrSyntax" = some 1 by kernel_rfl) (show (Tryz.prog.globals[1]?).map (·.type) = some 249 by kernel_rfl) Tryz.underlying249 rowE
      Tryz.underlying356 Tryz.underlying358 rfl rfl Tryz.underlying9 (by kernel_rfl) (by kernel_rfl)
    exact ⟨_, _, q1⟩
  · obtain ⟨a, s, q1, _⟩ := laid_sentinel (nm := "*errors.errorString") h2 (show Tryz.prog.globalNamed "strconv.ErrRange" = some 2 by kernel_rfl) (show (Tryz.prog.globals[2]?).map (·.type) = some 249 by kernel_rfl) Tryz.underlying249 rowE
      Tryz.underlying356 Tryz.underlying358 rfl rfl Tryz.underlying9 (by kernel_rfl) (by kernel_rfl)
    exact ⟨_, _, q1⟩
  · exact Tryz.laysM145.s1_3 W hS
end Go.Proofs.YtkpmachalipmpaaGreatDoor
/- Small tests on bytes and numbers; keys. Conditions: those of each lemma. -/
namespace Go.Proofs.YtkpmachalipmpaaGreatDoor
open E
set_option linter.unusedSimpArgs false
set_option linter.unusedVariables false
set_option maxRecDepth 100000
theorem c_within (a lo hi : Int) : callPure (EV Tryz.prog pol) 205 [.t (.int .i64 a), .t (.int .i64 lo), .t (.int .i64 hi)] = some (.t (.bool (B2 a lo hi))) := by
  apply eq_call
  refine call_eq rfl Tryz.func205 rfl (by kernel_rfl) ?_
  unfold Tryz.f205
  unfold B2
  repeat' (first | (((first | with_reducible refine cK_any (fun hA => ?_) (fun hA => ?_) | with_reducible refine gW_any (fun hA => ?_) (fun hA => ?_)) <;> (try simp only [bne, Bool.not_eq_true', Bool.not_eq_false'] at hA) <;> (first | (have hP := Int.le_of_eq (eq_of_beq (α := Int) hA); have hQ := Int.le_of_eq (eq_of_beq (α := Int) hA).symm) | have hP := of_decide_eq_true hA | have hP := of_decide_eq_false hA | skip)) <;> (simp (disch := ((try simp only [List.length_cons, List.length_append, List.length_nil, List.length_map]); omega)) only [↓GO, ↓DRW, GA, ren, renB, footX, refs, cellsV, cst, cstAt, nilC, idxAddr, E.load, E.store, binO, isC, bin, ibin, sbin, una, isShift, okCell, packV, lenV, blt, fnV, asArg, snapV, snapS, snapP, snapC, flatV, flatT, openK, layBack, allT, allZ, mkS, srcOf0, unN, idxV, nilEq, give, tupV, mkEnv, extV, pickV, LVS, OVS, LTS, TYS, PMS, pmT, Int.reduceToNat, Nat.reduceGT, ↓reduceIte, Nat.reduceAdd, Nat.reduceMul, Nat.reduceSub, Nat.reduceEqDiff, Nat.reduceLeDiff, Nat.reduceLT, Nat.reduceBEq, Int.reduceBEq, Int.reduceBNe, Int.reduceEq, Int.reduceLT, Int.reduceLE, Int.reduceGT, Int.reduceNeg, reduceCtorEq, wrap_in, bne, *])) | (simp (disch := ((try simp only [List.length_cons, List.length_append, List.length_nil, List.length_map]); omega)) only [↓GO, ↓DRW, GA, ren, renB, footX, refs, cellsV, cst, cstAt, nilC, idxAddr, E.load, E.store, binO, isC, bin, ibin, sbin, una, isShift, okCell, packV, lenV, blt, fnV, asArg, snapV, snapS, snapP, snapC, flatV, flatT, openK, layBack, allT, allZ, mkS, srcOf0, unN, idxV, nilEq, give, tupV, mkEnv, extV, pickV, LVS, OVS, LTS, TYS, PMS, pmT, Int.reduceToNat, Nat.reduceGT, ↓reduceIte, Nat.reduceAdd, Nat.reduceMul, Nat.reduceSub, Nat.reduceEqDiff, Nat.reduceLeDiff, Nat.reduceLT, Nat.reduceBEq, Int.reduceBEq, Int.reduceBNe, Int.reduceEq, Int.reduceLT, Int.reduceLE, Int.reduceGT, Int.reduceNeg, reduceCtorEq, wrap_in, bne, *]))
theorem c_l01In (a lo hi : Int) : callPure (EV Tryz.prog pol) 180 [.t (.int .i64 a), .t (.int .i64 lo), .t (.int .i64 hi)] = some (.t (.bool (B2 a lo hi))) := by
  apply eq_call
  refine call_eq rfl Tryz.func180 rfl (by kernel_rfl) ?_
  unfold Tryz.f180
  unfold B2
  repeat' (first | (((first | with_reducible refine cK_any (fun hA => ?_) (fun hA => ?_) | with_reducible refine gW_any (fun hA => ?_) (fun hA => ?_)) <;> (try simp only [bne, Bool.not_eq_true', Bool.not_eq_false'] at hA) <;> (first | (have hP := Int.le_of_eq (eq_of_beq (α := Int) hA); have hQ := Int.le_of_eq (eq_of_beq (α := Int) hA).symm) | have hP := of_decide_eq_true hA | have hP := of_decide_eq_false hA | skip)) <;> (simp (disch := ((try simp only [List.length_cons, List.length_append, List.length_nil, List.length_map]); omega)) only [↓GO, ↓DRW, GA, ren, renB, footX, refs, cellsV, cst, cstAt, nilC, idxAddr, E.load, E.store, binO, isC, bin, ibin, sbin, una, isShift, okCell, packV, lenV, blt, fnV, asArg, snapV, snapS, snapP, snapC, flatV, flatT, openK, layBack, allT, allZ, mkS, srcOf0, unN, idxV, nilEq, give, tupV, mkEnv, extV, pickV, LVS, OVS, LTS, TYS, PMS, pmT, Int.reduceToNat, Nat.reduceGT, ↓reduceIte, Nat.reduceAdd, Nat.reduceMul, Nat.reduceSub, Nat.reduceEqDiff, Nat.reduceLeDiff, Nat.reduceLT, Nat.reduceBEq, Int.reduceBEq, Int.reduceBNe, Int.reduceEq, Int.reduceLT, Int.reduceLE, Int.reduceGT, Int.reduceNeg, reduceCtorEq, wrap_in, bne, ge_iff_le, *])) | (simp (disch := ((try simp only [List.length_cons, List.length_append, List.length_nil, List.length_map]); omega)) only [↓GO, ↓DRW, GA, ren, renB, footX, refs, cellsV, cst, cstAt, nilC, idxAddr, E.load, E.store, binO, isC, bin, ibin, sbin, una, isShift, okCell, packV, lenV, blt, fnV, asArg, snapV, snapS, snapP, snapC, flatV, flatT, openK, layBack, allT, allZ, mkS, srcOf0, unN, idxV, nilEq, give, tupV, mkEnv, extV, pickV, LVS, OVS, LTS, TYS, PMS, pmT, Int.reduceToNat, Nat.reduceGT, ↓reduceIte, Nat.reduceAdd, Nat.reduceMul, Nat.reduceSub, Nat.reduceEqDiff, Nat.reduceLeDiff, Nat.reduceLT, Nat.reduceBEq, Int.reduceBEq, Int.reduceBNe, Int.reduceEq, Int.reduceLT, Int.reduceLE, Int.reduceGT, Int.reduceNeg, reduceCtorEq, wrap_in, bne, ge_iff_le, *]))
theorem c_isLower (a : Int) : callPure (EV Tryz.prog pol) 187 [.t (.int .u8 a)] = some (.t (.bool (B2 a 97 122))) := by
  apply eq_call
  refine call_eq rfl Tryz.func187 rfl (by kernel_rfl) ?_
  unfold Tryz.f187
  unfold B2
  repeat' (first | (((first | with_reducible refine cK_any (fun hA => ?_) (fun hA => ?_) | with_reducible refine gW_any (fun hA => ?_) (fun hA => ?_)) <;> (try simp only [bne, Bool.not_eq_true', Bool.not_eq_false'] at hA) <;> (first | (have hP := Int.le_of_eq (eq_of_beq (α := Int) hA); have hQ := Int.le_of_eq (eq_of_beq (α := Int) hA).symm) | have hP := of_decide_eq_true hA | have hP := of_decide_eq_false hA | skip)) <;> (simp (disch := ((try simp only [List.length_cons, List.length_append, List.length_nil, List.length_map]); omega)) only [↓GO, ↓DRW, GA, ren, renB, footX, refs, cellsV, cst, cstAt, nilC, idxAddr, E.load, E.store, binO, isC, bin, ibin, sbin, una, isShift, okCell, packV, lenV, blt, fnV, asArg, snapV, snapS, snapP, snapC, flatV, flatT, openK, layBack, allT, allZ, mkS, srcOf0, unN, idxV, nilEq, give, tupV, mkEnv, extV, pickV, LVS, OVS, LTS, TYS, PMS, pmT, Int.reduceToNat, Nat.reduceGT, ↓reduceIte, Nat.reduceAdd, Nat.reduceMul, Nat.reduceSub, Nat.reduceEqDiff, Nat.reduceLeDiff, Nat.reduceLT, Nat.reduceBEq, Int.reduceBEq, Int.reduceBNe, Int.reduceEq, Int.reduceLT, Int.reduceLE, Int.reduceGT, Int.reduceNeg, reduceCtorEq, wrap_in, bne, ge_iff_le, *])) | (simp (disch := ((try simp only [List.length_cons, List.length_append, List.length_nil, List.length_map]); omega)) only [↓GO, ↓DRW, GA, ren, renB, footX, refs, cellsV, cst, cstAt, nilC, idxAddr, E.load, E.store, binO, isC, bin, ibin, sbin, una, isShift, okCell, packV, lenV, blt, fnV, asArg, snapV, snapS, snapP, snapC, flatV, flatT, openK, layBack, allT, allZ, mkS, srcOf0, unN, idxV, nilEq, give, tupV, mkEnv, extV, pickV, LVS, OVS, LTS, TYS, PMS, pmT, Int.reduceToNat, Nat.reduceGT, ↓reduceIte, Nat.reduceAdd, Nat.reduceMul, Nat.reduceSub, Nat.reduceEqDiff, Nat.reduceLeDiff, Nat.reduceLT, Nat.reduceBEq, Int.reduceBEq, Int.reduceBNe, Int.reduceEq, Int.reduceLT, Int.reduceLE, Int.reduceGT, Int.reduceNeg, reduceCtorEq, wrap_in, bne, ge_iff_le, *]))
theorem c_isDigit (a : Int) : callPure (EV Tryz.prog pol) 188 [.t (.int .u8 a)] = some (.t (.bool (B2 a 48 57))) := by
  apply eq_call
  refine call_eq rfl Tryz.func188 rfl (by kernel_rfl) ?_
  unfold Tryz.f188
  unfold B2
  repeat' (first | (((first | with_reducible refine cK_any (fun hA => ?_) (fun hA => ?_) | with_reducible refine gW_any (fun hA => ?_) (fun hA => ?_)) <;> (try simp only [bne, Bool.not_eq_true', Bool.not_eq_false'] at hA) <;> (first | (have hP := Int.le_of_eq (eq_of_beq (α := Int) hA); have hQ := Int.le_of_eq (eq_of_beq (α := Int) hA).symm) | have hP := of_decide_eq_true hA | have hP := of_decide_eq_false hA | skip)) <;> (simp (disch := ((try simp only [List.length_cons, List.length_append, List.length_nil, List.length_map]); omega)) only [↓GO, ↓DRW, GA, ren, renB, footX, refs, cellsV, cst, cstAt, nilC, idxAddr, E.load, E.store, binO, isC, bin, ibin, sbin, una, isShift, okCell, packV, lenV, blt, fnV, asArg, snapV, snapS, snapP, snapC, flatV, flatT, openK, layBack, allT, allZ, mkS, srcOf0, unN, idxV, nilEq, give, tupV, mkEnv, extV, pickV, LVS, OVS, LTS, TYS, PMS, pmT, Int.reduceToNat, Nat.reduceGT, ↓reduceIte, Nat.reduceAdd, Nat.reduceMul, Nat.reduceSub, Nat.reduceEqDiff, Nat.reduceLeDiff, Nat.reduceLT, Nat.reduceBEq, Int.reduceBEq, Int.reduceBNe, Int.reduceEq, Int.reduceLT, Int.reduceLE, Int.reduceGT, Int.reduceNeg, reduceCtorEq, wrap_in, bne, ge_iff_le, *])) | (simp (disch := ((try simp only [List.length_cons, List.length_append, List.length_nil, List.length_map]); omega)) only [↓GO, ↓DRW, GA, ren, renB, footX, refs, cellsV, cst, cstAt, nilC, idxAddr, E.load, E.store, binO, isC, bin, ibin, sbin, una, isShift, okCell, packV, lenV, blt, fnV, asArg, snapV, snapS, snapP, snapC, flatV, flatT, openK, layBack, allT, allZ, mkS, srcOf0, unN, idxV, nilEq, give, tupV, mkEnv, extV, pickV, LVS, OVS, LTS, TYS, PMS, pmT, Int.reduceToNat, Nat.reduceGT, ↓reduceIte, Nat.reduceAdd, Nat.reduceMul, Nat.reduceSub, Nat.reduceEqDiff, Nat.reduceLeDiff, Nat.reduceLT, Nat.reduceBEq, Int.reduceBEq, Int.reduceBNe, Int.reduceEq, Int.reduceLT, Int.reduceLE, Int.reduceGT, Int.reduceNeg, reduceCtorEq, wrap_in, bne, ge_iff_le, *]))
theorem wrap_u8 (b : UInt8) : IntKind.i64.wrap (b.toNat : Int) = (b.toNat : Int) := by have := u8_lt b; exact wrap_in (by omega)
theorem c_l01Letter (b : UInt8) : callPure (EV Tryz.prog pol) 179 [.t (.int .u8 (b.toNat : Int))] = some (.t (.bool (B2 (nb b) 97 122 || B2 (nb b) 48 57))) := by
  apply eq_call
  refine call_eq rfl Tryz.func179 rfl (by kernel_rfl) ?_
  unfold Tryz.f179
  have h1 := c_l01In (b.toNat : Int) 97 122
  have h2 := c_l01In (b.toNat : Int) 48 57
  repeat' (first | (((first | with_reducible refine cK_any (fun hA => ?_) (fun hA => ?_) | with_reducible refine gW_any (fun hA => ?_) (fun hA => ?_)) <;> (try simp only [bne, Bool.not_eq_true', Bool.not_eq_false'] at hA) <;> (first | (have hP := Int.le_of_eq (eq_of_beq (α := Int) hA); have hQ := Int.le_of_eq (eq_of_beq (α := Int) hA).symm) | have hP := of_decide_eq_true hA | have hP := of_decide_eq_false hA | skip)) <;> (simp (disch := ((try simp only [List.length_cons, List.length_append, List.length_nil, List.length_map]); omega)) only [↓GO, ↓DRW, GA, ren, renB, footX, refs, cellsV, cst, cstAt, nilC, idxAddr, E.load, E.store, binO, isC, bin, ibin, sbin, una, isShift, okCell, packV, lenV, blt, fnV, asArg, snapV, snapS, snapP, snapC, flatV, flatT, openK, layBack, allT, allZ, mkS, srcOf0, unN, idxV, nilEq, give, tupV, mkEnv, extV, pickV, LVS, OVS, LTS, TYS, PMS, pmT, Int.reduceToNat, Nat.reduceGT, ↓reduceIte, Nat.reduceAdd, Nat.reduceMul, Nat.reduceSub, Nat.reduceEqDiff, Nat.reduceLeDiff, Nat.reduceLT, Nat.reduceBEq, Int.reduceBEq, Int.reduceBNe, Int.reduceEq, Int.reduceLT, Int.reduceLE, Int.reduceGT, Int.reduceNeg, reduceCtorEq, wrap_in, bne, conv, wrap_u8, *])) | (simp (disch := ((try simp only [List.length_cons, List.length_append, List.length_nil, List.length_map]); omega)) only [↓GO, ↓DRW, GA, ren, renB, footX, refs, cellsV, cst, cstAt, nilC, idxAddr, E.load, E.store, binO, isC, bin, ibin, sbin, una, isShift, okCell, packV, lenV, blt, fnV, asArg, snapV, snapS, snapP, snapC, flatV, flatT, openK, layBack, allT, allZ, mkS, srcOf0, unN, idxV, nilEq, give, tupV, mkEnv, extV, pickV, LVS, OVS, LTS, TYS, PMS, pmT, Int.reduceToNat, Nat.reduceGT, ↓reduceIte, Nat.reduceAdd, Nat.reduceMul, Nat.reduceSub, Nat.reduceEqDiff, Nat.reduceLeDiff, Nat.reduceLT, Nat.reduceBEq, Int.reduceBEq, Int.reduceBNe, Int.reduceEq, Int.reduceLT, Int.reduceLE, Int.reduceGT, Int.reduceNeg, reduceCtorEq, wrap_in, bne, conv, wrap_u8, *]))
def keyB (b : UInt8) : Bool := B2 (nb b) 97 122 || B2 (nb b) 48 57 || nb b == 95 || nb b == 45
def keyOk (s : Str) : Bool := B2 (s.length : Int) 1 30 && s.all keyB
theorem c_isKey1 (b : UInt8) : callPure (EV Tryz.prog pol) 332 [.t (.int .u8 (b.toNat : Int))] = some (.t (.bool (keyB b))) := by
  apply eq_call
  refine call_eq rfl Tryz.func332 rfl (by kernel_rfl) ?_
  unfold Tryz.f332
  have h1 := c_isLower (b.toNat : Int)
  have h2 := c_isDigit (b.toNat : Int)
  simp only [keyB, nb]
  generalize hx : B2 (b.toNat : Int) 97 122 = x1 at *
  generalize hy : B2 (b.toNat : Int) 48 57 = x2 at *
  repeat' (first | (((first | with_reducible refine cK_any (fun hA => ?_) (fun hA => ?_) | with_reducible refine gW_any (fun hA => ?_) (fun hA => ?_)) <;> (try simp only [bne, Bool.not_eq_true', Bool.not_eq_false'] at hA) <;> (first | (have hP := Int.le_of_eq (eq_of_beq (α := Int) hA); have hQ := Int.le_of_eq (eq_of_beq (α := Int) hA).symm) | have hP := of_decide_eq_true hA | have hP := of_decide_eq_false hA | skip)) <;> (simp (disch := ((try simp only [List.length_cons, List.length_append, List.length_nil, List.length_map]); omega)) only [↓GO, ↓DRW, GA, ren, renB, footX, refs, cellsV, cst, cstAt, nilC, idxAddr, E.load, E.store, binO, isC, bin, ibin, sbin, una, isShift, okCell, packV, lenV, blt, fnV, asArg, snapV, snapS, snapP, snapC, flatV, flatT, openK, layBack, allT, allZ, mkS, srcOf0, unN, idxV, nilEq, give, tupV, mkEnv, extV, pickV, LVS, OVS, LTS, TYS, PMS, pmT, Int.reduceToNat, Nat.reduceGT, ↓reduceIte, Nat.reduceAdd, Nat.reduceMul, Nat.reduceSub, Nat.reduceEqDiff, Nat.reduceLeDiff, Nat.reduceLT, Nat.reduceBEq, Int.reduceBEq, Int.reduceBNe, Int.reduceEq, Int.reduceLT, Int.reduceLE, Int.reduceGT, Int.reduceNeg, reduceCtorEq, wrap_in, bne, *])) | (simp (disch := ((try simp only [List.length_cons, List.length_append, List.length_nil, List.length_map]); omega)) only [↓GO, ↓DRW, GA, ren, renB, footX, refs, cellsV, cst, cstAt, nilC, idxAddr, E.load, E.store, binO, isC, bin, ibin, sbin, una, isShift, okCell, packV, lenV, blt, fnV, asArg, snapV, snapS, snapP, snapC, flatV, flatT, openK, layBack, allT, allZ, mkS, srcOf0, unN, idxV, nilEq, give, tupV, mkEnv, extV, pickV, LVS, OVS, LTS, TYS, PMS, pmT, Int.reduceToNat, Nat.reduceGT, ↓reduceIte, Nat.reduceAdd, Nat.reduceMul, Nat.reduceSub, Nat.reduceEqDiff, Nat.reduceLeDiff, Nat.reduceLT, Nat.reduceBEq, Int.reduceBEq, Int.reduceBNe, Int.reduceEq, Int.reduceLT, Int.reduceLE, Int.reduceGT, Int.reduceNeg, reduceCtorEq, wrap_in, bne, *]))
theorem l_all (f : Nat) (p : UInt8 → Bool) (hp : ∀ b : UInt8, callPure (EV Tryz.prog pol) f [.t (.int .u8 (b.toNat : Int))] = some (.t (.bool (p b)))) (s : Str) (hl : s.length ≤ 9223372036854775807) : ∀ (rest pre : Str), s = pre ++ rest →
    EV Tryz.prog pol (.loop 185 26 0 [.t (.str s), .t (.fn f []), .t (.int .i64 (s.length : Int)), .t (.int .i64 (pre.length : Int))] []) = some (cond (rest.all p) (.loop (.exit 0) [.bad] []) (.loop .ret [.t (.bool false)] []))
  | [], pre, hs => by
    have c : decide ((pre.length : Int) < (s.length : Int)) = false := by simp [hs]
    refine loop_eq Tryz.func185 rfl rfl ?_
    simp only [↓GO, ↓DRW, GA, ren, renB, footX, refs, cellsV, cst, cstAt, nilC, idxAddr, E.load, E.store, binO, isC, bin, ibin, sbin, una, isShift, okCell, packV, lenV, blt, fnV, asArg, snapV, snapS, snapP, snapC, flatV, flatT, openK, layBack, allT, allZ, mkS, srcOf0, unN, idxV, nilEq, give, tupV, mkEnv, extV, pickV, LVS, OVS, LTS, TYS, PMS, pmT, Int.reduceToNat, Nat.reduceGT, ↓reduceIte, Nat.reduceAdd, Nat.reduceMul, Nat.reduceSub, Nat.reduceEqDiff, Nat.reduceLeDiff, Nat.reduceLT, Nat.reduceBEq, Int.reduceBEq, Int.reduceBNe, Int.reduceEq, Int.reduceLT, Int.reduceLE, Int.reduceGT, Int.reduceNeg, reduceCtorEq, c]
  | b :: rest, pre, hs => by
    have c : decide ((pre.length : Int) < (s.length : Int)) = true := by simp [hs]; omega
    have hget : s[pre.length]? = some b := by rw [hs]; exact at_zip pre b rest
    have hlen : s.length = pre.length + rest.length + 1 := by rw [hs]; simp; omega
    have e1 : (pre.length : Int) + 1 = ((pre ++ [b]).length : Int) := by simp
    have IH := l_all f p hp s hl rest (pre ++ [b]) (by rw [hs]; simp)
    have hb := hp b
    refine loop_eq Tryz.func185 rfl rfl ?_
    cases hpb : p b with
    | true =>
      rw [hpb] at hb
      simp (disch := omega) only [↓GO, ↓DRW, GA, ren, renB, footX, refs, cellsV, cst, cstAt, nilC, idxAddr, E.load, E.store, binO, isC, bin, ibin, sbin, una, isShift, okCell, packV, lenV, blt, fnV, asArg, snapV, snapS, snapP, snapC, flatV, flatT, openK, layBack, allT, allZ, mkS, srcOf0, unN, idxV, nilEq, give, tupV, mkEnv, extV, pickV, LVS, OVS, LTS, TYS, PMS, pmT, Int.reduceToNat, Nat.reduceGT, ↓reduceIte, Nat.reduceAdd, Nat.reduceMul, Nat.reduceSub, Nat.reduceEqDiff, Nat.reduceLeDiff, Nat.reduceLT, Nat.reduceBEq, Int.reduceBEq, Int.reduceBNe, Int.reduceEq, Int.reduceLT, Int.reduceLE, Int.reduceGT, Int.reduceNeg, reduceCtorEq, c, hget, wrap_in, hb]
      rw [e1, IH, hpb, Bool.true_and]
    | false =>
      rw [hpb] at hb
      simp (disch := omega) only [↓GO, ↓DRW, GA, ren, renB, footX, refs, cellsV, cst, cstAt, nilC, idxAddr, E.load, E.store, binO, isC, bin, ibin, sbin, una, isShift, okCell, packV, lenV, blt, fnV, asArg, snapV, snapS, snapP, snapC, flatV, flatT, openK, layBack, allT, allZ, mkS, srcOf0, unN, idxV, nilEq, give, tupV, mkEnv, extV, pickV, LVS, OVS, LTS, TYS, PMS, pmT, Int.reduceToNat, Nat.reduceGT, ↓reduceIte, Nat.reduceAdd, Nat.reduceMul, Nat.reduceSub, Nat.reduceEqDiff, Nat.reduceLeDiff, Nat.reduceLT, Nat.reduceBEq, Int.reduceBEq, Int.reduceBNe, Int.reduceEq, Int.reduceLT, Int.reduceLE, Int.reduceGT, Int.reduceNeg, reduceCtorEq, c, hget, wrap_in, hb]
      rw [hpb]; rfl
theorem c_all (f : Nat) (p : UInt8 → Bool) (hp : ∀ b : UInt8, callPure (EV Tryz.prog pol) f [.t (.int .u8 (b.toNat : Int))] = some (.t (.bool (p b)))) (s : Str) (hl : s.length ≤ 9223372036854775807) :
    callPure (EV Tryz.prog pol) 185 [.t (.str s), .t (.fn f [])] = some (.t (.bool (s.all p))) := by
  have IH := l_all f p hp s hl s [] rfl
  simp only [List.length_nil, Int.natCast_zero] at IH
  apply eq_call
  refine call_eq rfl Tryz.func185 rfl (by kernel_rfl) ?_
  unfold Tryz.f185
  cases hb : s.all p with
  | true => rw [hb] at IH; simp only [cond_true] at IH; simp only [↓GO, ↓DRW, GA, ren, renB, footX, refs, cellsV, cst, cstAt, nilC, idxAddr, E.load, E.store, binO, isC, bin, ibin, sbin, una, isShift, okCell, packV, lenV, blt, fnV, asArg, snapV, snapS, snapP, snapC, flatV, flatT, openK, layBack, allT, allZ, mkS, srcOf0, unN, idxV, nilEq, give, tupV, mkEnv, extV, pickV, LVS, OVS, LTS, TYS, PMS, pmT, Int.reduceToNat, Nat.reduceGT, ↓reduceIte, Nat.reduceAdd, Nat.reduceMul, Nat.reduceSub, Nat.reduceEqDiff, Nat.reduceLeDiff, Nat.reduceLT, Nat.reduceBEq, Int.reduceBEq, Int.reduceBNe, Int.reduceEq, Int.reduceLT, Int.reduceLE, Int.reduceGT, Int.reduceNeg, reduceCtorEq, IH]
  | false => rw [hb] at IH; simp only [cond_false] at IH; simp only [↓GO, ↓DRW, GA, ren, renB, footX, refs, cellsV, cst, cstAt, nilC, idxAddr, E.load, E.store, binO, isC, bin, ibin, sbin, una, isShift, okCell, packV, lenV, blt, fnV, asArg, snapV, snapS, snapP, snapC, flatV, flatT, openK, layBack, allT, allZ, mkS, srcOf0, unN, idxV, nilEq, give, tupV, mkEnv, extV, pickV, LVS, OVS, LTS, TYS, PMS, pmT, Int.reduceToNat, Nat.reduceGT, ↓reduceIte, Nat.reduceAdd, Nat.reduceMul, Nat.reduceSub, Nat.reduceEqDiff, Nat.reduceLeDiff, Nat.reduceLT, Nat.reduceBEq, Int.reduceBEq, Int.reduceBNe, Int.reduceEq, Int.reduceLT, Int.reduceLE, Int.reduceGT, Int.reduceNeg, reduceCtorEq, IH]
theorem c_isKey (s : Str) (hl : s.length ≤ 9223372036854775807) : callPure (EV Tryz.prog pol) 283 [.t (.str s)] = some (.t (.bool (keyOk s))) := by
  apply eq_call
  refine call_eq rfl Tryz.func283 rfl (by kernel_rfl) ?_
  unfold Tryz.f283
  have h1 := c_within (s.length : Int) 1 30
  have h2 := c_all 332 keyB c_isKey1 s hl
  simp only [keyOk]
  generalize hx : B2 (s.length : Int) 1 30 = x1 at *
  repeat' (first | (((first | with_reducible refine cK_any (fun hA => ?_) (fun hA => ?_) | with_reducible refine gW_any (fun hA => ?_) (fun hA => ?_)) <;> (try simp only [bne, Bool.not_eq_true', Bool.not_eq_false'] at hA) <;> (first | (have hP := Int.le_of_eq (eq_of_beq (α := Int) hA); have hQ := Int.le_of_eq (eq_of_beq (α := Int) hA).symm) | have hP := of_decide_eq_true hA | have hP := of_decide_eq_false hA | skip)) <;> (simp (disch := ((try simp only [List.length_cons, List.length_append, List.length_nil, List.length_map]); omega)) only [↓GO, ↓DRW, GA, ren, renB, footX, refs, cellsV, cst, cstAt, nilC, idxAddr, E.load, E.store, binO, isC, bin, ibin, sbin, una, isShift, okCell, packV, lenV, blt, fnV, asArg, snapV, snapS, snapP, snapC, flatV, flatT, openK, layBack, allT, allZ, mkS, srcOf0, unN, idxV, nilEq, give, tupV, mkEnv, extV, pickV, LVS, OVS, LTS, TYS, PMS, pmT, Int.reduceToNat, Nat.reduceGT, ↓reduceIte, Nat.reduceAdd, Nat.reduceMul, Nat.reduceSub, Nat.reduceEqDiff, Nat.reduceLeDiff, Nat.reduceLT, Nat.reduceBEq, Int.reduceBEq, Int.reduceBNe, Int.reduceEq, Int.reduceLT, Int.reduceLE, Int.reduceGT, Int.reduceNeg, reduceCtorEq, wrap_in, bne, *])) | (simp (disch := ((try simp only [List.length_cons, List.length_append, List.length_nil, List.length_map]); omega)) only [↓GO, ↓DRW, GA, ren, renB, footX, refs, cellsV, cst, cstAt, nilC, idxAddr, E.load, E.store, binO, isC, bin, ibin, sbin, una, isShift, okCell, packV, lenV, blt, fnV, asArg, snapV, snapS, snapP, snapC, flatV, flatT, openK, layBack, allT, allZ, mkS, srcOf0, unN, idxV, nilEq, give, tupV, mkEnv, extV, pickV, LVS, OVS, LTS, TYS, PMS, pmT, Int.reduceToNat, Nat.reduceGT, ↓reduceIte, Nat.reduceAdd, Nat.reduceMul, Nat.reduceSub, Nat.reduceEqDiff, Nat.reduceLeDiff, Nat.reduceLT, Nat.reduceBEq, Int.reduceBEq, Int.reduceBNe, Int.reduceEq, Int.reduceLT, Int.reduceLE, Int.reduceGT, Int.reduceNeg, reduceCtorEq, wrap_in, bne, *]))
theorem l_l07Key (s : Str) (hl : s.length ≤ 9223372036854775807) : ∀ (rest pre : Str), s = pre ++ rest →
    EV Tryz.prog pol (.loop 329 26 0 [.t (.str s), .t (.int .i64 (pre.length : Int))] []) = some (cond (rest.all keyB) (.loop (.exit 0) [.t (.str s), .bad] []) (.loop .ret [.t (.str s), .t (.bool false)] []))
  | [], pre, hs => by
    have c : decide ((pre.length : Int) < (s.length : Int)) = false := by simp [hs]
    refine loop_eq Tryz.func329 rfl rfl ?_
    simp only [↓GO, ↓DRW, GA, ren, renB, footX, refs, cellsV, cst, cstAt, nilC, idxAddr, E.load, E.store, binO, isC, bin, ibin, sbin, una, isShift, okCell, packV, lenV, blt, fnV, asArg, snapV, snapS, snapP, snapC, flatV, flatT, openK, layBack, allT, allZ, mkS, srcOf0, unN, idxV, nilEq, give, tupV, mkEnv, extV, pickV, LVS, OVS, LTS, TYS, PMS, pmT, Int.reduceToNat, Nat.reduceGT, ↓reduceIte, Nat.reduceAdd, Nat.reduceMul, Nat.reduceSub, Nat.reduceEqDiff, Nat.reduceLeDiff, Nat.reduceLT, Nat.reduceBEq, Int.reduceBEq, Int.reduceBNe, Int.reduceEq, Int.reduceLT, Int.reduceLE, Int.reduceGT, Int.reduceNeg, reduceCtorEq, c]
  | b :: rest, pre, hs => by
    have c : decide ((pre.length : Int) < (s.length : Int)) = true := by simp [hs]; omega
    have hget : s[pre.length]? = some b := by rw [hs]; exact at_zip pre b rest
    have hlen : s.length = pre.length + rest.length + 1 := by rw [hs]; simp; omega
    have e1 : (pre.length : Int) + 1 = ((pre ++ [b]).length : Int) := by simp
    have IH := l_l07Key s hl rest (pre ++ [b]) (by rw [hs]; simp)
    have hb := c_l01Letter b
    refine loop_eq Tryz.func329 rfl rfl ?_
    rw [List.all_cons, keyB]
    simp only [nb] at *
    cases h1 : (B2 (b.toNat : Int) 97 122 || B2 (b.toNat : Int) 48 57) with
    | true =>
      rw [h1] at hb
      simp (disch := omega) only [↓GO, ↓DRW, GA, ren, renB, footX, refs, cellsV, cst, cstAt, nilC, idxAddr, E.load, E.store, binO, isC, bin, ibin, sbin, una, isShift, okCell, packV, lenV, blt, fnV, asArg, snapV, snapS, snapP, snapC, flatV, flatT, openK, layBack, allT, allZ, mkS, srcOf0, unN, idxV, nilEq, give, tupV, mkEnv, extV, pickV, LVS, OVS, LTS, TYS, PMS, pmT, Int.reduceToNat, Nat.reduceGT, ↓reduceIte, Nat.reduceAdd, Nat.reduceMul, Nat.reduceSub, Nat.reduceEqDiff, Nat.reduceLeDiff, Nat.reduceLT, Nat.reduceBEq, Int.reduceBEq, Int.reduceBNe, Int.reduceEq, Int.reduceLT, Int.reduceLE, Int.reduceGT, Int.reduceNeg, reduceCtorEq, c, hget, wrap_in, hb]
      rw [e1, IH]
    | false =>
      rw [h1] at hb
      cases h2 : ((b.toNat : Int) == 95) with
      | true =>
        simp (disch := omega) only [↓GO, ↓DRW, GA, ren, renB, footX, refs, cellsV, cst, cstAt, nilC, idxAddr, E.load, E.store, binO, isC, bin, ibin, sbin, una, isShift, okCell, packV, lenV, blt, fnV, asArg, snapV, snapS, snapP, snapC, flatV, flatT, openK, layBack, allT, allZ, mkS, srcOf0, unN, idxV, nilEq, give, tupV, mkEnv, extV, pickV, LVS, OVS, LTS, TYS, PMS, pmT, Int.reduceToNat, Nat.reduceGT, ↓reduceIte, Nat.reduceAdd, Nat.reduceMul, Nat.reduceSub, Nat.reduceEqDiff, Nat.reduceLeDiff, Nat.reduceLT, Nat.reduceBEq, Int.reduceBEq, Int.reduceBNe, Int.reduceEq, Int.reduceLT, Int.reduceLE, Int.reduceGT, Int.reduceNeg, reduceCtorEq, c, hget, wrap_in, hb, h2, bne]
        rw [e1, IH]
      | false =>
        cases h3 : ((b.toNat : Int) == 45) with
        | true =>
          simp (disch := omega) only [↓GO, ↓DRW, GA, ren, renB, footX, refs, cellsV, cst, cstAt, nilC, idxAddr, E.load, E.store, binO, isC, bin, ibin, sbin, una, isShift, okCell, packV, lenV, blt, fnV, asArg, snapV, snapS, snapP, snapC, flatV, flatT, openK, layBack, allT, allZ, mkS, srcOf0, unN, idxV, nilEq, give, tupV, mkEnv, extV, pickV, LVS, OVS, LTS, TYS, PMS, pmT, Int.reduceToNat, Nat.reduceGT, ↓reduceIte, Nat.reduceAdd, Nat.reduceMul, Nat.reduceSub, Nat.reduceEqDiff, Nat.reduceLeDiff, Nat.reduceLT, Nat.reduceBEq, Int.reduceBEq, Int.reduceBNe, Int.reduceEq, Int.reduceLT, Int.reduceLE, Int.reduceGT, Int.reduceNeg, reduceCtorEq, c, hget, wrap_in, hb, h2, h3, bne]
          rw [e1, IH]
        | false =>
          simp (disch := omega) only [↓GO, ↓DRW, GA, ren, renB, footX, refs, cellsV, cst, cstAt, nilC, idxAddr, E.load, E.store, binO, isC, bin, ibin, sbin, una, isShift, okCell, packV, lenV, blt, fnV, asArg, snapV, snapS, snapP, snapC, flatV, flatT, openK, layBack, allT, allZ, mkS, srcOf0, unN, idxV, nilEq, give, tupV, mkEnv, extV, pickV, LVS, OVS, LTS, TYS, PMS, pmT, Int.reduceToNat, Nat.reduceGT, ↓reduceIte, Nat.reduceAdd, Nat.reduceMul, Nat.reduceSub, Nat.reduceEqDiff, Nat.reduceLeDiff, Nat.reduceLT, Nat.reduceBEq, Int.reduceBEq, Int.reduceBNe, Int.reduceEq, Int.reduceLT, Int.reduceLE, Int.reduceGT, Int.reduceNeg, reduceCtorEq, c, hget, wrap_in, hb, h2, h3, bne, cond_false]
theorem c_l07Key (s : Str) (hl : s.length ≤ 9223372036854775807) : callPure (EV Tryz.prog pol) 329 [.t (.str s)] = some (.t (.bool (keyOk s))) := by
  have IH := l_l07Key s hl s [] rfl
  simp only [List.length_nil, Int.natCast_zero] at IH
  have h1 := c_l01In (s.length : Int) 1 30
  apply eq_call
  refine call_eq rfl Tryz.func329 rfl (by kernel_rfl) ?_
  unfold Tryz.f329
  cases hb : s.all keyB with
  | true => rw [hb] at IH; simp only [cond_true] at IH; simp only [↓GO, ↓DRW, GA, ren, renB, footX, refs, cellsV, cst, cstAt, nilC, idxAddr, E.load, E.store, binO, isC, bin, ibin, sbin, una, isShift, okCell, packV, lenV, blt, fnV, asArg, snapV, snapS, snapP, snapC, flatV, flatT, openK, layBack, allT, allZ, mkS, srcOf0, unN, idxV, nilEq, give, tupV, mkEnv, extV, pickV, LVS, OVS, LTS, TYS, PMS, pmT, Int.reduceToNat, Nat.reduceGT, ↓reduceIte, Nat.reduceAdd, Nat.reduceMul, Nat.reduceSub, Nat.reduceEqDiff, Nat.reduceLeDiff, Nat.reduceLT, Nat.reduceBEq, Int.reduceBEq, Int.reduceBNe, Int.reduceEq, Int.reduceLT, Int.reduceLE, Int.reduceGT, Int.reduceNeg, reduceCtorEq, IH, h1, keyOk, hb]
  | false => rw [hb] at IH; simp only [cond_false] at IH; simp only [↓GO, ↓DRW, GA, ren, renB, footX, refs, cellsV, cst, cstAt, nilC, idxAddr, E.load, E.store, binO, isC, bin, ibin, sbin, una, isShift, okCell, packV, lenV, blt, fnV, asArg, snapV, snapS, snapP, snapC, flatV, flatT, openK, layBack, allT, allZ, mkS, srcOf0, unN, idxV, nilEq, give, tupV, mkEnv, extV, pickV, LVS, OVS, LTS, TYS, PMS, pmT, Int.reduceToNat, Nat.reduceGT, ↓reduceIte, Nat.reduceAdd, Nat.reduceMul, Nat.reduceSub, Nat.reduceEqDiff, Nat.reduceLeDiff, Nat.reduceLT, Nat.reduceBEq, Int.reduceBEq, Int.reduceBNe, Int.reduceEq, Int.reduceLT, Int.reduceLE, Int.reduceGT, Int.reduceNeg, reduceCtorEq, IH, keyOk, hb]
end Go.Proofs.YtkpmachalipmpaaGreatDoor
/- Texts cut at a byte; names; plain texts. Plain. Conditions: none. -/
namespace Go.Proofs.YtkpmachalipmpaaGreatDoor
set_option linter.unusedVariables false
set_option linter.unusedSimpArgs false
theorem index1_hit (b : UInt8) (s : Str) : Lib.index (b :: s) [b] = 0 := by rw [Lib.index]; simp [List.isPrefixOf]
theorem index1_miss (x b : UInt8) (s : Str) (h : x ≠ b) : Lib.index (x :: s) [b] = if Lib.index s [b] == -1 then -1 else Lib.index s [b] + 1 := by
  have hp : ([b] : List UInt8).isPrefixOf (x :: s) = false := by simp [List.isPrefixOf, Ne.symm h]
  rw [Lib.index, hp]; simp
theorem index1_nil (b : UInt8) : Lib.index [] [b] = -1 := by simp [Lib.index]
theorem cutS_ne (b : UInt8) : ∀ s : Str, cutS b s ≠ []
  | [] => by simp [cutS]
  | x :: s => by
    unfold cutS
    split
    · simp
    · split <;> simp
theorem cutS_hit (b : UInt8) (s : Str) : cutS b (b :: s) = [] :: cutS b s := by rw [cutS, if_pos rfl]
theorem cutS_miss (b x : UInt8) (s p : Str) (r : List Str) (h : x ≠ b) (e : cutS b s = p :: r) : cutS b (x :: s) = (x :: p) :: r := by
  rw [cutS, if_neg h, e]
theorem split_cut (b : UInt8) : ∀ s : Str, Lib.split s [b] = cutS b s
  | [] => by
    unfold Lib.split
    rw [Lib.count_miss (by simp [Lib.index])]; rfl
  | x :: s => by
    have ih := split_cut b s
    unfold Lib.split at ih ⊢
    by_cases h : x = b
    · subst h
      rw [Lib.count_cons_eq, Nat.add_comm, Lib.splitK, index1_hit, cutS_hit]
      simpa using ih
    · rw [Lib.count_cons_ne x b s h]
      by_cases hm : Lib.index s [b] = -1
      · rw [Lib.count_miss hm] at ih ⊢
        rw [Lib.splitK] at ih ⊢
        exact (cutS_miss b x s s [] h ih.symm).symm
      · have hge := Lib.index_ge s [b]
        obtain ⟨j, hj⟩ : ∃ j : Nat, Lib.index s [b] = j := ⟨(Lib.index s [b]).toNat, by omega⟩
        rw [Lib.count_hit (by simp) hj, Nat.add_comm] at ih ⊢
        have hb : (((j : Nat) : Int) == -1) = false := by rw [beq_eq_false_iff_ne]; omega
        have hb2 : (((j : Nat) : Int) + 1 == -1) = false := by rw [beq_eq_false_iff_ne]; omega
        rw [Lib.splitK, hj, hb] at ih
        rw [Lib.splitK, index1_miss x b s h, hj, hb]
        simp only [Bool.false_eq_true, if_false, hb2, Int.toNat_natCast, Nat.add_zero, List.length_cons, List.length_nil, Nat.zero_add] at ih ⊢
        rw [show ((j : Int) + 1).toNat = j + 1 by omega]
        rw [List.take_succ_cons, List.drop_succ_cons]
        exact (cutS_miss b x s _ _ h ih.symm).symm
/-- a text cut at the first place of a byte -/
def cut1 (b : UInt8) : Str → Str × Str × Bool
  | [] => ([], [], false)
  | x :: s => if x = b then ([], s, true) else (x :: (cut1 b s).1, (cut1 b s).2.1, (cut1 b s).2.2)
theorem cut_cut1 (b : UInt8) : ∀ s : Str, Lib.cut s [b] = cut1 b s
  | [] => by simp [Lib.cut, cut1, Lib.index]
  | x :: s => by
    have ih := cut_cut1 b s
    by_cases h : x = b
    · subst h
      unfold Lib.cut
      rw [index1_hit, cut1, if_pos rfl]; simp
    · rw [cut1, if_neg h, ← ih]
      unfold Lib.cut
      rw [index1_miss x b s h]
      have hge := Lib.index_ge s [b]
      by_cases hm : Lib.index s [b] = -1
      · rw [hm]; simp
      · obtain ⟨j, hj⟩ : ∃ j : Nat, Lib.index s [b] = j := ⟨(Lib.index s [b]).toNat, by omega⟩
        have hb : (((j : Nat) : Int) == -1) = false := by rw [beq_eq_false_iff_ne]; omega
        rw [hj, hb]
        simp only [Bool.false_eq_true, if_false]
        rw [if_pos (by omega), if_pos (by omega), show ((j : Int) + 1).toNat = j + 1 by omega]
        simp only [List.take_succ_cons, Int.toNat_natCast]
        rw [show j + 1 + [b].length = (j + [b].length) + 1 by simp, List.drop_succ_cons]
theorem cut1_eq (b : UInt8) : ∀ s : Str, s = (cut1 b s).1 ++ cond (cut1 b s).2.2 (b :: (cut1 b s).2.1) []
  | [] => rfl
  | x :: s => by
    rw [cut1]
    split
    · rename_i h; rw [h]; rfl
    · have := cut1_eq b s
      show x :: s = (x :: (cut1 b s).1) ++ _
      rw [List.cons_append, ← this]
theorem cut1_not (b : UInt8) : ∀ s : Str, b ∉ (cut1 b s).1
  | [] => by simp [cut1]
  | x :: s => by
    rw [cut1]
    split
    · simp
    · rename_i h
      have := cut1_not b s
      simp only [List.mem_cons, not_or]
      exact ⟨Ne.symm h, this⟩
theorem cut1_false (b : UInt8) : ∀ s : Str, (cut1 b s).2.2 = false → (cut1 b s).2.1 = []
  | [], _ => rfl
  | x :: s, h => by
    rw [cut1] at h ⊢
    split at h
    · simp at h
    · rename_i hx
      rw [if_neg hx]; exact cut1_false b s h
theorem cut1_app (b : UInt8) (t : Str) : ∀ s : Str, b ∉ s → cut1 b (s ++ b :: t) = (s, t, true)
  | [], _ => by simp [cut1]
  | x :: s, h => by
    simp only [List.mem_cons, not_or] at h
    rw [List.cons_append, cut1, if_neg (Ne.symm h.1), cut1_app b t s h.2]
theorem cut1_no (b : UInt8) : ∀ s : Str, b ∉ s → cut1 b s = (s, [], false)
  | [], _ => by simp [cut1]
  | x :: s, h => by
    simp only [List.mem_cons, not_or] at h
    rw [cut1, if_neg (Ne.symm h.1), cut1_no b s h.2]
theorem cutS_app (b : UInt8) (t : Str) : ∀ s : Str, cutS b (s ++ b :: t) = cutS b s ++ cutS b t
  | [] => by rw [List.nil_append, cutS_hit]; rfl
  | x :: s => by
    have ih := cutS_app b t s
    rw [List.cons_append]
    by_cases h : x = b
    · subst h; rw [cutS_hit, cutS_hit, ih]; rfl
    · cases hc : cutS b s with
      | nil => exact absurd hc (cutS_ne b s)
      | cons p r =>
        rw [hc] at ih
        rw [cutS_miss b x s p r h hc, cutS_miss b x _ p (r ++ cutS b t) h ih]; rfl
theorem cutS_no (b : UInt8) : ∀ s : Str, b ∉ s → cutS b s = [s]
  | [], _ => rfl
  | x :: s, h => by
    simp only [List.mem_cons, not_or] at h
    exact cutS_miss b x s s [] (Ne.symm h.1) (cutS_no b s h.2)
/-! ### Names -/
def nodeM : Str := [110, 111, 100, 101, 95, 109, 111, 100, 117, 108, 101, 115]
def nameB (b : UInt8) : Bool := B2 (nb b) 97 122 || B2 (nb b) 48 57 || nb b == 46 || nb b == 95 || nb b == 45
def partOk (p : Str) : Bool := !(p == []) && p.all nameB
def hasAt (s : Str) : Bool := ([64] : Str).isPrefixOf s
def trimAt (s : Str) : Str := match s with
  | [] => []
  | x :: r => if x = 64 then r else x :: r
/-- as the implementation asks -/
def partsI (sc : Bool) : List Str → Bool
  | [] => true
  | p :: r => (!((p == []) || ((p == nodeM) && !sc) || !(p.all nameB))) && partsI false r
def nameOk (s : Str) : Bool := partsI (hasAt s) (cutS 47 (trimAt s)) && decide ((s.length : Int) ≤ 60)
/-- as the reference asks -/
def restR : List Str → Bool
  | [] => true
  | p :: r => (!(p == nodeM) && (p.all nameB && !(p == []))) && restR r
def partsR : List Str → Bool
  | [] => true
  | p :: r => (!(p == nodeM) && ((trimAt p).all nameB && !(trimAt p == []))) && restR r
theorem rest_same : ∀ r : List Str, restR r = partsI false r
  | [] => rfl
  | p :: r => by
    rw [restR, partsI, rest_same r]
    cases (p == []) <;> cases (p == nodeM) <;> cases (p.all nameB) <;> rfl
theorem name_same (s : Str) : (partsR (cutS 47 s) && decide ((s.length : Int) ≤ 60)) = nameOk s := by
  unfold nameOk
  congr 1
  cases s with
  | nil => rfl
  | cons x t =>
    cases hc : cutS 47 t with
    | nil => exact absurd hc (cutS_ne 47 t)
    | cons p r =>
      by_cases h64 : x = 64
      · subst h64
        rw [cutS_miss 47 64 t p r (by decide) hc]
        have h1 : hasAt (64 :: t) = true := by simp [hasAt, List.isPrefixOf]
        have h2 : trimAt (64 :: t) = t := by simp [trimAt]
        have h3 : trimAt (64 :: p) = p := by simp [trimAt]
        have h4 : (((64 : UInt8) :: p) == nodeM) = false := by simp [nodeM]
        rw [h1, h2, hc, partsR, partsI, h3, h4, rest_same]
        cases (p == []) <;> cases (p == nodeM) <;> cases (p.all nameB) <;> rfl
      · have h1 : hasAt (x :: t) = false := by simp [hasAt, List.isPrefixOf]; exact fun h => h64 h.symm
        have h2 : trimAt (x :: t) = x :: t := by simp [trimAt, h64]
        rw [h1, h2]
        by_cases h47 : x = 47
        · subst h47
          rw [cutS_hit, partsR, partsI, rest_same]
          rfl
        · rw [cutS_miss 47 x t p r h47 hc, partsR, partsI, rest_same]
          have h3 : trimAt (x :: p) = x :: p := by simp [trimAt, h64]
          rw [h3]
          cases ((x :: p) == []) <;> cases ((x :: p) == nodeM) <;> cases ((x :: p).all nameB) <;> rfl
def plainB (b : UInt8) : Bool := B2 (nb b) 33 126 && (!(nb b == 34) && (!(nb b == 39) && (!(nb b == 44) && !(nb b == 92))))
def plainOk (s : Str) : Bool := s.all plainB && decide ((s.length : Int) ≤ 100)
end Go.Proofs.YtkpmachalipmpaaGreatDoor
/- The number of a text, plain: both ways of reading it come to the same. Conditions: none. -/
namespace Go.Proofs.YtkpmachalipmpaaGreatDoor
set_option linter.unusedSimpArgs false
set_option linter.unusedVariables false
def isD (c : UInt8) : Bool := decide (48 ≤ c.toNat) && decide (c.toNat ≤ 57)
/-- what digits spell behind a number -/
def stepD (a : Nat) (c : UInt8) : Nat := a * 10 + (c.toNat - 48)
def valD (acc : Nat) (l : List UInt8) : Nat := l.foldl stepD acc
theorem valD_nil (acc : Nat) : valD acc [] = acc := rfl
theorem valD_cons (acc : Nat) (c : UInt8) (l : List UInt8) : valD acc (c :: l) = valD (stepD acc c) l := by
  unfold valD
  rw [List.foldl_cons]
theorem valD_snoc (c : UInt8) (l : List UInt8) (acc : Nat) : valD acc (l ++ [c]) = stepD (valD acc l) c := by
  unfold valD
  rw [List.foldl_append, List.foldl_cons, List.foldl_nil]
theorem isD_iff (c : UInt8) : isD c = true ↔ 48 ≤ c.toNat ∧ c.toNat ≤ 57 := by simp [isD]
theorem step_lt (acc : Nat) (c : UInt8) (h : isD c = true) : stepD acc c + 1 ≤ (acc + 1) * 10 := by
  have := (isD_iff c).1 h
  unfold stepD
  omega
theorem pow_succ10 (n m : Nat) : m * 10 ^ (n + 1) = m * 10 * 10 ^ n := by rw [Nat.pow_succ, Nat.mul_comm (10 ^ n) 10, Nat.mul_assoc]
theorem valD_lt : ∀ (l : List UInt8) (acc : Nat), l.all isD = true → valD acc l < (acc + 1) * 10 ^ l.length
  | [], acc, _ => by rw [valD_nil]; simp
  | c :: l, acc, h => by
    rw [List.all_cons, Bool.and_eq_true] at h
    have ih := valD_lt l (stepD acc c) h.2
    rw [valD_cons, List.length_cons, pow_succ10]
    exact Nat.lt_of_lt_of_le ih (Nat.mul_le_mul_right _ (step_lt acc c h.1))
theorem digit_nat {d : Nat} (h : d < 10) : (UInt8.ofNat (48 + d)).toNat = 48 + d := by
  simp [UInt8.toNat_ofNat']; omega
theorem decDigits_all (u : Nat) : (Lib.decDigits u).all isD = true ∧ valD 0 (Lib.decDigits u) = u ∧ Lib.decDigits u ≠ [] := by
  induction u using Nat.strongRecOn with
  | _ u ih =>
    rw [Lib.decDigits]
    split
    · rename_i h
      have := digit_nat h
      refine ⟨?_, ?_, by simp⟩
      · rw [List.all_cons, List.all_nil, Bool.and_true, isD_iff, this]; omega
      · rw [valD_cons, valD_nil, stepD, this]; omega
    · rename_i h
      obtain ⟨h1, h2, h3⟩ := ih (u / 10) (by omega)
      have := digit_nat (d := u % 10) (by omega)
      refine ⟨?_, ?_, by simp⟩
      · rw [List.all_append, h1, List.all_cons, List.all_nil, Bool.and_true, Bool.true_and, isD_iff, this]; omega
      · rw [valD_snoc, h2, stepD, this]; omega
theorem parse_digits : ∀ (l : List UInt8) (acc : Nat), l.all isD = true → (acc + 1) * 10 ^ l.length ≤ 1000000000000000000 → Lib.parseUint10 acc l = .ok (valD acc l)
  | [], acc, _, _ => rfl
  | c :: l, acc, h, hb => by
    rw [List.all_cons, Bool.and_eq_true] at h
    have hp : 0 < 10 ^ l.length := Nat.pos_of_ne_zero (by intro h; simp at h)
    rw [List.length_cons, pow_succ10] at hb
    have h10 : (acc + 1) * 10 ≤ 1000000000000000000 := Nat.le_trans (Nat.le_mul_of_pos_right _ hp) hb
    have hc := (isD_iff c).1 h.1
    have ih := parse_digits l (stepD acc c) h.2 (Nat.le_trans (Nat.mul_le_mul_right _ (step_lt acc c h.1)) hb)
    rw [Lib.parseUint10, if_pos hc, if_neg (by omega), if_neg (by omega), valD_cons, ← ih]
    rfl
theorem nDigits_le9 : ∀ (k u : Nat), 1 ≤ k → u < 10 ^ k → Lib.nDigits u ≤ k
  | 0, u, h, _ => by omega
  | k + 1, u, _, h => by
    rw [Lib.nDigits]
    split
    · omega
    · have h10 : u / 10 < 10 ^ k := by rw [Nat.pow_succ] at h; omega
      have hk : 1 ≤ k := by
        rcases Nat.eq_zero_or_pos k with rfl | h
        · simp at h10; omega
        · exact h
      have := nDigits_le9 k (u / 10) hk h10
      omega
theorem decDigits_len9 {u : Nat} (h : u ≤ 999999999) : (Lib.decDigits u).length ≤ 9 := by
  rw [Lib.decDigits_length]
  exact nDigits_le9 9 u (by omega) (by omega)
theorem atoi_digits {u : Nat} (h : u ≤ 999999999) : Lib.atoiAll (Lib.decDigits u) = .ok (u : Int) := by
  obtain ⟨h1, h2, h3⟩ := decDigits_all u
  have hl := decDigits_len9 h
  generalize Lib.decDigits u = l at *
  cases l with
  | nil => exact absurd rfl h3
  | cons c r =>
    have hc : isD c = true := by simp only [List.all_cons, Bool.and_eq_true] at h1; exact h1.1
    simp only [isD, Bool.and_eq_true, decide_eq_true_eq] at hc
    have hp : Lib.parseMag (c :: r) = .ok u := by
      unfold Lib.parseMag
      have : (10 : Nat) ^ (c :: r).length ≤ 10 ^ 9 := Nat.pow_le_pow_right (by omega) hl
      have e9 : (10 : Nat) ^ 9 = 1000000000 := by decide
      rw [if_neg (by simp), parse_digits _ 0 h1 (by omega), h2]
    unfold Lib.atoiAll
    simp only
    rw [if_neg (by omega), hp]
    simp only
    rw [if_neg (by omega), if_neg (by omega), if_neg (by omega)]
/-- the number of a text, or -1 -/
def readDec (s : List UInt8) : Int :=
  match Lib.atoiAll s with
  | .ok v => cond ((decide (0 ≤ v) && decide (v ≤ 999999999)) && (Lib.itoa v == s)) v (-1)
  | _ => -1
/-- the same, by the digits -/
def specDec (s : List UInt8) : Int := cond ((s.all isD && decide (s.length ≤ 9)) && (!(s == []) && (Lib.itoa (valD 0 s : Nat) == s))) (valD 0 s : Nat) (-1)
theorem read_some {u : Nat} (h : u ≤ 999999999) : readDec (Lib.decDigits u) = u ∧ specDec (Lib.decDigits u) = u := by
  obtain ⟨h1, h2, h3⟩ := decDigits_all u
  have hl := decDigits_len9 h
  refine ⟨?_, ?_⟩
  · unfold readDec
    rw [atoi_digits h]
    simp only
    rw [Lib.itoa_nonneg]
    have e1 : decide ((0 : Int) ≤ (u : Int)) = true := by simp
    have e2 : decide ((u : Int) ≤ 999999999) = true := by simp; omega
    rw [e1, e2]; simp
  · unfold specDec
    rw [h1, h2, Lib.itoa_nonneg]
    have e1 : decide ((Lib.decDigits u).length ≤ 9) = true := by simpa using hl
    have e2 : (Lib.decDigits u == []) = false := by simpa using h3
    rw [e1, e2]; simp
theorem read_none {s : List UInt8} (h : ∀ u, u ≤ 999999999 → s ≠ Lib.decDigits u) : readDec s = -1 ∧ specDec s = -1 := by
  refine ⟨?_, ?_⟩
  · unfold readDec
    split
    · rename_i v hv
      cases hc : ((decide (0 ≤ v) && decide (v ≤ 999999999)) && (Lib.itoa v == s)) with
      | false => rfl
      | true =>
        simp only [Bool.and_eq_true, decide_eq_true_eq] at hc
        obtain ⟨⟨c1, c2⟩, c3⟩ := hc
        obtain ⟨u, rfl⟩ : ∃ u : Nat, v = u := ⟨v.toNat, by omega⟩
        rw [Lib.itoa_nonneg] at c3
        exact absurd (eq_of_beq c3).symm (h u (by omega))
    · rfl
  · unfold specDec
    cases hc : ((s.all isD && decide (s.length ≤ 9)) && (!(s == []) && (Lib.itoa (valD 0 s : Nat) == s))) with
    | false => rfl
    | true =>
      simp only [Bool.and_eq_true, decide_eq_true_eq] at hc
      obtain ⟨⟨c1, c2⟩, c3, c4⟩ := hc
      rw [Lib.itoa_nonneg] at c4
      have hv := valD_lt s 0 c1
      have : (10 : Nat) ^ s.length ≤ 10 ^ 9 := Nat.pow_le_pow_right (by omega) c2
      have e9 : (10 : Nat) ^ 9 = 1000000000 := by decide
      exact absurd (eq_of_beq c4).symm (h _ (by omega))
theorem spec_read (s : List UInt8) : specDec s = readDec s := by
  by_cases h : ∃ u, u ≤ 999999999 ∧ s = Lib.decDigits u
  · obtain ⟨u, hu, rfl⟩ := h
    obtain ⟨h1, h2⟩ := read_some hu
    rw [h1, h2]
  · obtain ⟨h1, h2⟩ := read_none (s := s) fun u hu he => h ⟨u, hu, he⟩
    rw [h1, h2]
end Go.Proofs.YtkpmachalipmpaaGreatDoor
