/- Joined: TY X5 S0 W6 A1 A3 G1 S1 W5 M1 M2 M3 M4 M5 M6 M7 M8. Conditions: those of each lemma. -/
import Derived.Test.YtonbkdklidfmfaaGreatDoorjG
import Derived.Test.YtonbkdklidfmfaaGreatDoorProg
import Derived.Test.YtonbkdklidfmfaaGreatDoorjH
import Derived.Test.YtonbkdklidfmfaaGreatDoorjA
import Derived.Test.YtonbkdklidfmfaaGreatDoorCards
import Derived.Test.YtonbkdklidfmfaaGreatDoorTie
import Derived.WalkKit
import Derived.ProofKit
import Derived.OpenShut
import Derived.Deep.DeepHandedRow
import Derived.Lib.LaidTab
import Derived.Stop.LaidErr
import Derived.Test.YtonbkdklidfmfaaGreatDoorRows
import Derived.ReadAgain
set_option linter.unusedVariables false
set_option linter.unusedSimpArgs false
namespace Go.Proofs.YtonbkdklidfmfaaGreatDoor
open E
set_option maxRecDepth 100000
theorem TY_0 : zB Tryz.prog 1 = 1 := by kernel_rfl
theorem TY_1 : zQ Tryz.prog 1 = false := by kernel_rfl
theorem TY_2 : known Tryz.prog 1 = true := by kernel_rfl
theorem TY_3 : Tryz.prog.bytesOf 1 = 8 := by kernel_rfl
theorem TY_4 : zZ Tryz.prog 1 = none := by kernel_rfl
theorem TY_5 : isStr Tryz.prog 1 = false := by kernel_rfl
theorem TY_6 : yx Tryz.prog 1 = false := by kernel_rfl
theorem TY_7 : zI Tryz.prog 1 = false := by kernel_rfl
theorem TY_8 : isIf Tryz.prog 1 = false := by kernel_rfl
theorem TY_9 : zeroOf Tryz.prog 1 = some [.t .nilf] := by kernel_rfl
theorem TY_10 : isInt Tryz.prog 1 = none := by kernel_rfl
theorem TY_11 : zB Tryz.prog 2 = 1 := by kernel_rfl
theorem TY_12 : zQ Tryz.prog 2 = false := by kernel_rfl
theorem TY_13 : known Tryz.prog 2 = true := by kernel_rfl
theorem TY_14 : Tryz.prog.bytesOf 2 = 8 := by kernel_rfl
theorem TY_15 : zZ Tryz.prog 2 = none := by kernel_rfl
theorem TY_16 : isStr Tryz.prog 2 = false := by kernel_rfl
theorem TY_17 : yx Tryz.prog 2 = false := by kernel_rfl
theorem TY_18 : zI Tryz.prog 2 = false := by kernel_rfl
theorem TY_19 : isIf Tryz.prog 2 = false := by kernel_rfl
theorem TY_20 : zeroOf Tryz.prog 2 = some [.t (.int .i64 0)] := by kernel_rfl
theorem TY_21 : isInt Tryz.prog 2 = some .i64 := by kernel_rfl
theorem TY_22 : zB Tryz.prog 3 = 1 := by kernel_rfl
theorem TY_23 : zQ Tryz.prog 3 = false := by kernel_rfl
theorem TY_24 : known Tryz.prog 3 = true := by kernel_rfl
theorem TY_25 : Tryz.prog.bytesOf 3 = 8 := by kernel_rfl
theorem TY_26 : zZ Tryz.prog 3 = none := by kernel_rfl
theorem TY_27 : isStr Tryz.prog 3 = false := by kernel_rfl
theorem TY_28 : yx Tryz.prog 3 = false := by kernel_rfl
theorem TY_29 : zI Tryz.prog 3 = false := by kernel_rfl
theorem TY_30 : isIf Tryz.prog 3 = false := by kernel_rfl
theorem TY_31 : zeroOf Tryz.prog 3 = some [.t (.int .i64 0)] := by kernel_rfl
theorem TY_32 : isInt Tryz.prog 3 = some .i64 := by kernel_rfl
theorem TY_33 : zB Tryz.prog 4 = 1 := by kernel_rfl
theorem TY_34 : zQ Tryz.prog 4 = false := by kernel_rfl
theorem TY_35 : known Tryz.prog 4 = true := by kernel_rfl
theorem TY_36 : Tryz.prog.bytesOf 4 = 1 := by kernel_rfl
theorem TY_37 : zZ Tryz.prog 4 = none := by kernel_rfl
theorem TY_38 : isStr Tryz.prog 4 = false := by kernel_rfl
theorem TY_39 : yx Tryz.prog 4 = false := by kernel_rfl
theorem TY_40 : zI Tryz.prog 4 = true := by kernel_rfl
theorem TY_41 : isIf Tryz.prog 4 = false := by kernel_rfl
theorem TY_42 : zeroOf Tryz.prog 4 = some [.t (.bool false)] := by kernel_rfl
theorem TY_43 : isInt Tryz.prog 4 = none := by kernel_rfl
theorem TY_44 : zB Tryz.prog 5 = 1 := by kernel_rfl
theorem TY_45 : zQ Tryz.prog 5 = false := by kernel_rfl
theorem TY_46 : known Tryz.prog 5 = true := by kernel_rfl
theorem TY_47 : Tryz.prog.bytesOf 5 = 1 := by kernel_rfl
theorem TY_48 : zZ Tryz.prog 5 = none := by kernel_rfl
theorem TY_49 : isStr Tryz.prog 5 = false := by kernel_rfl
theorem TY_50 : yx Tryz.prog 5 = false := by kernel_rfl
theorem TY_51 : zI Tryz.prog 5 = false := by kernel_rfl
theorem TY_52 : isIf Tryz.prog 5 = false := by kernel_rfl
theorem TY_53 : zeroOf Tryz.prog 5 = some [.t (.int .u8 0)] := by kernel_rfl
theorem TY_54 : isInt Tryz.prog 5 = some .u8 := by kernel_rfl
theorem TY_55 : zB Tryz.prog 9 = 1 := by kernel_rfl
theorem TY_56 : zQ Tryz.prog 9 = false := by kernel_rfl
theorem TY_57 : known Tryz.prog 9 = true := by kernel_rfl
theorem TY_58 : Tryz.prog.bytesOf 9 = 16 := by kernel_rfl
theorem TY_59 : zZ Tryz.prog 9 = none := by kernel_rfl
theorem TY_60 : isStr Tryz.prog 9 = true := by kernel_rfl
theorem TY_61 : yx Tryz.prog 9 = false := by kernel_rfl
theorem TY_62 : zI Tryz.prog 9 = false := by kernel_rfl
theorem TY_63 : isIf Tryz.prog 9 = false := by kernel_rfl
theorem TY_64 : zeroOf Tryz.prog 9 = some [.t (.str [])] := by kernel_rfl
theorem TY_65 : isInt Tryz.prog 9 = none := by kernel_rfl
theorem TY_66 : zB Tryz.prog 22 = 1 := by kernel_rfl
theorem TY_67 : zQ Tryz.prog 22 = false := by kernel_rfl
theorem TY_68 : known Tryz.prog 22 = true := by kernel_rfl
theorem TY_69 : Tryz.prog.bytesOf 22 = 24 := by kernel_rfl
theorem TY_70 : zZ Tryz.prog 22 = some 9 := by kernel_rfl
theorem TY_71 : isStr Tryz.prog 22 = false := by kernel_rfl
theorem TY_72 : yx Tryz.prog 22 = true := by kernel_rfl
theorem TY_73 : zI Tryz.prog 22 = false := by kernel_rfl
theorem TY_74 : isIf Tryz.prog 22 = false := by kernel_rfl
theorem TY_75 : zeroOf Tryz.prog 22 = some [.nil 1] := by kernel_rfl
theorem TY_76 : isInt Tryz.prog 22 = none := by kernel_rfl
theorem TY_77 : zB Tryz.prog 23 = 1 := by kernel_rfl
theorem TY_78 : zQ Tryz.prog 23 = false := by kernel_rfl
theorem TY_79 : known Tryz.prog 23 = true := by kernel_rfl
theorem TY_80 : Tryz.prog.bytesOf 23 = 24 := by kernel_rfl
theorem TY_81 : zZ Tryz.prog 23 = some 93 := by kernel_rfl
theorem TY_82 : isStr Tryz.prog 23 = false := by kernel_rfl
theorem TY_83 : yx Tryz.prog 23 = true := by kernel_rfl
theorem TY_84 : zI Tryz.prog 23 = false := by kernel_rfl
theorem TY_85 : isIf Tryz.prog 23 = false := by kernel_rfl
theorem TY_86 : zeroOf Tryz.prog 23 = some [.nil 6] := by kernel_rfl
theorem TY_87 : isInt Tryz.prog 23 = none := by kernel_rfl
theorem TY_88 : zB Tryz.prog 25 = 2 := by kernel_rfl
theorem TY_89 : zQ Tryz.prog 25 = true := by kernel_rfl
theorem TY_90 : known Tryz.prog 25 = true := by kernel_rfl
theorem TY_91 : Tryz.prog.bytesOf 25 = 48 := by kernel_rfl
theorem TY_92 : zZ Tryz.prog 25 = none := by kernel_rfl
theorem TY_93 : isStr Tryz.prog 25 = false := by kernel_rfl
theorem TY_94 : yx Tryz.prog 25 = false := by kernel_rfl
theorem TY_95 : zI Tryz.prog 25 = false := by kernel_rfl
theorem TY_96 : isIf Tryz.prog 25 = false := by kernel_rfl
theorem TY_97 : wA Tryz.prog 25 = true := by kernel_rfl
theorem TY_98 : fOf Tryz.prog 25 0 = some (0, 1, false) := by kernel_rfl
theorem TY_99 : fTy Tryz.prog 25 0 = 22 := by kernel_rfl
theorem Kt : fOf Tryz.prog 25 1 = some (1, 1, false) := by kernel_rfl
theorem Ks : fTy Tryz.prog 25 1 = 23 := by kernel_rfl
theorem Kr : zeroOf Tryz.prog 25 = some [.nil 1, .nil 6] := by kernel_rfl
theorem Kq : isInt Tryz.prog 25 = none := by kernel_rfl
theorem Kp : zB Tryz.prog 27 = 1 := by kernel_rfl
theorem Ko : zQ Tryz.prog 27 = false := by kernel_rfl
theorem Kn : known Tryz.prog 27 = true := by kernel_rfl
theorem Km : Tryz.prog.bytesOf 27 = 24 := by kernel_rfl
theorem Kl : zZ Tryz.prog 27 = some 51 := by kernel_rfl
theorem Kk : isStr Tryz.prog 27 = false := by kernel_rfl
theorem Kj : yx Tryz.prog 27 = true := by kernel_rfl
theorem Ki : zI Tryz.prog 27 = false := by kernel_rfl
theorem Kh : isIf Tryz.prog 27 = false := by kernel_rfl
theorem Kg : zeroOf Tryz.prog 27 = some [.nil 6] := by kernel_rfl
theorem Kf : isInt Tryz.prog 27 = none := by kernel_rfl
theorem Ke : zB Tryz.prog 29 = 2 := by kernel_rfl
theorem Kd : zQ Tryz.prog 29 = true := by kernel_rfl
theorem Kc : known Tryz.prog 29 = true := by kernel_rfl
theorem Kb : Tryz.prog.bytesOf 29 = 48 := by kernel_rfl
theorem Ka : zZ Tryz.prog 29 = none := by kernel_rfl
theorem K9 : isStr Tryz.prog 29 = false := by kernel_rfl
theorem K8 : yx Tryz.prog 29 = false := by kernel_rfl
theorem K7 : zI Tryz.prog 29 = false := by kernel_rfl
theorem K6 : isIf Tryz.prog 29 = false := by kernel_rfl
theorem K5 : wA Tryz.prog 29 = true := by kernel_rfl
theorem K4 : fOf Tryz.prog 29 0 = some (0, 1, false) := by kernel_rfl
theorem K3 : fTy Tryz.prog 29 0 = 22 := by kernel_rfl
theorem K2 : fOf Tryz.prog 29 1 = some (1, 1, false) := by kernel_rfl
theorem K1 : fTy Tryz.prog 29 1 = 27 := by kernel_rfl
theorem K0 : zeroOf Tryz.prog 29 = some [.nil 1, .nil 6] := by kernel_rfl
theorem LZ : isInt Tryz.prog 29 = none := by kernel_rfl
theorem LY : zB Tryz.prog 40 = 1 := by kernel_rfl
theorem LX : zQ Tryz.prog 40 = false := by kernel_rfl
theorem LW : known Tryz.prog 40 = true := by kernel_rfl
theorem LV : Tryz.prog.bytesOf 40 = 24 := by kernel_rfl
theorem LU : zZ Tryz.prog 40 = some 5 := by kernel_rfl
theorem LS : isStr Tryz.prog 40 = false := by kernel_rfl
theorem LR : yx Tryz.prog 40 = true := by kernel_rfl
theorem LQ : zI Tryz.prog 40 = false := by kernel_rfl
theorem LO : isIf Tryz.prog 40 = false := by kernel_rfl
theorem LM : zeroOf Tryz.prog 40 = some [.nil 1] := by kernel_rfl
theorem LK : isInt Tryz.prog 40 = none := by kernel_rfl
theorem LJ : zB Tryz.prog 49 = 1 := by kernel_rfl
theorem LI : zQ Tryz.prog 49 = false := by kernel_rfl
theorem LH : known Tryz.prog 49 = true := by kernel_rfl
theorem LG : Tryz.prog.bytesOf 49 = 24 := by kernel_rfl
theorem LF : zZ Tryz.prog 49 = some 99 := by kernel_rfl
theorem LD : isStr Tryz.prog 49 = false := by kernel_rfl
theorem LC : yx Tryz.prog 49 = true := by kernel_rfl
theorem LB : zI Tryz.prog 49 = false := by kernel_rfl
theorem LA : isIf Tryz.prog 49 = false := by kernel_rfl
theorem Lz : zeroOf Tryz.prog 49 = some [.nil 2] := by kernel_rfl
theorem Ly : isInt Tryz.prog 49 = none := by kernel_rfl
theorem Lx : zB Tryz.prog 51 = 6 := by kernel_rfl
theorem Lw : zQ Tryz.prog 51 = true := by kernel_rfl
theorem Lv : known Tryz.prog 51 = true := by kernel_rfl
theorem Lu : Tryz.prog.bytesOf 51 = 104 := by kernel_rfl
theorem Lt : zZ Tryz.prog 51 = none := by kernel_rfl
theorem Ls : isStr Tryz.prog 51 = false := by kernel_rfl
theorem Lr : yx Tryz.prog 51 = false := by kernel_rfl
theorem Lq : zI Tryz.prog 51 = false := by kernel_rfl
theorem Lp : isIf Tryz.prog 51 = false := by kernel_rfl
theorem Lo : wA Tryz.prog 51 = true := by kernel_rfl
theorem Ln : fOf Tryz.prog 51 0 = some (0, 1, false) := by kernel_rfl
theorem Lm : fTy Tryz.prog 51 0 = 9 := by kernel_rfl
theorem Ll : fOf Tryz.prog 51 1 = some (1, 1, false) := by kernel_rfl
theorem Lk : fTy Tryz.prog 51 1 = 9 := by kernel_rfl
theorem Lj : fOf Tryz.prog 51 2 = some (2, 1, false) := by kernel_rfl
theorem Li : fTy Tryz.prog 51 2 = 9 := by kernel_rfl
theorem Lh : fOf Tryz.prog 51 3 = some (3, 1, false) := by kernel_rfl
theorem Lg : fTy Tryz.prog 51 3 = 49 := by kernel_rfl
theorem Lf : fOf Tryz.prog 51 4 = some (4, 1, false) := by kernel_rfl
theorem Ld : fTy Tryz.prog 51 4 = 4 := by kernel_rfl
theorem Lc : fOf Tryz.prog 51 5 = some (5, 1, false) := by kernel_rfl
theorem Lb : fTy Tryz.prog 51 5 = 22 := by kernel_rfl
theorem La : zeroOf Tryz.prog 51 = some [.t (.str []), .t (.str []), .t (.str []), .nil 2, .t (.bool false), .nil 1] := by kernel_rfl
theorem L9 : isInt Tryz.prog 51 = none := by kernel_rfl
theorem L8 : zB Tryz.prog 65 = 1 := by kernel_rfl
theorem L7 : zQ Tryz.prog 65 = false := by kernel_rfl
theorem L6 : known Tryz.prog 65 = true := by kernel_rfl
theorem L5 : Tryz.prog.bytesOf 65 = 8 := by kernel_rfl
theorem L3 : zZ Tryz.prog 65 = none := by kernel_rfl
theorem MZ : isStr Tryz.prog 65 = false := by kernel_rfl
theorem MY : yx Tryz.prog 65 = false := by kernel_rfl
theorem MX : zI Tryz.prog 65 = false := by kernel_rfl
theorem MW : isIf Tryz.prog 65 = false := by kernel_rfl
theorem MV : zeroOf Tryz.prog 65 = some [.t .nilf] := by kernel_rfl
theorem MU : isInt Tryz.prog 65 = none := by kernel_rfl
theorem MT : zB Tryz.prog 68 = 1 := by kernel_rfl
theorem MS : zQ Tryz.prog 68 = false := by kernel_rfl
theorem MR : known Tryz.prog 68 = true := by kernel_rfl
theorem MQ : Tryz.prog.bytesOf 68 = 8 := by kernel_rfl
theorem MP : zZ Tryz.prog 68 = none := by kernel_rfl
theorem MO : isStr Tryz.prog 68 = false := by kernel_rfl
theorem MN : yx Tryz.prog 68 = false := by kernel_rfl
theorem MM : zI Tryz.prog 68 = false := by kernel_rfl
theorem ML : isIf Tryz.prog 68 = false := by kernel_rfl
theorem MK : zeroOf Tryz.prog 68 = some [.t .nilf] := by kernel_rfl
theorem MJ : isInt Tryz.prog 68 = none := by kernel_rfl
theorem MI : zB Tryz.prog 71 = 1 := by kernel_rfl
theorem MH : zQ Tryz.prog 71 = false := by kernel_rfl
theorem MG : known Tryz.prog 71 = true := by kernel_rfl
theorem MF : Tryz.prog.bytesOf 71 = 8 := by kernel_rfl
theorem ME : zZ Tryz.prog 71 = none := by kernel_rfl
theorem MD : isStr Tryz.prog 71 = false := by kernel_rfl
theorem MC : yx Tryz.prog 71 = false := by kernel_rfl
theorem MB : zI Tryz.prog 71 = false := by kernel_rfl
theorem MA : isIf Tryz.prog 71 = false := by kernel_rfl
theorem Mz : zeroOf Tryz.prog 71 = some [.t .nilp] := by kernel_rfl
theorem My : isInt Tryz.prog 71 = none := by kernel_rfl
theorem Mx : zB Tryz.prog 91 = 1 := by kernel_rfl
theorem Mw : zQ Tryz.prog 91 = false := by kernel_rfl
theorem Mv : known Tryz.prog 91 = true := by kernel_rfl
theorem Mu : Tryz.prog.bytesOf 91 = 24 := by kernel_rfl
theorem Mt : zZ Tryz.prog 91 = some 160 := by kernel_rfl
theorem Ms : isStr Tryz.prog 91 = false := by kernel_rfl
theorem Mr : yx Tryz.prog 91 = true := by kernel_rfl
theorem Mq : zI Tryz.prog 91 = false := by kernel_rfl
theorem Mp : isIf Tryz.prog 91 = false := by kernel_rfl
theorem Mo : zeroOf Tryz.prog 91 = some [.nil 2] := by kernel_rfl
theorem Mn : isInt Tryz.prog 91 = none := by kernel_rfl
theorem Mm : zB Tryz.prog 93 = 6 := by kernel_rfl
theorem Ml : zQ Tryz.prog 93 = true := by kernel_rfl
theorem Mk : known Tryz.prog 93 = true := by kernel_rfl
theorem Mj : Tryz.prog.bytesOf 93 = 104 := by kernel_rfl
theorem Mi : zZ Tryz.prog 93 = none := by kernel_rfl
theorem Mh : isStr Tryz.prog 93 = false := by kernel_rfl
theorem Mg : yx Tryz.prog 93 = false := by kernel_rfl
theorem Mf : zI Tryz.prog 93 = false := by kernel_rfl
theorem Me : isIf Tryz.prog 93 = false := by kernel_rfl
theorem Md : wA Tryz.prog 93 = true := by kernel_rfl
theorem Mc : fOf Tryz.prog 93 0 = some (0, 1, false) := by kernel_rfl
theorem Mb : fTy Tryz.prog 93 0 = 9 := by kernel_rfl
theorem Ma : fOf Tryz.prog 93 1 = some (1, 1, false) := by kernel_rfl
theorem M9 : fTy Tryz.prog 93 1 = 9 := by kernel_rfl
theorem M8 : fOf Tryz.prog 93 2 = some (2, 1, false) := by kernel_rfl
theorem M7 : fTy Tryz.prog 93 2 = 9 := by kernel_rfl
theorem M6 : fOf Tryz.prog 93 3 = some (3, 1, false) := by kernel_rfl
theorem M5 : fTy Tryz.prog 93 3 = 91 := by kernel_rfl
theorem M4 : fOf Tryz.prog 93 4 = some (4, 1, false) := by kernel_rfl
theorem M3 : fTy Tryz.prog 93 4 = 4 := by kernel_rfl
theorem M1 : fOf Tryz.prog 93 5 = some (5, 1, false) := by kernel_rfl
theorem M0 : fTy Tryz.prog 93 5 = 22 := by kernel_rfl
theorem NZ : zeroOf Tryz.prog 93 = some [.t (.str []), .t (.str []), .t (.str []), .nil 2, .t (.bool false), .nil 1] := by kernel_rfl
theorem NY : isInt Tryz.prog 93 = none := by kernel_rfl
theorem NX : zB Tryz.prog 99 = 2 := by kernel_rfl
theorem NW : zQ Tryz.prog 99 = true := by kernel_rfl
theorem NV : known Tryz.prog 99 = true := by kernel_rfl
theorem NU : Tryz.prog.bytesOf 99 = 32 := by kernel_rfl
theorem NT : zZ Tryz.prog 99 = none := by kernel_rfl
theorem NS : isStr Tryz.prog 99 = false := by kernel_rfl
theorem NR : yx Tryz.prog 99 = false := by kernel_rfl
theorem NQ : zI Tryz.prog 99 = false := by kernel_rfl
theorem NP : isIf Tryz.prog 99 = false := by kernel_rfl
theorem NO : wA Tryz.prog 99 = true := by kernel_rfl
theorem NN : pQ Tryz.prog 99 = true := by kernel_rfl
theorem NM : nFs Tryz.prog 99 = 2 := by kernel_rfl
theorem NL : fOf Tryz.prog 99 0 = some (0, 1, false) := by kernel_rfl
theorem NK : fTy Tryz.prog 99 0 = 9 := by kernel_rfl
theorem NJ : fOf Tryz.prog 99 1 = some (1, 1, false) := by kernel_rfl
theorem NI : fTy Tryz.prog 99 1 = 9 := by kernel_rfl
theorem NH : zeroOf Tryz.prog 99 = some [.t (.str []), .t (.str [])] := by kernel_rfl
theorem NG : isInt Tryz.prog 99 = none := by kernel_rfl
theorem NF : zB Tryz.prog 104 = 1 := by kernel_rfl
theorem ND : zQ Tryz.prog 104 = false := by kernel_rfl
theorem NC : known Tryz.prog 104 = true := by kernel_rfl
theorem NB : Tryz.prog.bytesOf 104 = 8 := by kernel_rfl
theorem NA : zZ Tryz.prog 104 = none := by kernel_rfl
theorem Nz : isStr Tryz.prog 104 = false := by kernel_rfl
theorem Ny : yx Tryz.prog 104 = false := by kernel_rfl
theorem Nx : zI Tryz.prog 104 = false := by kernel_rfl
theorem Nw : isIf Tryz.prog 104 = false := by kernel_rfl
theorem Nv : zeroOf Tryz.prog 104 = some [.t .nilf] := by kernel_rfl
theorem Nu : isInt Tryz.prog 104 = none := by kernel_rfl
theorem Nt : zB Tryz.prog 110 = 1 := by kernel_rfl
theorem Nr : zQ Tryz.prog 110 = false := by kernel_rfl
theorem Nq : known Tryz.prog 110 = true := by kernel_rfl
theorem Np : Tryz.prog.bytesOf 110 = 8 := by kernel_rfl
theorem No : zZ Tryz.prog 110 = none := by kernel_rfl
theorem Nn : isStr Tryz.prog 110 = false := by kernel_rfl
theorem Nk : yx Tryz.prog 110 = false := by kernel_rfl
theorem Nj : zI Tryz.prog 110 = false := by kernel_rfl
theorem Ni : isIf Tryz.prog 110 = false := by kernel_rfl
theorem Nh : zeroOf Tryz.prog 110 = some [.t .nilf] := by kernel_rfl
theorem Ng : isInt Tryz.prog 110 = none := by kernel_rfl
theorem Nf : zB Tryz.prog 120 = 1 := by kernel_rfl
theorem Nd : zQ Tryz.prog 120 = false := by kernel_rfl
theorem Nc : known Tryz.prog 120 = true := by kernel_rfl
theorem N9 : Tryz.prog.bytesOf 120 = 8 := by kernel_rfl
theorem N8 : zZ Tryz.prog 120 = none := by kernel_rfl
theorem N7 : isStr Tryz.prog 120 = false := by kernel_rfl
theorem N6 : yx Tryz.prog 120 = false := by kernel_rfl
theorem N5 : zI Tryz.prog 120 = false := by kernel_rfl
theorem N4 : isIf Tryz.prog 120 = false := by kernel_rfl
theorem N3 : zeroOf Tryz.prog 120 = some [.t (.int .u64 0)] := by kernel_rfl
theorem N2 : isInt Tryz.prog 120 = some .u64 := by kernel_rfl
theorem N1 : zB Tryz.prog 122 = 1 := by kernel_rfl
theorem N0 : zQ Tryz.prog 122 = false := by kernel_rfl
theorem OZ : known Tryz.prog 122 = true := by kernel_rfl
theorem OY : Tryz.prog.bytesOf 122 = 24 := by kernel_rfl
theorem OX : zZ Tryz.prog 122 = some 150 := by kernel_rfl
theorem OW : isStr Tryz.prog 122 = false := by kernel_rfl
theorem OV : yx Tryz.prog 122 = true := by kernel_rfl
theorem OU : zI Tryz.prog 122 = false := by kernel_rfl
theorem OT : isIf Tryz.prog 122 = false := by kernel_rfl
theorem OS : zeroOf Tryz.prog 122 = some [.nil 2] := by kernel_rfl
theorem OR : isInt Tryz.prog 122 = none := by kernel_rfl
theorem OQ : zB Tryz.prog 132 = 4 := by kernel_rfl
theorem OP : zQ Tryz.prog 132 = true := by kernel_rfl
theorem OO : known Tryz.prog 132 = true := by kernel_rfl
theorem ON : Tryz.prog.bytesOf 132 = 48 := by kernel_rfl
theorem OM : zZ Tryz.prog 132 = none := by kernel_rfl
theorem OL : isStr Tryz.prog 132 = false := by kernel_rfl
theorem OK : yx Tryz.prog 132 = false := by kernel_rfl
theorem OJ : zI Tryz.prog 132 = false := by kernel_rfl
theorem OI : isIf Tryz.prog 132 = false := by kernel_rfl
theorem OH : wA Tryz.prog 132 = true := by kernel_rfl
theorem OG : fOf Tryz.prog 132 0 = some (0, 1, false) := by kernel_rfl
theorem OF : fTy Tryz.prog 132 0 = 3 := by kernel_rfl
theorem OE : fOf Tryz.prog 132 1 = some (1, 1, false) := by kernel_rfl
theorem OD : fTy Tryz.prog 132 1 = 3 := by kernel_rfl
theorem OC : fOf Tryz.prog 132 2 = some (2, 1, false) := by kernel_rfl
theorem OB : fTy Tryz.prog 132 2 = 3 := by kernel_rfl
theorem OA : fOf Tryz.prog 132 3 = some (3, 1, false) := by kernel_rfl
theorem Oz : fTy Tryz.prog 132 3 = 22 := by kernel_rfl
theorem Oy : zeroOf Tryz.prog 132 = some [.t (.int .i64 0), .t (.int .i64 0), .t (.int .i64 0), .nil 1] := by kernel_rfl
theorem Ox : isInt Tryz.prog 132 = none := by kernel_rfl
theorem Ov : zB Tryz.prog 135 = 1 := by kernel_rfl
theorem Ou : zQ Tryz.prog 135 = false := by kernel_rfl
theorem Ot : known Tryz.prog 135 = true := by kernel_rfl
theorem Oq : Tryz.prog.bytesOf 135 = 8 := by kernel_rfl
theorem Oo : zZ Tryz.prog 135 = none := by kernel_rfl
theorem On : isStr Tryz.prog 135 = false := by kernel_rfl
theorem Om : yx Tryz.prog 135 = false := by kernel_rfl
theorem Ol : zI Tryz.prog 135 = false := by kernel_rfl
theorem Oj : isIf Tryz.prog 135 = false := by kernel_rfl
theorem Oi : zeroOf Tryz.prog 135 = some [.t (.int .i64 0)] := by kernel_rfl
theorem Oh : isInt Tryz.prog 135 = some .i64 := by kernel_rfl
theorem Og : zB Tryz.prog 144 = 1 := by kernel_rfl
theorem Of : zQ Tryz.prog 144 = false := by kernel_rfl
theorem Oe : known Tryz.prog 144 = true := by kernel_rfl
theorem Od : Tryz.prog.bytesOf 144 = 4 := by kernel_rfl
theorem Oc : zZ Tryz.prog 144 = none := by kernel_rfl
theorem Ob : isStr Tryz.prog 144 = false := by kernel_rfl
theorem Oa : yx Tryz.prog 144 = false := by kernel_rfl
theorem O9 : zI Tryz.prog 144 = false := by kernel_rfl
theorem O8 : isIf Tryz.prog 144 = false := by kernel_rfl
theorem O7 : zeroOf Tryz.prog 144 = some [.t (.int .u32 0)] := by kernel_rfl
theorem O6 : isInt Tryz.prog 144 = some .u32 := by kernel_rfl
theorem O5 : zB Tryz.prog 146 = 1 := by kernel_rfl
theorem O4 : zQ Tryz.prog 146 = false := by kernel_rfl
theorem O3 : known Tryz.prog 146 = true := by kernel_rfl
theorem O2 : Tryz.prog.bytesOf 146 = 8 := by kernel_rfl
theorem O1 : zZ Tryz.prog 146 = none := by kernel_rfl
theorem O0 : isStr Tryz.prog 146 = false := by kernel_rfl
theorem PZ : yx Tryz.prog 146 = false := by kernel_rfl
theorem PY : zI Tryz.prog 146 = false := by kernel_rfl
theorem PX : isIf Tryz.prog 146 = false := by kernel_rfl
theorem PW : zeroOf Tryz.prog 146 = some [.t (.int .u64 0)] := by kernel_rfl
theorem PV : isInt Tryz.prog 146 = some .u64 := by kernel_rfl
theorem PU : zB Tryz.prog 148 = 1 := by kernel_rfl
theorem PT : zQ Tryz.prog 148 = false := by kernel_rfl
theorem PS : known Tryz.prog 148 = true := by kernel_rfl
theorem PR : Tryz.prog.bytesOf 148 = 8 := by kernel_rfl
theorem PQ : zZ Tryz.prog 148 = none := by kernel_rfl
theorem PO : isStr Tryz.prog 148 = false := by kernel_rfl
theorem PN : yx Tryz.prog 148 = false := by kernel_rfl
theorem PL : zI Tryz.prog 148 = false := by kernel_rfl
theorem PK : isIf Tryz.prog 148 = false := by kernel_rfl
theorem PJ : zeroOf Tryz.prog 148 = some [.t .nilf] := by kernel_rfl
theorem PI : isInt Tryz.prog 148 = none := by kernel_rfl
theorem PH : zB Tryz.prog 150 = 2 := by kernel_rfl
theorem PG : zQ Tryz.prog 150 = true := by kernel_rfl
theorem PF : known Tryz.prog 150 = true := by kernel_rfl
theorem PE : Tryz.prog.bytesOf 150 = 32 := by kernel_rfl
theorem PD : zZ Tryz.prog 150 = none := by kernel_rfl
theorem PC : isStr Tryz.prog 150 = false := by kernel_rfl
theorem PB : yx Tryz.prog 150 = false := by kernel_rfl
theorem PA : zI Tryz.prog 150 = false := by kernel_rfl
theorem Pz : isIf Tryz.prog 150 = false := by kernel_rfl
theorem Py : wA Tryz.prog 150 = true := by kernel_rfl
theorem Px : pQ Tryz.prog 150 = true := by kernel_rfl
theorem Pw : nFs Tryz.prog 150 = 2 := by kernel_rfl
theorem Pv : fOf Tryz.prog 150 0 = some (0, 1, false) := by kernel_rfl
theorem Pu : fTy Tryz.prog 150 0 = 9 := by kernel_rfl
theorem Pt : fOf Tryz.prog 150 1 = some (1, 1, false) := by kernel_rfl
theorem Ps : fTy Tryz.prog 150 1 = 9 := by kernel_rfl
theorem Pr : zeroOf Tryz.prog 150 = some [.t (.str []), .t (.str [])] := by kernel_rfl
theorem Pq : isInt Tryz.prog 150 = none := by kernel_rfl
theorem Pp : zB Tryz.prog 160 = 2 := by kernel_rfl
theorem Po : zQ Tryz.prog 160 = true := by kernel_rfl
theorem Pn : known Tryz.prog 160 = true := by kernel_rfl
theorem Pm : Tryz.prog.bytesOf 160 = 32 := by kernel_rfl
theorem Pl : zZ Tryz.prog 160 = none := by kernel_rfl
theorem Pk : isStr Tryz.prog 160 = false := by kernel_rfl
theorem Pj : yx Tryz.prog 160 = false := by kernel_rfl
theorem Ph : zI Tryz.prog 160 = false := by kernel_rfl
theorem Pg : isIf Tryz.prog 160 = false := by kernel_rfl
theorem Pf : wA Tryz.prog 160 = true := by kernel_rfl
theorem Pe : pQ Tryz.prog 160 = true := by kernel_rfl
theorem Pd : nFs Tryz.prog 160 = 2 := by kernel_rfl
theorem Pc : fOf Tryz.prog 160 0 = some (0, 1, false) := by kernel_rfl
theorem Pb : fTy Tryz.prog 160 0 = 9 := by kernel_rfl
theorem Pa : fOf Tryz.prog 160 1 = some (1, 1, false) := by kernel_rfl
theorem P9 : fTy Tryz.prog 160 1 = 9 := by kernel_rfl
theorem P8 : zeroOf Tryz.prog 160 = some [.t (.str []), .t (.str [])] := by kernel_rfl
theorem P7 : isInt Tryz.prog 160 = none := by kernel_rfl
theorem P6 : zB Tryz.prog 169 = 1 := by kernel_rfl
theorem P5 : zQ Tryz.prog 169 = false := by kernel_rfl
theorem P4 : known Tryz.prog 169 = true := by kernel_rfl
theorem P3 : Tryz.prog.bytesOf 169 = 24 := by kernel_rfl
theorem P2 : zZ Tryz.prog 169 = some 3 := by kernel_rfl
theorem P1 : isStr Tryz.prog 169 = false := by kernel_rfl
theorem P0 : yx Tryz.prog 169 = true := by kernel_rfl
theorem QZ : zI Tryz.prog 169 = false := by kernel_rfl
theorem QY : isIf Tryz.prog 169 = false := by kernel_rfl
theorem QX : zeroOf Tryz.prog 169 = some [.nil 1] := by kernel_rfl
theorem QW : isInt Tryz.prog 169 = none := by kernel_rfl
theorem QV : zB Tryz.prog 170 = 1 := by kernel_rfl
theorem QU : zQ Tryz.prog 170 = false := by kernel_rfl
theorem QT : known Tryz.prog 170 = true := by kernel_rfl
theorem QS : Tryz.prog.bytesOf 170 = 8 := by kernel_rfl
theorem QR : zZ Tryz.prog 170 = none := by kernel_rfl
theorem QQ : isStr Tryz.prog 170 = false := by kernel_rfl
theorem QP : yx Tryz.prog 170 = false := by kernel_rfl
theorem QO : zI Tryz.prog 170 = false := by kernel_rfl
theorem QN : isIf Tryz.prog 170 = false := by kernel_rfl
theorem QM : zeroOf Tryz.prog 170 = some [.t (.int .u64 0)] := by kernel_rfl
theorem QL : isInt Tryz.prog 170 = some .u64 := by kernel_rfl
theorem QK : zB Tryz.prog 174 = 1 := by kernel_rfl
theorem QJ : zQ Tryz.prog 174 = false := by kernel_rfl
theorem QI : known Tryz.prog 174 = true := by kernel_rfl
theorem QH : Tryz.prog.bytesOf 174 = 8 := by kernel_rfl
theorem QG : zZ Tryz.prog 174 = none := by kernel_rfl
theorem QF : isStr Tryz.prog 174 = false := by kernel_rfl
theorem QE : yx Tryz.prog 174 = false := by kernel_rfl
theorem QD : zI Tryz.prog 174 = false := by kernel_rfl
theorem QC : isIf Tryz.prog 174 = false := by kernel_rfl
theorem QB : zeroOf Tryz.prog 174 = some [.t .nilp] := by kernel_rfl
theorem QA : isInt Tryz.prog 174 = none := by kernel_rfl
theorem Qz : zB Tryz.prog 185 = 1 := by kernel_rfl
theorem Qy : zQ Tryz.prog 185 = false := by kernel_rfl
theorem Qx : known Tryz.prog 185 = true := by kernel_rfl
theorem Qw : Tryz.prog.bytesOf 185 = 8 := by kernel_rfl
theorem Qv : zZ Tryz.prog 185 = none := by kernel_rfl
theorem Qu : isStr Tryz.prog 185 = false := by kernel_rfl
theorem Qt : yx Tryz.prog 185 = false := by kernel_rfl
theorem Qs : zI Tryz.prog 185 = false := by kernel_rfl
theorem Qr : isIf Tryz.prog 185 = false := by kernel_rfl
theorem Qq : zeroOf Tryz.prog 185 = some [.t .nilp] := by kernel_rfl
theorem Qp : isInt Tryz.prog 185 = none := by kernel_rfl
theorem Qo : zB Tryz.prog 192 = 1 := by kernel_rfl
theorem Qn : zQ Tryz.prog 192 = false := by kernel_rfl
theorem Qm : known Tryz.prog 192 = true := by kernel_rfl
theorem Ql : Tryz.prog.bytesOf 192 = 16 := by kernel_rfl
theorem Qk : zZ Tryz.prog 192 = none := by kernel_rfl
theorem Qj : isStr Tryz.prog 192 = false := by kernel_rfl
theorem Qi : yx Tryz.prog 192 = false := by kernel_rfl
theorem Qh : zI Tryz.prog 192 = false := by kernel_rfl
theorem Qg : isIf Tryz.prog 192 = true := by kernel_rfl
theorem Qf : zeroOf Tryz.prog 192 = some [.t .nili] := by kernel_rfl
theorem Qe : isInt Tryz.prog 192 = none := by kernel_rfl
theorem TYS : zB Tryz.prog 1 = 1 ∧
 zQ Tryz.prog 1 = false ∧
 known Tryz.prog 1 = true ∧
 Tryz.prog.bytesOf 1 = 8 ∧
 zZ Tryz.prog 1 = none ∧
 isStr Tryz.prog 1 = false ∧
 yx Tryz.prog 1 = false ∧
 zI Tryz.prog 1 = false ∧
 isIf Tryz.prog 1 = false ∧
 zeroOf Tryz.prog 1 = some [.t .nilf] ∧
 isInt Tryz.prog 1 = none ∧
 zB Tryz.prog 2 = 1 ∧
 zQ Tryz.prog 2 = false ∧
 known Tryz.prog 2 = true ∧
 Tryz.prog.bytesOf 2 = 8 ∧
 zZ Tryz.prog 2 = none ∧
 isStr Tryz.prog 2 = false ∧
 yx Tryz.prog 2 = false ∧
 zI Tryz.prog 2 = false ∧
 isIf Tryz.prog 2 = false ∧
 zeroOf Tryz.prog 2 = some [.t (.int .i64 0)] ∧
 isInt Tryz.prog 2 = some .i64 ∧
 zB Tryz.prog 3 = 1 ∧
 zQ Tryz.prog 3 = false ∧
 known Tryz.prog 3 = true ∧
 Tryz.prog.bytesOf 3 = 8 ∧
 zZ Tryz.prog 3 = none ∧
 isStr Tryz.prog 3 = false ∧
 yx Tryz.prog 3 = false ∧
 zI Tryz.prog 3 = false ∧
 isIf Tryz.prog 3 = false ∧
 zeroOf Tryz.prog 3 = some [.t (.int .i64 0)] ∧
 isInt Tryz.prog 3 = some .i64 ∧
 zB Tryz.prog 4 = 1 ∧
 zQ Tryz.prog 4 = false ∧
 known Tryz.prog 4 = true ∧
 Tryz.prog.bytesOf 4 = 1 ∧
 zZ Tryz.prog 4 = none ∧
 isStr Tryz.prog 4 = false ∧
 yx Tryz.prog 4 = false ∧
 zI Tryz.prog 4 = true ∧
 isIf Tryz.prog 4 = false ∧
 zeroOf Tryz.prog 4 = some [.t (.bool false)] ∧
 isInt Tryz.prog 4 = none ∧
 zB Tryz.prog 5 = 1 ∧
 zQ Tryz.prog 5 = false ∧
 known Tryz.prog 5 = true ∧
 Tryz.prog.bytesOf 5 = 1 ∧
 zZ Tryz.prog 5 = none ∧
 isStr Tryz.prog 5 = false ∧
 yx Tryz.prog 5 = false ∧
 zI Tryz.prog 5 = false ∧
 isIf Tryz.prog 5 = false ∧
 zeroOf Tryz.prog 5 = some [.t (.int .u8 0)] ∧
 isInt Tryz.prog 5 = some .u8 ∧
 zB Tryz.prog 9 = 1 ∧
 zQ Tryz.prog 9 = false ∧
 known Tryz.prog 9 = true ∧
 Tryz.prog.bytesOf 9 = 16 ∧
 zZ Tryz.prog 9 = none ∧
 isStr Tryz.prog 9 = true ∧
 yx Tryz.prog 9 = false ∧
 zI Tryz.prog 9 = false ∧
 isIf Tryz.prog 9 = false ∧
 zeroOf Tryz.prog 9 = some [.t (.str [])] ∧
 isInt Tryz.prog 9 = none ∧
 zB Tryz.prog 22 = 1 ∧
 zQ Tryz.prog 22 = false ∧
 known Tryz.prog 22 = true ∧
 Tryz.prog.bytesOf 22 = 24 ∧
 zZ Tryz.prog 22 = some 9 ∧
 isStr Tryz.prog 22 = false ∧
 yx Tryz.prog 22 = true ∧
 zI Tryz.prog 22 = false ∧
 isIf Tryz.prog 22 = false ∧
 zeroOf Tryz.prog 22 = some [.nil 1] ∧
 isInt Tryz.prog 22 = none ∧
 zB Tryz.prog 23 = 1 ∧
 zQ Tryz.prog 23 = false ∧
 known Tryz.prog 23 = true ∧
 Tryz.prog.bytesOf 23 = 24 ∧
 zZ Tryz.prog 23 = some 93 ∧
 isStr Tryz.prog 23 = false ∧
 yx Tryz.prog 23 = true ∧
 zI Tryz.prog 23 = false ∧
 isIf Tryz.prog 23 = false ∧
 zeroOf Tryz.prog 23 = some [.nil 6] ∧
 isInt Tryz.prog 23 = none ∧
 zB Tryz.prog 25 = 2 ∧
 zQ Tryz.prog 25 = true ∧
 known Tryz.prog 25 = true ∧
 Tryz.prog.bytesOf 25 = 48 ∧
 zZ Tryz.prog 25 = none ∧
 isStr Tryz.prog 25 = false ∧
 yx Tryz.prog 25 = false ∧
 zI Tryz.prog 25 = false ∧
 isIf Tryz.prog 25 = false ∧
 wA Tryz.prog 25 = true ∧
 fOf Tryz.prog 25 0 = some (0, 1, false) ∧
 fTy Tryz.prog 25 0 = 22 ∧
 fOf Tryz.prog 25 1 = some (1, 1, false) ∧
 fTy Tryz.prog 25 1 = 23 ∧
 zeroOf Tryz.prog 25 = some [.nil 1, .nil 6] ∧
 isInt Tryz.prog 25 = none ∧
 zB Tryz.prog 27 = 1 ∧
 zQ Tryz.prog 27 = false ∧
 known Tryz.prog 27 = true ∧
 Tryz.prog.bytesOf 27 = 24 ∧
 zZ Tryz.prog 27 = some 51 ∧
 isStr Tryz.prog 27 = false ∧
 yx Tryz.prog 27 = true ∧
 zI Tryz.prog 27 = false ∧
 isIf Tryz.prog 27 = false ∧
 zeroOf Tryz.prog 27 = some [.nil 6] ∧
 isInt Tryz.prog 27 = none ∧
 zB Tryz.prog 29 = 2 ∧
 zQ Tryz.prog 29 = true ∧
 known Tryz.prog 29 = true ∧
 Tryz.prog.bytesOf 29 = 48 ∧
 zZ Tryz.prog 29 = none ∧
 isStr Tryz.prog 29 = false ∧
 yx Tryz.prog 29 = false ∧
 zI Tryz.prog 29 = false ∧
 isIf Tryz.prog 29 = false ∧
 wA Tryz.prog 29 = true ∧
 fOf Tryz.prog 29 0 = some (0, 1, false) ∧
 fTy Tryz.prog 29 0 = 22 ∧
 fOf Tryz.prog 29 1 = some (1, 1, false) ∧
 fTy Tryz.prog 29 1 = 27 ∧
 zeroOf Tryz.prog 29 = some [.nil 1, .nil 6] ∧
 isInt Tryz.prog 29 = none ∧
 zB Tryz.prog 40 = 1 ∧
 zQ Tryz.prog 40 = false ∧
 known Tryz.prog 40 = true ∧
 Tryz.prog.bytesOf 40 = 24 ∧
 zZ Tryz.prog 40 = some 5 ∧
 isStr Tryz.prog 40 = false ∧
 yx Tryz.prog 40 = true ∧
 zI Tryz.prog 40 = false ∧
 isIf Tryz.prog 40 = false ∧
 zeroOf Tryz.prog 40 = some [.nil 1] ∧
 isInt Tryz.prog 40 = none ∧
 zB Tryz.prog 49 = 1 ∧
 zQ Tryz.prog 49 = false ∧
 known Tryz.prog 49 = true ∧
 Tryz.prog.bytesOf 49 = 24 ∧
 zZ Tryz.prog 49 = some 99 ∧
 isStr Tryz.prog 49 = false ∧
 yx Tryz.prog 49 = true ∧
 zI Tryz.prog 49 = false ∧
 isIf Tryz.prog 49 = false ∧
 zeroOf Tryz.prog 49 = some [.nil 2] ∧
 isInt Tryz.prog 49 = none ∧
 zB Tryz.prog 51 = 6 ∧
 zQ Tryz.prog 51 = true ∧
 known Tryz.prog 51 = true ∧
 Tryz.prog.bytesOf 51 = 104 ∧
 zZ Tryz.prog 51 = none ∧
 isStr Tryz.prog 51 = false ∧
 yx Tryz.prog 51 = false ∧
 zI Tryz.prog 51 = false ∧
 isIf Tryz.prog 51 = false ∧
 wA Tryz.prog 51 = true ∧
 fOf Tryz.prog 51 0 = some (0, 1, false) ∧
 fTy Tryz.prog 51 0 = 9 ∧
 fOf Tryz.prog 51 1 = some (1, 1, false) ∧
 fTy Tryz.prog 51 1 = 9 ∧
 fOf Tryz.prog 51 2 = some (2, 1, false) ∧
 fTy Tryz.prog 51 2 = 9 ∧
 fOf Tryz.prog 51 3 = some (3, 1, false) ∧
 fTy Tryz.prog 51 3 = 49 ∧
 fOf Tryz.prog 51 4 = some (4, 1, false) ∧
 fTy Tryz.prog 51 4 = 4 ∧
 fOf Tryz.prog 51 5 = some (5, 1, false) ∧
 fTy Tryz.prog 51 5 = 22 ∧
 zeroOf Tryz.prog 51 = some [.t (.str []), .t (.str []), .t (.str []), .nil 2, .t (.bool false), .nil 1] ∧
 isInt Tryz.prog 51 = none ∧
 zB Tryz.prog 65 = 1 ∧
 zQ Tryz.prog 65 = false ∧
 known Tryz.prog 65 = true ∧
 Tryz.prog.bytesOf 65 = 8 ∧
 zZ Tryz.prog 65 = none ∧
 isStr Tryz.prog 65 = false ∧
 yx Tryz.prog 65 = false ∧
 zI Tryz.prog 65 = false ∧
 isIf Tryz.prog 65 = false ∧
 zeroOf Tryz.prog 65 = some [.t .nilf] ∧
 isInt Tryz.prog 65 = none ∧
 zB Tryz.prog 68 = 1 ∧
 zQ Tryz.prog 68 = false ∧
 known Tryz.prog 68 = true ∧
 Tryz.prog.bytesOf 68 = 8 ∧
 zZ Tryz.prog 68 = none ∧
 isStr Tryz.prog 68 = false ∧
 yx Tryz.prog 68 = false ∧
 zI Tryz.prog 68 = false ∧
 isIf Tryz.prog 68 = false ∧
 zeroOf Tryz.prog 68 = some [.t .nilf] ∧
 isInt Tryz.prog 68 = none ∧
 zB Tryz.prog 71 = 1 ∧
 zQ Tryz.prog 71 = false ∧
 known Tryz.prog 71 = true ∧
 Tryz.prog.bytesOf 71 = 8 ∧
 zZ Tryz.prog 71 = none ∧
 isStr Tryz.prog 71 = false ∧
 yx Tryz.prog 71 = false ∧
 zI Tryz.prog 71 = false ∧
 isIf Tryz.prog 71 = false ∧
 zeroOf Tryz.prog 71 = some [.t .nilp] ∧
 isInt Tryz.prog 71 = none ∧
 zB Tryz.prog 91 = 1 ∧
 zQ Tryz.prog 91 = false ∧
 known Tryz.prog 91 = true ∧
 Tryz.prog.bytesOf 91 = 24 ∧
 zZ Tryz.prog 91 = some 160 ∧
 isStr Tryz.prog 91 = false ∧
 yx Tryz.prog 91 = true ∧
 zI Tryz.prog 91 = false ∧
 isIf Tryz.prog 91 = false ∧
 zeroOf Tryz.prog 91 = some [.nil 2] ∧
 isInt Tryz.prog 91 = none ∧
 zB Tryz.prog 93 = 6 ∧
 zQ Tryz.prog 93 = true ∧
 known Tryz.prog 93 = true ∧
 Tryz.prog.bytesOf 93 = 104 ∧
 zZ Tryz.prog 93 = none ∧
 isStr Tryz.prog 93 = false ∧
 yx Tryz.prog 93 = false ∧
 zI Tryz.prog 93 = false ∧
 isIf Tryz.prog 93 = false ∧
 wA Tryz.prog 93 = true ∧
 fOf Tryz.prog 93 0 = some (0, 1, false) ∧
 fTy Tryz.prog 93 0 = 9 ∧
 fOf Tryz.prog 93 1 = some (1, 1, false) ∧
 fTy Tryz.prog 93 1 = 9 ∧
 fOf Tryz.prog 93 2 = some (2, 1, false) ∧
 fTy Tryz.prog 93 2 = 9 ∧
 fOf Tryz.prog 93 3 = some (3, 1, false) ∧
 fTy Tryz.prog 93 3 = 91 ∧
 fOf Tryz.prog 93 4 = some (4, 1, false) ∧
 fTy Tryz.prog 93 4 = 4 ∧
 fOf Tryz.prog 93 5 = some (5, 1, false) ∧
 fTy Tryz.prog 93 5 = 22 ∧
 zeroOf Tryz.prog 93 = some [.t (.str []), .t (.str []), .t (.str []), .nil 2, .t (.bool false), .nil 1] ∧
 isInt Tryz.prog 93 = none ∧
 zB Tryz.prog 99 = 2 ∧
 zQ Tryz.prog 99 = true ∧
 known Tryz.prog 99 = true ∧
 Tryz.prog.bytesOf 99 = 32 ∧
 zZ Tryz.prog 99 = none ∧
 isStr Tryz.prog 99 = false ∧
 yx Tryz.prog 99 = false ∧
 zI Tryz.prog 99 = false ∧
 isIf Tryz.prog 99 = false ∧
 wA Tryz.prog 99 = true ∧
 pQ Tryz.prog 99 = true ∧
 nFs Tryz.prog 99 = 2 ∧
 fOf Tryz.prog 99 0 = some (0, 1, false) ∧
 fTy Tryz.prog 99 0 = 9 ∧
 fOf Tryz.prog 99 1 = some (1, 1, false) ∧
 fTy Tryz.prog 99 1 = 9 ∧
 zeroOf Tryz.prog 99 = some [.t (.str []), .t (.str [])] ∧
 isInt Tryz.prog 99 = none ∧
 zB Tryz.prog 104 = 1 ∧
 zQ Tryz.prog 104 = false ∧
 known Tryz.prog 104 = true ∧
 Tryz.prog.bytesOf 104 = 8 ∧
 zZ Tryz.prog 104 = none ∧
 isStr Tryz.prog 104 = false ∧
 yx Tryz.prog 104 = false ∧
 zI Tryz.prog 104 = false ∧
 isIf Tryz.prog 104 = false ∧
 zeroOf Tryz.prog 104 = some [.t .nilf] ∧
 isInt Tryz.prog 104 = none ∧
 zB Tryz.prog 110 = 1 ∧
 zQ Tryz.prog 110 = false ∧
 known Tryz.prog 110 = true ∧
 Tryz.prog.bytesOf 110 = 8 ∧
 zZ Tryz.prog 110 = none ∧
 isStr Tryz.prog 110 = false ∧
 yx Tryz.prog 110 = false ∧
 zI Tryz.prog 110 = false ∧
 isIf Tryz.prog 110 = false ∧
 zeroOf Tryz.prog 110 = some [.t .nilf] ∧
 isInt Tryz.prog 110 = none ∧
 zB Tryz.prog 120 = 1 ∧
 zQ Tryz.prog 120 = false ∧
 known Tryz.prog 120 = true ∧
 Tryz.prog.bytesOf 120 = 8 ∧
 zZ Tryz.prog 120 = none ∧
 isStr Tryz.prog 120 = false ∧
 yx Tryz.prog 120 = false ∧
 zI Tryz.prog 120 = false ∧
 isIf Tryz.prog 120 = false ∧
 zeroOf Tryz.prog 120 = some [.t (.int .u64 0)] ∧
 isInt Tryz.prog 120 = some .u64 ∧
 zB Tryz.prog 122 = 1 ∧
 zQ Tryz.prog 122 = false ∧
 known Tryz.prog 122 = true ∧
 Tryz.prog.bytesOf 122 = 24 ∧
 zZ Tryz.prog 122 = some 150 ∧
 isStr Tryz.prog 122 = false ∧
 yx Tryz.prog 122 = true ∧
 zI Tryz.prog 122 = false ∧
 isIf Tryz.prog 122 = false ∧
 zeroOf Tryz.prog 122 = some [.nil 2] ∧
 isInt Tryz.prog 122 = none ∧
 zB Tryz.prog 132 = 4 ∧
 zQ Tryz.prog 132 = true ∧
 known Tryz.prog 132 = true ∧
 Tryz.prog.bytesOf 132 = 48 ∧
 zZ Tryz.prog 132 = none ∧
 isStr Tryz.prog 132 = false ∧
 yx Tryz.prog 132 = false ∧
 zI Tryz.prog 132 = false ∧
 isIf Tryz.prog 132 = false ∧
 wA Tryz.prog 132 = true ∧
 fOf Tryz.prog 132 0 = some (0, 1, false) ∧
 fTy Tryz.prog 132 0 = 3 ∧
 fOf Tryz.prog 132 1 = some (1, 1, false) ∧
 fTy Tryz.prog 132 1 = 3 ∧
 fOf Tryz.prog 132 2 = some (2, 1, false) ∧
 fTy Tryz.prog 132 2 = 3 ∧
 fOf Tryz.prog 132 3 = some (3, 1, false) ∧
 fTy Tryz.prog 132 3 = 22 ∧
 zeroOf Tryz.prog 132 = some [.t (.int .i64 0), .t (.int .i64 0), .t (.int .i64 0), .nil 1] ∧
 isInt Tryz.prog 132 = none ∧
 zB Tryz.prog 135 = 1 ∧
 zQ Tryz.prog 135 = false ∧
 known Tryz.prog 135 = true ∧
 Tryz.prog.bytesOf 135 = 8 ∧
 zZ Tryz.prog 135 = none ∧
 isStr Tryz.prog 135 = false ∧
 yx Tryz.prog 135 = false ∧
 zI Tryz.prog 135 = false ∧
 isIf Tryz.prog 135 = false ∧
 zeroOf Tryz.prog 135 = some [.t (.int .i64 0)] ∧
 isInt Tryz.prog 135 = some .i64 ∧
 zB Tryz.prog 144 = 1 ∧
 zQ Tryz.prog 144 = false ∧
 known Tryz.prog 144 = true ∧
 Tryz.prog.bytesOf 144 = 4 ∧
 zZ Tryz.prog 144 = none ∧
 isStr Tryz.prog 144 = false ∧
 yx Tryz.prog 144 = false ∧
 zI Tryz.prog 144 = false ∧
 isIf Tryz.prog 144 = false ∧
 zeroOf Tryz.prog 144 = some [.t (.int .u32 0)] ∧
 isInt Tryz.prog 144 = some .u32 ∧
 zB Tryz.prog 146 = 1 ∧
 zQ Tryz.prog 146 = false ∧
 known Tryz.prog 146 = true ∧
 Tryz.prog.bytesOf 146 = 8 ∧
 zZ Tryz.prog 146 = none ∧
 isStr Tryz.prog 146 = false ∧
 yx Tryz.prog 146 = false ∧
 zI Tryz.prog 146 = false ∧
 isIf Tryz.prog 146 = false ∧
 zeroOf Tryz.prog 146 = some [.t (.int .u64 0)] ∧
 isInt Tryz.prog 146 = some .u64 ∧
 zB Tryz.prog 148 = 1 ∧
 zQ Tryz.prog 148 = false ∧
 known Tryz.prog 148 = true ∧
 Tryz.prog.bytesOf 148 = 8 ∧
 zZ Tryz.prog 148 = none ∧
 isStr Tryz.prog 148 = false ∧
 yx Tryz.prog 148 = false ∧
 zI Tryz.prog 148 = false ∧
 isIf Tryz.prog 148 = false ∧
 zeroOf Tryz.prog 148 = some [.t .nilf] ∧
 isInt Tryz.prog 148 = none ∧
 zB Tryz.prog 150 = 2 ∧
 zQ Tryz.prog 150 = true ∧
 known Tryz.prog 150 = true ∧
 Tryz.prog.bytesOf 150 = 32 ∧
 zZ Tryz.prog 150 = none ∧
 isStr Tryz.prog 150 = false ∧
 yx Tryz.prog 150 = false ∧
 zI Tryz.prog 150 = false ∧
 isIf Tryz.prog 150 = false ∧
 wA Tryz.prog 150 = true ∧
 pQ Tryz.prog 150 = true ∧
 nFs Tryz.prog 150 = 2 ∧
 fOf Tryz.prog 150 0 = some (0, 1, false) ∧
 fTy Tryz.prog 150 0 = 9 ∧
 fOf Tryz.prog 150 1 = some (1, 1, false) ∧
 fTy Tryz.prog 150 1 = 9 ∧
 zeroOf Tryz.prog 150 = some [.t (.str []), .t (.str [])] ∧
 isInt Tryz.prog 150 = none ∧
 zB Tryz.prog 160 = 2 ∧
 zQ Tryz.prog 160 = true ∧
 known Tryz.prog 160 = true ∧
 Tryz.prog.bytesOf 160 = 32 ∧
 zZ Tryz.prog 160 = none ∧
 isStr Tryz.prog 160 = false ∧
 yx Tryz.prog 160 = false ∧
 zI Tryz.prog 160 = false ∧
 isIf Tryz.prog 160 = false ∧
 wA Tryz.prog 160 = true ∧
 pQ Tryz.prog 160 = true ∧
 nFs Tryz.prog 160 = 2 ∧
 fOf Tryz.prog 160 0 = some (0, 1, false) ∧
 fTy Tryz.prog 160 0 = 9 ∧
 fOf Tryz.prog 160 1 = some (1, 1, false) ∧
 fTy Tryz.prog 160 1 = 9 ∧
 zeroOf Tryz.prog 160 = some [.t (.str []), .t (.str [])] ∧
 isInt Tryz.prog 160 = none ∧
 zB Tryz.prog 169 = 1 ∧
 zQ Tryz.prog 169 = false ∧
 known Tryz.prog 169 = true ∧
 Tryz.prog.bytesOf 169 = 24 ∧
 zZ Tryz.prog 169 = some 3 ∧
 isStr Tryz.prog 169 = false ∧
 yx Tryz.prog 169 = true ∧
 zI Tryz.prog 169 = false ∧
 isIf Tryz.prog 169 = false ∧
 zeroOf Tryz.prog 169 = some [.nil 1] ∧
 isInt Tryz.prog 169 = none ∧
 zB Tryz.prog 170 = 1 ∧
 zQ Tryz.prog 170 = false ∧
 known Tryz.prog 170 = true ∧
 Tryz.prog.bytesOf 170 = 8 ∧
 zZ Tryz.prog 170 = none ∧
 isStr Tryz.prog 170 = false ∧
 yx Tryz.prog 170 = false ∧
 zI Tryz.prog 170 = false ∧
 isIf Tryz.prog 170 = false ∧
 zeroOf Tryz.prog 170 = some [.t (.int .u64 0)] ∧
 isInt Tryz.prog 170 = some .u64 ∧
 zB Tryz.prog 174 = 1 ∧
 zQ Tryz.prog 174 = false ∧
 known Tryz.prog 174 = true ∧
 Tryz.prog.bytesOf 174 = 8 ∧
 zZ Tryz.prog 174 = none ∧
 isStr Tryz.prog 174 = false ∧
 yx Tryz.prog 174 = false ∧
 zI Tryz.prog 174 = false ∧
 isIf Tryz.prog 174 = false ∧
 zeroOf Tryz.prog 174 = some [.t .nilp] ∧
 isInt Tryz.prog 174 = none ∧
 zB Tryz.prog 185 = 1 ∧
 zQ Tryz.prog 185 = false ∧
 known Tryz.prog 185 = true ∧
 Tryz.prog.bytesOf 185 = 8 ∧
 zZ Tryz.prog 185 = none ∧
 isStr Tryz.prog 185 = false ∧
 yx Tryz.prog 185 = false ∧
 zI Tryz.prog 185 = false ∧
 isIf Tryz.prog 185 = false ∧
 zeroOf Tryz.prog 185 = some [.t .nilp] ∧
 isInt Tryz.prog 185 = none ∧
 zB Tryz.prog 192 = 1 ∧
 zQ Tryz.prog 192 = false ∧
 known Tryz.prog 192 = true ∧
 Tryz.prog.bytesOf 192 = 16 ∧
 zZ Tryz.prog 192 = none ∧
 isStr Tryz.prog 192 = false ∧
 yx Tryz.prog 192 = false ∧
 zI Tryz.prog 192 = false ∧
 isIf Tryz.prog 192 = true ∧
 zeroOf Tryz.prog 192 = some [.t .nili] ∧
 isInt Tryz.prog 192 = none :=
 ⟨TY_0, TY_1, TY_2, TY_3, TY_4, TY_5, TY_6, TY_7, TY_8, TY_9, TY_10, TY_11, TY_12, TY_13, TY_14, TY_15, TY_16, TY_17, TY_18, TY_19, TY_20, TY_21, TY_22, TY_23, TY_24, TY_25, TY_26, TY_27, TY_28, TY_29, TY_30, TY_31, TY_32, TY_33, TY_34, TY_35, TY_36, TY_37, TY_38, TY_39, TY_40, TY_41, TY_42, TY_43, TY_44, TY_45, TY_46, TY_47, TY_48, TY_49, TY_50, TY_51, TY_52, TY_53, TY_54, TY_55, TY_56, TY_57, TY_58, TY_59, TY_60, TY_61, TY_62, TY_63, TY_64, TY_65, TY_66, TY_67, TY_68, TY_69, TY_70, TY_71, TY_72, TY_73, TY_74, TY_75, TY_76, TY_77, TY_78, TY_79, TY_80, TY_81, TY_82, TY_83, TY_84, TY_85, TY_86, TY_87, TY_88, TY_89, TY_90, TY_91, TY_92, TY_93, TY_94, TY_95, TY_96, TY_97, TY_98, TY_99, Kt, Ks, Kr, Kq, Kp, Ko, Kn, Km, Kl, Kk, Kj, Ki, Kh, Kg, Kf, Ke, Kd, Kc, Kb, Ka, K9, K8, K7, K6, K5, K4, K3, K2, K1, K0, LZ, LY, LX, LW, LV, LU, LS, LR, LQ, LO, LM, LK, LJ, LI, LH, LG, LF, LD, LC, LB, LA, Lz, Ly, Lx, Lw, Lv, Lu, Lt, Ls, Lr, Lq, Lp, Lo, Ln, Lm, Ll, Lk, Lj, Li, Lh, Lg, Lf, Ld, Lc, Lb, La, L9, L8, L7, L6, L5, L3, MZ, MY, MX, MW, MV, MU, MT, MS, MR, MQ, MP, MO, MN, MM, ML, MK, MJ, MI, MH, MG, MF, ME, MD, MC, MB, MA, Mz, My, Mx, Mw, Mv, Mu, Mt, Ms, Mr, Mq, Mp, Mo, Mn, Mm, Ml, Mk, Mj, Mi, Mh, Mg, Mf, Me, Md, Mc, Mb, Ma, M9, M8, M7, M6, M5, M4, M3, M1, M0, NZ, NY, NX, NW, NV, NU, NT, NS, NR, NQ, NP, NO, NN, NM, NL, NK, NJ, NI, NH, NG, NF, ND, NC, NB, NA, Nz, Ny, Nx, Nw, Nv, Nu, Nt, Nr, Nq, Np, No, Nn, Nk, Nj, Ni, Nh, Ng, Nf, Nd, Nc, N9, N8, N7, N6, N5, N4, N3, N2, N1, N0, OZ, OY, OX, OW, OV, OU, OT, OS, OR, OQ, OP, OO, ON, OM, OL, OK, OJ, OI, OH, OG, OF, OE, OD, OC, OB, OA, Oz, Oy, Ox, Ov, Ou, Ot, Oq, Oo, On, Om, Ol, Oj, Oi, Oh, Og, Of, Oe, Od, Oc, Ob, Oa, O9, O8, O7, O6, O5, O4, O3, O2, O1, O0, PZ, PY, PX, PW, PV, PU, PT, PS, PR, PQ, PO, PN, PL, PK, PJ, PI, PH, PG, PF, PE, PD, PC, PB, PA, Pz, Py, Px, Pw, Pv, Pu, Pt, Ps, Pr, Pq, Pp, Po, Pn, Pm, Pl, Pk, Pj, Ph, Pg, Pf, Pe, Pd, Pc, Pb, Pa, P9, P8, P7, P6, P5, P4, P3, P2, P1, P0, QZ, QY, QX, QW, QV, QU, QT, QS, QR, QQ, QP, QO, QN, QM, QL, QK, QJ, QI, QH, QG, QF, QE, QD, QC, QB, QA, Qz, Qy, Qx, Qw, Qv, Qu, Qt, Qs, Qr, Qq, Qp, Qo, Qn, Qm, Ql, Qk, Qj, Qi, Qh, Qg, Qf, Qe⟩
end Go.Proofs.YtonbkdklidfmfaaGreatDoor
/- What slices.Clone answers where its answer is to be written: a row of its own. Conditions: those of each lemma. -/
namespace Go.Proofs.YtonbkdklidfmfaaGreatDoor
open E
set_option linter.unusedSimpArgs false
set_option linter.unusedVariables false
set_option maxRecDepth 100000
namespace Z5
def pmT (_ _ : Nat) : PM := .pure
noncomputable def pol : Pol := dB Tryz.prog pmT zA zz (fun _ => true) (fun _ _ => none)
theorem lz : ∀ f fn c, pol.no f = false → Tryz.prog.funcs[f]? = some fn → fn.body = some c → xy (nr Tryz.prog pol f) fn.ntmps c = true := fK
def jC (_ : Nat) : Bool := false
def ghT (_ _ : Nat) : List Gh := []
def dmT (_ _ : Nat) : Bool := false
theorem DRW : ∀ (rc : Rec) (f m p n : Nat) (fs : List Fr) (k : qc) (e : Env) (h : Heap) (l : List Oper), goC ⟨Tryz.prog, pol, rc, f, m⟩ (.region n l.toArray true) p fs k e h = goD ⟨Tryz.prog, pol, rc, f, m⟩ (l.all (yI pol f)) (jC f && dmT f n) l fs k e h := fun _ _ _ _ _ _ _ _ _ _ => eH _ _ _ _ _ _ _ _ rfl
theorem LVS : ∀ f p, pol.live f p = zA f p := fun _ _ => rfl
theorem OVS : ∀ f p, pol.outs f p = zz f p := fun _ _ => rfl
theorem PMS : ∀ f d, pol.pm f d = pmT f d := fun _ _ => rfl
theorem OWS : ∀ f, pol.own f = jC f := fun _ => rfl
theorem DMS : ∀ f n, pol.dm f n = dmT f n := fun _ _ => rfl
theorem GHS : ∀ f n, pol.gh f n = ghT f n := fun _ _ => rfl
theorem GS : type_of% @LVS ∧ type_of% @OVS ∧ type_of% @LTS ∧ type_of% @TYS ∧ type_of% @PMS ∧ type_of% @OWS ∧ type_of% @GHS ∧ type_of% @DMS ∧ type_of% @pmT.eq_1 ∧ type_of% @jC.eq_1 ∧ type_of% @ghT.eq_1 ∧ type_of% @dmT.eq_1 := ⟨@LVS, @OVS, @LTS, @TYS, @PMS, @OWS, @GHS, @DMS, @pmT.eq_1, @jC.eq_1, @ghT.eq_1, @dmT.eq_1⟩
theorem Ku (W0 : World) : lJ Tryz.prog W0 pol := ⟨fun g args v hv => (by cases hv), fun g args h v h' hv => (by cases hv)⟩
end Z5
def sV (sz : Nat) (args : List V) (h : Heap) : Option (V × Heap) :=
 match args, h with
 | [.t (.list s es)], [] => if s = sz ∧ es.length ≤ 4194304 then some (.sl 0 0 es.length none, [.ts sz es]) else none
 | _, _ => none
theorem jr (W0 : World) (g sz : Nat) (ht : EV Tryz.prog Z5.pol (.callO false g [.t (.nlist true sz [])] []) = some (.call (.nil sz) []))
 (hf : ∀ es : List (List T), es.length ≤ 4194304 → EV Tryz.prog Z5.pol (.callO false g [.t (.nlist false sz es)] []) = some (.call (.sl 0 0 es.length none) [.ts sz es])) : qM Tryz.prog W0 g (sV sz) := by
 intro args h v h' hv
 unfold sV at hv
 split at hv
 · rename_i s es
   split at hv
   · rename_i hl
     obtain ⟨rfl, hl⟩ := hl
     cases hv
     refine ⟨(lv (Z5.Ku W0) Z5.lz ht).1, fun Ow w F ρ us hB hS hO hu => ?_⟩
     obtain ⟨us⟩ := us
     change RVs w F ρ us _ at hu
     cases hu with
     | cons h1 h2 =>
     cases h2
     cases h1 with
     | t u x hx =>
     have hx0 := hx
     cases hx with
     | list a n c sz es g' hn hc h0 hz hr =>
     cases ha : a.isNone with
     | false =>
      exact (lv (Z5.Ku W0) Z5.lz (hf es hl)).2 Ow w F ρ _ hB hS hO (.cons (.t _ _ (.nlist _ _ _ _ _ _ ha hx0)) .nil)
     | true =>
      have hes : es = [] := by
       cases es with
       | nil => rfl
       | cons e r =>
        obtain ⟨b, o, e1, _⟩ := h0 (by simp at hn; omega)
        rw [e1] at ha; cases ha
      subst hes
      refine ((lv (Z5.Ku W0) Z5.lz ht).2 Ow w F ρ _ hB hS hO (.cons (.t _ _ (.nlist _ _ _ _ _ _ ha hx0)) .nil)).mono fun e w' hp => ?_
      obtain ⟨u, F', ρ', e1, e2, e3, e4, e5⟩ := hp
      cases e2 with
      | nil _ =>
      refine ⟨_, F', fun r => if r = 0 then some none else ρ' r, e1, .slP 0 none _ (by simp) (.inl rfl), ⟨?_, ?_, e3.fsz, ?_, ⟨fun _ _ _ _ => False, fun r i j x ho => ?_, fun _ _ _ _ h => h.elim, fun _ _ _ _ _ _ _ h => h.elim, fun _ _ _ _ _ _ _ h => h.elim⟩⟩, e4, fun r l hr => by simp at hr⟩
      · intro r b hr
        match r with
        | 0 => simp at hr; subst hr; exact .inr ⟨by simp, rfl⟩
        | r + 1 => simp at hr
      · intro r r' b b' L L' hr hr' _ _ hL
        match r with
        | 0 => simp at hL
        | r + 1 => simp at hr
      · intro r hr
        have h1 := e3.out r (Nat.zero_le _)
        match r with
        | 0 => simp at hr
        | r + 1 => simpa using h1
      · obtain ⟨s, e, c, h1, _⟩ := ho
        match r with
        | 0 => simp at h1
        | r + 1 => simp at h1
   · cases hv
 · cases hv
namespace Z5
theorem clS_t : EV Tryz.prog pol (.callO false 77 [.t (.nlist true 1 [])] []) = some (.call (.nil 1) []) := by
 refine zP Tryz.func77 rfl (by kernel_rfl) ?_
 unfold Tryz.f77
 simp (disch := ((try simp only [LL]); omega)) only [↓GO, ↓DRW, GA, GX, ren, zo, za, refs, z8, cst, zr, isC, bin, una, z7, zd, blt, asArg, zg, zc, zf, z6, E.mkS, unN, ze, zq, zb, GS, simprocAttr]
theorem clS_f (es : List (List T)) (hl : es.length ≤ 4194304) : EV Tryz.prog pol (.callO false 77 [.t (.nlist false 1 es)] []) = some (.call (.sl 0 0 es.length none) [.ts 1 es]) := by
 refine zP Tryz.func77 rfl (by kernel_rfl) ?_
 unfold Tryz.f77
 simp (disch := ((try simp only [LL]); omega)) only [↓GO, ↓DRW, GA, GX, ren, zo, za, refs, z8, cst, zr, isC, bin, una, z7, zd, blt, asArg, zg, zc, zf, z6, E.mkS, unN, ze, zq, zb, GS, simprocAttr, xb]
theorem clM_t : EV Tryz.prog pol (.callO false 94 [.t (.nlist true 2 [])] []) = some (.call (.nil 2) []) := by
 refine zP Tryz.func94 rfl (by kernel_rfl) ?_
 unfold Tryz.f94
 simp (disch := ((try simp only [LL]); omega)) only [↓GO, ↓DRW, GA, GX, ren, zo, za, refs, z8, cst, zr, isC, bin, una, z7, zd, blt, asArg, zg, zc, zf, z6, E.mkS, unN, ze, zq, zb, GS, simprocAttr]
theorem clM_f (es : List (List T)) (hl : es.length ≤ 4194304) : EV Tryz.prog pol (.callO false 94 [.t (.nlist false 2 es)] []) = some (.call (.sl 0 0 es.length none) [.ts 2 es]) := by
 refine zP Tryz.func94 rfl (by kernel_rfl) ?_
 unfold Tryz.f94
 simp (disch := ((try simp only [LL]); omega)) only [↓GO, ↓DRW, GA, GX, ren, zo, za, refs, z8, cst, zr, isC, bin, una, z7, zd, blt, asArg, zg, zc, zf, z6, E.mkS, unN, ze, zq, zb, GS, simprocAttr, xb]
end Z5
theorem Yt (W0 : World) : qM Tryz.prog W0 77 (sV 1) := jr W0 _ 1 Z5.clS_t Z5.clS_f
theorem Yu (W0 : World) : qM Tryz.prog W0 94 (sV 2) := jr W0 _ 2 Z5.clM_t Z5.clM_f
end Go.Proofs.YtonbkdklidfmfaaGreatDoor
/- The seat's facts: the policy; what is shown by other means. Conditions: none. -/
namespace Go.Proofs.YtonbkdklidfmfaaGreatDoor
open E
set_option linter.unusedSimpArgs false
set_option linter.unusedVariables false
set_option maxRecDepth 100000
/-- the calls that do not hand on frozen values, or values as they are -/
def pmT (f d : Nat) : PM :=
 if f = 25 ∧ (d = 6 ∨ d = 18) then .opn false else
 if f = 3 ∧ (d = 23 ∨ d = 38 ∨ d = 49 ∨ d = 61) then .opn false else
 if f = 3 ∧ d = 26 then .brw else
 if f = 4 ∧ (d = 23 ∨ d = 38 ∨ d = 49 ∨ d = 61) then .opn false else
 if f = 4 ∧ d = 26 then .brw else
 if f = 10 ∧ (d = 14 ∨ d = 28 ∨ d = 34 ∨ d = 38 ∨ d = 56 ∨ d = 64 ∨ d = 106) then .opn false else
 if f = 56 ∧ d = 10 then .opn false else
 if f = 15 ∧ d = 15 then .opn false else
 if f = 8 ∧ d = 69 then .frz else
 if f = 23 ∧ (d = 14 ∨ d = 47) then .opn false else
 if f = 27 ∧ d = 37 then .opn false else
 if f = 71 ∧ (d = 7 ∨ d = 11 ∨ d = 13) then .opn false else
 if f = 9 ∧ (d = 6 ∨ d = 10) then .opn false else
 if f = 44 ∧ d = 20 then .opn false else
 if f = 93 ∧ (d = 15 ∨ d = 22) then .opn false else
 if f = 12 ∧ (d = 8 ∨ d = 12) then .opn false else
 if f = 59 ∧ (d = 42 ∨ d = 58) then .opn false else
 if f = 45 ∧ d = 8 then .opn false else
 if f = 45 ∧ (d = 19 ∨ d = 22) then .brw else
 if f = 181 ∧ d = 11 then .frz else
 if f = 159 ∧ d = 20 then .opn false else
 .pure
def jC (f : Nat) : Bool :=
 if f = 3 then true else
 if f = 4 then true else
 if f = 10 then true else
 if f = 99 then true else
 if f = 50 then true else
 if f = 44 then true else
 if f = 45 then true else
 if f = 49 then true else
 false
def ghT (f n : Nat) : List Gh :=
 if f = 44 ∧ n = 4 then [⟨.fold, 3, some 4, [(3, false), (5, false)]⟩] else
 if f = 59 ∧ n = 10 then [⟨.unf, 0, some 5, [(3, true)]⟩] else
 if f = 59 ∧ n = 13 then [⟨.unf, 0, some 5, [(5, true)]⟩] else
 if f = 59 ∧ n = 3 then [⟨.fold, 0, some 5, [(3, true), (5, true)]⟩] else
 if f = 50 ∧ n = 7 then [⟨.unf, 0, some 6, [(3, true), (5, true)]⟩] else
 if f = 50 ∧ n = 10 then [⟨.fold, 0, some 5, [(3, true), (5, true)]⟩] else
 if f = 50 ∧ n = 6 then [⟨.fgt, 0, some 6, [(3, true), (5, true)]⟩] else
 if f = 10 ∧ n = 2 then [⟨.fold, 5, none, [(1, false)]⟩, ⟨.unf, 5, none, [(1, false)]⟩] else
 if f = 10 ∧ n = 11 then [⟨.fold, 5, none, [(0, true), (1, false)]⟩, ⟨.unf, 5, none, [(0, true), (1, false)]⟩] else
 if f = 10 ∧ n = 13 then [⟨.unf, 41, some 43, [(5, true)]⟩] else
 if f = 10 ∧ n = 15 then [⟨.fold, 41, some 43, [(5, true)]⟩] else
 if f = 10 ∧ n = 22 then [⟨.unf, 70, some 72, [(3, true), (5, true)]⟩] else
 if f = 10 ∧ n = 25 then [⟨.fgt, 70, some 72, [(3, true), (5, true)]⟩, ⟨.fold, 8, none, [(3, true), (5, true)]⟩] else
 if f = 10 ∧ n = 29 then [⟨.fold, 5, none, [(0, true), (1, false)]⟩, ⟨.unf, 5, none, [(0, true), (1, false)]⟩] else
 if f = 10 ∧ n = 33 then [⟨.unf, 12, none, [(3, true)]⟩] else
 if f = 10 ∧ n = 34 then [⟨.fold, 12, none, [(3, true)]⟩] else
 if f = 10 ∧ n = 38 then [⟨.fold, 12, none, [(5, true)]⟩] else
 if f = 25 ∧ n = 6 then [⟨.fold, 3, none, [(1, false)]⟩, ⟨.unf, 3, none, [(1, false)]⟩] else
 if f = 42 ∧ n = 2 then [⟨.fold, 5, none, [(0, true), (1, true)]⟩, ⟨.unf, 5, none, [(0, true), (1, true)]⟩] else
 if f = 45 ∧ n = 7 then [⟨.fold, 29, none, [(3, false), (5, false)]⟩] else
 []
def dmT (f n : Nat) : Bool :=
 if f = 10 ∧ n = 14 then true else
 if f = 45 ∧ n = 5 then true else
 false
def drT (_ : Nat) : Bool := true
/-- what is shown by other means -/
def gk (f : Nat) (args : List V) : Option V :=
 if f = 205 then ZK args else
 if f = 108 then lj args else
 if f = 217 then ZL args else
 if f = 202 then ZS args else
 if f = 185 then SJ args else
 if f = 152 then iT args else
 none
/-- what is shown by other means, on rows -/
def lG (f : Nat) (args : List V) (h : Heap) : Option (V × Heap) :=
 if f = 79 then ZC args h else
 if f = 105 then T0 args h else
 if f = 77 then sV 1 args h else
 if f = 94 then sV 2 args h else
 none
noncomputable def pol : Pol := dB Tryz.prog pmT zA zz drT gk lG jC ghT dmT
theorem lz : ∀ f fn c, pol.no f = false → Tryz.prog.funcs[f]? = some fn → fn.body = some c → xy (nr Tryz.prog pol f) fn.ntmps c = true := fK
theorem DRW : ∀ (rc : Rec) (f m p n : Nat) (fs : List Fr) (k : qc) (e : Env) (h : Heap) (l : List Oper), goC ⟨Tryz.prog, pol, rc, f, m⟩ (.region n l.toArray true) p fs k e h = goD ⟨Tryz.prog, pol, rc, f, m⟩ (l.all (yI pol f)) (jC f && dmT f n) l fs k e h := fun _ _ _ _ _ _ _ _ _ _ => eH _ _ _ _ _ _ _ _ rfl
theorem LVS : ∀ f p, pol.live f p = zA f p := fun _ _ => rfl
theorem OVS : ∀ f p, pol.outs f p = zz f p := fun _ _ => rfl
theorem PMS : ∀ f d, pol.pm f d = pmT f d := fun _ _ => rfl
theorem OWS : ∀ f, pol.own f = jC f := fun _ => rfl
theorem DMS : ∀ f n, pol.dm f n = dmT f n := fun _ _ => rfl
theorem GHS : ∀ f n, pol.gh f n = ghT f n := fun _ _ => rfl
theorem GS : type_of% @LVS ∧ type_of% @OVS ∧ type_of% @LTS ∧ type_of% @TYS ∧ type_of% @PMS ∧ type_of% @OWS ∧ type_of% @GHS ∧ type_of% @DMS ∧ type_of% @pmT.eq_1 ∧ type_of% @jC.eq_1 ∧ type_of% @ghT.eq_1 ∧ type_of% @dmT.eq_1 := ⟨@LVS, @OVS, @LTS, @TYS, @PMS, @OWS, @GHS, @DMS, @pmT.eq_1, @jC.eq_1, @ghT.eq_1, @dmT.eq_1⟩
theorem mY (f : Nat) (args : List V) (h : Heap) : pol.extO f args h = lG f args h := rfl
theorem pB (f : Nat) (args : List V) : pol.ext f args = gk f args := rfl
/-- what the start's memory has to hold -/
def gf (W0 : World) : Prop :=
 Lib.TabIs Tryz.prog W0 "internal/strconv.uint64pow10" .u64 Lib.pow10Tab ∧
 ((∃ tp p, W0.var? Tryz.prog "strconv.ErrSyntax" = some #[.iface tp p]) ∧ (∃ tp p, W0.var? Tryz.prog "strconv.ErrRange" = some #[.iface tp p])) ∧
 (∃ m, W0.cell? ⟨Tryz.tD.g 1, 0, none⟩ = some (.int .i64 m)) ∧
 True
theorem TV (W0 : World) (hL : gf W0) (g : Nat) : qM Tryz.prog W0 g (pol.extO g) := by
 intro args h v h' hv
 have hv' : lG g args h = some (v, h') := hv
 clear hv
 unfold lG at hv'
 by_cases hg : g = 79
 · subst hg
   rw [if_pos rfl] at hv'
   exact Tf W0 args h v h' hv'
 rw [if_neg hg] at hv'
 clear hg
 by_cases hg : g = 105
 · subst hg
   rw [if_pos rfl] at hv'
   exact S1 W0 args h v h' hv'
 rw [if_neg hg] at hv'
 clear hg
 by_cases hg : g = 77
 · subst hg
   rw [if_pos rfl] at hv'
   exact Yt W0 args h v h' hv'
 rw [if_neg hg] at hv'
 clear hg
 by_cases hg : g = 94
 · subst hg
   rw [if_pos rfl] at hv'
   exact Yu W0 args h v h' hv'
 rw [if_neg hg] at hv'
 clear hg
 cases hv'
theorem RD (W0 : World) (hL : gf W0) : lJ Tryz.prog W0 pol := by
 refine ⟨?_, TV W0 hL⟩
 intro g args v hv
 have hv' : gk g args = some v := hv
 clear hv
 unfold gk at hv'
 by_cases hg : g = 205
 · subst hg
   rw [if_pos rfl] at hv'
   exact TN W0 args v hv'
 rw [if_neg hg] at hv'
 clear hg
 by_cases hg : g = 108
 · subst hg
   rw [if_pos rfl] at hv'
   exact cn W0 args v hv'
 rw [if_neg hg] at hv'
 clear hg
 by_cases hg : g = 217
 · subst hg
   rw [if_pos rfl] at hv'
   exact TO W0 hL.1 args v hv'
 rw [if_neg hg] at hv'
 clear hg
 by_cases hg : g = 202
 · subst hg
   rw [if_pos rfl] at hv'
   exact Sv W0 hL.2.1.1 hL.2.1.2 args v hv'
 rw [if_neg hg] at hv'
 clear hg
 by_cases hg : g = 185
 · subst hg
   rw [if_pos rfl] at hv'
   exact RG W0 hL.2.2.1 args v hv'
 rw [if_neg hg] at hv'
 clear hg
 by_cases hg : g = 152
 · subst hg
   rw [if_pos rfl] at hv'
   exact XW W0 hL.2.2.1 args v hv'
 rw [if_neg hg] at hv'
 clear hg
 cases hv'
theorem RX (ks : List Str) (sep : Str) (h1 : ks.length ≤ 140737488355328) (h2 : (Lib.join ks sep).length ≤ 140737488355328) : zm (EV Tryz.prog pol) 205 [.t (.list 1 (strs ks)), .t (.str sep)] = some (.t (.str (Lib.join ks sep))) :=
 zu (lD (by rw [pB]; unfold gk; simp (config := { decide := true }) only [if_true, if_false, reduceIte, ZK, sr]; rw [if_pos ⟨h1, h2⟩]))
theorem RY (n : Int) (h1 : -9223372036854775808 ≤ n) (h2 : n ≤ 9223372036854775807) : zm (EV Tryz.prog pol) 217 [.t (.int .i64 n)] = some (.t (.str (Lib.itoa n))) :=
 zu (lD (by rw [pB]; unfold gk; simp (config := { decide := true }) only [if_true, if_false, reduceIte, ZL]; rw [if_pos ⟨h1, h2⟩]))
theorem Q4 (s : Str) (h : s.length ≤ 281474976710656) : zm (EV Tryz.prog pol) 202 [.t (.str s)] = some (match Lib.atoiAll s with
 | .ok v => .tup [.t (.int .i64 v), .t .nili]
 | Lib.NumEnd.syntax => .tup [.t (.int .i64 0), .t .nni]
 | .range => .tup [.t (.int .i64 (Lib.atoiSat s)), .t .nni]) :=
 zu (lD (by rw [pB]; unfold gk; simp (config := { decide := true }) only [if_true, if_false, reduceIte, ZS]; rw [if_pos h]; cases Lib.atoiAll s <;> rfl))
theorem c_cut (s sep : Str) (h : s.length < 4294967281) : zm (EV Tryz.prog pol) 185 [.t (.str s), .t (.str sep)] = some (.tup [.t (.str (Lib.cut s sep).1), .t (.str (Lib.cut s sep).2.1), .t (.bool (Lib.cut s sep).2.2)]) :=
 zu (lD (by rw [pB]; unfold gk; simp (config := { decide := true }) only [if_true, if_false, reduceIte, SJ]; rw [if_pos h]))
theorem iO (s sep : Str) (h : s.length < 4294967281) (h1 : 1 ≤ sep.length) : zm (EV Tryz.prog pol) 152 [.t (.str s), .t (.str sep)] = some (.t (.list 1 (strs (ly s sep)))) :=
 zu (lD (by rw [pB]; unfold gk; simp (config := { decide := true }) only [if_true, if_false, reduceIte, iT]; rw [if_pos ⟨h, h1⟩]))
theorem tu (es : List (List T)) (h : es.length ≤ 4194304) : EV Tryz.prog pol (.callO false 77 [.t (.list 1 es)] []) = some (.call (.sl 0 0 es.length none) [.ts 1 es]) :=
 iS (x := (.sl 0 0 es.length none, [.ts 1 es])) (by rw [mY]; unfold lG; simp (config := { decide := true }) only [if_true, if_false, reduceIte, sV]; rw [if_pos ⟨trivial, h⟩])
theorem dp (es : List (List T)) (h : es.length ≤ 4194304) : EV Tryz.prog pol (.callO false 94 [.t (.list 2 es)] []) = some (.call (.sl 0 0 es.length none) [.ts 2 es]) :=
 iS (x := (.sl 0 0 es.length none, [.ts 2 es])) (by rw [mY]; unfold lG; simp (config := { decide := true }) only [if_true, if_false, reduceIte, sV]; rw [if_pos ⟨trivial, h⟩])
theorem RN (ks : List Str) (h : ks.length ≤ 1073741824) (n : Nat) (hn : n = ks.length) (cap : Option Nat) : EV Tryz.prog pol (.callO false 79 [.sl 0 0 n cap] [.ts 1 (strs ks)]) = some (.call (.tup []) [.ts 1 (strs (wK ks))]) :=
 iS (x := (.tup [], [.ts 1 (strs (wK ks))])) (by rw [mY]; unfold lG; simp (config := { decide := true }) only [if_true, if_false, reduceIte, ZC, sr]; rw [if_pos ⟨hn, h⟩])
end Go.Proofs.YtonbkdklidfmfaaGreatDoor
/- The start's memory: what the rows' lists give. Conditions: none. -/
namespace Go.Proofs.YtonbkdklidfmfaaGreatDoor
open Go.ChangeShapes Go.WideShapes Go.ChangeAt Go.RowKit E
set_option maxRecDepth 100000
set_option linter.unusedVariables false
set_option linter.unusedSimpArgs false
theorem star : "*" ++ "errors.errorString" = "*errors.errorString" := by decide
theorem rowE (u : TypeId) (h : Tryz.prog.typeName? 3 u = some "*errors.errorString") : u = 227 :=
 typeName_ptr_named (nm := "errors.errorString") (by rw [star]; kernel_rfl) (by kernel_rfl) (by decide) u (by rw [star]; exact h)
/-- what the lists give -/
theorem cb {W : World} (hS : W.ShapedOpen Tryz.prog) (h1 : ∃ r, laidMet Tryz.prog (("internal/strconv.uint64pow10", Rows.laid_internal_strconv_uint64pow10) :: r) W)
 (h2 : ∃ r, laidMet Tryz.prog (("strconv.ErrRange", Rows.laid_strconv_ErrRange) :: r) W) (h3 : ∃ r, laidMet Tryz.prog (("strconv.ErrSyntax", Rows.laid_strconv_ErrSyntax) :: r) W) : gf W := by
 obtain ⟨r1, h1⟩ := h1
 obtain ⟨r2, h2⟩ := h2
 obtain ⟨r3, h3⟩ := h3
 refine ⟨Lib.tabIs_of_head (k := .u64) (zs := Lib.pow10Tab) (rest := r1) (show Tryz.prog.globalNamed "internal/strconv.uint64pow10" = some 5 by kernel_rfl) (show (Tryz.prog.globals[5]?).map (·.type) = some 235 by kernel_rfl)
  Tryz.underlying235 Tryz.underlying146 (by kernel_rfl) (by kernel_rfl) h1, ⟨?_, ?_⟩, ?_, trivial⟩
 · obtain ⟨a, s, q1, _⟩ := laid_sentinel (nm := "*errors.errorString") h3 (show Tryz.prog.globalNamed "strconv.ErrSyntax" = some 3 by kernel_rfl) (show (Tryz.prog.globals[3]?).map (·.type) = some 192 by kernel_rfl) Tryz.underlying192 rowE
    Tryz.underlying227 Tryz.underlying229 rfl rfl Tryz.underlying9 (by kernel_rfl) (by kernel_rfl)
   exact ⟨_, _, q1⟩
 · obtain ⟨a, s, q1, _⟩ := laid_sentinel (nm := "*errors.errorString") h2 (show Tryz.prog.globalNamed "strconv.ErrRange" = some 4 by kernel_rfl) (show (Tryz.prog.globals[4]?).map (·.type) = some 192 by kernel_rfl) Tryz.underlying192 rowE
    Tryz.underlying227 Tryz.underlying229 rfl rfl Tryz.underlying9 (by kernel_rfl) (by kernel_rfl)
   exact ⟨_, _, q1⟩
 · exact Tryz.ek.s1_3 W hS
end Go.Proofs.YtonbkdklidfmfaaGreatDoor
/- The laws' own functions over lists of texts. Conditions: those of each lemma. -/
namespace Go.Proofs.YtonbkdklidfmfaaGreatDoor
open E
set_option linter.unusedSimpArgs false
set_option linter.unusedVariables false
set_option maxRecDepth 100000
theorem oX (ks : List (List UInt8)) (hl : ks.length ≤ 9223372036854775807) (hs : ∀ s ∈ ks, s.length ≤ 9223372036854775807) : ∀ (d i : Nat) (n : Int), ks.length - i = d → i ≤ ks.length → 0 ≤ n → n ≤ 1048576 →
 (0 ≤ n - (ya (ks.drop i) : Int) → EV Tryz.prog pol (.loop 35 122 0 [.t (.list 1 (strs ks)), .t (.int .i64 n), .t (.int .i64 (i : Int))] []) = some (.loop (.exit 0) [.t (.int .i64 (n - (ya (ks.drop i) : Int))), .bad] [])) ∧
 (n - (ya (ks.drop i) : Int) < 0 → ∃ v, EV Tryz.prog pol (.loop 35 122 0 [.t (.list 1 (strs ks)), .t (.int .i64 n), .t (.int .i64 (i : Int))] []) = some (.loop .ret [v, .t (.int .i64 (-1))] []))
 | 0, i, n, hd, hi, h0, h1 => by
  have hi' : i = ks.length := by omega
  subst hi'
  have hb : ya (ks.drop ks.length) = 0 := by simp [ya]
  rw [hb]
  refine ⟨fun _ => ?_, fun h => by omega⟩
  refine zk Tryz.func35 rfl rfl ?_
  have c : decide (((ks.length : Nat) : Int) < ((ks.length : Nat) : Int)) = false := by simp
  simp only [↓GO, ↓DRW, GA, GX, ren, zo, za, refs, z8, cst, zr, isC, bin, una, z7, zd, blt, asArg, zg, zc, zf, z6, E.mkS, unN, ze, zq, zb, GS, simprocAttr, zi, c]
  simp
 | d + 1, i, n, hd, hi, h0, h1 => by
  have hlt : i < ks.length := by omega
  rw [cw ks i hlt]
  have c : decide ((i : Int) < ((ks.length : Nat) : Int)) = true := by simp; omega
  have hsl : ks[i].length ≤ 9223372036854775807 := hs _ (List.getElem_mem hlt)
  have IH := oX ks hl hs d (i + 1) (n - (ks[i].length : Int)) (by omega) (by omega)
  have e1 : (i : Int) + 1 = ((i + 1 : Nat) : Int) := by omega
  by_cases hneg : n - (ks[i].length : Int) < 0
  · refine ⟨fun h => by omega, fun _ => ⟨.t (.int .i64 (n - (ks[i].length : Int))), ?_⟩⟩
    refine zk Tryz.func35 rfl rfl ?_
    have c2 : decide (n - (ks[i].length : Int) < 0) = true := by simpa using hneg
    simp (disch := omega) only [↓GO, ↓DRW, GA, GX, ren, zo, za, refs, z8, cst, zr, isC, bin, una, z7, zd, blt, asArg, zg, zc, zf, z6, E.mkS, unN, ze, zq, zb, GS, simprocAttr, zi, c, wa ks i hlt, zn, c2]
  · have c2 : decide (n - (ks[i].length : Int) < 0) = false := by simpa using hneg
    obtain ⟨I1, I2⟩ := IH (by omega) (by omega)
    refine ⟨fun h => ?_, fun h => ?_⟩
    · refine zk Tryz.func35 rfl rfl ?_
      simp (disch := omega) only [↓GO, ↓DRW, GA, GX, ren, zo, za, refs, z8, cst, zr, isC, bin, una, z7, zd, blt, asArg, zg, zc, zf, z6, E.mkS, unN, ze, zq, zb, GS, simprocAttr, zi, c, wa ks i hlt, zn, c2, e1]
      rw [I1 (by omega), show n - (ks[i].length : Int) - (ya (ks.drop (i + 1)) : Int) = n - ((ks[i].length + ya (ks.drop (i + 1)) : Nat) : Int) by omega]
    · obtain ⟨v, hv⟩ := I2 (by omega)
      refine ⟨v, ?_⟩
      refine zk Tryz.func35 rfl rfl ?_
      simp (disch := omega) only [↓GO, ↓DRW, GA, GX, ren, zo, za, refs, z8, cst, zr, isC, bin, una, z7, zd, blt, asArg, zg, zc, zf, z6, E.mkS, unN, ze, zq, zb, GS, simprocAttr, zi, c, wa ks i hlt, zn, c2, e1]
      exact hv
theorem nh (ks : List (List UInt8)) (hl : ks.length ≤ 9223372036854775807) (hs : ∀ s ∈ ks, s.length ≤ 9223372036854775807) (n : Int) (h0 : 0 ≤ n) (h1 : n ≤ 1048576) :
 zm (EV Tryz.prog pol) 35 [.t (.list 1 (strs ks)), .t (.int .i64 n)] = some (.t (.int .i64 (left n (ks.length + ya ks)))) := by
 apply zu
 refine zw rfl Tryz.func35 rfl (by kernel_rfl) ?_
 unfold Tryz.f35
 by_cases hneg : n - (ks.length : Int) < 0
 · have c2 : decide (n - (ks.length : Int) < 0) = true := by simpa using hneg
   simp (disch := omega) only [↓GO, ↓DRW, GA, GX, ren, zo, za, refs, z8, cst, zr, isC, bin, una, z7, zd, blt, asArg, zg, zc, zf, z6, E.mkS, unN, ze, zq, zb, GS, simprocAttr, zi, zn, c2]
   rw [left, if_pos (by omega)]
 · have c2 : decide (n - (ks.length : Int) < 0) = false := by simpa using hneg
   obtain ⟨I1, I2⟩ := oX ks hl hs ks.length 0 (n - (ks.length : Int)) (by omega) (by omega) (by omega) (by omega)
   simp only [List.drop_zero, Int.natCast_zero] at I1 I2
   by_cases hn2 : n - (ks.length : Int) - (ya ks : Int) < 0
   · obtain ⟨v, hv⟩ := I2 hn2
     simp (disch := omega) only [↓GO, ↓DRW, GA, GX, ren, zo, za, refs, z8, cst, zr, isC, bin, una, z7, zd, blt, asArg, zg, zc, zf, z6, E.mkS, unN, ze, zq, zb, GS, simprocAttr, zi, zn, c2, hv]
     rw [left, if_pos (by omega)]
   · simp (disch := omega) only [↓GO, ↓DRW, GA, GX, ren, zo, za, refs, z8, cst, zr, isC, bin, una, z7, zd, blt, asArg, zg, zc, zf, z6, E.mkS, unN, ze, zq, zb, GS, simprocAttr, zi, zn, c2, I1 (by omega)]
     rw [left, if_neg (by omega), show n - (ks.length : Int) - (ya ks : Int) = n - ((ks.length + ya ks : Nat) : Int) by omega]
theorem oW (ks : List (List UInt8)) (hl : ks.length ≤ 1048576) : ∀ (d i : Nat), ks.length - i = d → i ≤ ks.length →
 EV Tryz.prog pol (.loop 43 58 0 [.t (.list 1 (strs ks)), .sl 0 0 ks.length (some ks.length), .t (.int .i64 (i : Int))] [.ts 1 (u5 (strs ks) [.str []] i)]) = some (.loop (.exit 0) [.sl 0 0 ks.length (some ks.length)] [.ts 1 (strs ks)])
 | 0, i, hd, hi => by
  have hi' : i = ks.length := by omega
  subst hi'
  refine zk Tryz.func43 rfl rfl ?_
  have c : decide (((ks.length : Nat) : Int) < ((ks.length : Nat) : Int)) = false := by simp
  have hf : u5 (strs ks) [.str []] ks.length = strs ks := by rw [← zi ks]; exact jb _ _
  simp only [↓GO, ↓DRW, GA, GX, ren, zo, za, refs, z8, cst, zr, isC, bin, una, z7, zd, blt, asArg, zg, zc, zf, z6, E.mkS, unN, ze, zq, zb, GS, simprocAttr, zi, c, hf]
 | d + 1, i, hd, hi => by
  have hlt : i < ks.length := by omega
  have hlt' : i < (strs ks).length := by rw [zi]; exact hlt
  have c : decide ((i : Int) < ((ks.length : Nat) : Int)) = true := by simp; omega
  have c0 : decide ((0 : Int) ≤ (i : Int)) = true := by simp
  have IH := oW ks hl d (i + 1) (by omega) (by omega)
  have e1 : (i : Int) + 1 = ((i + 1 : Nat) : Int) := by omega
  have hg := ja (strs ks) [.str []] i hlt'
  have hs := j9 (strs ks) [.str []] i hlt'
  have hx : (strs ks)[i] = [.str ks[i]] := by simp [strs]
  rw [hx] at hs
  refine zk Tryz.func43 rfl rfl ?_
  simp (disch := omega) only [↓GO, ↓DRW, GA, GX, ren, zo, za, refs, z8, cst, zr, isC, bin, una, z7, zd, blt, asArg, zg, zc, zf, z6, E.mkS, unN, ze, zq, zb, GS, simprocAttr, zi, c, c0, wa ks i hlt, zn, e1, hg, Int.toNat_natCast, hs]
  exact IH
theorem oZ (ks : List (List UInt8)) (hl : ks.length ≤ 134217728) : ∀ (d i : Nat), ks.length - i = d → i ≤ ks.length →
 EV Tryz.prog pol (.loop 16 58 0 [.t (.list 1 (strs ks)), .t (.list 1 (strs ks)), .t (.int .i64 (i : Int))] []) = some (.loop (.exit 0) [.bad] [])
 | 0, i, hd, hi => by
  have hi' : i = ks.length := by omega
  subst hi'
  refine zk Tryz.func16 rfl rfl ?_
  have c : decide (((ks.length : Nat) : Int) < ((ks.length : Nat) : Int)) = false := by simp
  simp only [↓GO, ↓DRW, GA, GX, ren, zo, za, refs, z8, cst, zr, isC, bin, una, z7, zd, blt, asArg, zg, zc, zf, z6, E.mkS, unN, ze, zq, zb, GS, simprocAttr, zi, c]
 | d + 1, i, hd, hi => by
  have hlt : i < ks.length := by omega
  have c : decide ((i : Int) < ((ks.length : Nat) : Int)) = true := by simp; omega
  have IH := oZ ks hl d (i + 1) (by omega) (by omega)
  have e1 : (i : Int) + 1 = ((i + 1 : Nat) : Int) := by omega
  refine zk Tryz.func16 rfl rfl ?_
  simp (disch := omega) only [↓GO, ↓DRW, GA, GX, ren, zo, za, refs, z8, cst, zr, isC, bin, una, z7, zd, blt, asArg, zg, zc, zf, z6, E.mkS, unN, ze, zq, zb, GS, simprocAttr, zi, c, wa ks i hlt, zn, e1]
  exact IH
theorem nj (ks : List (List UInt8)) (hl : ks.length ≤ 134217728) : zm (EV Tryz.prog pol) 16 [.t (.list 1 (strs ks)), .t (.list 1 (strs ks))] = some (.t (.bool true)) := by
 apply zu
 refine zw rfl Tryz.func16 rfl (by kernel_rfl) ?_
 unfold Tryz.f16
 have IH := oZ ks hl ks.length 0 (by omega) (by omega)
 simp only [Int.natCast_zero] at IH
 simp only [↓GO, ↓DRW, GA, GX, ren, zo, za, refs, z8, cst, zr, isC, bin, una, z7, zd, blt, asArg, zg, zc, zf, z6, E.mkS, unN, ze, zq, zb, GS, simprocAttr, zi, IH, bne_self_eq_false]
end Go.Proofs.YtonbkdklidfmfaaGreatDoor
/- What the laws' own functions do over Field, Table: sizes, copies, comparisons. Conditions: those of each lemma. -/
namespace Go.Proofs.YtonbkdklidfmfaaGreatDoor
open E
set_option linter.unusedSimpArgs false
set_option linter.unusedVariables false
set_option maxRecDepth 100000
structure yt where
 key : List UInt8
 text : List UInt8
 list : List (List UInt8)
 isList : Bool
def yt.enc (x : yt) : List T := [.str x.key, .str x.text, .list 1 (strs x.list), .bool x.isList]
def yt.zh (l : List yt) : List (List T) := l.map yt.enc
def yt.zY (x : yt) : Nat := x.key.length + x.text.length + (x.list.length + ya x.list)
def yt.zJ : List yt → Nat
 | [] => 0
 | c :: cs => yt.zY c + yt.zJ cs
def yt.ok (x : yt) : Prop := x.key.length ≤ 9223372036854775807 ∧ x.text.length ≤ 9223372036854775807 ∧ x.list.length ≤ 9223372036854775807 ∧ (∀ s ∈ x.list, s.length ≤ 9223372036854775807)
theorem yt.wW (x : yt) : x.enc.length = 4 := rfl
theorem yt.wc (x : yt) : x.enc.take 4 = x.enc := rfl
theorem yt.zj (cs : List yt) : (yt.zh cs).length = cs.length := by simp [yt.zh]
theorem yt.xm (cs : List yt) (i : Nat) (h : i < cs.length) : (yt.zh cs)[i]? = some cs[i].enc := by simp [yt.zh, h]
theorem yt.xG (cs : List yt) (i : Nat) (h : i < cs.length) : yt.zJ (cs.drop i) = cs[i].zY + yt.zJ (cs.drop (i + 1)) := by
 rw [List.drop_eq_getElem_cons h]; rfl
theorem yt.ye : ∀ {cs : List yt} {c : yt}, c ∈ cs → c.zY ≤ yt.zJ cs
 | c' :: cs, c, h => by
  simp only [yt.zJ]
  rcases List.mem_cons.1 h with rfl | h
  · omega
  · have := yt.ye h; omega
structure yC where
 name : List UInt8
 fields : List yt
def yC.enc (x : yC) : List T := [.str x.name, .list 4 (yt.zh x.fields)]
def yC.zh (l : List yC) : List (List T) := l.map yC.enc
def yC.zY (x : yC) : Nat := x.name.length + (x.fields.length + yt.zJ x.fields)
def yC.zJ : List yC → Nat
 | [] => 0
 | c :: cs => yC.zY c + yC.zJ cs
def yC.ok (x : yC) : Prop := x.name.length ≤ 9223372036854775807 ∧ x.fields.length ≤ 9223372036854775807 ∧ (∀ y ∈ x.fields, y.ok)
theorem yC.wW (x : yC) : x.enc.length = 2 := rfl
theorem yC.wc (x : yC) : x.enc.take 2 = x.enc := rfl
theorem yC.zj (cs : List yC) : (yC.zh cs).length = cs.length := by simp [yC.zh]
theorem yC.xm (cs : List yC) (i : Nat) (h : i < cs.length) : (yC.zh cs)[i]? = some cs[i].enc := by simp [yC.zh, h]
theorem yC.xG (cs : List yC) (i : Nat) (h : i < cs.length) : yC.zJ (cs.drop i) = cs[i].zY + yC.zJ (cs.drop (i + 1)) := by
 rw [List.drop_eq_getElem_cons h]; rfl
theorem yC.ye : ∀ {cs : List yC} {c : yC}, c ∈ cs → c.zY ≤ yC.zJ cs
 | c' :: cs, c, h => by
  simp only [yC.zJ]
  rcases List.mem_cons.1 h with rfl | h
  · omega
  · have := yC.ye h; omega
end Go.Proofs.YtonbkdklidfmfaaGreatDoor
/- What the laws' own functions do over Sum, Pack, Graph: sizes, copies, comparisons. Conditions: those of each lemma. -/
namespace Go.Proofs.YtonbkdklidfmfaaGreatDoor
open E
set_option linter.unusedSimpArgs false
set_option linter.unusedVariables false
set_option maxRecDepth 100000
structure zy where
 alg : List UInt8
 bytes : List UInt8
def zy.enc (x : zy) : List T := [.str x.alg, .str x.bytes]
def zy.zh (l : List zy) : List (List T) := l.map zy.enc
def zy.zY (x : zy) : Nat := x.alg.length + x.bytes.length
def zy.zJ : List zy → Nat
 | [] => 0
 | c :: cs => zy.zY c + zy.zJ cs
def zy.ok (x : zy) : Prop := x.alg.length ≤ 9223372036854775807 ∧ x.bytes.length ≤ 9223372036854775807
theorem zy.wW (x : zy) : x.enc.length = 2 := rfl
theorem zy.wc (x : zy) : x.enc.take 2 = x.enc := rfl
theorem zy.zj (cs : List zy) : (zy.zh cs).length = cs.length := by simp [zy.zh]
theorem zy.xm (cs : List zy) (i : Nat) (h : i < cs.length) : (zy.zh cs)[i]? = some cs[i].enc := by simp [zy.zh, h]
theorem zy.xG (cs : List zy) (i : Nat) (h : i < cs.length) : zy.zJ (cs.drop i) = cs[i].zY + zy.zJ (cs.drop (i + 1)) := by
 rw [List.drop_eq_getElem_cons h]; rfl
theorem zy.ye : ∀ {cs : List zy} {c : zy}, c ∈ cs → c.zY ≤ zy.zJ cs
 | c' :: cs, c, h => by
  simp only [zy.zJ]
  rcases List.mem_cons.1 h with rfl | h
  · omega
  · have := zy.ye h; omega
def T1 (x : zy) : Prop := ∀ n : Int, 0 ≤ n → n ≤ 1048576 → zm (EV Tryz.prog pol) 162 [.agg (x.enc.map .t), .t (.int .i64 n)] = some (.t (.int .i64 (left n x.zY)))
theorem S8 (x : zy) (ho : x.ok) : T1 x := by
 obtain ⟨alg, bytes⟩ := x
 intro n h0 h1
 simp only [zy.ok] at ho
 simp only [zy.enc, List.map_cons, List.map_nil]
 apply zu
 refine zw rfl Tryz.func162 rfl (by kernel_rfl) ?_
 unfold Tryz.f162
 repeat' (first | (((first | with_reducible refine sb (fun hA => ?_) (fun hA => ?_) | with_reducible refine sa (fun hA => ?_) (fun hA => ?_)) <;> (try simp only [bne, Bool.not_eq_true', Bool.not_eq_false'] at hA) <;> (first | (have hP := Int.le_of_eq (eq_of_beq (α := Int) hA); have hQ := Int.le_of_eq (eq_of_beq (α := Int) hA).symm) | have hP := of_decide_eq_true hA | have hP := of_decide_eq_false hA | skip)) <;> (simp (disch := ((try simp only [LL]); omega)) only [↓GO, ↓DRW, GA, GX, ren, zo, za, refs, z8, cst, zr, isC, bin, una, z7, zd, blt, asArg, zg, zc, zf, z6, E.mkS, unN, ze, zq, zb, GS, simprocAttr, zn, bne, rD, left_eq, *])) | (simp (disch := ((try simp only [LL]); omega)) only [↓GO, ↓DRW, GA, GX, ren, zo, za, refs, z8, cst, zr, isC, bin, una, z7, zd, blt, asArg, zg, zc, zf, z6, E.mkS, unN, ze, zq, zb, GS, simprocAttr, zn, bne, rD, left_eq, *]))
 all_goals (refine qn ?_; simp only [zy.zY, and_true]; omega)
theorem ep (cs : List zy) (hl : cs.length ≤ 9223372036854775807) (hc : ∀ c ∈ cs, T1 c) : ∀ (d i : Nat) (n : Int), cs.length - i = d → i ≤ cs.length → 0 ≤ n → n ≤ 1048576 →
 (0 ≤ n - (zy.zJ (cs.drop i) : Int) → EV Tryz.prog pol (.loop 127 122 0 [.t (.list 2 (zy.zh cs)), .t (.int .i64 n), .t (.int .i64 (i : Int))] []) = some (.loop (.exit 0) [.t (.int .i64 (n - (zy.zJ (cs.drop i) : Int))), .bad] [])) ∧
 (n - (zy.zJ (cs.drop i) : Int) < 0 → ∃ v, EV Tryz.prog pol (.loop 127 122 0 [.t (.list 2 (zy.zh cs)), .t (.int .i64 n), .t (.int .i64 (i : Int))] []) = some (.loop .ret [v, .t (.int .i64 (-1))] []))
 | 0, i, n, hd, hi, h0, h1 => by
  have hi' : i = cs.length := by omega
  subst hi'
  have hb : zy.zJ (cs.drop cs.length) = 0 := by simp [zy.zJ]
  rw [hb]
  refine ⟨fun _ => ?_, fun h => by omega⟩
  refine zk Tryz.func127 rfl rfl ?_
  have c : decide (((cs.length : Nat) : Int) < ((cs.length : Nat) : Int)) = false := by simp
  simp only [↓GO, ↓DRW, GA, GX, ren, zo, za, refs, z8, cst, zr, isC, bin, una, z7, zd, blt, asArg, zg, zc, zf, z6, E.mkS, unN, ze, zq, zb, GS, simprocAttr, zy.zj, c]
  simp
 | d + 1, i, n, hd, hi, h0, h1 => by
  have hlt : i < cs.length := by omega
  rw [zy.xG cs i hlt]
  have c : decide ((i : Int) < ((cs.length : Nat) : Int)) = true := by simp; omega
  have hcall := hc _ (List.getElem_mem hlt) n h0 h1
  have hget := zy.xm cs i hlt
  generalize hci : cs[i] = ci at hcall hget
  obtain ⟨alg, bytes⟩ := ci
  simp only [zy.enc, List.map_cons, List.map_nil] at hcall hget
  generalize hbu : (zy.mk alg bytes).zY = bu at hcall
  have IH := ep cs hl hc d (i + 1) (n - (bu : Int)) (by omega) (by omega)
  have e1 : (i : Int) + 1 = ((i + 1 : Nat) : Int) := by omega
  by_cases hneg : n - (bu : Int) < 0
  · refine ⟨fun h => by omega, fun _ => ⟨.t (.int .i64 (-1)), ?_⟩⟩
    refine zk Tryz.func127 rfl rfl ?_
    have hle : left n bu = -1 := if_pos hneg
    rw [hle] at hcall
    simp (disch := omega) only [↓GO, ↓DRW, GA, GX, ren, zo, za, refs, z8, cst, zr, isC, bin, una, z7, zd, blt, asArg, zg, zc, zf, z6, E.mkS, unN, ze, zq, zb, GS, simprocAttr, zy.zj, c, hget, zn, hcall]
  · have hle : left n bu = n - (bu : Int) := if_neg hneg
    rw [hle] at hcall
    have c2 : decide (n - (bu : Int) < 0) = false := by simpa using hneg
    obtain ⟨I1, I2⟩ := IH (by omega) (by omega)
    refine ⟨fun h => ?_, fun h => ?_⟩
    · refine zk Tryz.func127 rfl rfl ?_
      simp (disch := omega) only [↓GO, ↓DRW, GA, GX, ren, zo, za, refs, z8, cst, zr, isC, bin, una, z7, zd, blt, asArg, zg, zc, zf, z6, E.mkS, unN, ze, zq, zb, GS, simprocAttr, zy.zj, c, hget, zn, hcall, c2, e1]
      rw [I1 (by omega), show n - (bu : Int) - (zy.zJ (cs.drop (i + 1)) : Int) = n - ((bu + zy.zJ (cs.drop (i + 1)) : Nat) : Int) by omega]
    · obtain ⟨v, hv⟩ := I2 (by omega)
      refine ⟨v, ?_⟩
      refine zk Tryz.func127 rfl rfl ?_
      simp (disch := omega) only [↓GO, ↓DRW, GA, GX, ren, zo, za, refs, z8, cst, zr, isC, bin, una, z7, zd, blt, asArg, zg, zc, zf, z6, E.mkS, unN, ze, zq, zb, GS, simprocAttr, zy.zj, c, hget, zn, hcall, c2, e1]
      exact hv
theorem WC (cs : List zy) (hl : cs.length ≤ 9223372036854775807) (hc : ∀ c ∈ cs, T1 c) (n : Int) (h0 : 0 ≤ n) (h1 : n ≤ 1048576) :
 zm (EV Tryz.prog pol) 127 [.t (.list 2 (zy.zh cs)), .t (.int .i64 n)] = some (.t (.int .i64 (left n (cs.length + zy.zJ cs)))) := by
 apply zu
 refine zw rfl Tryz.func127 rfl (by kernel_rfl) ?_
 unfold Tryz.f127
 by_cases hneg : n - (cs.length : Int) < 0
 · have c2 : decide (n - (cs.length : Int) < 0) = true := by simpa using hneg
   simp (disch := omega) only [↓GO, ↓DRW, GA, GX, ren, zo, za, refs, z8, cst, zr, isC, bin, una, z7, zd, blt, asArg, zg, zc, zf, z6, E.mkS, unN, ze, zq, zb, GS, simprocAttr, zy.zj, zn, c2]
   rw [left, if_pos (by omega)]
 · have c2 : decide (n - (cs.length : Int) < 0) = false := by simpa using hneg
   obtain ⟨I1, I2⟩ := ep cs hl hc cs.length 0 (n - (cs.length : Int)) (by omega) (by omega) (by omega) (by omega)
   simp only [List.drop_zero, Int.natCast_zero] at I1 I2
   by_cases hn2 : n - (cs.length : Int) - (zy.zJ cs : Int) < 0
   · obtain ⟨v, hv⟩ := I2 hn2
     simp (disch := omega) only [↓GO, ↓DRW, GA, GX, ren, zo, za, refs, z8, cst, zr, isC, bin, una, z7, zd, blt, asArg, zg, zc, zf, z6, E.mkS, unN, ze, zq, zb, GS, simprocAttr, zy.zj, zn, c2, hv]
     rw [left, if_pos (by omega)]
   · simp (disch := omega) only [↓GO, ↓DRW, GA, GX, ren, zo, za, refs, z8, cst, zr, isC, bin, una, z7, zd, blt, asArg, zg, zc, zf, z6, E.mkS, unN, ze, zq, zb, GS, simprocAttr, zy.zj, zn, c2, I1 (by omega)]
     rw [left, if_neg (by omega), show n - (cs.length : Int) - (zy.zJ cs : Int) = n - ((cs.length + zy.zJ cs : Nat) : Int) by omega]
def dG (x : zy) : Prop := zm (EV Tryz.prog pol) 163 [.agg (x.enc.map .t)] = some (.agg (x.enc.map .t))
theorem S6 (x : zy) (ho : x.zY ≤ 1048576) : dG x := by
 obtain ⟨alg, bytes⟩ := x
 simp only [zy.zY] at ho
 simp only [dG, zy.enc, List.map_cons, List.map_nil]
 apply zu
 refine zw rfl Tryz.func163 rfl (by kernel_rfl) ?_
 unfold Tryz.f163
 simp only [↓GO, ↓DRW, GA, GX, ren, zo, za, refs, z8, cst, zr, isC, bin, una, z7, zd, blt, asArg, zg, zc, zf, z6, E.mkS, unN, ze, zq, zb, GS, simprocAttr]
def XQ : List T := [.str [], .str []]
theorem eo (cs : List zy) (hl : cs.length ≤ 1048576) (hc : ∀ c ∈ cs, dG c) : ∀ (d i : Nat), cs.length - i = d → i ≤ cs.length →
 EV Tryz.prog pol (.loop 128 58 0 [.t (.list 2 (zy.zh cs)), .sl 0 0 cs.length (some cs.length), .t (.int .i64 (i : Int))] [.ts 2 (u5 (zy.zh cs) XQ i)]) = some (.loop (.exit 0) [.sl 0 0 cs.length (some cs.length)] [.ts 2 (zy.zh cs)])
 | 0, i, hd, hi => by
  have hi' : i = cs.length := by omega
  subst hi'
  refine zk Tryz.func128 rfl rfl ?_
  have c : decide (((cs.length : Nat) : Int) < ((cs.length : Nat) : Int)) = false := by simp
  have hf : u5 (zy.zh cs) XQ cs.length = zy.zh cs := by rw [← zy.zj cs]; exact jb _ _
  simp only [↓GO, ↓DRW, GA, GX, ren, zo, za, refs, z8, cst, zr, isC, bin, una, z7, zd, blt, asArg, zg, zc, zf, z6, E.mkS, unN, ze, zq, zb, GS, simprocAttr, zy.zj, c, hf]
 | d + 1, i, hd, hi => by
  have hlt : i < cs.length := by omega
  have hlt' : i < (zy.zh cs).length := by rw [zy.zj]; exact hlt
  have c : decide ((i : Int) < ((cs.length : Nat) : Int)) = true := by simp; omega
  have c0 : decide ((0 : Int) ≤ (i : Int)) = true := by simp
  have IH := eo cs hl hc d (i + 1) (by omega) (by omega)
  have e1 : (i : Int) + 1 = ((i + 1 : Nat) : Int) := by omega
  have hg : (u5 (zy.zh cs) XQ i)[i]? = some [.str [], .str []] := ja (zy.zh cs) XQ i hlt'
  have hs := j9 (zy.zh cs) XQ i hlt'
  have hx : (zy.zh cs)[i] = cs[i].enc := by simp [zy.zh]
  rw [hx] at hs
  have hcall := hc _ (List.getElem_mem hlt)
  have hget := zy.xm cs i hlt
  generalize hci : cs[i] = ci at hcall hget hs
  obtain ⟨alg, bytes⟩ := ci
  simp only [dG, zy.enc, List.map_cons, List.map_nil] at hcall hget hs
  refine zk Tryz.func128 rfl rfl ?_
  simp (disch := omega) only [↓GO, ↓DRW, GA, GX, ren, zo, za, refs, z8, cst, zr, isC, bin, una, z7, zd, blt, asArg, zg, zc, zf, z6, E.mkS, unN, ze, zq, zb, GS, simprocAttr, zy.zj, c, c0, hget, zn, e1, hg, Int.toNat_natCast, hcall, hs]
  exact IH
def dH (x : zy) : Prop := zm (EV Tryz.prog pol) 166 [.agg (x.enc.map .t), .agg (x.enc.map .t)] = some (.t (.bool true))
theorem Sp (x : zy) (ho : x.zY ≤ 4194304) : dH x := by
 obtain ⟨alg, bytes⟩ := x
 simp only [zy.zY] at ho
 simp only [dH, zy.enc, List.map_cons, List.map_nil]
 apply zu
 refine zw rfl Tryz.func166 rfl (by kernel_rfl) ?_
 unfold Tryz.f166
 simp only [↓GO, ↓DRW, GA, GX, ren, zo, za, refs, z8, cst, zr, isC, bin, una, z7, zd, blt, asArg, zg, zc, zf, z6, E.mkS, unN, ze, zq, zb, GS, simprocAttr, bne_self_eq_false]
theorem ew (cs : List zy) (hl : cs.length ≤ 4194304) (hc : ∀ c ∈ cs, dH c) : ∀ (d i : Nat), cs.length - i = d → i ≤ cs.length →
 EV Tryz.prog pol (.loop 131 58 0 [.t (.list 2 (zy.zh cs)), .t (.list 2 (zy.zh cs)), .t (.int .i64 (i : Int))] []) = some (.loop (.exit 0) [.bad] [])
 | 0, i, hd, hi => by
  have hi' : i = cs.length := by omega
  subst hi'
  refine zk Tryz.func131 rfl rfl ?_
  have c : decide (((cs.length : Nat) : Int) < ((cs.length : Nat) : Int)) = false := by simp
  simp only [↓GO, ↓DRW, GA, GX, ren, zo, za, refs, z8, cst, zr, isC, bin, una, z7, zd, blt, asArg, zg, zc, zf, z6, E.mkS, unN, ze, zq, zb, GS, simprocAttr, zy.zj, c]
 | d + 1, i, hd, hi => by
  have hlt : i < cs.length := by omega
  have c : decide ((i : Int) < ((cs.length : Nat) : Int)) = true := by simp; omega
  have IH := ew cs hl hc d (i + 1) (by omega) (by omega)
  have e1 : (i : Int) + 1 = ((i + 1 : Nat) : Int) := by omega
  have hcall := hc _ (List.getElem_mem hlt)
  have hget := zy.xm cs i hlt
  generalize hci : cs[i] = ci at hcall hget
  obtain ⟨alg, bytes⟩ := ci
  simp only [dH, zy.enc, List.map_cons, List.map_nil] at hcall hget
  refine zk Tryz.func131 rfl rfl ?_
  simp (disch := omega) only [↓GO, ↓DRW, GA, GX, ren, zo, za, refs, z8, cst, zr, isC, bin, una, z7, zd, blt, asArg, zg, zc, zf, z6, E.mkS, unN, ze, zq, zb, GS, simprocAttr, zy.zj, c, hget, zn, e1, hcall]
  exact IH
theorem WS (cs : List zy) (hl : cs.length ≤ 4194304) (hc : ∀ c ∈ cs, dH c) : zm (EV Tryz.prog pol) 131 [.t (.list 2 (zy.zh cs)), .t (.list 2 (zy.zh cs))] = some (.t (.bool true)) := by
 apply zu
 refine zw rfl Tryz.func131 rfl (by kernel_rfl) ?_
 unfold Tryz.f131
 have IH := ew cs hl hc cs.length 0 (by omega) (by omega)
 simp only [Int.natCast_zero] at IH
 simp only [↓GO, ↓DRW, GA, GX, ren, zo, za, refs, z8, cst, zr, isC, bin, una, z7, zd, blt, asArg, zg, zc, zf, z6, E.mkS, unN, ze, zq, zb, GS, simprocAttr, zy.zj, IH, bne_self_eq_false]
structure z1 where
 name : List UInt8
 version : List UInt8
 source : List UInt8
 sums : List zy
 dev : Bool
 zC : List (List UInt8)
def z1.enc (x : z1) : List T := [.str x.name, .str x.version, .str x.source, .list 2 (zy.zh x.sums), .bool x.dev, .list 1 (strs x.zC)]
def z1.zh (l : List z1) : List (List T) := l.map z1.enc
def z1.zY (x : z1) : Nat := x.name.length + x.version.length + x.source.length + (x.sums.length + zy.zJ x.sums) + (x.zC.length + ya x.zC)
def z1.zJ : List z1 → Nat
 | [] => 0
 | c :: cs => z1.zY c + z1.zJ cs
def z1.ok (x : z1) : Prop := x.name.length ≤ 9223372036854775807 ∧ x.version.length ≤ 9223372036854775807 ∧ x.source.length ≤ 9223372036854775807 ∧ x.sums.length ≤ 9223372036854775807 ∧ (∀ y ∈ x.sums, y.ok) ∧ x.zC.length ≤ 9223372036854775807 ∧ (∀ s ∈ x.zC, s.length ≤ 9223372036854775807)
theorem z1.wW (x : z1) : x.enc.length = 6 := rfl
theorem z1.wc (x : z1) : x.enc.take 6 = x.enc := rfl
theorem z1.zj (cs : List z1) : (z1.zh cs).length = cs.length := by simp [z1.zh]
theorem z1.xm (cs : List z1) (i : Nat) (h : i < cs.length) : (z1.zh cs)[i]? = some cs[i].enc := by simp [z1.zh, h]
theorem z1.xG (cs : List z1) (i : Nat) (h : i < cs.length) : z1.zJ (cs.drop i) = cs[i].zY + z1.zJ (cs.drop (i + 1)) := by
 rw [List.drop_eq_getElem_cons h]; rfl
theorem z1.ye : ∀ {cs : List z1} {c : z1}, c ∈ cs → c.zY ≤ z1.zJ cs
 | c' :: cs, c, h => by
  simp only [z1.zJ]
  rcases List.mem_cons.1 h with rfl | h
  · omega
  · have := z1.ye h; omega
def bI (x : z1) : Prop := ∀ n : Int, 0 ≤ n → n ≤ 1048576 → zm (EV Tryz.prog pol) 89 [.agg (x.enc.map .t), .t (.int .i64 n)] = some (.t (.int .i64 (left n x.zY)))
theorem WD (x : z1) (ho : x.ok) : bI x := by
 obtain ⟨name, version, source, sums, dev, zC⟩ := x
 intro n h0 h1
 simp only [z1.ok] at ho
 simp only [z1.enc, List.map_cons, List.map_nil]
 apply zu
 refine zw rfl Tryz.func89 rfl (by kernel_rfl) ?_
 unfold Tryz.f89
 have k_sums := WC sums (by first | exact ho.1 | simp_all) (fun c hc => S8 c (by simp_all))
 have k_needs := nh zC (by first | exact ho.1 | simp_all) (by first | exact ho.2 | simp_all)
 repeat' (first | (((first | with_reducible refine sb (fun hA => ?_) (fun hA => ?_) | with_reducible refine sa (fun hA => ?_) (fun hA => ?_)) <;> (try simp only [bne, Bool.not_eq_true', Bool.not_eq_false'] at hA) <;> (first | (have hP := Int.le_of_eq (eq_of_beq (α := Int) hA); have hQ := Int.le_of_eq (eq_of_beq (α := Int) hA).symm) | have hP := of_decide_eq_true hA | have hP := of_decide_eq_false hA | skip)) <;> (simp (disch := ((try simp only [LL]); omega)) only [↓GO, ↓DRW, GA, GX, ren, zo, za, refs, z8, cst, zr, isC, bin, una, z7, zd, blt, asArg, zg, zc, zf, z6, E.mkS, unN, ze, zq, zb, GS, simprocAttr, zn, bne, rD, left_eq, k_sums, k_needs, *])) | (simp (disch := ((try simp only [LL]); omega)) only [↓GO, ↓DRW, GA, GX, ren, zo, za, refs, z8, cst, zr, isC, bin, una, z7, zd, blt, asArg, zg, zc, zf, z6, E.mkS, unN, ze, zq, zb, GS, simprocAttr, zn, bne, rD, left_eq, k_sums, k_needs, *]))
 all_goals (refine qn ?_; simp only [z1.zY, and_true]; omega)
theorem kS (cs : List z1) (hl : cs.length ≤ 9223372036854775807) (hc : ∀ c ∈ cs, bI c) : ∀ (d i : Nat) (n : Int), cs.length - i = d → i ≤ cs.length → 0 ≤ n → n ≤ 1048576 →
 (0 ≤ n - (z1.zJ (cs.drop i) : Int) → EV Tryz.prog pol (.loop 36 122 0 [.t (.list 6 (z1.zh cs)), .t (.int .i64 n), .t (.int .i64 (i : Int))] []) = some (.loop (.exit 0) [.t (.int .i64 (n - (z1.zJ (cs.drop i) : Int))), .bad] [])) ∧
 (n - (z1.zJ (cs.drop i) : Int) < 0 → ∃ v, EV Tryz.prog pol (.loop 36 122 0 [.t (.list 6 (z1.zh cs)), .t (.int .i64 n), .t (.int .i64 (i : Int))] []) = some (.loop .ret [v, .t (.int .i64 (-1))] []))
 | 0, i, n, hd, hi, h0, h1 => by
  have hi' : i = cs.length := by omega
  subst hi'
  have hb : z1.zJ (cs.drop cs.length) = 0 := by simp [z1.zJ]
  rw [hb]
  refine ⟨fun _ => ?_, fun h => by omega⟩
  refine zk Tryz.func36 rfl rfl ?_
  have c : decide (((cs.length : Nat) : Int) < ((cs.length : Nat) : Int)) = false := by simp
  simp only [↓GO, ↓DRW, GA, GX, ren, zo, za, refs, z8, cst, zr, isC, bin, una, z7, zd, blt, asArg, zg, zc, zf, z6, E.mkS, unN, ze, zq, zb, GS, simprocAttr, z1.zj, c]
  simp
 | d + 1, i, n, hd, hi, h0, h1 => by
  have hlt : i < cs.length := by omega
  rw [z1.xG cs i hlt]
  have c : decide ((i : Int) < ((cs.length : Nat) : Int)) = true := by simp; omega
  have hcall := hc _ (List.getElem_mem hlt) n h0 h1
  have hget := z1.xm cs i hlt
  generalize hci : cs[i] = ci at hcall hget
  obtain ⟨name, version, source, sums, dev, zC⟩ := ci
  simp only [z1.enc, List.map_cons, List.map_nil] at hcall hget
  generalize hbu : (z1.mk name version source sums dev zC).zY = bu at hcall
  have IH := kS cs hl hc d (i + 1) (n - (bu : Int)) (by omega) (by omega)
  have e1 : (i : Int) + 1 = ((i + 1 : Nat) : Int) := by omega
  by_cases hneg : n - (bu : Int) < 0
  · refine ⟨fun h => by omega, fun _ => ⟨.t (.int .i64 (-1)), ?_⟩⟩
    refine zk Tryz.func36 rfl rfl ?_
    have hle : left n bu = -1 := if_pos hneg
    rw [hle] at hcall
    simp (disch := omega) only [↓GO, ↓DRW, GA, GX, ren, zo, za, refs, z8, cst, zr, isC, bin, una, z7, zd, blt, asArg, zg, zc, zf, z6, E.mkS, unN, ze, zq, zb, GS, simprocAttr, z1.zj, c, hget, zn, hcall]
  · have hle : left n bu = n - (bu : Int) := if_neg hneg
    rw [hle] at hcall
    have c2 : decide (n - (bu : Int) < 0) = false := by simpa using hneg
    obtain ⟨I1, I2⟩ := IH (by omega) (by omega)
    refine ⟨fun h => ?_, fun h => ?_⟩
    · refine zk Tryz.func36 rfl rfl ?_
      simp (disch := omega) only [↓GO, ↓DRW, GA, GX, ren, zo, za, refs, z8, cst, zr, isC, bin, una, z7, zd, blt, asArg, zg, zc, zf, z6, E.mkS, unN, ze, zq, zb, GS, simprocAttr, z1.zj, c, hget, zn, hcall, c2, e1]
      rw [I1 (by omega), show n - (bu : Int) - (z1.zJ (cs.drop (i + 1)) : Int) = n - ((bu + z1.zJ (cs.drop (i + 1)) : Nat) : Int) by omega]
    · obtain ⟨v, hv⟩ := I2 (by omega)
      refine ⟨v, ?_⟩
      refine zk Tryz.func36 rfl rfl ?_
      simp (disch := omega) only [↓GO, ↓DRW, GA, GX, ren, zo, za, refs, z8, cst, zr, isC, bin, una, z7, zd, blt, asArg, zg, zc, zf, z6, E.mkS, unN, ze, zq, zb, GS, simprocAttr, z1.zj, c, hget, zn, hcall, c2, e1]
      exact hv
theorem Yx (cs : List z1) (hl : cs.length ≤ 9223372036854775807) (hc : ∀ c ∈ cs, bI c) (n : Int) (h0 : 0 ≤ n) (h1 : n ≤ 1048576) :
 zm (EV Tryz.prog pol) 36 [.t (.list 6 (z1.zh cs)), .t (.int .i64 n)] = some (.t (.int .i64 (left n (cs.length + z1.zJ cs)))) := by
 apply zu
 refine zw rfl Tryz.func36 rfl (by kernel_rfl) ?_
 unfold Tryz.f36
 by_cases hneg : n - (cs.length : Int) < 0
 · have c2 : decide (n - (cs.length : Int) < 0) = true := by simpa using hneg
   simp (disch := omega) only [↓GO, ↓DRW, GA, GX, ren, zo, za, refs, z8, cst, zr, isC, bin, una, z7, zd, blt, asArg, zg, zc, zf, z6, E.mkS, unN, ze, zq, zb, GS, simprocAttr, z1.zj, zn, c2]
   rw [left, if_pos (by omega)]
 · have c2 : decide (n - (cs.length : Int) < 0) = false := by simpa using hneg
   obtain ⟨I1, I2⟩ := kS cs hl hc cs.length 0 (n - (cs.length : Int)) (by omega) (by omega) (by omega) (by omega)
   simp only [List.drop_zero, Int.natCast_zero] at I1 I2
   by_cases hn2 : n - (cs.length : Int) - (z1.zJ cs : Int) < 0
   · obtain ⟨v, hv⟩ := I2 hn2
     simp (disch := omega) only [↓GO, ↓DRW, GA, GX, ren, zo, za, refs, z8, cst, zr, isC, bin, una, z7, zd, blt, asArg, zg, zc, zf, z6, E.mkS, unN, ze, zq, zb, GS, simprocAttr, z1.zj, zn, c2, hv]
     rw [left, if_pos (by omega)]
   · simp (disch := omega) only [↓GO, ↓DRW, GA, GX, ren, zo, za, refs, z8, cst, zr, isC, bin, una, z7, zd, blt, asArg, zg, zc, zf, z6, E.mkS, unN, ze, zq, zb, GS, simprocAttr, z1.zj, zn, c2, I1 (by omega)]
     rw [left, if_neg (by omega), show n - (cs.length : Int) - (z1.zJ cs : Int) = n - ((cs.length + z1.zJ cs : Nat) : Int) by omega]
def lC (x : z1) : Prop := zm (EV Tryz.prog pol) 101 [.agg (x.enc.map .t), .agg (x.enc.map .t)] = some (.t (.bool true))
theorem WU (x : z1) (ho : x.zY ≤ 4194304) : lC x := by
 obtain ⟨name, version, source, sums, dev, zC⟩ := x
 simp only [z1.zY] at ho
 simp only [lC, z1.enc, List.map_cons, List.map_nil]
 apply zu
 refine zw rfl Tryz.func101 rfl (by kernel_rfl) ?_
 unfold Tryz.f101
 simp only [↓GO, ↓DRW, GA, GX, ren, zo, za, refs, z8, cst, zr, isC, bin, una, z7, zd, blt, asArg, zg, zc, zf, z6, E.mkS, unN, ze, zq, zb, GS, simprocAttr, bne_self_eq_false, WS sums (by omega) (fun c hc => Sp c (by have := zy.ye hc; omega)), nj zC (by omega)]
theorem kT (cs : List z1) (hl : cs.length ≤ 4194304) (hc : ∀ c ∈ cs, lC c) : ∀ (d i : Nat), cs.length - i = d → i ≤ cs.length →
 EV Tryz.prog pol (.loop 58 58 0 [.t (.list 6 (z1.zh cs)), .t (.list 6 (z1.zh cs)), .t (.int .i64 (i : Int))] []) = some (.loop (.exit 0) [.bad] [])
 | 0, i, hd, hi => by
  have hi' : i = cs.length := by omega
  subst hi'
  refine zk Tryz.func58 rfl rfl ?_
  have c : decide (((cs.length : Nat) : Int) < ((cs.length : Nat) : Int)) = false := by simp
  simp only [↓GO, ↓DRW, GA, GX, ren, zo, za, refs, z8, cst, zr, isC, bin, una, z7, zd, blt, asArg, zg, zc, zf, z6, E.mkS, unN, ze, zq, zb, GS, simprocAttr, z1.zj, c]
 | d + 1, i, hd, hi => by
  have hlt : i < cs.length := by omega
  have c : decide ((i : Int) < ((cs.length : Nat) : Int)) = true := by simp; omega
  have IH := kT cs hl hc d (i + 1) (by omega) (by omega)
  have e1 : (i : Int) + 1 = ((i + 1 : Nat) : Int) := by omega
  have hcall := hc _ (List.getElem_mem hlt)
  have hget := z1.xm cs i hlt
  generalize hci : cs[i] = ci at hcall hget
  obtain ⟨name, version, source, sums, dev, zC⟩ := ci
  simp only [lC, z1.enc, List.map_cons, List.map_nil] at hcall hget
  refine zk Tryz.func58 rfl rfl ?_
  simp (disch := omega) only [↓GO, ↓DRW, GA, GX, ren, zo, za, refs, z8, cst, zr, isC, bin, una, z7, zd, blt, asArg, zg, zc, zf, z6, E.mkS, unN, ze, zq, zb, GS, simprocAttr, z1.zj, c, hget, zn, e1, hcall]
  exact IH
theorem Yz (cs : List z1) (hl : cs.length ≤ 4194304) (hc : ∀ c ∈ cs, lC c) : zm (EV Tryz.prog pol) 58 [.t (.list 6 (z1.zh cs)), .t (.list 6 (z1.zh cs))] = some (.t (.bool true)) := by
 apply zu
 refine zw rfl Tryz.func58 rfl (by kernel_rfl) ?_
 unfold Tryz.f58
 have IH := kT cs hl hc cs.length 0 (by omega) (by omega)
 simp only [Int.natCast_zero] at IH
 simp only [↓GO, ↓DRW, GA, GX, ren, zo, za, refs, z8, cst, zr, isC, bin, una, z7, zd, blt, asArg, zg, zc, zf, z6, E.mkS, unN, ze, zq, zb, GS, simprocAttr, z1.zj, IH, bne_self_eq_false]
structure zx where
 top : List (List UInt8)
 packs : List z1
def zx.enc (x : zx) : List T := [.list 1 (strs x.top), .list 6 (z1.zh x.packs)]
def zx.zh (l : List zx) : List (List T) := l.map zx.enc
def zx.zY (x : zx) : Nat := (x.top.length + ya x.top) + (x.packs.length + z1.zJ x.packs)
def zx.zJ : List zx → Nat
 | [] => 0
 | c :: cs => zx.zY c + zx.zJ cs
def zx.ok (x : zx) : Prop := x.top.length ≤ 9223372036854775807 ∧ (∀ s ∈ x.top, s.length ≤ 9223372036854775807) ∧ x.packs.length ≤ 9223372036854775807 ∧ (∀ y ∈ x.packs, y.ok)
theorem zx.wW (x : zx) : x.enc.length = 2 := rfl
theorem zx.wc (x : zx) : x.enc.take 2 = x.enc := rfl
theorem zx.zj (cs : List zx) : (zx.zh cs).length = cs.length := by simp [zx.zh]
theorem zx.xm (cs : List zx) (i : Nat) (h : i < cs.length) : (zx.zh cs)[i]? = some cs[i].enc := by simp [zx.zh, h]
theorem zx.xG (cs : List zx) (i : Nat) (h : i < cs.length) : zx.zJ (cs.drop i) = cs[i].zY + zx.zJ (cs.drop (i + 1)) := by
 rw [List.drop_eq_getElem_cons h]; rfl
theorem zx.ye : ∀ {cs : List zx} {c : zx}, c ∈ cs → c.zY ≤ zx.zJ cs
 | c' :: cs, c, h => by
  simp only [zx.zJ]
  rcases List.mem_cons.1 h with rfl | h
  · omega
  · have := zx.ye h; omega
def SB (x : zx) : Prop := ∀ n : Int, 0 ≤ n → n ≤ 1048576 → zm (EV Tryz.prog pol) 7 [.agg (x.enc.map .t), .t (.int .i64 n)] = some (.t (.int .i64 (left n x.zY)))
theorem jt (x : zx) (ho : x.ok) : SB x := by
 obtain ⟨top, packs⟩ := x
 intro n h0 h1
 simp only [zx.ok] at ho
 simp only [zx.enc, List.map_cons, List.map_nil]
 apply zu
 refine zw rfl Tryz.func7 rfl (by kernel_rfl) ?_
 unfold Tryz.f7
 have k_top := nh top (by first | exact ho.1 | simp_all) (by first | exact ho.2 | simp_all)
 have k_packs := Yx packs (by first | exact ho.1 | simp_all) (fun c hc => WD c (by simp_all))
 repeat' (first | (((first | with_reducible refine sb (fun hA => ?_) (fun hA => ?_) | with_reducible refine sa (fun hA => ?_) (fun hA => ?_)) <;> (try simp only [bne, Bool.not_eq_true', Bool.not_eq_false'] at hA) <;> (first | (have hP := Int.le_of_eq (eq_of_beq (α := Int) hA); have hQ := Int.le_of_eq (eq_of_beq (α := Int) hA).symm) | have hP := of_decide_eq_true hA | have hP := of_decide_eq_false hA | skip)) <;> (simp (disch := ((try simp only [LL]); omega)) only [↓GO, ↓DRW, GA, GX, ren, zo, za, refs, z8, cst, zr, isC, bin, una, z7, zd, blt, asArg, zg, zc, zf, z6, E.mkS, unN, ze, zq, zb, GS, simprocAttr, zn, bne, rD, left_eq, k_top, k_packs, *])) | (simp (disch := ((try simp only [LL]); omega)) only [↓GO, ↓DRW, GA, GX, ren, zo, za, refs, z8, cst, zr, isC, bin, una, z7, zd, blt, asArg, zg, zc, zf, z6, E.mkS, unN, ze, zq, zb, GS, simprocAttr, zn, bne, rD, left_eq, k_top, k_packs, *]))
 all_goals (refine qn ?_; simp only [zx.zY, and_true]; omega)
def iR (x : zx) : Prop := zm (EV Tryz.prog pol) 11 [.agg (x.enc.map .t), .agg (x.enc.map .t)] = some (.t (.bool true))
theorem jw (x : zx) (ho : x.zY ≤ 4194304) : iR x := by
 obtain ⟨top, packs⟩ := x
 simp only [zx.zY] at ho
 simp only [iR, zx.enc, List.map_cons, List.map_nil]
 apply zu
 refine zw rfl Tryz.func11 rfl (by kernel_rfl) ?_
 unfold Tryz.f11
 simp only [↓GO, ↓DRW, GA, GX, ren, zo, za, refs, z8, cst, zr, isC, bin, una, z7, zd, blt, asArg, zg, zc, zf, z6, E.mkS, unN, ze, zq, zb, GS, simprocAttr, bne_self_eq_false, nj top (by omega), Yz packs (by omega) (fun c hc => WU c (by have := z1.ye hc; omega))]
end Go.Proofs.YtonbkdklidfmfaaGreatDoor
/- The seat's own facts: the conditions on the program. Conditions: none. -/
namespace Go.Proofs.YtonbkdklidfmfaaGreatDoor
open E
theorem Tryz.own : ownKnob Tryz.prog.godebug = none := by kernel_rfl
theorem Tryz.kids : Kids Tryz.prog (· < Tryz.prog.types.size) := kids_rows (by kernel_rfl) (by kernel_rfl)
theorem Tryz.full : ∀ t e, t < Tryz.prog.types.size → Tryz.prog.underlying t = some (.slice e) → 0 < Tryz.prog.cellsOf e := slices_full_of Tryz.prog (by kernel_rfl)
end Go.Proofs.YtonbkdklidfmfaaGreatDoor
/- What the laws' arguments are: Sum, Pack, Graph. Conditions: those of each lemma. -/
namespace Go.Proofs.YtonbkdklidfmfaaGreatDoor
open E
set_option linter.unusedSimpArgs false
set_option linter.unusedVariables false
set_option maxRecDepth 100000
theorem ZA {cs : List T} (h : WT Tryz.prog 22 cs) : ∃ ks, cs = [.list 1 (strs ks)] ∧ ks.length ≤ 9223372036854775807 ∧ ∀ x ∈ ks, x.length ≤ 9223372036854775807 := by
 obtain ⟨es, e1, e2, e3⟩ := h.lf Tryz.underlying22
 have k0 : Tryz.prog.cellsOf 9 = 1 := by kernel_rfl
 have key : ∀ es : List (List T), (∀ c ∈ es, WT Tryz.prog 9 c) → ∃ ks, es = strs ks ∧ ∀ x ∈ ks, x.length ≤ 9223372036854775807 := fun es => by
  induction es with
  | nil => exact fun _ => ⟨[], rfl, by simp⟩
  | cons c es ih =>
   intro h
   obtain ⟨ks, a1, a2⟩ := ih fun c' hc => h c' (by simp [hc])
   obtain ⟨l, a3, a4⟩ := (h c (by simp)).rE Tryz.underlying9
   exact ⟨l :: ks, by simp [strs, a1, a3], by simpa using ⟨a4, a2⟩⟩
 obtain ⟨ks, a1, a2⟩ := key es e3
 subst a1
 exact ⟨ks, by rw [e1, k0], by rw [zi] at e2; exact e2, a2⟩
theorem Qd {cs : List T} (h : WT Tryz.prog 160 cs) : ∃ x : zy, cs = x.enc ∧ x.ok := by
 obtain ⟨hl, hs⟩ := h.qp Tryz.underlying160
 have k0 : Tryz.prog.cellsOf 160 = 2 := by kernel_rfl
 have k1 : Tryz.prog.cellsOf 9 = 1 := by kernel_rfl
 rw [k0] at hl
 match cs, hl with
 | [y0, y1], _ =>
  simp [k1] at hs
  obtain ⟨s0, s1⟩ := hs
  obtain ⟨v0, e0, o0⟩ := s0.rE Tryz.underlying9
  obtain ⟨v1, e1, o1⟩ := s1.rE Tryz.underlying9
  simp at e0 e1
  subst e0 e1
  exact ⟨⟨v0, v1⟩, rfl, ⟨o0, o1⟩⟩
theorem Sz {cs : List T} (h : WT Tryz.prog 91 cs) : ∃ l : List zy, cs = [.list 2 (zy.zh l)] ∧ l.length ≤ 9223372036854775807 ∧ ∀ y ∈ l, y.ok := by
 obtain ⟨es, e1, e2, e3⟩ := h.lf Tryz.underlying91
 have k0 : Tryz.prog.cellsOf 160 = 2 := by kernel_rfl
 have key : ∀ es : List (List T), (∀ c ∈ es, WT Tryz.prog 160 c) → ∃ l : List zy, es = zy.zh l ∧ ∀ y ∈ l, y.ok := fun es => by
  induction es with
  | nil => exact fun _ => ⟨[], rfl, by simp⟩
  | cons c es ih =>
   intro h
   obtain ⟨l, a1, a2⟩ := ih fun c' hc => h c' (by simp [hc])
   obtain ⟨x, a3, a4⟩ := Qd (h c (by simp))
   exact ⟨x :: l, by simp [zy.zh, a1, a3], by simpa using ⟨a4, a2⟩⟩
 obtain ⟨l, a1, a2⟩ := key es e3
 subst a1
 exact ⟨l, by rw [e1, k0], by rw [zy.zj] at e2; exact e2, a2⟩
theorem SA {cs : List T} (h : WT Tryz.prog 93 cs) : ∃ x : z1, cs = x.enc ∧ x.ok := by
 obtain ⟨hl, hs⟩ := h.qp Tryz.underlying93
 have k0 : Tryz.prog.cellsOf 93 = 6 := by kernel_rfl
 have k1 : Tryz.prog.cellsOf 91 = 1 := by kernel_rfl
 have k2 : Tryz.prog.cellsOf 22 = 1 := by kernel_rfl
 have k3 : Tryz.prog.cellsOf 4 = 1 := by kernel_rfl
 have k4 : Tryz.prog.cellsOf 9 = 1 := by kernel_rfl
 rw [k0] at hl
 match cs, hl with
 | [y0, y1, y2, y3, y4, y5], _ =>
  simp [k1, k2, k3, k4] at hs
  obtain ⟨s0, s1, s2, s3, s4, s5⟩ := hs
  obtain ⟨v0, e0, o0⟩ := s0.rE Tryz.underlying9
  obtain ⟨v1, e1, o1⟩ := s1.rE Tryz.underlying9
  obtain ⟨v2, e2, o2⟩ := s2.rE Tryz.underlying9
  obtain ⟨v3, e3, o3, o3'⟩ := Sz s3
  obtain ⟨v4, e4⟩ := s4.Wk Tryz.underlying4
  obtain ⟨v5, e5, o5, o5'⟩ := ZA s5
  simp at e0 e1 e2 e3 e4 e5
  subst e0 e1 e2 e3 e4 e5
  exact ⟨⟨v0, v1, v2, v3, v4, v5⟩, rfl, ⟨o0, o1, o2, o3, o3', o5, o5'⟩⟩
theorem Va {cs : List T} (h : WT Tryz.prog 23 cs) : ∃ l : List z1, cs = [.list 6 (z1.zh l)] ∧ l.length ≤ 9223372036854775807 ∧ ∀ y ∈ l, y.ok := by
 obtain ⟨es, e1, e2, e3⟩ := h.lf Tryz.underlying23
 have k0 : Tryz.prog.cellsOf 93 = 6 := by kernel_rfl
 have key : ∀ es : List (List T), (∀ c ∈ es, WT Tryz.prog 93 c) → ∃ l : List z1, es = z1.zh l ∧ ∀ y ∈ l, y.ok := fun es => by
  induction es with
  | nil => exact fun _ => ⟨[], rfl, by simp⟩
  | cons c es ih =>
   intro h
   obtain ⟨l, a1, a2⟩ := ih fun c' hc => h c' (by simp [hc])
   obtain ⟨x, a3, a4⟩ := SA (h c (by simp))
   exact ⟨x :: l, by simp [z1.zh, a1, a3], by simpa using ⟨a4, a2⟩⟩
 obtain ⟨l, a1, a2⟩ := key es e3
 subst a1
 exact ⟨l, by rw [e1, k0], by rw [z1.zj] at e2; exact e2, a2⟩
theorem Vb {cs : List T} (h : WT Tryz.prog 25 cs) : ∃ x : zx, cs = x.enc ∧ x.ok := by
 obtain ⟨hl, hs⟩ := h.qp Tryz.underlying25
 have k0 : Tryz.prog.cellsOf 25 = 2 := by kernel_rfl
 have k1 : Tryz.prog.cellsOf 23 = 1 := by kernel_rfl
 have k2 : Tryz.prog.cellsOf 22 = 1 := by kernel_rfl
 rw [k0] at hl
 match cs, hl with
 | [y0, y1], _ =>
  simp [k1, k2] at hs
  obtain ⟨s0, s1⟩ := hs
  obtain ⟨v0, e0, o0, o0'⟩ := ZA s0
  obtain ⟨v1, e1, o1, o1'⟩ := Va s1
  simp at e0 e1
  subst e0 e1
  exact ⟨⟨v0, v1⟩, rfl, ⟨o0, o0', o1, o1'⟩⟩
end Go.Proofs.YtonbkdklidfmfaaGreatDoor
/- The laws' own functions over trees: sizes, comparisons. Conditions: those of each lemma. -/
namespace Go.Proofs.YtonbkdklidfmfaaGreatDoor
open E
set_option linter.unusedSimpArgs false
set_option linter.unusedVariables false
set_option maxRecDepth 100000
end Go.Proofs.YtonbkdklidfmfaaGreatDoor
/- Lists that own their memory, as rows; trees laid anew. Conditions: those of each lemma. -/
namespace Go.Proofs.YtonbkdklidfmfaaGreatDoor
open E
set_option linter.unusedSimpArgs false
set_option linter.unusedVariables false
set_option maxRecDepth 100000
theorem zH (h : Heap) (ids : List Nat) : reach h 3 ids = uO h 3 ids := (r7 h 3 ids).symm
/-- a row whose lists are owned -/
def ocE (es : List (List T)) : List (List V) := es.map fun e => e.map oc
theorem zT (es : List (List T)) : (ocE es).length = es.length := by simp [ocE]
theorem iF (a b : List (List T)) : ocE (a ++ b) = ocE a ++ ocE b := by simp [ocE]
theorem tk (x : List T) (b : List (List T)) : ocE (x :: b) = x.map oc :: ocE b := rfl
theorem iE : ocE [] = [] := rfl
theorem Tu (x : T) : refs (oc x) = [] := by cases x <;> rfl
theorem fU : ∀ e : List T, refs.refss (e.map oc) = []
 | [] => rfl
 | x :: e => by simp only [List.map_cons, refs.refss, Tu, fU e, List.nil_append]
theorem zU : ∀ es : List (List T), (ocE es).flatMap refs.refss = []
 | [] => rfl
 | e :: es => by rw [tk, List.flatMap_cons, fU, zU es]; rfl
theorem Ru (m : Nat → Option Nat) (x : T) : ren m (oc x) = oc x := by cases x <;> rfl
theorem ah (m : Nat → Option Nat) : ∀ e : List T, ren.rens m (e.map oc) = e.map oc
 | [] => rfl
 | x :: e => by simp only [List.map_cons, ren.rens, Ru, ah m e]
theorem y6 (m : Nat → Option Nat) : ∀ es : List (List T), (ocE es).map (ren.rens m) = ocE es
 | [] => rfl
 | e :: es => by rw [tk, List.map_cons, ah, y6 m es]
theorem mW (z : List V) (hz : refs.refss z = []) : ∀ k, (List.replicate k z).flatMap refs.refss = []
 | 0 => rfl
 | k + 1 => by rw [List.replicate_succ, List.flatMap_cons, hz, mW z hz k]; rfl
theorem bX (m : Nat → Option Nat) (z : List V) (hz : ren.rens m z = z) (k : Nat) : (List.replicate k z).map (ren.rens m) = List.replicate k z := by rw [List.map_replicate, hz]
theorem xH {α : Type} (A B : List α) (x : α) (n : Nat) (h : A.length = n) : (A ++ x :: B)[n]? = some x := by
 rw [List.getElem?_append_right (by omega), h, Nat.sub_self]; rfl
theorem xt {α : Type} (A B : List α) (x y : α) (n : Nat) (h : A.length = n) : (A ++ x :: B).set n y = A ++ y :: B := by
 rw [List.set_append_right _ _ (by omega), h, Nat.sub_self]; rfl
theorem gv_oc (x : T) : gvC (oc x) = some x := by cases x <;> rfl
theorem UE : ∀ e : List T, dK (e.map oc) = some e
 | [] => rfl
 | x :: e => by simp only [List.map_cons, dK, gv_oc, UE e]
theorem UF : ∀ es : List (List T), gvE (ocE es) = some es
 | [] => rfl
 | e :: es => by rw [tk]; simp only [gvE, UE, UF es]
theorem XZ (h : Heap) (x : T) : zg h (oc x) = some x := by cases x <;> rfl
theorem fu (h : Heap) : ∀ e : List T, xR h (e.map oc) = some e
 | [] => rfl
 | x :: e => by simp only [List.map_cons, xR, XZ, fu h e]
theorem uf (h : Heap) : ∀ es : List (List T), uw h (ocE es) = some es
 | [] => rfl
 | e :: es => by rw [tk]; simp only [uw, fu, uf h es]
theorem yq : ∀ l : List Str, vJ (strs l) = true
 | [] => rfl
 | x :: l => by
  have := yq l
  unfold vJ strs at this ⊢
  rw [List.map_cons, List.all_cons, this]; rfl
theorem ln (ks : List Str) (hl : ks.length ≤ 1048576) : EV Tryz.prog pol (.callO false 43 [.t (.list 1 (strs ks))] []) = some (.call (.sl 0 0 ks.length (some ks.length)) [.ts 1 (strs ks)]) := by
 refine zP Tryz.func43 rfl (by kernel_rfl) ?_
 unfold Tryz.f43
 have h1 : ¬ ((ks.length : Int) < 0) := by omega
 have h2 : ¬ (ks.length * 16 > 140737488355328) := by omega
 have h3 : ¬ (ks.length > 140737488355328) := by omega
 have hz : List.replicate ks.length [T.str []] = u5 (strs ks) [.str []] 0 := by rw [mB, zi]
 have IH := oW ks hl ks.length 0 (by omega) (by omega)
 simp only [Int.natCast_zero] at IH
 simp (disch := omega) only [↓GO, ↓DRW, GA, GX, ren, zo, za, refs, z8, cst, zr, isC, bin, una, z7, zd, blt, asArg, zg, zc, zf, z6, E.mkS, unN, ze, zq, zb, GS, simprocAttr, zi, Int.toNat_natCast, h1, h2, h3, hz, IH, ne_eq, not_true_eq_false]
end Go.Proofs.YtonbkdklidfmfaaGreatDoor
/- Trees laid anew; marks. Conditions: those of each lemma. -/
namespace Go.Proofs.YtonbkdklidfmfaaGreatDoor
open E
set_option linter.unusedSimpArgs false
set_option linter.unusedVariables false
set_option maxRecDepth 100000
def mkD : Nat → Nat → Str → Str
 | 0, _, out => out
 | n + 1, k, out => if k = 0 then out else mkD n (k / 10) (UInt8.ofNat (48 + k % 10) :: out)
/-- a number's mark -/
def mkT (k : Nat) : Str := if k = 0 then [109, 48] else 109 :: mkD k k []
theorem SU : ∀ (n k : Nat) (out : Str), k ≤ n → k ≤ 9223372036854775807 → out.length + k ≤ 9223372036854775000 →
 EV Tryz.prog pol (.loop 67 60 0 [.t (.int .i64 (k : Int)), .t (.str out)] []) = some (.loop (.exit 0) [.t (.str (mkD n k out))] [])
 | n, 0, out, h, h1, h2 => by
  have e : mkD n 0 out = out := by cases n <;> simp [mkD]
  rw [e]
  refine zk Tryz.func67 rfl rfl ?_
  simp (disch := ((try simp only [LL]); omega)) only [↓GO, ↓DRW, GA, GX, ren, zo, za, refs, z8, cst, zr, isC, bin, una, z7, zd, blt, asArg, zg, zc, zf, z6, E.mkS, unN, ze, zq, zb, GS, simprocAttr, GZ, Int.natCast_zero]
 | 0, k + 1, out, h, h1, h2 => by omega
 | n + 1, k + 1, out, h, h1, h2 => by
  generalize hm : k + 1 = x at *
  have c : decide (((x : Nat) : Int) > 0) = true := by apply decide_eq_true; omega
  have e1 : ((x : Nat) : Int).tmod 10 = ((x % 10 : Nat) : Int) := (Int.ofNat_tmod x 10).symm
  have e2 : ((x : Nat) : Int).tdiv 10 = ((x / 10 : Nat) : Int) := (Int.ofNat_tdiv x 10).symm
  have hd : x % 10 < 10 := Nat.mod_lt _ (by omega)
  have IH := SU n (x / 10) (UInt8.ofNat (48 + x % 10) :: out) (by omega) (by omega) (by simp only [List.length_cons]; omega)
  have ex : mkD (n + 1) x out = mkD n (x / 10) (UInt8.ofNat (48 + x % 10) :: out) := by rw [mkD, if_neg (by omega)]
  rw [ex]
  have w1 : IntKind.i64.wrap (48 + ((x % 10 : Nat) : Int)) = ((48 + x % 10 : Nat) : Int) := by rw [zn (by omega)]; omega
  have w3 : IntKind.u8.wrap ((48 + x % 10 : Nat) : Int) = ((48 + x % 10 : Nat) : Int) := by
   have key : ∀ n : Fin 256, IntKind.u8.wrap (n.val : Int) = (n.val : Int) := by decide +kernel
   exact key ⟨48 + x % 10, by omega⟩
  have w2 : IntKind.i64.wrap ((x / 10 : Nat) : Int) = ((x / 10 : Nat) : Int) := zn (by omega)
  refine zk Tryz.func67 rfl rfl ?_
  simp (disch := ((try simp only [LL]); omega)) only [↓GO, ↓DRW, GA, GX, ren, zo, za, refs, z8, cst, zr, isC, bin, una, z7, zd, blt, asArg, zg, zc, zf, z6, E.mkS, unN, ze, zq, zb, GS, simprocAttr, GZ, c, e1, e2, w1, w2, w3, conv, vl, bytesOf, Int.toNat_natCast, List.singleton_append, xb, IH]
end Go.Proofs.YtonbkdklidfmfaaGreatDoor
/- Marks in lists of texts, in trees. Conditions: those of each lemma. -/
namespace Go.Proofs.YtonbkdklidfmfaaGreatDoor
open E
set_option linter.unusedSimpArgs false
set_option linter.unusedVariables false
set_option maxRecDepth 100000
theorem kg : strs [] = [] := rfl
theorem sj (k : Nat) (h : k ≤ 1099511627776) : zm (EV Tryz.prog pol) 67 [.t (.int .i64 (k : Int))] = some (.t (.str (mkT k))) := by
 have L := SU k k [] (Nat.le_refl _) (by omega) (by simp; omega)
 have hlen : (mkD k k []).length ≤ k := by
  have key : ∀ (n x : Nat) (out : Str), (mkD n x out).length ≤ n + out.length := fun n => by
   induction n with
   | zero => intro x out; simp [mkD]
   | succ n ih =>
    intro x out
    rw [mkD]
    split
    · omega
    · have := ih (x / 10) (UInt8.ofNat (48 + x % 10) :: out); simp only [List.length_cons] at this; omega
  have := key k k []; simpa using this
 unfold mkT
 by_cases h0 : k = 0
 · subst h0
   have c : decide (((0 : Nat) : Int) ≤ 0) = true := by decide
   rw [if_pos rfl]
   apply zu
   refine zw rfl Tryz.func67 rfl (by kernel_rfl) ?_
   unfold Tryz.f67
   simp (disch := ((try simp only [LL]); omega)) only [↓GO, ↓DRW, GA, GX, ren, zo, za, refs, z8, cst, zr, isC, bin, una, z7, zd, blt, asArg, zg, zc, zf, z6, E.mkS, unN, ze, zq, zb, GS, simprocAttr, GZ, c, Int.natCast_zero]
 · have c : decide (((k : Nat) : Int) ≤ 0) = false := by apply decide_eq_false; omega
   rw [if_neg h0]
   generalize mkD k k [] = ms at *
   apply zu
   refine zw rfl Tryz.func67 rfl (by kernel_rfl) ?_
   unfold Tryz.f67
   simp (disch := ((try simp only [LL]); omega)) only [↓GO, ↓DRW, GA, GX, ren, zo, za, refs, z8, cst, zr, isC, bin, una, z7, zd, blt, asArg, zg, zc, zf, z6, E.mkS, unN, ze, zq, zb, GS, simprocAttr, GZ, c, L, List.singleton_append, List.cons_append, List.nil_append, xb]
def mkS : Nat → Nat → List Str
 | 0, _ => []
 | n + 1, k => mkT k :: mkS n (k + 1)
theorem vU : ∀ n k, (mkS n k).length = n
 | 0, _ => rfl
 | n + 1, k => by rw [mkS, List.length_cons, vU n (k + 1)]
theorem eh : ∀ n k, mkS (n + 1) k = mkS n k ++ [mkT (k + n)]
 | 0, k => rfl
 | n + 1, k => by
  rw [mkS, eh n (k + 1), mkS, List.cons_append, show k + 1 + n = k + (n + 1) by omega]
theorem aI (ks : List Str) (hl : ks.length ≤ 134217728) (cap : Option Nat) (k : Nat) (hk : k ≤ 1073741824) : ∀ (rest pre : List Str), ks = pre ++ rest →
 EV Tryz.prog pol (.loop 17 26 1 [.sl 0 0 ks.length cap, .t (.int .i64 ((k + pre.length : Nat) : Int)), .t (.int .i64 (pre.length : Int))] [.ts 1 (strs (mkS pre.length k) ++ strs rest)])
  = some (.loop (.exit 0) [.t (.int .i64 ((k + ks.length : Nat) : Int))] [.ts 1 (strs (mkS ks.length k))])
 | [], pre, hs => by
  have c : decide ((pre.length : Int) < (ks.length : Int)) = false := by simp [hs]
  have e : ks = pre := by simpa using hs
  simp only [kg, List.append_nil]
  refine zk Tryz.func17 rfl rfl ?_
  simp (disch := ((try simp only [LL]); omega)) only [↓GO, ↓DRW, GA, GX, ren, zo, za, refs, z8, cst, zr, isC, bin, una, z7, zd, blt, asArg, zg, zc, zf, z6, E.mkS, unN, ze, zq, zb, GS, simprocAttr, GZ, c]
  rw [e]
 | x :: rest, pre, hs => by
  have c : decide ((pre.length : Int) < (ks.length : Int)) = true := by simp [hs]; omega
  have c0 : decide ((0 : Int) ≤ (pre.length : Int)) = true := by simp
  have hlen : pre.length + rest.length + 1 ≤ ks.length := by rw [hs]; simp; omega
  have hm := sj (k + pre.length) (by omega)
  have IH := aI ks hl cap k hk rest (pre ++ [x]) (by rw [hs]; simp)
  rw [show (pre ++ [x]).length = pre.length + 1 by simp, eh, show strs (mkS pre.length k ++ [mkT (k + pre.length)]) = strs (mkS pre.length k) ++ [[.str (mkT (k + pre.length))]] by simp [strs], List.append_assoc, List.cons_append, List.nil_append] at IH
  rw [show k + (pre.length + 1) = k + pre.length + 1 by omega] at IH
  have w : IntKind.i64.wrap (((k + pre.length : Nat) : Int) + 1) = ((k + pre.length + 1 : Nat) : Int) := by rw [zn (by omega)]; omega
  have w2 : IntKind.i64.wrap ((pre.length : Int) + 1) = ((pre.length + 1 : Nat) : Int) := by rw [zn (by omega)]; omega
  have hAl : (strs (mkS pre.length k)).length = pre.length := by rw [zi, vU]
  rw [show strs (x :: rest) = [.str x] :: strs rest from rfl]
  have hg1 := fun y => xH (strs (mkS pre.length k)) (strs rest) y pre.length hAl
  have hs1 := fun y z => xt (strs (mkS pre.length k)) (strs rest) y z pre.length hAl
  clear hs
  generalize strs (mkS pre.length k) = A at *
  generalize mkT (k + pre.length) = mt at *
  generalize k + pre.length = kp at *
  refine zk Tryz.func17 rfl rfl ?_
  simp (disch := ((try simp only [LL]); omega)) only [↓GO, ↓DRW, GA, GX, ren, zo, za, refs, z8, cst, zr, isC, bin, una, z7, zd, blt, asArg, zg, zc, zf, z6, E.mkS, unN, ze, zq, zb, GS, simprocAttr, GZ, c, c0, if_true, Int.toNat_natCast, hm, hg1, hs1, w, w2, IH]
theorem Zl (ks : List Str) (hl : ks.length ≤ 134217728) (cap : Option Nat) (k : Nat) (hk : k ≤ 1073741824) (n : Nat) (hn : n = ks.length) :
 EV Tryz.prog pol (.callO false 17 [.sl 0 0 n cap, .t (.int .i64 (k : Int))] [.ts 1 (strs ks)]) = some (.call (.t (.int .i64 ((k + ks.length : Nat) : Int))) [.ts 1 (strs (mkS ks.length k))]) := by
 subst hn
 have L := aI ks hl cap k hk ks [] rfl
 simp only [List.length_nil, Int.natCast_zero, mkS, kg, List.nil_append, Nat.add_zero] at L
 refine zP Tryz.func17 rfl (by kernel_rfl) ?_
 unfold Tryz.f17
 simp (disch := ((try simp only [LL]); omega)) only [↓GO, ↓DRW, GA, GX, ren, zo, za, refs, z8, cst, zr, isC, bin, una, z7, zd, blt, asArg, zg, zc, zf, z6, E.mkS, unN, ze, zq, zb, GS, simprocAttr, GZ, L]
end Go.Proofs.YtonbkdklidfmfaaGreatDoor
/- Marks in trees. Conditions: those of each lemma. -/
namespace Go.Proofs.YtonbkdklidfmfaaGreatDoor
open E
set_option linter.unusedSimpArgs false
set_option linter.unusedVariables false
set_option maxRecDepth 100000
end Go.Proofs.YtonbkdklidfmfaaGreatDoor
/- Marks in trees, all; marks found again. Conditions: those of each lemma. -/
namespace Go.Proofs.YtonbkdklidfmfaaGreatDoor
open E
set_option linter.unusedSimpArgs false
set_option linter.unusedVariables false
set_option maxRecDepth 100000
theorem aN (ks : List Str) (hl : ks.length ≤ 134217728) (k : Nat) (hk : k ≤ 1073741824) : ∀ (n i : Nat), i + n = ks.length → ks = mkS ks.length k →
 EV Tryz.prog pol (.loop 18 26 0 [.t (.list 1 (strs ks)), .t (.int .i64 ((k + i : Nat) : Int)), .t (.int .i64 (i : Int))] []) = some (.loop (.exit 0) [.t (.int .i64 ((k + ks.length : Nat) : Int)), .bad] [])
 | 0, i, hi, hm => by
  have c : decide ((i : Int) < (ks.length : Int)) = false := by apply decide_eq_false; omega
  have e : i = ks.length := by omega
  refine zk Tryz.func18 rfl rfl ?_
  simp (disch := ((try simp only [LL]); omega)) only [↓GO, ↓DRW, GA, GX, ren, zo, za, refs, z8, cst, zr, isC, bin, una, z7, zd, blt, asArg, zg, zc, zf, z6, E.mkS, unN, ze, zq, zb, GS, simprocAttr, GZ, c, zi]
  rw [e]
 | n + 1, i, hi, hm => by
  have c : decide ((i : Int) < (ks.length : Int)) = true := by apply decide_eq_true; omega
  have hg : ∀ (m j q : Nat), j < m → (mkS m q)[j]? = some (mkT (q + j)) := fun m => by
   induction m with
   | zero => intro j q h; omega
   | succ m ih =>
    intro j q h
    cases j with
    | zero => rfl
    | succ j => rw [mkS, List.getElem?_cons_succ, ih j (q + 1) (by omega), show q + 1 + j = q + (j + 1) by omega]
  have hget : (strs ks)[i]? = some [.str (mkT (k + i))] := by
   have := hg ks.length i k (by omega)
   rw [hm]
   simp only [strs, List.getElem?_map, vU, this, Option.map_some]
  have hmt := sj (k + i) (by omega)
  have IH := aN ks hl k hk n (i + 1) (by omega) hm
  have w : IntKind.i64.wrap (((k + i : Nat) : Int) + 1) = ((k + (i + 1) : Nat) : Int) := by rw [zn (by omega)]; omega
  have w2 : IntKind.i64.wrap ((i : Int) + 1) = ((i + 1 : Nat) : Int) := by rw [zn (by omega)]; omega
  clear hm
  generalize mkT (k + i) = mt at *
  refine zk Tryz.func18 rfl rfl ?_
  simp (disch := ((try simp only [LL]); omega)) only [↓GO, ↓DRW, GA, GX, ren, zo, za, refs, z8, cst, zr, isC, bin, una, z7, zd, blt, asArg, zg, zc, zf, z6, E.mkS, unN, ze, zq, zb, GS, simprocAttr, GZ, c, zi, hget, hmt, w, w2, IH, bne_self_eq_false]
theorem Zq (n k : Nat) (hn : n ≤ 134217728) (hk : k ≤ 1073741824) : zm (EV Tryz.prog pol) 18 [.t (.list 1 (strs (mkS n k))), .t (.int .i64 (k : Int))] = some (.t (.int .i64 ((k + n : Nat) : Int))) := by
 have L := aN (mkS n k) (by rw [vU]; exact hn) k hk n 0 (by rw [vU]; omega) (by rw [vU])
 rw [vU] at L
 simp only [Int.natCast_zero, Nat.add_zero] at L
 apply zu
 refine zw rfl Tryz.func18 rfl (by kernel_rfl) ?_
 unfold Tryz.f18
 simp (disch := ((try simp only [LL]); omega)) only [↓GO, ↓DRW, GA, GX, ren, zo, za, refs, z8, cst, zr, isC, bin, una, z7, zd, blt, asArg, zg, zc, zf, z6, E.mkS, unN, ze, zq, zb, GS, simprocAttr, GZ, L]
end Go.Proofs.YtonbkdklidfmfaaGreatDoor
/- Trees copied, by both. Conditions: those of each lemma. -/
namespace Go.Proofs.YtonbkdklidfmfaaGreatDoor
open E
set_option linter.unusedSimpArgs false
set_option linter.unusedVariables false
set_option maxRecDepth 100000
theorem x5 {α : Type} {b : Bool} {x y r : Option α} (h : b = true) (hx : x = r) : (if b = true then x else y) = r := by rw [h]; exact hx
end Go.Proofs.YtonbkdklidfmfaaGreatDoor
/- Trees copied by the implementation: their memory is their own; what stands under a key, by both. Conditions: those of each lemma. -/
namespace Go.Proofs.YtonbkdklidfmfaaGreatDoor
open E
set_option linter.unusedSimpArgs false
set_option linter.unusedVariables false
set_option maxRecDepth 100000
/-- the first place of a key, from i on -/
def ixS (key : Str) : Nat → List Str → Int
 | _, [] => -1
 | i, k :: r => cond (k == key) (i : Int) (ixS key (i + 1) r)
theorem aR (key : Str) : ∀ (r : List Str) (i : Nat), ixS key i r = -1 ∨ ((i : Int) ≤ ixS key i r ∧ ixS key i r < ((i + r.length : Nat) : Int))
 | [], i => .inl rfl
 | k :: r, i => by
  rw [ixS]
  cases hk : (k == key) with
  | true => right; simp only [cond_true, List.length_cons]; omega
  | false =>
   simp only [cond_false, List.length_cons]
   rcases aR key r (i + 1) with h | h
   · exact .inl h
   · right; omega
theorem l_ix (key : Str) (ks : List Str) (hl : ks.length ≤ 1048576) : ∀ (rest pre : List Str), ks = pre ++ rest → ∃ x,
 EV Tryz.prog pol (.loop 116 26 0 [.t (.list 1 (strs ks)), .t (.str key), .t (.int .i64 (ks.length : Int)), .t (.int .i64 (pre.length : Int))] []) = some (cond (decide (ixS key pre.length rest ≥ 0)) (.loop .ret [.t (.int .i64 (ixS key pre.length rest))] []) (.loop (.exit 0) [x] []))
 | [], pre, hs => by
  have c : decide ((pre.length : Int) < (ks.length : Int)) = false := by simp [hs]
  refine ⟨.bad, ?_⟩
  show _ = some (w8.loop (.exit 0) [.bad] [])
  refine zk Tryz.func116 rfl rfl ?_
  simp (disch := ((try simp only [LL]); omega)) only [↓GO, ↓DRW, GA, GX, ren, zo, za, refs, z8, cst, zr, isC, bin, una, z7, zd, blt, asArg, zg, zc, zf, z6, E.mkS, unN, ze, zq, zb, GS, simprocAttr, GZ, c]
 | x :: rest, pre, hs => by
  have c : decide ((pre.length : Int) < (ks.length : Int)) = true := by simp [hs]; omega
  have hget : (strs ks)[pre.length]? = some [.str x] := by rw [hs]; simp [strs]
  have hlen : pre.length + rest.length + 1 ≤ ks.length := by rw [hs]; simp; omega
  obtain ⟨y, IH⟩ := l_ix key ks hl rest (pre ++ [x]) (by rw [hs]; simp)
  refine ⟨y, ?_⟩
  rw [show ((pre ++ [x]).length : Int) = (pre.length : Int) + 1 by simp, show (pre ++ [x]).length = pre.length + 1 by simp] at IH
  have hsym : (key == x) = (x == key) := by rw [Bool.eq_iff_iff]; simp only [beq_iff_eq]; exact eq_comm
  clear hs
  rw [ixS]
  cases hk : (x == key) <;> rw [hk] at hsym
  · simp only [cond_false]
    refine zk Tryz.func116 rfl rfl ?_
    simp (disch := ((try simp only [LL]); omega)) only [↓GO, ↓DRW, GA, GX, ren, zo, za, refs, z8, cst, zr, isC, bin, una, z7, zd, blt, asArg, zg, zc, zf, z6, E.mkS, unN, ze, zq, zb, GS, simprocAttr, GZ, c, hget, zn, hsym, IH]
  · simp only [cond_true, show decide (((pre.length : Nat) : Int) ≥ 0) = true by simp]
    refine zk Tryz.func116 rfl rfl ?_
    simp (disch := ((try simp only [LL]); omega)) only [↓GO, ↓DRW, GA, GX, ren, zo, za, refs, z8, cst, zr, isC, bin, una, z7, zd, blt, asArg, zg, zc, zf, z6, E.mkS, unN, ze, zq, zb, GS, simprocAttr, GZ, c, hget, zn, hsym]
theorem c_ix (key : Str) (ks : List Str) (hl : ks.length ≤ 1048576) : zm (EV Tryz.prog pol) 116 [.t (.list 1 (strs ks)), .t (.str key)] = some (.t (.int .i64 (ixS key 0 ks))) := by
 obtain ⟨x, L⟩ := l_ix key ks hl ks [] rfl
 have hr := aR key ks 0
 simp only [List.length_nil, Int.natCast_zero] at L
 cases hd : decide (ixS key 0 ks ≥ 0) with
 | true =>
  rw [hd] at L
  simp only [cond_true] at L
  apply zu
  refine zw rfl Tryz.func116 rfl (by kernel_rfl) ?_
  unfold Tryz.f116
  simp (disch := ((try simp only [LL]); omega)) only [↓GO, ↓DRW, GA, GX, ren, zo, za, refs, z8, cst, zr, isC, bin, una, z7, zd, blt, asArg, zg, zc, zf, z6, E.mkS, unN, ze, zq, zb, GS, simprocAttr, GZ, L, zi]
 | false =>
  rw [hd] at L
  have h := of_decide_eq_false hd
  rw [show ixS key 0 ks = -1 by omega]
  simp only [cond_false] at L
  apply zu
  refine zw rfl Tryz.func116 rfl (by kernel_rfl) ?_
  unfold Tryz.f116
  simp (disch := ((try simp only [LL]); omega)) only [↓GO, ↓DRW, GA, GX, ren, zo, za, refs, z8, cst, zr, isC, bin, una, z7, zd, blt, asArg, zg, zc, zf, z6, E.mkS, unN, ze, zq, zb, GS, simprocAttr, GZ, L, zi]
end Go.Proofs.YtonbkdklidfmfaaGreatDoor
