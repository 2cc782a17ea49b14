/- A part of the proof. -/
import Derived.Test.YthmkafloklnghaaGreatProg
import Derived.KernelRfl
import Derived.Test.YthmkafloklnghaaGreatAbs5
import Derived.Test.YthmkafloklnghaaGreatAbs6
namespace Go.Abs
open Go.Proofs
set_option maxRecDepth 100000
/-! 3: cadastre/cadastrelaw14.KernelPages -/
noncomputable def R3_0 : CT :=
  .reg [
  oP (pdT 2) (eMov (constG (.bool false)))]
noncomputable def R3_1 : CT :=
  .reg [
  cP (pdT 16) 4 [(constG (.int .i64 8))],
  oP (pdT 15) (eMov (slotG 16)),
  oP (pdT 17) (e1 (cExt 0) (slotG 15)),
  oP (pdT 18) (e1 (cExt 1) (slotG 15)),
  oP (pdT 3) (eMov (slotG 17)),
  oP (pdT 4) (eMov (slotG 18))]
noncomputable def R3_2 : CT :=
  .reg [
  oP (pdT 19) (eMov (slotG 4)),
  oP (pdT 20) (e1 (cUn .not) (slotG 19)),
  oP (pdT 21) (eMov (slotG 20)),
  gP (slotG 21) false (pdT 22) (eMov (slotG 0)),
  gP (slotG 21) false (pdT 23) (e1 cLenL (slotG 22)),
  gP (slotG 21) false (pdT 24) (e2 (cBin .gtr) (slotG 23) (constG (.int .i64 1500))),
  oP (pdT 25) (ePick (slotG 21) (constG (.bool true)) (slotG 24))]
noncomputable def R3_3 : CT :=
  .reg [
  oP (pdT 26) (eMov (slotG 4)),
  oP (pdT 27) (eMov (slotG 26)),
  gcP (slotG 27) true (pdT 28) 5 [],
  oP (pdT 29) (ePick (slotG 27) (slotG 28) (constG (.bool false))),
  oP (pdT 2) (eMov (slotG 29))]
noncomputable def R3_4 : CT :=
  .reg [
  oP (pdT 5) (eAlloc [(.bool false), (.bool false), (.bool false), (.bool false), (.bool false), (.bool false), (.bool false), (.bool false), (.bool false)] 9)]
noncomputable def R3_5 : CT :=
  .reg [
  oP (pdT 6) (eMov (constG (.int .i64 0)))]
noncomputable def R3_6 : CT :=
  .reg [
  oP (pdT 30) (eMov (slotG 6)),
  oP (pdT 31) (eMov (slotG 0)),
  oP (pdT 32) (e1 cLenL (slotG 31)),
  oP (pdT 33) (e2 (cBin .lss) (slotG 30) (slotG 32))]
noncomputable def R3_7 : CT :=
  .reg [
  oP (pdT 36) (eMov (slotG 0)),
  oP (pdT 37) (eMov (slotG 6)),
  oP (pdT 38) (e2 (cIxa 3) (slotG 36) (slotG 37)),
  oP (pdT 39) (eLoadN 3 (slotG 38)),
  oP (pdT 7) (eAlloc [(.int .i64 0), (.cst (.slice none 0 0)), (.int .i64 0)] 3),
  oP pdN (eStore 3 (slotG 7) (slotG 39))]
noncomputable def R3_8 : CT :=
  .reg [
  oP (pdT 40) (e1 (cAddo 1) (slotG 7)),
  oP (pdT 41) (eLoad1 (slotG 40)),
  oP (pdT 42) (e1 cLenL (slotG 41)),
  oP (pdT 43) (e2 (cBin .gtr) (slotG 42) (constG (.int .i64 1000)))]
noncomputable def R3_9 : CT :=
  .reg [
  cP (pdT 44) 5 [],
  oP (pdT 2) (eMov (slotG 44))]
noncomputable def R3_10 : CT :=
  .reg [
  oP (pdT 8) (eMov (constG (.bool true)))]
noncomputable def R3_11 : CT :=
  .reg [
  oP (pdT 9) (eMov (constG (.int .i64 0)))]
noncomputable def R3_12 : CT :=
  .reg [
  oP (pdT 45) (eMov (slotG 9)),
  oP (pdT 46) (e1 (cAddo 1) (slotG 7)),
  oP (pdT 47) (eLoad1 (slotG 46)),
  oP (pdT 48) (e1 cLenL (slotG 47)),
  oP (pdT 49) (e2 (cBin .lss) (slotG 45) (slotG 48))]
noncomputable def R3_13 : CT :=
  .reg [
  oP (pdT 52) (eMov (slotG 8)),
  oP (pdT 53) (eMov (slotG 52)),
  gP (slotG 53) true (pdT 54) (e1 (cAddo 1) (slotG 7)),
  gP (slotG 53) true (pdT 55) (eLoad1 (slotG 54)),
  gP (slotG 53) true (pdT 56) (eMov (slotG 9)),
  gP (slotG 53) true (pdT 57) (e2 (cIxa 1) (slotG 55) (slotG 56)),
  gP (slotG 53) true (pdT 58) (eLoad1 (slotG 57)),
  gP (slotG 53) true (pdT 59) (e2 (cBin .geq) (slotG 58) (constG (.int .u32 1))),
  oP (pdT 60) (ePick (slotG 53) (slotG 59) (constG (.bool false))),
  oP (pdT 61) (eMov (slotG 60)),
  gP (slotG 61) true (pdT 62) (e1 (cAddo 1) (slotG 7)),
  gP (slotG 61) true (pdT 63) (eLoad1 (slotG 62)),
  gP (slotG 61) true (pdT 64) (eMov (slotG 9)),
  gP (slotG 61) true (pdT 65) (e2 (cIxa 1) (slotG 63) (slotG 64)),
  gP (slotG 61) true (pdT 66) (eLoad1 (slotG 65)),
  gP (slotG 61) true (pdT 67) (e2 (cBin .leq) (slotG 66) (constG (.int .u32 8))),
  oP (pdT 68) (ePick (slotG 61) (slotG 67) (constG (.bool false))),
  oP (pdT 8) (eMov (slotG 68))]
noncomputable def R3_14 : CT :=
  .reg [
  oP (pdT 50) (eMov (slotG 9)),
  oP (pdT 51) (e2 (cBin .add) (slotG 50) (constG (.int .i64 1))),
  oP (pdT 9) (eMov (slotG 51))]
noncomputable def L3_0 : CT := (.seq (.seq R3_12 (.cond (slotG 49) .skip (.exit 2))) (.seq (.block 3 R3_13) R3_14))
noncomputable def R3_15 : CT :=
  .reg [
  oP (pdT 69) (e1 (cAddo 0) (slotG 7)),
  oP (pdT 70) (eLoad1 (slotG 69))]
noncomputable def R3_16 : CT :=
  .reg [
  oP (pdT 72) (e2 (cEq false .num) (slotG 70) (constG (.int .i64 0))),
  oP (pdT 71) (eMov (slotG 72))]
noncomputable def R3_17 : CT :=
  .drw [73, 74, 75, 76, 77, 78, 79, 80, 81] [
  oI [] (pdT 77) (eBslice [(.int .u32 0)] 0 1 []) 1,
  oI [7] (pdT 78) (e1 (cAddo 1) (slotG 7)) 1,
  oI [78] (pdT 79) (eLoad1 (slotG 78)) 1,
  mI [77, 79] (pdT 80) (eApp 1 4 (slotG 77) (slotG 79)),
  oI [3] (pdT 73) (eMov (slotG 3)) 2,
  oI [73] (pdT 74) (eNilc (slotG 73)) 2,
  oI [74] (pdT 75) (e1 (cAddo 1) (slotG 74)) 2,
  oI [75] (pdT 76) (eLoad1 (slotG 75)) 2,
  cI [76, 80] (pdT 81) 6 [(slotG 76), (slotG 80)],
  oI [81] (pdT 10) (eMov (slotG 81)) 1]
noncomputable def R3_18 : CT :=
  .reg [
  oP (pdT 82) (eMov (slotG 8)),
  oP (pdT 83) (e1 (cUn .not) (slotG 82))]
noncomputable def R3_19 : CT :=
  .reg [
  oP (pdT 84) (eMov (slotG 10)),
  oP (pdT 85) (e2 (cEq true .num) (slotG 84) (constG (.int .i64 2)))]
noncomputable def R3_20 : CT :=
  .reg [
  oP (pdT 2) (eMov (constG (.bool false)))]
noncomputable def R3_21 : CT :=
  .reg [
  oP (pdT 11) (eMov (constG (.int .i64 0)))]
noncomputable def R3_22 : CT :=
  .reg [
  oP (pdT 86) (eMov (slotG 11)),
  oP (pdT 87) (e1 (cAddo 1) (slotG 7)),
  oP (pdT 88) (eLoad1 (slotG 87)),
  oP (pdT 89) (e1 cLenL (slotG 88)),
  oP (pdT 90) (e2 (cBin .lss) (slotG 86) (slotG 89))]
noncomputable def R3_23 : CT :=
  .reg [
  oP (pdT 93) (e1 (cAddo 1) (slotG 7)),
  oP (pdT 94) (eLoad1 (slotG 93)),
  oP (pdT 95) (eMov (slotG 11)),
  oP (pdT 96) (e2 (cIxa 1) (slotG 94) (slotG 95)),
  oP (pdT 97) (eLoad1 (slotG 96)),
  oP (pdT 98) (e2 (cIxarr 9 1) (slotG 5) (slotG 97)),
  oP pdN (eStore 1 (slotG 98) (constG (.bool true)))]
noncomputable def R3_24 : CT :=
  .reg [
  oP (pdT 91) (eMov (slotG 11)),
  oP (pdT 92) (e2 (cBin .add) (slotG 91) (constG (.int .i64 1))),
  oP (pdT 11) (eMov (slotG 92))]
noncomputable def L3_1 : CT := (.seq (.seq R3_22 (.cond (slotG 90) .skip (.exit 5))) (.seq (.block 6 R3_23) R3_24))
noncomputable def R3_25 : CT :=
  .reg [
  oP (pdT 99) (eMov (slotG 10)),
  oP (pdT 100) (e2 (cEq true .num) (slotG 99) (constG (.int .i64 0)))]
noncomputable def R3_26 : CT :=
  .reg [
  oP (pdT 2) (eMov (constG (.bool false)))]
noncomputable def R3_27 : CT :=
  .reg [
  oP (pdT 102) (e2 (cEq false .num) (slotG 70) (constG (.int .i64 1))),
  oP (pdT 101) (eMov (slotG 102))]
noncomputable def R3_28 : CT :=
  .drw [104, 105, 106, 107, 108, 109, 110, 103, 111, 112] [
  oI [3] (pdT 104) (eMov (slotG 3)) 1,
  oI [104] (pdT 105) (eNilc (slotG 104)) 1,
  oI [105] (pdT 106) (e1 (cAddo 1) (slotG 105)) 1,
  oI [106] (pdT 107) (eLoad1 (slotG 106)) 1,
  oI [7] (pdT 108) (e1 (cAddo 2) (slotG 7)) 1,
  oI [108] (pdT 109) (eLoad1 (slotG 108)) 1,
  cI [107, 109] (pdT 110) 7 [(slotG 107), (slotG 109)],
  oI [110] (pdT 103) (eMov (slotG 110)) 1,
  oI [103] (pdT 111) (e1 (cExt 0) (slotG 103)) 1,
  oI [103] (pdT 112) (e1 (cExt 1) (slotG 103)) 1,
  oI [111] (pdT 12) (eMov (slotG 111)) 1,
  oI [112] (pdT 13) (eMov (slotG 112)) 1]
noncomputable def R3_29 : CT :=
  .reg [
  oP (pdT 113) (e1 (cAddo 2) (slotG 7)),
  oP (pdT 114) (eLoad1 (slotG 113)),
  oP (pdT 115) (eMov (slotG 12)),
  oP (pdT 116) (eMov (slotG 13)),
  cP (pdT 117) 8 [(slotG 5), (slotG 114), (slotG 115), (slotG 116)],
  oP (pdT 118) (e1 (cUn .not) (slotG 117))]
noncomputable def R3_30 : CT :=
  .reg [
  oP (pdT 2) (eMov (constG (.bool false)))]
noncomputable def R3_31 : CT :=
  .reg [
  oP (pdT 120) (e2 (cEq false .num) (slotG 70) (constG (.int .i64 2))),
  oP (pdT 119) (eMov (slotG 120))]
noncomputable def R3_32 : CT :=
  .drw [121, 122, 123, 124, 125, 126, 127, 128, 129] [
  oI [] (pdT 125) (eBslice [(.int .u32 0)] 0 1 []) 1,
  oI [7] (pdT 126) (e1 (cAddo 1) (slotG 7)) 1,
  oI [126] (pdT 127) (eLoad1 (slotG 126)) 1,
  mI [125, 127] (pdT 128) (eApp 1 4 (slotG 125) (slotG 127)),
  oI [3] (pdT 121) (eMov (slotG 3)) 2,
  oI [121] (pdT 122) (eNilc (slotG 121)) 2,
  oI [122] (pdT 123) (e1 (cAddo 1) (slotG 122)) 2,
  oI [123] (pdT 124) (eLoad1 (slotG 123)) 2,
  cI [124, 128] (pdT 129) 9 [(slotG 124), (slotG 128)]]
noncomputable def R3_33 : CT :=
  .reg [
  oP (pdT 14) (eMov (constG (.int .i64 0)))]
noncomputable def R3_34 : CT :=
  .reg [
  oP (pdT 130) (eMov (slotG 14)),
  oP (pdT 131) (e1 (cAddo 1) (slotG 7)),
  oP (pdT 132) (eLoad1 (slotG 131)),
  oP (pdT 133) (e1 cLenL (slotG 132)),
  oP (pdT 134) (e2 (cBin .lss) (slotG 130) (slotG 133))]
noncomputable def R3_35 : CT :=
  .reg [
  oP (pdT 137) (e1 (cAddo 1) (slotG 7)),
  oP (pdT 138) (eLoad1 (slotG 137)),
  oP (pdT 139) (eMov (slotG 14)),
  oP (pdT 140) (e2 (cIxa 1) (slotG 138) (slotG 139)),
  oP (pdT 141) (eLoad1 (slotG 140)),
  oP (pdT 142) (e2 (cBin .leq) (slotG 141) (constG (.int .u32 8)))]
noncomputable def R3_36 : CT :=
  .reg [
  oP (pdT 143) (e1 (cAddo 1) (slotG 7)),
  oP (pdT 144) (eLoad1 (slotG 143)),
  oP (pdT 145) (eMov (slotG 14)),
  oP (pdT 146) (e2 (cIxa 1) (slotG 144) (slotG 145)),
  oP (pdT 147) (eLoad1 (slotG 146)),
  oP (pdT 148) (e2 (cIxarr 9 1) (slotG 5) (slotG 147)),
  oP pdN (eStore 1 (slotG 148) (constG (.bool false)))]
noncomputable def R3_37 : CT :=
  .reg [
  oP (pdT 135) (eMov (slotG 14)),
  oP (pdT 136) (e2 (cBin .add) (slotG 135) (constG (.int .i64 1))),
  oP (pdT 14) (eMov (slotG 136))]
noncomputable def L3_2 : CT := (.seq (.seq R3_34 (.cond (slotG 134) .skip (.exit 7))) (.seq (.block 8 (.seq R3_35 (.cond (slotG 142) R3_36 .skip))) R3_37))
noncomputable def R3_38 : CT :=
  .reg [
  oP (pdT 34) (eMov (slotG 6)),
  oP (pdT 35) (e2 (cBin .add) (slotG 34) (constG (.int .i64 1))),
  oP (pdT 6) (eMov (slotG 35))]
noncomputable def L3_3 : CT := (.seq (.seq R3_6 (.cond (slotG 33) .skip (.exit 0))) (.seq (.block 1 (.seq R3_7 (.seq (.seq R3_8 (.cond (slotG 43) (.seq R3_9 .ret) .skip)) (.seq R3_10 (.seq (.seq R3_11 (.block 2 (.loop L3_0))) (.seq R3_15 (.block 4 (.seq R3_16 (.cond (slotG 71) (.seq R3_17 (.seq (.seq R3_18 (.cond (slotG 83) (.seq (.seq R3_19 (.cond (slotG 85) (.seq R3_20 .ret) .skip)) (.exit 1)) .skip)) (.seq (.seq R3_21 (.block 5 (.loop L3_1))) (.seq R3_25 (.cond (slotG 100) (.seq R3_26 .ret) .skip))))) (.seq R3_27 (.cond (slotG 101) (.seq R3_28 (.seq R3_29 (.cond (slotG 118) (.seq R3_30 .ret) .skip))) (.seq R3_31 (.cond (slotG 119) (.seq R3_32 (.seq R3_33 (.block 7 (.loop L3_2)))) .skip))))))))))))) R3_38))
noncomputable def R3_39 : CT :=
  .reg [
  cP (pdT 149) 5 [],
  oP (pdT 2) (eMov (slotG 149))]
noncomputable def B3 : CT := (.seq R3_0 (.seq R3_1 (.seq (.seq R3_2 (.cond (slotG 25) (.seq R3_3 .ret) .skip)) (.seq R3_4 (.seq (.seq R3_5 (.block 0 (.loop L3_3))) (.seq R3_39 .ret))))))
noncomputable def A3 : CF := { res := [rTmp 2], code := B3, nt := 150 }
theorem c3 : ctF Tryz.prog 3 = some A3 := by kernel_rfl

/-! 6: (*cadastre/kernel.Kernel).Use -/
noncomputable def R6_0 : CT :=
  .reg [
  oP (pdT 4) (eMov (constG (.int .i64 0)))]
noncomputable def R6_1 : CT :=
  .reg [
  oP (pdT 9) (eMov (slotG 0)),
  cP (pdT 10) 22 [(slotG 9)]]
noncomputable def R6_2 : CT :=
  .reg [
  oP (pdT 4) (eMov (constG (.int .i64 8)))]
noncomputable def R6_3 : CT :=
  .reg [
  oP (pdT 11) (eMov (slotG 1)),
  oP (pdT 12) (e1 cLenL (slotG 11)),
  oP (pdT 13) (eMov (constG (.int .i64 0)))]
noncomputable def R6_4 : CT :=
  .reg [
  oP (pdT 14) (e2 (cBin .lss) (slotG 13) (slotG 12))]
noncomputable def R6_5 : CT :=
  .reg [
  oP (pdT 15) (e2 (cIxa 1) (slotG 11) (slotG 13)),
  oP (pdT 16) (eLoad1 (slotG 15)),
  oP (pdT 6) (eMov (slotG 16))]
noncomputable def R6_6 : CT :=
  .reg [
  oP (pdT 17) (eMov (slotG 6)),
  oP (pdT 18) (e2 (cBin .lss) (slotG 17) (constG (.int .u32 1))),
  oP (pdT 19) (eMov (slotG 18)),
  gP (slotG 19) false (pdT 20) (eMov (slotG 6)),
  gP (slotG 19) false (pdT 21) (e1 (cToInt .u64) (slotG 20)),
  gP (slotG 19) false (pdT 22) (eMov (slotG 0)),
  gcP (slotG 19) false (pdT 23) 13 [(slotG 22)],
  gP (slotG 19) false (pdT 24) (e1 (cToInt .u64) (slotG 23)),
  gP (slotG 19) false (pdT 25) (e2 (cBin .gtr) (slotG 21) (slotG 24)),
  oP (pdT 26) (ePick (slotG 19) (constG (.bool true)) (slotG 25))]
noncomputable def R6_7 : CT :=
  .reg [
  oP (pdT 4) (eMov (constG (.int .i64 2)))]
noncomputable def R6_8 : CT :=
  .reg [
  oP (pdT 27) (e2 (cBin .add) (slotG 13) (constG (.int .i64 1))),
  oP (pdT 13) (eMov (slotG 27))]
noncomputable def L6_0 : CT := (.seq R6_4 (.seq (.cond (slotG 14) .skip (.exit 0)) (.seq (.block 1 (.seq R6_5 (.seq R6_6 (.cond (slotG 26) (.seq R6_7 .ret) .skip)))) R6_8)))
noncomputable def R6_9 : CT :=
  .reg [
  oP (pdT 28) (eMov (slotG 1)),
  oP (pdT 29) (e1 cLenL (slotG 28)),
  oP (pdT 30) (eMov (constG (.int .i64 0)))]
noncomputable def R6_10 : CT :=
  .reg [
  oP (pdT 31) (e2 (cBin .lss) (slotG 30) (slotG 29))]
noncomputable def R6_11 : CT :=
  .reg [
  oP (pdT 32) (e2 (cIxa 1) (slotG 28) (slotG 30)),
  oP (pdT 33) (eLoad1 (slotG 32)),
  oP (pdT 8) (eMov (slotG 33))]
noncomputable def R6_12 : CT :=
  .reg [
  oP (pdT 34) (eMov (slotG 0)),
  oP (pdT 35) (eNilc (slotG 34)),
  oP (pdT 36) (e1 (cAddo 4) (slotG 35)),
  oP (pdT 37) (eLoad1 (slotG 36)),
  oP (pdT 38) (eMov (slotG 8)),
  oP pdN (eMput .i (slotG 37) (slotG 38) (constG (.int .i64 1)))]
noncomputable def R6_13 : CT :=
  .reg [
  oP (pdT 39) (e2 (cBin .add) (slotG 30) (constG (.int .i64 1))),
  oP (pdT 30) (eMov (slotG 39))]
noncomputable def L6_1 : CT := (.seq R6_10 (.seq (.cond (slotG 31) .skip (.exit 2)) (.seq (.block 3 (.seq R6_11 R6_12)) R6_13)))
noncomputable def R6_14 : CT :=
  .reg [
  oP (pdT 4) (eMov (constG (.int .i64 0)))]
noncomputable def B6 : CT := (.seq R6_0 (.seq (.seq R6_1 (.cond (slotG 10) (.seq R6_2 .ret) .skip)) (.seq (.seq R6_3 (.block 0 (.loop L6_0))) (.seq (.seq R6_9 (.block 2 (.loop L6_1))) (.seq R6_14 .ret)))))
noncomputable def A6 : CF := { res := [rTmp 4], code := B6, nt := 40 }
theorem c6 : ctF Tryz.prog 6 = some A6 := by kernel_rfl

/-! 7: (*cadastre/kernel.Kernel).Fresh -/
noncomputable def R7_0 : CT :=
  .reg [
  oP (pdT 4) (eMov (constG (.cst (.slice none 0 0)))),
  oP (pdT 5) (eMov (constG (.int .i64 0)))]
noncomputable def R7_1 : CT :=
  .reg [
  oP (pdT 9) (eMov (slotG 0)),
  cP (pdT 10) 22 [(slotG 9)],
  oP (pdT 8) (eMov (slotG 10))]
noncomputable def R7_2 : CT :=
  .reg [
  oP (pdT 4) (eMov (constG (.cst (.slice none 0 0)))),
  oP (pdT 5) (eMov (constG (.int .i64 8)))]
noncomputable def R7_3 : CT :=
  .reg [
  oP (pdT 12) (eMov (slotG 1)),
  oP (pdT 13) (e2 (cBin .lss) (slotG 12) (constG (.int .i64 0))),
  oP (pdT 11) (eMov (slotG 13))]
noncomputable def R7_4 : CT :=
  .reg [
  oP (pdT 4) (eMov (constG (.cst (.slice none 0 0)))),
  oP (pdT 5) (eMov (constG (.int .i64 1)))]
noncomputable def R7_5 : CT :=
  .drw [15, 16, 17, 18, 19, 20, 21, 22, 23, 24] [
  oI [0] (pdT 16) (eMov (slotG 0)) 1,
  cI [16] (pdT 17) 13 [(slotG 16)],
  oI [1] (pdT 15) (eMov (slotG 1)) 2,
  oI [0] (pdT 18) (eMov (slotG 0)) 2,
  oI [18] (pdT 19) (eNilc (slotG 18)) 2,
  oI [19] (pdT 20) (e1 (cAddo 4) (slotG 19)) 2,
  oI [20] (pdT 21) (eLoad1 (slotG 20)) 2,
  oI [21] (pdT 22) (eLenM (slotG 21)) 1,
  oI [17, 22] (pdT 23) (e2 (cBin .sub) (slotG 17) (slotG 22)) 1,
  oI [15, 23] (pdT 24) (e2 (cBin .gtr) (slotG 15) (slotG 23)) 1,
  oI [24] (pdT 14) (eMov (slotG 24)) 1]
noncomputable def R7_6 : CT :=
  .reg [
  oP (pdT 4) (eMov (constG (.cst (.slice none 0 0)))),
  oP (pdT 5) (eMov (constG (.int .i64 4)))]
noncomputable def R7_7 : CT :=
  .reg [
  oP (pdT 6) (eMov (constG (.cst (.slice none 0 0))))]
noncomputable def R7_8 : CT :=
  .reg [
  oP (pdT 7) (eMov (constG (.int .u32 1)))]
noncomputable def R7_9 : CT :=
  .reg [
  oP (pdT 25) (eMov (slotG 6)),
  oP (pdT 26) (e1 cLenL (slotG 25)),
  oP (pdT 27) (eMov (slotG 1)),
  oP (pdT 28) (e2 (cBin .lss) (slotG 26) (slotG 27))]
noncomputable def R7_10 : CT :=
  .reg [
  oP (pdT 31) (eMov (slotG 0)),
  oP (pdT 32) (eNilc (slotG 31)),
  oP (pdT 33) (e1 (cAddo 4) (slotG 32)),
  oP (pdT 34) (eLoad1 (slotG 33)),
  oP (pdT 35) (eMov (slotG 7)),
  oP (pdT 36) (eLookup .i (.int .i64 0) false (slotG 34) (slotG 35)),
  oP (pdT 37) (e2 (cEq false .num) (slotG 36) (constG (.int .i64 0)))]
noncomputable def R7_11 : CT :=
  .reg [
  oP (pdT 38) (eMov (slotG 0)),
  oP (pdT 39) (eNilc (slotG 38)),
  oP (pdT 40) (e1 (cAddo 4) (slotG 39)),
  oP (pdT 41) (eLoad1 (slotG 40)),
  oP (pdT 42) (eMov (slotG 7)),
  oP pdN (eMput .i (slotG 41) (slotG 42) (constG (.int .i64 1)))]
noncomputable def R7_12 : CT :=
  .reg [
  oP (pdT 43) (eMov (slotG 6)),
  oP (pdT 44) (eMov (slotG 7)),
  oP (pdT 45) (eBslice [(.int .u32 0)] 1 1 [(0, 1, (slotG 44))]),
  oP (pdT 46) (eApp 1 4 (slotG 43) (slotG 45)),
  oP (pdT 6) (eMov (slotG 46))]
noncomputable def R7_13 : CT :=
  .reg [
  oP (pdT 29) (eMov (slotG 7)),
  oP (pdT 30) (e2 (cBin .add) (slotG 29) (constG (.int .u32 1))),
  oP (pdT 7) (eMov (slotG 30))]
noncomputable def L7_0 : CT := (.seq (.seq R7_9 (.cond (slotG 28) .skip (.exit 1))) (.seq (.block 2 (.seq R7_10 (.cond (slotG 37) (.seq R7_11 R7_12) .skip))) R7_13))
noncomputable def R7_14 : CT :=
  .reg [
  oP (pdT 47) (eMov (slotG 6)),
  oP (pdT 4) (eMov (slotG 47)),
  oP (pdT 5) (eMov (constG (.int .i64 0)))]
noncomputable def B7 : CT := (.seq R7_0 (.seq (.block 0 (.seq R7_1 (.cond (slotG 8) (.seq R7_2 .ret) (.seq R7_3 (.cond (slotG 11) (.seq R7_4 .ret) (.seq R7_5 (.cond (slotG 14) (.seq R7_6 .ret) .skip))))))) (.seq R7_7 (.seq (.seq R7_8 (.block 1 (.loop L7_0))) (.seq R7_14 .ret)))))
noncomputable def A7 : CF := { res := [rTmp 4, rTmp 5], code := B7, nt := 48 }
theorem c7 : ctF Tryz.prog 7 = some A7 := by kernel_rfl

/-! 8: cadastre/cadastrelaw14.takes -/
noncomputable def R8_0 : CT :=
  .reg [
  oP (pdT 8) (eMov (constG (.bool false)))]
noncomputable def R8_1 : CT :=
  .reg [
  oP (pdT 9) (eMov (constG (.int .i64 0)))]
noncomputable def R8_2 : CT :=
  .reg [
  oP (pdT 10) (eMov (constG (.int .i64 1)))]
noncomputable def R8_3 : CT :=
  .reg [
  oP (pdT 13) (eMov (slotG 10)),
  oP (pdT 14) (e2 (cBin .leq) (slotG 13) (constG (.int .i64 8)))]
noncomputable def R8_4 : CT :=
  .reg [
  oP (pdT 17) (eMov (slotG 0)),
  oP (pdT 18) (eMov (slotG 10)),
  oP (pdT 19) (eNilc (slotG 17)),
  oP (pdT 20) (e2 (cIxarr 9 1) (slotG 19) (slotG 18)),
  oP (pdT 21) (eLoad1 (slotG 20)),
  oP (pdT 22) (e1 (cUn .not) (slotG 21))]
noncomputable def R8_5 : CT :=
  .reg [
  oP (pdT 23) (eMov (slotG 9)),
  oP (pdT 24) (e2 (cBin .add) (slotG 23) (constG (.int .i64 1))),
  oP (pdT 9) (eMov (slotG 24))]
noncomputable def R8_6 : CT :=
  .reg [
  oP (pdT 15) (eMov (slotG 10)),
  oP (pdT 16) (e2 (cBin .add) (slotG 15) (constG (.int .i64 1))),
  oP (pdT 10) (eMov (slotG 16))]
noncomputable def L8_0 : CT := (.seq (.seq R8_3 (.cond (slotG 14) .skip (.exit 0))) (.seq (.block 1 (.seq R8_4 (.cond (slotG 22) R8_5 .skip))) R8_6))
noncomputable def R8_7 : CT :=
  .reg [
  oP (pdT 25) (eMov (slotG 1)),
  oP (pdT 26) (e2 (cBin .lss) (slotG 25) (constG (.int .i64 0)))]
noncomputable def R8_8 : CT :=
  .reg [
  oP (pdT 27) (eMov (slotG 3)),
  oP (pdT 28) (e2 (cEq false .num) (slotG 27) (constG (.int .i64 1))),
  oP (pdT 29) (eMov (slotG 28)),
  gP (slotG 29) true (pdT 30) (eMov (slotG 2)),
  gP (slotG 29) true (pdT 31) (e1 cLenL (slotG 30)),
  gP (slotG 29) true (pdT 32) (e2 (cEq false .num) (slotG 31) (constG (.int .i64 0))),
  oP (pdT 33) (ePick (slotG 29) (slotG 32) (constG (.bool false))),
  oP (pdT 8) (eMov (slotG 33))]
noncomputable def R8_9 : CT :=
  .reg [
  oP (pdT 34) (eMov (slotG 1)),
  oP (pdT 35) (eMov (slotG 9)),
  oP (pdT 36) (e2 (cBin .gtr) (slotG 34) (slotG 35))]
noncomputable def R8_10 : CT :=
  .reg [
  oP (pdT 37) (eMov (slotG 3)),
  oP (pdT 38) (e2 (cEq false .num) (slotG 37) (constG (.int .i64 4))),
  oP (pdT 39) (eMov (slotG 38)),
  gP (slotG 39) true (pdT 40) (eMov (slotG 2)),
  gP (slotG 39) true (pdT 41) (e1 cLenL (slotG 40)),
  gP (slotG 39) true (pdT 42) (e2 (cEq false .num) (slotG 41) (constG (.int .i64 0))),
  oP (pdT 43) (ePick (slotG 39) (slotG 42) (constG (.bool false))),
  oP (pdT 8) (eMov (slotG 43))]
noncomputable def R8_11 : CT :=
  .reg [
  oP (pdT 11) (eMov (constG (.int .i64 0)))]
noncomputable def R8_12 : CT :=
  .reg [
  oP (pdT 12) (eMov (constG (.int .i64 1)))]
noncomputable def R8_13 : CT :=
  .reg [
  oP (pdT 44) (eMov (slotG 12)),
  oP (pdT 45) (e2 (cBin .leq) (slotG 44) (constG (.int .i64 8))),
  oP (pdT 46) (eMov (slotG 45)),
  gP (slotG 46) true (pdT 47) (eMov (slotG 11)),
  gP (slotG 46) true (pdT 48) (eMov (slotG 1)),
  gP (slotG 46) true (pdT 49) (e2 (cBin .lss) (slotG 47) (slotG 48)),
  oP (pdT 50) (ePick (slotG 46) (slotG 49) (constG (.bool false)))]
noncomputable def R8_14 : CT :=
  .reg [
  oP (pdT 53) (eMov (slotG 0)),
  oP (pdT 54) (eMov (slotG 12)),
  oP (pdT 55) (eNilc (slotG 53)),
  oP (pdT 56) (e2 (cIxarr 9 1) (slotG 55) (slotG 54)),
  oP (pdT 57) (eLoad1 (slotG 56))]
noncomputable def R8_15 : CT :=
  .reg [
  oP (pdT 58) (eMov (slotG 11)),
  oP (pdT 59) (eMov (slotG 2)),
  oP (pdT 60) (e1 cLenL (slotG 59)),
  oP (pdT 61) (e2 (cBin .geq) (slotG 58) (slotG 60)),
  oP (pdT 62) (eMov (slotG 61)),
  gP (slotG 62) false (pdT 63) (eMov (slotG 2)),
  gP (slotG 62) false (pdT 64) (eMov (slotG 11)),
  gP (slotG 62) false (pdT 65) (e2 (cIxa 1) (slotG 63) (slotG 64)),
  gP (slotG 62) false (pdT 66) (eLoad1 (slotG 65)),
  gP (slotG 62) false (pdT 67) (eMov (slotG 12)),
  gP (slotG 62) false (pdT 68) (e1 (cToInt .u32) (slotG 67)),
  gP (slotG 62) false (pdT 69) (e2 (cEq true .num) (slotG 66) (slotG 68)),
  oP (pdT 70) (ePick (slotG 62) (constG (.bool true)) (slotG 69))]
noncomputable def R8_16 : CT :=
  .reg [
  oP (pdT 8) (eMov (constG (.bool false)))]
noncomputable def R8_17 : CT :=
  .reg [
  oP (pdT 71) (eMov (slotG 0)),
  oP (pdT 72) (eMov (slotG 12)),
  oP (pdT 73) (eNilc (slotG 71)),
  oP (pdT 74) (e2 (cIxarr 9 1) (slotG 73) (slotG 72)),
  oP pdN (eStore 1 (slotG 74) (constG (.bool true)))]
noncomputable def R8_18 : CT :=
  .reg [
  oP (pdT 75) (eMov (slotG 11)),
  oP (pdT 76) (e2 (cBin .add) (slotG 75) (constG (.int .i64 1))),
  oP (pdT 11) (eMov (slotG 76))]
noncomputable def R8_19 : CT :=
  .reg [
  oP (pdT 51) (eMov (slotG 12)),
  oP (pdT 52) (e2 (cBin .add) (slotG 51) (constG (.int .i64 1))),
  oP (pdT 12) (eMov (slotG 52))]
noncomputable def L8_1 : CT := (.seq (.seq R8_13 (.cond (slotG 50) .skip (.exit 2))) (.seq (.block 3 (.seq (.seq R8_14 (.cond (slotG 57) (.exit 3) .skip)) (.seq (.seq R8_15 (.cond (slotG 70) (.seq R8_16 .ret) .skip)) (.seq R8_17 R8_18)))) R8_19))
noncomputable def R8_20 : CT :=
  .reg [
  oP (pdT 77) (eMov (slotG 3)),
  oP (pdT 78) (e2 (cEq false .num) (slotG 77) (constG (.int .i64 0))),
  oP (pdT 79) (eMov (slotG 78)),
  gP (slotG 79) true (pdT 80) (eMov (slotG 2)),
  gP (slotG 79) true (pdT 81) (e1 cLenL (slotG 80)),
  gP (slotG 79) true (pdT 82) (eMov (slotG 1)),
  gP (slotG 79) true (pdT 83) (e2 (cEq false .num) (slotG 81) (slotG 82)),
  oP (pdT 84) (ePick (slotG 79) (slotG 83) (constG (.bool false))),
  oP (pdT 8) (eMov (slotG 84))]
noncomputable def B8 : CT := (.seq R8_0 (.seq R8_1 (.seq (.seq R8_2 (.block 0 (.loop L8_0))) (.seq (.seq R8_7 (.cond (slotG 26) (.seq R8_8 .ret) .skip)) (.seq (.seq R8_9 (.cond (slotG 36) (.seq R8_10 .ret) .skip)) (.seq R8_11 (.seq (.seq R8_12 (.block 2 (.loop L8_1))) (.seq R8_20 .ret))))))))
noncomputable def A8 : CF := { res := [rTmp 8], code := B8, nt := 85 }
theorem c8 : ctF Tryz.prog 8 = some A8 := by kernel_rfl

/-! 9: (*cadastre/kernel.Kernel).Release -/
noncomputable def R9_0 : CT :=
  .reg [
  oP (pdT 6) (eMov (slotG 0)),
  oP (pdT 7) (e2 (cEq false .ptr) (slotG 6) (constG (.cst (.pointer none))))]
noncomputable def R9_1 : CT :=
  .reg [
  oP (pdT 8) (eMov (slotG 1)),
  oP (pdT 9) (e1 cLenL (slotG 8)),
  oP (pdT 10) (eMov (constG (.int .i64 0)))]
noncomputable def R9_2 : CT :=
  .reg [
  oP (pdT 11) (e2 (cBin .lss) (slotG 10) (slotG 9))]
noncomputable def R9_3 : CT :=
  .reg [
  oP (pdT 12) (e2 (cIxa 1) (slotG 8) (slotG 10)),
  oP (pdT 13) (eLoad1 (slotG 12)),
  oP (pdT 5) (eMov (slotG 13))]
noncomputable def R9_4 : CT :=
  .reg [
  oP (pdT 14) (eMov (slotG 0)),
  oP (pdT 15) (eNilc (slotG 14)),
  oP (pdT 16) (e1 (cAddo 4) (slotG 15)),
  oP (pdT 17) (eLoad1 (slotG 16)),
  oP (pdT 18) (eMov (slotG 5)),
  oP pdN (eDel .i (slotG 17) (slotG 18))]
noncomputable def R9_5 : CT :=
  .reg [
  oP (pdT 19) (e2 (cBin .add) (slotG 10) (constG (.int .i64 1))),
  oP (pdT 10) (eMov (slotG 19))]
noncomputable def L9_0 : CT := (.seq R9_2 (.seq (.cond (slotG 11) .skip (.exit 0)) (.seq (.block 1 (.seq R9_3 R9_4)) R9_5)))
noncomputable def B9 : CT := (.seq (.seq R9_0 (.cond (slotG 7) .ret .skip)) (.seq R9_1 (.block 0 (.loop L9_0))))
noncomputable def A9 : CF := { res := [], code := B9, nt := 20 }
theorem c9 : ctF Tryz.prog 9 = some A9 := by kernel_rfl

/-! 13: (*cadastre/kernel.Kernel).Pages -/
noncomputable def R13_0 : CT :=
  .reg [
  oP (pdT 2) (eMov (constG (.int .i64 0)))]
noncomputable def R13_1 : CT :=
  .reg [
  oP (pdT 3) (eMov (slotG 0)),
  oP (pdT 4) (e2 (cEq false .ptr) (slotG 3) (constG (.cst (.pointer none))))]
noncomputable def R13_2 : CT :=
  .reg [
  oP (pdT 2) (eMov (constG (.int .i64 0)))]
noncomputable def R13_3 : CT :=
  .reg [
  oP (pdT 5) (eMov (slotG 0)),
  oP (pdT 6) (eNilc (slotG 5)),
  oP (pdT 7) (e1 (cAddo 1) (slotG 6)),
  oP (pdT 8) (eLoad1 (slotG 7)),
  cP (pdT 9) 35 [(slotG 8)],
  oP (pdT 2) (eMov (slotG 9))]
noncomputable def B13 : CT := (.seq R13_0 (.seq (.seq R13_1 (.cond (slotG 4) (.seq R13_2 .ret) .skip)) (.seq R13_3 .ret)))
noncomputable def A13 : CF := { res := [rTmp 2], code := B13, nt := 10 }
theorem c13 : ctF Tryz.prog 13 = some A13 := by kernel_rfl

/-! 22: (*cadastre/kernel.Kernel).gone -/
noncomputable def R22_0 : CT :=
  .reg [
  oP (pdT 2) (eMov (constG (.bool false)))]
noncomputable def R22_1 : CT :=
  .reg [
  oP (pdT 3) (eMov (slotG 0)),
  oP (pdT 4) (e2 (cEq false .ptr) (slotG 3) (constG (.cst (.pointer none)))),
  oP (pdT 5) (eMov (slotG 4)),
  gP (slotG 5) false (pdT 6) (eMov (slotG 0)),
  gP (slotG 5) false (pdT 7) (eNilc (slotG 6)),
  gP (slotG 5) false (pdT 8) (e1 (cAddo 0) (slotG 7)),
  gP (slotG 5) false (pdT 9) (eLoad1 (slotG 8)),
  gP (slotG 5) false (pdT 10) (e2 (cEq false .ptr) (slotG 9) (constG (.cst (.pointer none)))),
  oP (pdT 11) (ePick (slotG 5) (constG (.bool true)) (slotG 10)),
  oP (pdT 12) (eMov (slotG 11)),
  gP (slotG 12) false (pdT 13) (eMov (slotG 0)),
  gP (slotG 12) false (pdT 14) (eNilc (slotG 13)),
  gP (slotG 12) false (pdT 15) (e1 (cAddo 5) (slotG 14)),
  gP (slotG 12) false (pdT 16) (eLoad1 (slotG 15)),
  oP (pdT 17) (ePick (slotG 12) (constG (.bool true)) (slotG 16)),
  oP (pdT 2) (eMov (slotG 17))]
noncomputable def B22 : CT := (.seq R22_0 (.seq R22_1 .ret))
noncomputable def A22 : CF := { res := [rTmp 2], code := B22, nt := 18 }
theorem c22 : ctF Tryz.prog 22 = some A22 := by kernel_rfl

/-! 23: (*cadastre/disk.Disk).Sectors -/
noncomputable def R23_0 : CT :=
  .reg [
  oP (pdT 2) (eMov (constG (.int .i64 0)))]
noncomputable def R23_1 : CT :=
  .reg [
  oP (pdT 3) (eMov (slotG 0)),
  oP (pdT 4) (e2 (cEq false .ptr) (slotG 3) (constG (.cst (.pointer none))))]
noncomputable def R23_2 : CT :=
  .reg [
  oP (pdT 2) (eMov (constG (.int .i64 0)))]
noncomputable def R23_3 : CT :=
  .reg [
  oP (pdT 5) (eMov (slotG 0)),
  oP (pdT 6) (eNilc (slotG 5)),
  oP (pdT 7) (e1 (cAddo 0) (slotG 6)),
  oP (pdT 8) (eLoad1 (slotG 7)),
  oP (pdT 9) (e1 cLenL (slotG 8)),
  oP (pdT 2) (eMov (slotG 9))]
noncomputable def B23 : CT := (.seq R23_0 (.seq (.seq R23_1 (.cond (slotG 4) (.seq R23_2 .ret) .skip)) (.seq R23_3 .ret)))
noncomputable def A23 : CF := { res := [rTmp 2], code := B23, nt := 10 }
theorem c23 : ctF Tryz.prog 23 = some A23 := by kernel_rfl

/-! 35: (*cadastre/pool.Pool).Pages -/
noncomputable def R35_0 : CT :=
  .reg [
  oP (pdT 2) (eMov (constG (.int .i64 0)))]
noncomputable def R35_1 : CT :=
  .reg [
  oP (pdT 3) (eMov (slotG 0)),
  oP (pdT 4) (e2 (cEq false .ptr) (slotG 3) (constG (.cst (.pointer none)))),
  oP (pdT 5) (eMov (slotG 4)),
  gP (slotG 5) false (pdT 6) (eMov (slotG 0)),
  gP (slotG 5) false (pdT 7) (eNilc (slotG 6)),
  gP (slotG 5) false (pdT 8) (e1 (cAddo 0) (slotG 7)),
  gP (slotG 5) false (pdT 9) (eLoad1 (slotG 8)),
  gP (slotG 5) false (pdT 10) (e2 (cEq false .ptr) (slotG 9) (constG (.cst (.pointer none)))),
  oP (pdT 11) (ePick (slotG 5) (constG (.bool true)) (slotG 10))]
noncomputable def R35_2 : CT :=
  .reg [
  oP (pdT 2) (eMov (constG (.int .i64 0)))]
noncomputable def R35_3 : CT :=
  .drw [12, 13, 14, 15, 16, 17, 18, 19, 20, 21, 22, 23] [
  oI [0] (pdT 12) (eMov (slotG 0)) 1,
  oI [12] (pdT 13) (eNilc (slotG 12)) 1,
  oI [13] (pdT 14) (e1 (cAddo 0) (slotG 13)) 1,
  oI [14] (pdT 15) (eLoad1 (slotG 14)) 1,
  cI [15] (pdT 16) 23 [(slotG 15)],
  oI [0] (pdT 18) (eMov (slotG 0)) 2,
  oI [18] (pdT 19) (eNilc (slotG 18)) 2,
  oI [19] (pdT 20) (e1 (cAddo 1) (slotG 19)) 2,
  oI [20] (pdT 21) (eLoad1 (slotG 20)) 2,
  cI [21] (pdT 22) 72 [(slotG 21)],
  oI [16] (pdT 17) (e2 (cBin .sub) (slotG 16) (constG (.int .i64 1))) 2,
  oI [17, 22] (pdT 23) (e2 (cBin .sub) (slotG 17) (slotG 22)) 1,
  oI [23] (pdT 2) (eMov (slotG 23)) 1]
noncomputable def B35 : CT := (.seq R35_0 (.seq (.seq R35_1 (.cond (slotG 11) (.seq R35_2 .ret) .skip)) (.seq R35_3 .ret)))
noncomputable def A35 : CF := { res := [rTmp 2], code := B35, nt := 24 }
theorem c35 : ctF Tryz.prog 35 = some A35 := by kernel_rfl

/-! 72: (*cadastre/wal.Log).Sectors -/
noncomputable def R72_0 : CT :=
  .reg [
  oP (pdT 2) (eMov (constG (.int .i64 0)))]
noncomputable def R72_1 : CT :=
  .reg [
  oP (pdT 3) (eMov (slotG 0)),
  cP (pdT 4) 82 [(slotG 3)]]
noncomputable def R72_2 : CT :=
  .reg [
  oP (pdT 2) (eMov (constG (.int .i64 0)))]
noncomputable def R72_3 : CT :=
  .reg [
  oP (pdT 5) (eMov (slotG 0)),
  oP (pdT 6) (eNilc (slotG 5)),
  oP (pdT 7) (e1 (cAddo 1) (slotG 6)),
  oP (pdT 8) (e1 (cAddo 0) (slotG 7)),
  oP (pdT 9) (eLoad1 (slotG 8)),
  oP (pdT 2) (eMov (slotG 9))]
noncomputable def B72 : CT := (.seq R72_0 (.seq (.seq R72_1 (.cond (slotG 4) (.seq R72_2 .ret) .skip)) (.seq R72_3 .ret)))
noncomputable def A72 : CF := { res := [rTmp 2], code := B72, nt := 10 }
theorem c72 : ctF Tryz.prog 72 = some A72 := by kernel_rfl

/-! 82: (*cadastre/wal.Log).none -/
noncomputable def R82_0 : CT :=
  .reg [
  oP (pdT 2) (eMov (constG (.bool false)))]
noncomputable def R82_1 : CT :=
  .reg [
  oP (pdT 3) (eMov (slotG 0)),
  oP (pdT 4) (e2 (cEq false .ptr) (slotG 3) (constG (.cst (.pointer none)))),
  oP (pdT 5) (eMov (slotG 4)),
  gP (slotG 5) false (pdT 6) (eMov (slotG 0)),
  gP (slotG 5) false (pdT 7) (eNilc (slotG 6)),
  gP (slotG 5) false (pdT 8) (e1 (cAddo 0) (slotG 7)),
  gP (slotG 5) false (pdT 9) (eLoad1 (slotG 8)),
  gP (slotG 5) false (pdT 10) (e2 (cEq false .ptr) (slotG 9) (constG (.cst (.pointer none)))),
  oP (pdT 11) (ePick (slotG 5) (constG (.bool true)) (slotG 10)),
  oP (pdT 2) (eMov (slotG 11))]
noncomputable def B82 : CT := (.seq R82_0 (.seq R82_1 .ret))
noncomputable def A82 : CF := { res := [rTmp 2], code := B82, nt := 12 }
theorem c82 : ctF Tryz.prog 82 = some A82 := by kernel_rfl

end Go.Abs
