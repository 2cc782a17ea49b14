/- A part of the proof. -/
import Derived.Test.YtknkdhilieabnaaGreatProg
import Derived.KernelRfl
import Derived.Test.YtknkdhilieabnaaGreatAbsOw
namespace Go.Abs
open Go.Proofs
set_option maxRecDepth 100000
/-! 3: cadastre/cadastrelaw25.VMIn -/
noncomputable def R3_0 : CT :=
  .reg [
  oP (pdT 3) (eBox (slotG 0)),
  oP (pdT 4) (eBox (slotG 1)),
  oP (pdT 6) (eMov (constG (.bool false)))]
noncomputable def R3_1 : CT :=
  .drw [7, 8, 9, 10, 11, 12, 13, 14, 15, 16, 17, 18] [
  oI [3] (pdT 7) (eLoadN 6 (slotG 3)) 1,
  oI [4] (pdT 8) (eLoadN 11 (slotG 4)) 1,
  oI [2] (pdT 9) (eMov (slotG 2)) 1,
  cI [7, 8, 9] (pdT 10) 5 [(slotG 7), (slotG 8), (slotG 9)],
  oI [3] (pdT 11) (eLoadN 6 (slotG 3)) 2,
  oI [4] (pdT 12) (eLoadN 11 (slotG 4)) 2,
  oI [2] (pdT 13) (eMov (slotG 2)) 2,
  cI [11, 12, 13] (pdT 14) 6 [(slotG 11), (slotG 12), (slotG 13)],
  oI [10, 14] (pdT 15) (e2 (cEq false .bool) (slotG 10) (slotG 14)) 1,
  oI [15] (pdT 16) (eMov (slotG 15)) 1,
  gcI [16] (slotG 16) true (pdT 17) 7 [],
  oI [16, 17] (pdT 18) (ePick (slotG 16) (slotG 17) (constG (.bool false))) 1,
  oI [18] (pdT 6) (eMov (slotG 18)) 1]
noncomputable def B3 : CT := (.seq R3_0 (.seq R3_1 .ret))
noncomputable def A3 : CF := { res := [rTmp 6], code := B3, nt := 19 }
theorem c3 : ctF Tryz.prog 3 = some A3 := by kernel_rfl

/-! 5: cadastre/vm.In -/
noncomputable def R5_0 : CT :=
  .reg [
  oP (pdT 3) (eBox (slotG 0)),
  oP (pdT 4) (eBox (slotG 1)),
  oP (pdT 6) (eMov (constG (.bool false)))]
noncomputable def R5_1 : CT :=
  .reg [
  oP (pdT 14) (e1 (cAddo 0) (slotG 4)),
  oP (pdT 15) (eLoad1 (slotG 14)),
  oP (pdT 16) (e1 cLenL (slotG 15)),
  oP (pdT 7) (eMov (slotG 16))]
noncomputable def R5_2 : CT :=
  .reg [
  oP (pdT 17) (eMov (slotG 7)),
  oP (pdT 18) (e1 (cAddo 3) (slotG 3)),
  oP (pdT 19) (eLoad1 (slotG 18)),
  oP (pdT 20) (e1 cLenL (slotG 19)),
  oP (pdT 21) (e2 (cBin .gtr) (slotG 17) (slotG 20)),
  oP (pdT 22) (eMov (slotG 21)),
  gP (slotG 22) false (pdT 23) (e1 (cAddo 1) (slotG 4)),
  gP (slotG 22) false (pdT 24) (eLoad1 (slotG 23)),
  gP (slotG 22) false (pdT 25) (eMov (slotG 24)),
  gP (slotG 25) false (pdT 26) (e1 (cAddo 6) (slotG 4)),
  gP (slotG 25) false (pdT 27) (eLoad1 (slotG 26)),
  gP (slotG 22) false (pdT 28) (ePick (slotG 25) (constG (.bool true)) (slotG 27)),
  gP (slotG 22) false (pdT 29) (eMov (slotG 28)),
  gP (slotG 29) true (pdT 30) (eMov (slotG 7)),
  gP (slotG 29) true (pdT 31) (e1 (cAddo 3) (slotG 3)),
  gP (slotG 29) true (pdT 32) (eLoad1 (slotG 31)),
  gP (slotG 29) true (pdT 33) (e1 cLenL (slotG 32)),
  gP (slotG 29) true (pdT 34) (e2 (cEq false .num) (slotG 30) (slotG 33)),
  gP (slotG 22) false (pdT 35) (ePick (slotG 29) (slotG 34) (constG (.bool false))),
  oP (pdT 36) (ePick (slotG 22) (constG (.bool true)) (slotG 35))]
noncomputable def R5_3 : CT :=
  .reg [
  oP (pdT 6) (eMov (constG (.bool false)))]
noncomputable def R5_4 : CT :=
  .reg [
  oP (pdT 37) (e1 (cAddo 1) (slotG 4)),
  oP (pdT 38) (eLoad1 (slotG 37)),
  oP (pdT 39) (eMov (slotG 38)),
  gP (slotG 39) false (pdT 40) (e1 (cAddo 6) (slotG 4)),
  gP (slotG 39) false (pdT 41) (eLoad1 (slotG 40)),
  oP (pdT 42) (ePick (slotG 39) (constG (.bool true)) (slotG 41))]
noncomputable def R5_5 : CT :=
  .reg [
  oP (pdT 43) (eMov (slotG 7)),
  oP (pdT 44) (e2 (cBin .add) (slotG 43) (constG (.int .i64 1))),
  oP (pdT 7) (eMov (slotG 44))]
noncomputable def R5_6 : CT :=
  .reg [
  oP (pdT 45) (e1 (cAddo 3) (slotG 3)),
  oP (pdT 46) (eLoad1 (slotG 45)),
  oP (pdT 47) (eMov (slotG 7)),
  oP (pdT 48) (eSl (cSlc 1) (slotG 46) none (some (slotG 47)) none),
  oP (pdT 49) (e1 cLenL (slotG 48)),
  oP (pdT 50) (eMov (constG (.int .i64 0)))]
noncomputable def R5_7 : CT :=
  .reg [
  oP (pdT 51) (e2 (cBin .lss) (slotG 50) (slotG 49))]
noncomputable def R5_8 : CT :=
  .reg [
  oP (pdT 52) (eMov (slotG 50)),
  oP (pdT 53) (e2 (cIxa 1) (slotG 48) (slotG 50)),
  oP (pdT 54) (eLoad1 (slotG 53)),
  oP (pdT 8) (eMov (slotG 52)),
  oP (pdT 9) (eMov (slotG 54))]
noncomputable def R5_9 : CT :=
  .drw [55, 56, 57, 58, 59, 60, 61, 62, 63, 64, 65, 66, 67, 68, 69, 70, 71, 72, 73, 74, 75, 76, 77, 78, 79, 80, 81, 82, 83, 84, 85, 86, 87, 88, 89] [
  oI [9] (pdT 55) (eMov (slotG 9)) 1,
  oI [55] (pdT 56) (e2 (cBin .lss) (slotG 55) (constG (.int .i64 0))) 1,
  oI [56] (pdT 57) (eMov (slotG 56)) 1,
  goI [57, 9] (slotG 57) false (pdT 58) (eMov (slotG 9)) 1,
  goI [57, 2] (slotG 57) false (pdT 59) (eMov (slotG 2)) 1,
  goI [57, 59] (slotG 57) false (pdT 60) (e1 cLenL (slotG 59)) 1,
  goI [57, 58, 60] (slotG 57) false (pdT 61) (e2 (cBin .geq) (slotG 58) (slotG 60)) 1,
  oI [57, 61] (pdT 62) (ePick (slotG 57) (constG (.bool true)) (slotG 61)) 1,
  oI [62] (pdT 63) (eMov (slotG 62)) 1,
  goI [63, 2] (slotG 63) false (pdT 64) (eMov (slotG 2)) 1,
  goI [63, 9] (slotG 63) false (pdT 65) (eMov (slotG 9)) 1,
  goI [63, 64, 65] (slotG 63) false (pdT 66) (e2 (cIxa 3) (slotG 64) (slotG 65)) 1,
  goI [63, 66] (slotG 63) false (pdT 67) (e1 (cAddo 0) (slotG 66)) 1,
  goI [63, 67] (slotG 63) false (pdT 68) (eLoad1 (slotG 67)) 1,
  goI [63, 68] (slotG 63) false (pdT 69) (e2 (cEq false .num) (slotG 68) (constG (.int .i64 0))) 1,
  oI [63, 69] (pdT 70) (ePick (slotG 63) (constG (.bool true)) (slotG 69)) 1,
  oI [70] (pdT 71) (eMov (slotG 70)) 1,
  goI [71, 8] (slotG 71) false (pdT 72) (eMov (slotG 8)) 1,
  goI [71, 4] (slotG 71) false (pdT 73) (e1 (cAddo 0) (slotG 4)) 1,
  goI [71, 73] (slotG 71) false (pdT 74) (eLoad1 (slotG 73)) 1,
  goI [71, 74] (slotG 71) false (pdT 75) (e1 cLenL (slotG 74)) 1,
  goI [71, 72, 75] (slotG 71) false (pdT 76) (e2 (cBin .lss) (slotG 72) (slotG 75)) 1,
  goI [71, 76] (slotG 71) false (pdT 77) (eMov (slotG 76)) 1,
  goI [77, 2] (slotG 77) true (pdT 78) (eMov (slotG 2)) 1,
  goI [77, 9] (slotG 77) true (pdT 79) (eMov (slotG 9)) 1,
  goI [77, 78, 79] (slotG 77) true (pdT 80) (e2 (cIxa 3) (slotG 78) (slotG 79)) 1,
  goI [77, 80] (slotG 77) true (pdT 81) (eLoadN 3 (slotG 80)) 1,
  goI [77, 4] (slotG 77) true (pdT 82) (e1 (cAddo 0) (slotG 4)) 1,
  goI [77, 82] (slotG 77) true (pdT 83) (eLoad1 (slotG 82)) 1,
  goI [77, 8] (slotG 77) true (pdT 84) (eMov (slotG 8)) 1,
  goI [77, 83, 84] (slotG 77) true (pdT 85) (e2 (cIxa 3) (slotG 83) (slotG 84)) 1,
  goI [77, 85] (slotG 77) true (pdT 86) (eLoadN 3 (slotG 85)) 1,
  goI [77, 81, 86] (slotG 77) true (pdT 87) (e2 (cEqA true [.i, .i, .s]) (slotG 81) (slotG 86)) 1,
  goI [71, 77, 87] (slotG 71) false (pdT 88) (ePick (slotG 77) (slotG 87) (constG (.bool false))) 1,
  oI [71, 88] (pdT 89) (ePick (slotG 71) (constG (.bool true)) (slotG 88)) 1]
noncomputable def R5_10 : CT :=
  .reg [
  oP (pdT 6) (eMov (constG (.bool false)))]
noncomputable def R5_11 : CT :=
  .reg [
  oP (pdT 90) (e2 (cBin .add) (slotG 50) (constG (.int .i64 1))),
  oP (pdT 50) (eMov (slotG 90))]
noncomputable def L5_0 : CT := (.seq R5_7 (.seq (.cond (slotG 51) .skip (.exit 0)) (.seq (.block 1 (.seq R5_8 (.seq R5_9 (.cond (slotG 89) (.seq R5_10 .ret) .skip)))) R5_11)))
noncomputable def R5_12 : CT :=
  .reg [
  oP (pdT 91) (e1 (cAddo 1) (slotG 4)),
  oP (pdT 92) (eLoad1 (slotG 91))]
noncomputable def R5_13 : CT :=
  .drw [94, 95, 96, 97, 98, 99, 100, 101, 102, 103, 104, 105, 93, 106, 107] [
  oI [2] (pdT 94) (eMov (slotG 2)) 1,
  oI [3] (pdT 95) (e1 (cAddo 3) (slotG 3)) 1,
  oI [95] (pdT 96) (eLoad1 (slotG 95)) 1,
  oI [7] (pdT 97) (eMov (slotG 7)) 1,
  oI [97] (pdT 98) (e2 (cBin .sub) (slotG 97) (constG (.int .i64 1))) 1,
  oI [96, 98] (pdT 99) (e2 (cIxa 1) (slotG 96) (slotG 98)) 1,
  oI [99] (pdT 100) (eLoad1 (slotG 99)) 1,
  oI [94, 100] (pdT 101) (e2 (cIxa 3) (slotG 94) (slotG 100)) 1,
  oI [101] (pdT 102) (eLoadN 3 (slotG 101)) 1,
  oI [4] (pdT 103) (e1 (cAddo 2) (slotG 4)) 1,
  oI [103] (pdT 104) (eLoadN 3 (slotG 103)) 1,
  cI [102, 104] (pdT 105) 13 [(slotG 102), (slotG 104)],
  oI [105] (pdT 93) (eMov (slotG 105)) 1,
  oI [93] (pdT 106) (e1 (cExt 0) (slotG 93)) 1,
  oI [93] (pdT 107) (e1 (cExt 1) (slotG 93)) 1,
  oI [106] (pdT 10) (eMov (slotG 106)) 1,
  oI [107] (pdT 11) (eMov (slotG 107)) 1]
noncomputable def R5_14 : CT :=
  .reg [
  oP (pdT 108) (eMov (slotG 11)),
  oP (pdT 109) (e2 (cEq true .num) (slotG 108) (constG (.int .i64 0))),
  oP (pdT 110) (eMov (slotG 109)),
  gP (slotG 110) false (pdT 111) (e1 (cAddo 2) (slotG 4)),
  gP (slotG 110) false (pdT 112) (e1 (cAddo 0) (slotG 111)),
  gP (slotG 110) false (pdT 113) (eLoad1 (slotG 112)),
  gP (slotG 110) false (pdT 114) (e2 (cEq false .num) (slotG 113) (constG (.int .i64 0))),
  oP (pdT 115) (ePick (slotG 110) (constG (.bool true)) (slotG 114)),
  oP (pdT 116) (eMov (slotG 115)),
  gP (slotG 116) false (pdT 117) (eMov (slotG 10)),
  gP (slotG 116) false (pdT 118) (e2 (cBin .lss) (slotG 117) (constG (.int .i64 0))),
  oP (pdT 119) (ePick (slotG 116) (constG (.bool true)) (slotG 118)),
  oP (pdT 120) (eMov (slotG 119)),
  gP (slotG 120) false (pdT 121) (eMov (slotG 10)),
  gP (slotG 120) false (pdT 122) (e2 (cEq false .num) (slotG 121) (constG (.int .i64 0))),
  gP (slotG 120) false (pdT 123) (eMov (slotG 122)),
  gP (slotG 123) true (pdT 124) (e1 (cAddo 5) (slotG 4)),
  gP (slotG 123) true (pdT 125) (eLoad1 (slotG 124)),
  gP (slotG 123) true (pdT 126) (e1 (cUn .not) (slotG 125)),
  gP (slotG 120) false (pdT 127) (ePick (slotG 123) (slotG 126) (constG (.bool false))),
  oP (pdT 128) (ePick (slotG 120) (constG (.bool true)) (slotG 127))]
noncomputable def R5_15 : CT :=
  .reg [
  oP (pdT 6) (eMov (constG (.bool false)))]
noncomputable def R5_16 : CT :=
  .reg [
  oP (pdT 129) (e1 (cAddo 6) (slotG 4)),
  oP (pdT 130) (eLoad1 (slotG 129))]
noncomputable def R5_17 : CT :=
  .drw [132, 133, 134, 135, 136, 137, 138, 139, 140, 141, 142, 143, 131, 144, 145] [
  oI [2] (pdT 132) (eMov (slotG 2)) 1,
  oI [3] (pdT 133) (e1 (cAddo 3) (slotG 3)) 1,
  oI [133] (pdT 134) (eLoad1 (slotG 133)) 1,
  oI [7] (pdT 135) (eMov (slotG 7)) 1,
  oI [135] (pdT 136) (e2 (cBin .sub) (slotG 135) (constG (.int .i64 1))) 1,
  oI [134, 136] (pdT 137) (e2 (cIxa 1) (slotG 134) (slotG 136)) 1,
  oI [137] (pdT 138) (eLoad1 (slotG 137)) 1,
  oI [132, 138] (pdT 139) (e2 (cIxa 3) (slotG 132) (slotG 138)) 1,
  oI [139] (pdT 140) (eLoadN 3 (slotG 139)) 1,
  oI [4] (pdT 141) (e1 (cAddo 7) (slotG 4)) 1,
  oI [141] (pdT 142) (eLoadN 3 (slotG 141)) 1,
  cI [140, 142] (pdT 143) 13 [(slotG 140), (slotG 142)],
  oI [143] (pdT 131) (eMov (slotG 143)) 1,
  oI [131] (pdT 144) (e1 (cExt 0) (slotG 131)) 1,
  oI [131] (pdT 145) (e1 (cExt 1) (slotG 131)) 1,
  oI [144] (pdT 12) (eMov (slotG 144)) 1,
  oI [145] (pdT 13) (eMov (slotG 145)) 1]
noncomputable def R5_18 : CT :=
  .reg [
  oP (pdT 146) (eMov (slotG 13)),
  oP (pdT 147) (e2 (cEq true .num) (slotG 146) (constG (.int .i64 0))),
  oP (pdT 148) (eMov (slotG 147)),
  gP (slotG 148) false (pdT 149) (e1 (cAddo 7) (slotG 4)),
  gP (slotG 148) false (pdT 150) (e1 (cAddo 0) (slotG 149)),
  gP (slotG 148) false (pdT 151) (eLoad1 (slotG 150)),
  gP (slotG 148) false (pdT 152) (e2 (cEq false .num) (slotG 151) (constG (.int .i64 0))),
  oP (pdT 153) (ePick (slotG 148) (constG (.bool true)) (slotG 152)),
  oP (pdT 154) (eMov (slotG 153)),
  gP (slotG 154) false (pdT 155) (eMov (slotG 12)),
  gP (slotG 154) false (pdT 156) (e2 (cBin .gtr) (slotG 155) (constG (.int .i64 0))),
  oP (pdT 157) (ePick (slotG 154) (constG (.bool true)) (slotG 156)),
  oP (pdT 158) (eMov (slotG 157)),
  gP (slotG 158) false (pdT 159) (eMov (slotG 12)),
  gP (slotG 158) false (pdT 160) (e2 (cEq false .num) (slotG 159) (constG (.int .i64 0))),
  gP (slotG 158) false (pdT 161) (eMov (slotG 160)),
  gP (slotG 161) true (pdT 162) (e1 (cAddo 10) (slotG 4)),
  gP (slotG 161) true (pdT 163) (eLoad1 (slotG 162)),
  gP (slotG 161) true (pdT 164) (e1 (cUn .not) (slotG 163)),
  gP (slotG 158) false (pdT 165) (ePick (slotG 161) (slotG 164) (constG (.bool false))),
  oP (pdT 166) (ePick (slotG 158) (constG (.bool true)) (slotG 165))]
noncomputable def R5_19 : CT :=
  .reg [
  oP (pdT 6) (eMov (constG (.bool false)))]
noncomputable def R5_20 : CT :=
  .reg [
  oP (pdT 6) (eMov (constG (.bool true)))]
noncomputable def B5 : CT := (.seq R5_0 (.seq R5_1 (.seq (.seq R5_2 (.cond (slotG 36) (.seq R5_3 .ret) .skip)) (.seq (.seq R5_4 (.cond (slotG 42) R5_5 .skip)) (.seq (.seq R5_6 (.block 0 (.loop L5_0))) (.seq (.seq R5_12 (.cond (slotG 92) (.seq R5_13 (.seq R5_14 (.cond (slotG 128) (.seq R5_15 .ret) .skip))) .skip)) (.seq (.seq R5_16 (.cond (slotG 130) (.seq R5_17 (.seq R5_18 (.cond (slotG 166) (.seq R5_19 .ret) .skip))) .skip)) (.seq R5_20 .ret))))))))
noncomputable def A5 : CF := { res := [rTmp 6], code := B5, nt := 167 }
theorem c5 : ctF Tryz.prog 5 = some A5 := by kernel_rfl

/-! 6: cadastre/cadastreref25.In -/
noncomputable def R6_0 : CT :=
  .reg [
  oP (pdT 3) (eBox (slotG 0)),
  oP (pdT 4) (eBox (slotG 1)),
  oP (pdT 6) (eMov (constG (.bool false)))]
noncomputable def R6_1 : CT :=
  .reg [
  oP (pdT 16) (e1 (cAddo 0) (slotG 4)),
  oP (pdT 17) (eLoad1 (slotG 16)),
  oP (pdT 18) (e1 cLenL (slotG 17)),
  oP (pdT 7) (eMov (slotG 18))]
noncomputable def R6_2 : CT :=
  .reg [
  oP (pdT 19) (e1 (cAddo 1) (slotG 4)),
  oP (pdT 20) (eLoad1 (slotG 19)),
  oP (pdT 21) (eMov (slotG 20)),
  gP (slotG 21) false (pdT 22) (e1 (cAddo 6) (slotG 4)),
  gP (slotG 21) false (pdT 23) (eLoad1 (slotG 22)),
  oP (pdT 24) (ePick (slotG 21) (constG (.bool true)) (slotG 23)),
  oP (pdT 8) (eMov (slotG 24))]
noncomputable def R6_3 : CT :=
  .reg [
  oP (pdT 25) (eMov (slotG 7)),
  oP (pdT 26) (e1 (cAddo 3) (slotG 3)),
  oP (pdT 27) (eLoad1 (slotG 26)),
  oP (pdT 28) (e1 cLenL (slotG 27)),
  oP (pdT 29) (e2 (cBin .gtr) (slotG 25) (slotG 28)),
  oP (pdT 30) (eMov (slotG 29)),
  gP (slotG 30) false (pdT 31) (eMov (slotG 8)),
  gP (slotG 30) false (pdT 32) (eMov (slotG 31)),
  gP (slotG 32) true (pdT 33) (eMov (slotG 7)),
  gP (slotG 32) true (pdT 34) (e2 (cBin .add) (slotG 33) (constG (.int .i64 1))),
  gP (slotG 32) true (pdT 35) (e1 (cAddo 3) (slotG 3)),
  gP (slotG 32) true (pdT 36) (eLoad1 (slotG 35)),
  gP (slotG 32) true (pdT 37) (e1 cLenL (slotG 36)),
  gP (slotG 32) true (pdT 38) (e2 (cBin .gtr) (slotG 34) (slotG 37)),
  gP (slotG 30) false (pdT 39) (ePick (slotG 32) (slotG 38) (constG (.bool false))),
  oP (pdT 40) (ePick (slotG 30) (constG (.bool true)) (slotG 39))]
noncomputable def R6_4 : CT :=
  .reg [
  oP (pdT 6) (eMov (constG (.bool false)))]
noncomputable def R6_5 : CT :=
  .reg [
  oP (pdT 9) (eMov (constG (.int .i64 0)))]
noncomputable def R6_6 : CT :=
  .reg [
  oP (pdT 41) (eMov (slotG 9)),
  oP (pdT 42) (eMov (slotG 7)),
  oP (pdT 43) (e2 (cBin .lss) (slotG 41) (slotG 42))]
noncomputable def R6_7 : CT :=
  .reg [
  oP (pdT 46) (e1 (cAddo 3) (slotG 3)),
  oP (pdT 47) (eLoad1 (slotG 46)),
  oP (pdT 48) (eMov (slotG 9)),
  oP (pdT 49) (e2 (cIxa 1) (slotG 47) (slotG 48)),
  oP (pdT 50) (eLoad1 (slotG 49)),
  oP (pdT 10) (eMov (slotG 50))]
noncomputable def R6_8 : CT :=
  .drw [51, 52, 53, 54, 55, 56, 57, 58, 59, 60, 61, 62, 63, 64, 65, 66, 67, 68, 69, 70, 71, 72, 73, 74, 75, 76, 77, 78, 79] [
  oI [10] (pdT 51) (eMov (slotG 10)) 1,
  oI [51] (pdT 52) (e2 (cBin .lss) (slotG 51) (constG (.int .i64 0))) 1,
  oI [52] (pdT 53) (eMov (slotG 52)) 1,
  goI [53, 10] (slotG 53) false (pdT 54) (eMov (slotG 10)) 1,
  goI [53, 2] (slotG 53) false (pdT 55) (eMov (slotG 2)) 1,
  goI [53, 55] (slotG 53) false (pdT 56) (e1 cLenL (slotG 55)) 1,
  goI [53, 54, 56] (slotG 53) false (pdT 57) (e2 (cBin .geq) (slotG 54) (slotG 56)) 1,
  oI [53, 57] (pdT 58) (ePick (slotG 53) (constG (.bool true)) (slotG 57)) 1,
  oI [58] (pdT 59) (eMov (slotG 58)) 1,
  goI [59, 4] (slotG 59) false (pdT 60) (e1 (cAddo 0) (slotG 4)) 1,
  goI [59, 60] (slotG 59) false (pdT 61) (eLoad1 (slotG 60)) 1,
  goI [59, 9] (slotG 59) false (pdT 62) (eMov (slotG 9)) 1,
  goI [59, 61, 62] (slotG 59) false (pdT 63) (e2 (cIxa 3) (slotG 61) (slotG 62)) 1,
  goI [59, 63] (slotG 59) false (pdT 64) (e1 (cAddo 0) (slotG 63)) 1,
  goI [59, 64] (slotG 59) false (pdT 65) (eLoad1 (slotG 64)) 1,
  goI [59, 65] (slotG 59) false (pdT 66) (e2 (cEq false .num) (slotG 65) (constG (.int .i64 0))) 1,
  oI [59, 66] (pdT 67) (ePick (slotG 59) (constG (.bool true)) (slotG 66)) 1,
  oI [67] (pdT 68) (eMov (slotG 67)) 1,
  goI [68, 2] (slotG 68) false (pdT 69) (eMov (slotG 2)) 1,
  goI [68, 10] (slotG 68) false (pdT 70) (eMov (slotG 10)) 1,
  goI [68, 69, 70] (slotG 68) false (pdT 71) (e2 (cIxa 3) (slotG 69) (slotG 70)) 1,
  goI [68, 71] (slotG 68) false (pdT 72) (eLoadN 3 (slotG 71)) 1,
  goI [68, 4] (slotG 68) false (pdT 73) (e1 (cAddo 0) (slotG 4)) 1,
  goI [68, 73] (slotG 68) false (pdT 74) (eLoad1 (slotG 73)) 1,
  goI [68, 9] (slotG 68) false (pdT 75) (eMov (slotG 9)) 1,
  goI [68, 74, 75] (slotG 68) false (pdT 76) (e2 (cIxa 3) (slotG 74) (slotG 75)) 1,
  goI [68, 76] (slotG 68) false (pdT 77) (eLoadN 3 (slotG 76)) 1,
  goI [68, 72, 77] (slotG 68) false (pdT 78) (e2 (cEqA true [.i, .i, .s]) (slotG 72) (slotG 77)) 1,
  oI [68, 78] (pdT 79) (ePick (slotG 68) (constG (.bool true)) (slotG 78)) 1]
noncomputable def R6_9 : CT :=
  .reg [
  oP (pdT 6) (eMov (constG (.bool false)))]
noncomputable def R6_10 : CT :=
  .reg [
  oP (pdT 44) (eMov (slotG 9)),
  oP (pdT 45) (e2 (cBin .add) (slotG 44) (constG (.int .i64 1))),
  oP (pdT 9) (eMov (slotG 45))]
noncomputable def L6_0 : CT := (.seq (.seq R6_6 (.cond (slotG 43) .skip (.exit 0))) (.seq (.block 1 (.seq R6_7 (.seq R6_8 (.cond (slotG 79) (.seq R6_9 .ret) .skip)))) R6_10))
noncomputable def R6_11 : CT :=
  .reg [
  oP (pdT 80) (eMov (slotG 8)),
  oP (pdT 81) (e1 (cUn .not) (slotG 80))]
noncomputable def R6_12 : CT :=
  .reg [
  oP (pdT 6) (eMov (constG (.bool true)))]
noncomputable def R6_13 : CT :=
  .reg [
  oP (pdT 82) (e1 (cAddo 3) (slotG 3)),
  oP (pdT 83) (eLoad1 (slotG 82)),
  oP (pdT 84) (eMov (slotG 7)),
  oP (pdT 85) (e2 (cIxa 1) (slotG 83) (slotG 84)),
  oP (pdT 86) (eLoad1 (slotG 85)),
  oP (pdT 11) (eMov (slotG 86))]
noncomputable def R6_14 : CT :=
  .reg [
  oP (pdT 87) (eMov (slotG 11)),
  oP (pdT 88) (e2 (cBin .lss) (slotG 87) (constG (.int .i64 0))),
  oP (pdT 89) (eMov (slotG 88)),
  gP (slotG 89) false (pdT 90) (eMov (slotG 11)),
  gP (slotG 89) false (pdT 91) (eMov (slotG 2)),
  gP (slotG 89) false (pdT 92) (e1 cLenL (slotG 91)),
  gP (slotG 89) false (pdT 93) (e2 (cBin .geq) (slotG 90) (slotG 92)),
  oP (pdT 94) (ePick (slotG 89) (constG (.bool true)) (slotG 93)),
  oP (pdT 95) (eMov (slotG 94)),
  gP (slotG 95) false (pdT 96) (eMov (slotG 2)),
  gP (slotG 95) false (pdT 97) (eMov (slotG 11)),
  gP (slotG 95) false (pdT 98) (e2 (cIxa 3) (slotG 96) (slotG 97)),
  gP (slotG 95) false (pdT 99) (e1 (cAddo 0) (slotG 98)),
  gP (slotG 95) false (pdT 100) (eLoad1 (slotG 99)),
  gP (slotG 95) false (pdT 101) (e2 (cEq false .num) (slotG 100) (constG (.int .i64 0))),
  oP (pdT 102) (ePick (slotG 95) (constG (.bool true)) (slotG 101))]
noncomputable def R6_15 : CT :=
  .reg [
  oP (pdT 6) (eMov (constG (.bool false)))]
noncomputable def R6_16 : CT :=
  .reg [
  oP (pdT 103) (e1 (cAddo 1) (slotG 4)),
  oP (pdT 104) (eLoad1 (slotG 103))]
noncomputable def R6_17 : CT :=
  .drw [106, 107, 108, 109, 110, 111, 112, 105, 113, 114] [
  oI [2] (pdT 106) (eMov (slotG 2)) 1,
  oI [11] (pdT 107) (eMov (slotG 11)) 1,
  oI [106, 107] (pdT 108) (e2 (cIxa 3) (slotG 106) (slotG 107)) 1,
  oI [108] (pdT 109) (eLoadN 3 (slotG 108)) 1,
  oI [4] (pdT 110) (e1 (cAddo 2) (slotG 4)) 1,
  oI [110] (pdT 111) (eLoadN 3 (slotG 110)) 1,
  cI [109, 111] (pdT 112) 14 [(slotG 109), (slotG 111)],
  oI [112] (pdT 105) (eMov (slotG 112)) 1,
  oI [105] (pdT 113) (e1 (cExt 0) (slotG 105)) 1,
  oI [105] (pdT 114) (e1 (cExt 1) (slotG 105)) 1,
  oI [113] (pdT 12) (eMov (slotG 113)) 1,
  oI [114] (pdT 13) (eMov (slotG 114)) 1]
noncomputable def R6_18 : CT :=
  .reg [
  oP (pdT 115) (eMov (slotG 13)),
  oP (pdT 116) (e2 (cEq true .num) (slotG 115) (constG (.int .i64 0))),
  oP (pdT 117) (eMov (slotG 116)),
  gP (slotG 117) false (pdT 118) (e1 (cAddo 2) (slotG 4)),
  gP (slotG 117) false (pdT 119) (e1 (cAddo 0) (slotG 118)),
  gP (slotG 117) false (pdT 120) (eLoad1 (slotG 119)),
  gP (slotG 117) false (pdT 121) (e2 (cEq false .num) (slotG 120) (constG (.int .i64 0))),
  oP (pdT 122) (ePick (slotG 117) (constG (.bool true)) (slotG 121)),
  oP (pdT 123) (eMov (slotG 122)),
  gP (slotG 123) false (pdT 124) (eMov (slotG 12)),
  gP (slotG 123) false (pdT 125) (e2 (cBin .lss) (slotG 124) (constG (.int .i64 0))),
  oP (pdT 126) (ePick (slotG 123) (constG (.bool true)) (slotG 125)),
  oP (pdT 127) (eMov (slotG 126)),
  gP (slotG 127) false (pdT 128) (eMov (slotG 12)),
  gP (slotG 127) false (pdT 129) (e2 (cEq false .num) (slotG 128) (constG (.int .i64 0))),
  gP (slotG 127) false (pdT 130) (eMov (slotG 129)),
  gP (slotG 130) true (pdT 131) (e1 (cAddo 5) (slotG 4)),
  gP (slotG 130) true (pdT 132) (eLoad1 (slotG 131)),
  gP (slotG 130) true (pdT 133) (e1 (cUn .not) (slotG 132)),
  gP (slotG 127) false (pdT 134) (ePick (slotG 130) (slotG 133) (constG (.bool false))),
  oP (pdT 135) (ePick (slotG 127) (constG (.bool true)) (slotG 134))]
noncomputable def R6_19 : CT :=
  .reg [
  oP (pdT 6) (eMov (constG (.bool false)))]
noncomputable def R6_20 : CT :=
  .reg [
  oP (pdT 136) (e1 (cAddo 6) (slotG 4)),
  oP (pdT 137) (eLoad1 (slotG 136))]
noncomputable def R6_21 : CT :=
  .drw [139, 140, 141, 142, 143, 144, 145, 138, 146, 147] [
  oI [2] (pdT 139) (eMov (slotG 2)) 1,
  oI [11] (pdT 140) (eMov (slotG 11)) 1,
  oI [139, 140] (pdT 141) (e2 (cIxa 3) (slotG 139) (slotG 140)) 1,
  oI [141] (pdT 142) (eLoadN 3 (slotG 141)) 1,
  oI [4] (pdT 143) (e1 (cAddo 7) (slotG 4)) 1,
  oI [143] (pdT 144) (eLoadN 3 (slotG 143)) 1,
  cI [142, 144] (pdT 145) 14 [(slotG 142), (slotG 144)],
  oI [145] (pdT 138) (eMov (slotG 145)) 1,
  oI [138] (pdT 146) (e1 (cExt 0) (slotG 138)) 1,
  oI [138] (pdT 147) (e1 (cExt 1) (slotG 138)) 1,
  oI [146] (pdT 14) (eMov (slotG 146)) 1,
  oI [147] (pdT 15) (eMov (slotG 147)) 1]
noncomputable def R6_22 : CT :=
  .reg [
  oP (pdT 148) (eMov (slotG 15)),
  oP (pdT 149) (e2 (cEq true .num) (slotG 148) (constG (.int .i64 0))),
  oP (pdT 150) (eMov (slotG 149)),
  gP (slotG 150) false (pdT 151) (e1 (cAddo 7) (slotG 4)),
  gP (slotG 150) false (pdT 152) (e1 (cAddo 0) (slotG 151)),
  gP (slotG 150) false (pdT 153) (eLoad1 (slotG 152)),
  gP (slotG 150) false (pdT 154) (e2 (cEq false .num) (slotG 153) (constG (.int .i64 0))),
  oP (pdT 155) (ePick (slotG 150) (constG (.bool true)) (slotG 154)),
  oP (pdT 156) (eMov (slotG 155)),
  gP (slotG 156) false (pdT 157) (eMov (slotG 14)),
  gP (slotG 156) false (pdT 158) (e2 (cBin .gtr) (slotG 157) (constG (.int .i64 0))),
  oP (pdT 159) (ePick (slotG 156) (constG (.bool true)) (slotG 158)),
  oP (pdT 160) (eMov (slotG 159)),
  gP (slotG 160) false (pdT 161) (eMov (slotG 14)),
  gP (slotG 160) false (pdT 162) (e2 (cEq false .num) (slotG 161) (constG (.int .i64 0))),
  gP (slotG 160) false (pdT 163) (eMov (slotG 162)),
  gP (slotG 163) true (pdT 164) (e1 (cAddo 10) (slotG 4)),
  gP (slotG 163) true (pdT 165) (eLoad1 (slotG 164)),
  gP (slotG 163) true (pdT 166) (e1 (cUn .not) (slotG 165)),
  gP (slotG 160) false (pdT 167) (ePick (slotG 163) (slotG 166) (constG (.bool false))),
  oP (pdT 168) (ePick (slotG 160) (constG (.bool true)) (slotG 167))]
noncomputable def R6_23 : CT :=
  .reg [
  oP (pdT 6) (eMov (constG (.bool false)))]
noncomputable def R6_24 : CT :=
  .reg [
  oP (pdT 6) (eMov (constG (.bool true)))]
noncomputable def B6 : CT := (.seq R6_0 (.seq R6_1 (.seq R6_2 (.seq (.seq R6_3 (.cond (slotG 40) (.seq R6_4 .ret) .skip)) (.seq (.seq R6_5 (.block 0 (.loop L6_0))) (.seq (.seq R6_11 (.cond (slotG 81) (.seq R6_12 .ret) .skip)) (.seq R6_13 (.seq (.seq R6_14 (.cond (slotG 102) (.seq R6_15 .ret) .skip)) (.seq (.seq R6_16 (.cond (slotG 104) (.seq R6_17 (.seq R6_18 (.cond (slotG 135) (.seq R6_19 .ret) .skip))) .skip)) (.seq (.seq R6_20 (.cond (slotG 137) (.seq R6_21 (.seq R6_22 (.cond (slotG 168) (.seq R6_23 .ret) .skip))) .skip)) (.seq R6_24 .ret)))))))))))
noncomputable def A6 : CF := { res := [rTmp 6], code := B6, nt := 169 }
theorem c6 : ctF Tryz.prog 6 = some A6 := by kernel_rfl

/-! 13: cadastre/value.Compare -/
noncomputable def R13_0 : CT :=
  .reg [
  oP (pdT 2) (eBox (slotG 0)),
  oP (pdT 3) (eBox (slotG 1)),
  oP (pdT 4) (eMov (constG (.int .i64 0))),
  oP (pdT 5) (eMov (constG (.int .i64 0)))]
noncomputable def R13_1 : CT :=
  .reg [
  oP (pdT 6) (eLoadN 3 (slotG 2)),
  cP (pdT 7) 20 [(slotG 6)],
  oP (pdT 8) (e1 (cUn .not) (slotG 7)),
  oP (pdT 9) (eMov (slotG 8)),
  gP (slotG 9) false (pdT 10) (eLoadN 3 (slotG 3)),
  gcP (slotG 9) false (pdT 11) 20 [(slotG 10)],
  gP (slotG 9) false (pdT 12) (e1 (cUn .not) (slotG 11)),
  oP (pdT 13) (ePick (slotG 9) (constG (.bool true)) (slotG 12))]
noncomputable def R13_2 : CT :=
  .reg [
  oP (pdT 4) (eMov (constG (.int .i64 0))),
  oP (pdT 5) (eMov (constG (.int .i64 5)))]
noncomputable def R13_3 : CT :=
  .reg [
  oP (pdT 14) (eLoadN 3 (slotG 2)),
  oP (pdT 15) (eLoadN 3 (slotG 3)),
  cP (pdT 16) 21 [(slotG 14), (slotG 15)],
  oP (pdT 4) (eMov (slotG 16)),
  oP (pdT 5) (eMov (constG (.int .i64 0)))]
noncomputable def B13 : CT := (.seq R13_0 (.seq (.seq R13_1 (.cond (slotG 13) (.seq R13_2 .ret) .skip)) (.seq R13_3 .ret)))
noncomputable def A13 : CF := { res := [rTmp 4, rTmp 5], code := B13, nt := 17 }
theorem c13 : ctF Tryz.prog 13 = some A13 := by kernel_rfl

/-! 14: cadastre/cadastreref03.Compare -/
noncomputable def R14_0 : CT :=
  .reg [
  oP (pdT 2) (eBox (slotG 0)),
  oP (pdT 3) (eBox (slotG 1)),
  oP (pdT 4) (eMov (constG (.int .i64 0))),
  oP (pdT 5) (eMov (constG (.int .i64 0)))]
noncomputable def R14_1 : CT :=
  .reg [
  oP (pdT 6) (eLoadN 3 (slotG 2)),
  cP (pdT 7) 22 [(slotG 6)],
  oP (pdT 8) (e1 (cUn .not) (slotG 7)),
  oP (pdT 9) (eMov (slotG 8)),
  gP (slotG 9) false (pdT 10) (eLoadN 3 (slotG 3)),
  gcP (slotG 9) false (pdT 11) 22 [(slotG 10)],
  gP (slotG 9) false (pdT 12) (e1 (cUn .not) (slotG 11)),
  oP (pdT 13) (ePick (slotG 9) (constG (.bool true)) (slotG 12))]
noncomputable def R14_2 : CT :=
  .reg [
  oP (pdT 4) (eMov (constG (.int .i64 0))),
  oP (pdT 5) (eMov (constG (.int .i64 5)))]
noncomputable def R14_3 : CT :=
  .reg [
  oP (pdT 14) (eLoadN 3 (slotG 2)),
  oP (pdT 15) (eLoadN 3 (slotG 3)),
  cP (pdT 16) 23 [(slotG 14), (slotG 15)],
  oP (pdT 4) (eMov (slotG 16)),
  oP (pdT 5) (eMov (constG (.int .i64 0)))]
noncomputable def B14 : CT := (.seq R14_0 (.seq (.seq R14_1 (.cond (slotG 13) (.seq R14_2 .ret) .skip)) (.seq R14_3 .ret)))
noncomputable def A14 : CF := { res := [rTmp 4, rTmp 5], code := B14, nt := 17 }
theorem c14 : ctF Tryz.prog 14 = some A14 := by kernel_rfl

/-! 20: cadastre/value.May -/
noncomputable def R20_0 : CT :=
  .reg [
  oP (pdT 1) (eBox (slotG 0)),
  oP (pdT 2) (eMov (constG (.bool false)))]
noncomputable def R20_1 : CT :=
  .reg [
  oP (pdT 3) (e1 (cAddo 0) (slotG 1)),
  oP (pdT 4) (eLoad1 (slotG 3))]
noncomputable def R20_2 : CT :=
  .reg [
  oP (pdT 6) (e2 (cEq false .num) (slotG 4) (constG (.int .i64 0))),
  oP (pdT 5) (eMov (slotG 6))]
noncomputable def R20_3 : CT :=
  .reg [
  oP (pdT 7) (eLoadN 3 (slotG 1)),
  oP (pdT 8) (eBuild [(.int .i64 0), (.int .i64 0), (.str [])] 3 []),
  oP (pdT 9) (e2 (cEqA false [.i, .i, .s]) (slotG 7) (slotG 8)),
  oP (pdT 2) (eMov (slotG 9))]
noncomputable def R20_4 : CT :=
  .reg [
  oP (pdT 11) (e2 (cEq false .num) (slotG 4) (constG (.int .i64 1))),
  oP (pdT 10) (eMov (slotG 11))]
noncomputable def R20_5 : CT :=
  .reg [
  oP (pdT 12) (e1 (cAddo 2) (slotG 1)),
  oP (pdT 13) (eLoad1 (slotG 12)),
  oP (pdT 14) (e2 (cEq false .num) (slotG 13) (constG (.str []))),
  oP (pdT 2) (eMov (slotG 14))]
noncomputable def R20_6 : CT :=
  .reg [
  oP (pdT 16) (e2 (cEq false .num) (slotG 4) (constG (.int .i64 2))),
  oP (pdT 15) (eMov (slotG 16))]
noncomputable def R20_7 : CT :=
  .reg [
  oP (pdT 17) (e1 (cAddo 1) (slotG 1)),
  oP (pdT 18) (eLoad1 (slotG 17)),
  oP (pdT 19) (e2 (cEq false .num) (slotG 18) (constG (.int .i64 0))),
  oP (pdT 20) (eMov (slotG 19)),
  gP (slotG 20) true (pdT 21) (e1 (cAddo 2) (slotG 1)),
  gP (slotG 20) true (pdT 22) (eLoad1 (slotG 21)),
  gP (slotG 20) true (pdT 23) (e1 cLenS (slotG 22)),
  gP (slotG 20) true (pdT 24) (e2 (cBin .leq) (slotG 23) (constG (.int .i64 64))),
  oP (pdT 25) (ePick (slotG 20) (slotG 24) (constG (.bool false))),
  oP (pdT 2) (eMov (slotG 25))]
noncomputable def R20_8 : CT :=
  .reg [
  oP (pdT 27) (e2 (cEq false .num) (slotG 4) (constG (.int .i64 3))),
  oP (pdT 26) (eMov (slotG 27))]
noncomputable def R20_9 : CT :=
  .reg [
  oP (pdT 28) (e1 (cAddo 2) (slotG 1)),
  oP (pdT 29) (eLoad1 (slotG 28)),
  oP (pdT 30) (e2 (cEq false .num) (slotG 29) (constG (.str []))),
  oP (pdT 31) (eMov (slotG 30)),
  gP (slotG 31) true (pdT 32) (e1 (cAddo 1) (slotG 1)),
  gP (slotG 31) true (pdT 33) (eLoad1 (slotG 32)),
  gP (slotG 31) true (pdT 34) (e2 (cEq false .num) (slotG 33) (constG (.int .i64 0))),
  gP (slotG 31) true (pdT 35) (eMov (slotG 34)),
  gP (slotG 35) false (pdT 36) (e1 (cAddo 1) (slotG 1)),
  gP (slotG 35) false (pdT 37) (eLoad1 (slotG 36)),
  gP (slotG 35) false (pdT 38) (e2 (cEq false .num) (slotG 37) (constG (.int .i64 1))),
  gP (slotG 31) true (pdT 39) (ePick (slotG 35) (constG (.bool true)) (slotG 38)),
  oP (pdT 40) (ePick (slotG 31) (slotG 39) (constG (.bool false))),
  oP (pdT 2) (eMov (slotG 40))]
noncomputable def R20_10 : CT :=
  .reg [
  oP (pdT 2) (eMov (constG (.bool false)))]
noncomputable def B20 : CT := (.seq R20_0 (.seq (.seq R20_1 (.block 0 (.seq R20_2 (.cond (slotG 5) (.seq R20_3 .ret) (.seq R20_4 (.cond (slotG 10) (.seq R20_5 .ret) (.seq R20_6 (.cond (slotG 15) (.seq R20_7 .ret) (.seq R20_8 (.cond (slotG 26) (.seq R20_9 .ret) .skip)))))))))) (.seq R20_10 .ret)))
noncomputable def A20 : CF := { res := [rTmp 2], code := B20, nt := 41 }
theorem c20 : ctF Tryz.prog 20 = some A20 := by kernel_rfl

/-! 21: cadastre/value.order -/
noncomputable def R21_0 : CT :=
  .reg [
  oP (pdT 2) (eBox (slotG 0)),
  oP (pdT 3) (eBox (slotG 1)),
  oP (pdT 4) (eMov (constG (.int .i64 0)))]
noncomputable def R21_1 : CT :=
  .reg [
  oP (pdT 5) (e1 (cAddo 0) (slotG 2)),
  oP (pdT 6) (eLoad1 (slotG 5)),
  oP (pdT 7) (e1 (cAddo 0) (slotG 3)),
  oP (pdT 8) (eLoad1 (slotG 7)),
  oP (pdT 9) (e2 (cEq true .num) (slotG 6) (slotG 8))]
noncomputable def R21_2 : CT :=
  .drw [10, 11, 12, 13, 14, 15, 16] [
  oI [2] (pdT 10) (e1 (cAddo 0) (slotG 2)) 1,
  oI [10] (pdT 11) (eLoad1 (slotG 10)) 1,
  cI [11] (pdT 12) 42 [(slotG 11)],
  oI [3] (pdT 13) (e1 (cAddo 0) (slotG 3)) 2,
  oI [13] (pdT 14) (eLoad1 (slotG 13)) 2,
  cI [14] (pdT 15) 42 [(slotG 14)],
  oI [12, 15] (pdT 16) (e2 (cBin .lss) (slotG 12) (slotG 15)) 1]
noncomputable def R21_3 : CT :=
  .reg [
  oP (pdT 4) (eMov (constG (.int .i64 (-1))))]
noncomputable def R21_4 : CT :=
  .reg [
  oP (pdT 4) (eMov (constG (.int .i64 1)))]
noncomputable def R21_5 : CT :=
  .reg [
  oP (pdT 17) (e1 (cAddo 0) (slotG 2)),
  oP (pdT 18) (eLoad1 (slotG 17)),
  oP (pdT 19) (e2 (cEq false .num) (slotG 18) (constG (.int .i64 2)))]
noncomputable def R21_6 : CT :=
  .reg [
  oP (pdT 20) (e1 (cAddo 2) (slotG 2)),
  oP (pdT 21) (eLoad1 (slotG 20)),
  oP (pdT 22) (e1 (cAddo 2) (slotG 3)),
  oP (pdT 23) (eLoad1 (slotG 22)),
  cP (pdT 24) 43 [(slotG 21), (slotG 23)],
  oP (pdT 4) (eMov (slotG 24))]
noncomputable def R21_7 : CT :=
  .reg [
  oP (pdT 25) (e1 (cAddo 1) (slotG 2)),
  oP (pdT 26) (eLoad1 (slotG 25)),
  oP (pdT 27) (e1 (cAddo 1) (slotG 3)),
  oP (pdT 28) (eLoad1 (slotG 27)),
  oP (pdT 29) (e2 (cBin .lss) (slotG 26) (slotG 28))]
noncomputable def R21_8 : CT :=
  .reg [
  oP (pdT 4) (eMov (constG (.int .i64 (-1))))]
noncomputable def R21_9 : CT :=
  .reg [
  oP (pdT 30) (e1 (cAddo 1) (slotG 2)),
  oP (pdT 31) (eLoad1 (slotG 30)),
  oP (pdT 32) (e1 (cAddo 1) (slotG 3)),
  oP (pdT 33) (eLoad1 (slotG 32)),
  oP (pdT 34) (e2 (cBin .gtr) (slotG 31) (slotG 33))]
noncomputable def R21_10 : CT :=
  .reg [
  oP (pdT 4) (eMov (constG (.int .i64 1)))]
noncomputable def R21_11 : CT :=
  .reg [
  oP (pdT 4) (eMov (constG (.int .i64 0)))]
noncomputable def B21 : CT := (.seq R21_0 (.seq (.seq R21_1 (.cond (slotG 9) (.seq (.seq R21_2 (.cond (slotG 16) (.seq R21_3 .ret) .skip)) (.seq R21_4 .ret)) .skip)) (.seq (.seq R21_5 (.cond (slotG 19) (.seq R21_6 .ret) .skip)) (.seq (.seq R21_7 (.cond (slotG 29) (.seq R21_8 .ret) .skip)) (.seq (.seq R21_9 (.cond (slotG 34) (.seq R21_10 .ret) .skip)) (.seq R21_11 .ret))))))
noncomputable def A21 : CF := { res := [rTmp 4], code := B21, nt := 35 }
theorem c21 : ctF Tryz.prog 21 = some A21 := by kernel_rfl

/-! 22: cadastre/cadastreref03.May -/
noncomputable def R22_0 : CT :=
  .reg [
  oP (pdT 1) (eBox (slotG 0)),
  oP (pdT 2) (eMov (constG (.bool false)))]
noncomputable def R22_1 : CT :=
  .reg [
  oP (pdT 3) (e1 (cAddo 0) (slotG 1)),
  oP (pdT 4) (eLoad1 (slotG 3)),
  oP (pdT 5) (e2 (cEq false .num) (slotG 4) (constG (.int .i64 0)))]
noncomputable def R22_2 : CT :=
  .reg [
  oP (pdT 6) (e1 (cAddo 1) (slotG 1)),
  oP (pdT 7) (eLoad1 (slotG 6)),
  oP (pdT 8) (e2 (cEq false .num) (slotG 7) (constG (.int .i64 0))),
  oP (pdT 9) (eMov (slotG 8)),
  gP (slotG 9) true (pdT 10) (e1 (cAddo 2) (slotG 1)),
  gP (slotG 9) true (pdT 11) (eLoad1 (slotG 10)),
  gP (slotG 9) true (pdT 12) (e2 (cEq false .num) (slotG 11) (constG (.str []))),
  oP (pdT 13) (ePick (slotG 9) (slotG 12) (constG (.bool false))),
  oP (pdT 2) (eMov (slotG 13))]
noncomputable def R22_3 : CT :=
  .reg [
  oP (pdT 14) (e1 (cAddo 0) (slotG 1)),
  oP (pdT 15) (eLoad1 (slotG 14)),
  oP (pdT 16) (e2 (cEq false .num) (slotG 15) (constG (.int .i64 1)))]
noncomputable def R22_4 : CT :=
  .reg [
  oP (pdT 17) (e1 (cAddo 2) (slotG 1)),
  oP (pdT 18) (eLoad1 (slotG 17)),
  oP (pdT 19) (e2 (cEq false .num) (slotG 18) (constG (.str []))),
  oP (pdT 2) (eMov (slotG 19))]
noncomputable def R22_5 : CT :=
  .reg [
  oP (pdT 20) (e1 (cAddo 0) (slotG 1)),
  oP (pdT 21) (eLoad1 (slotG 20)),
  oP (pdT 22) (e2 (cEq false .num) (slotG 21) (constG (.int .i64 2)))]
noncomputable def R22_6 : CT :=
  .reg [
  oP (pdT 23) (e1 (cAddo 1) (slotG 1)),
  oP (pdT 24) (eLoad1 (slotG 23)),
  oP (pdT 25) (e2 (cEq false .num) (slotG 24) (constG (.int .i64 0))),
  oP (pdT 26) (eMov (slotG 25)),
  gP (slotG 26) true (pdT 27) (e1 (cAddo 2) (slotG 1)),
  gP (slotG 26) true (pdT 28) (eLoad1 (slotG 27)),
  gP (slotG 26) true (pdT 29) (e1 cLenS (slotG 28)),
  gP (slotG 26) true (pdT 30) (e2 (cBin .leq) (slotG 29) (constG (.int .i64 64))),
  oP (pdT 31) (ePick (slotG 26) (slotG 30) (constG (.bool false))),
  oP (pdT 2) (eMov (slotG 31))]
noncomputable def R22_7 : CT :=
  .reg [
  oP (pdT 32) (e1 (cAddo 0) (slotG 1)),
  oP (pdT 33) (eLoad1 (slotG 32)),
  oP (pdT 34) (e2 (cEq false .num) (slotG 33) (constG (.int .i64 3))),
  oP (pdT 35) (eMov (slotG 34)),
  gP (slotG 35) true (pdT 36) (e1 (cAddo 2) (slotG 1)),
  gP (slotG 35) true (pdT 37) (eLoad1 (slotG 36)),
  gP (slotG 35) true (pdT 38) (e2 (cEq false .num) (slotG 37) (constG (.str []))),
  oP (pdT 39) (ePick (slotG 35) (slotG 38) (constG (.bool false))),
  oP (pdT 40) (eMov (slotG 39)),
  gP (slotG 40) true (pdT 41) (e1 (cAddo 1) (slotG 1)),
  gP (slotG 40) true (pdT 42) (eLoad1 (slotG 41)),
  gP (slotG 40) true (pdT 43) (e2 (cBin .geq) (slotG 42) (constG (.int .i64 0))),
  oP (pdT 44) (ePick (slotG 40) (slotG 43) (constG (.bool false))),
  oP (pdT 45) (eMov (slotG 44)),
  gP (slotG 45) true (pdT 46) (e1 (cAddo 1) (slotG 1)),
  gP (slotG 45) true (pdT 47) (eLoad1 (slotG 46)),
  gP (slotG 45) true (pdT 48) (e2 (cBin .leq) (slotG 47) (constG (.int .i64 1))),
  oP (pdT 49) (ePick (slotG 45) (slotG 48) (constG (.bool false))),
  oP (pdT 2) (eMov (slotG 49))]
noncomputable def B22 : CT := (.seq R22_0 (.seq (.seq R22_1 (.cond (slotG 5) (.seq R22_2 .ret) .skip)) (.seq (.seq R22_3 (.cond (slotG 16) (.seq R22_4 .ret) .skip)) (.seq (.seq R22_5 (.cond (slotG 22) (.seq R22_6 .ret) .skip)) (.seq R22_7 .ret)))))
noncomputable def A22 : CF := { res := [rTmp 2], code := B22, nt := 50 }
theorem c22 : ctF Tryz.prog 22 = some A22 := by kernel_rfl

/-! 23: cadastre/cadastreref03.Order -/
noncomputable def R23_0 : CT :=
  .reg [
  oP (pdT 2) (eBox (slotG 0)),
  oP (pdT 3) (eBox (slotG 1)),
  oP (pdT 4) (eMov (constG (.int .i64 0)))]
noncomputable def R23_1 : CT :=
  .drw [7, 8, 9, 10, 11, 12] [
  oI [2] (pdT 7) (e1 (cAddo 0) (slotG 2)) 1,
  oI [7] (pdT 8) (eLoad1 (slotG 7)) 1,
  cI [8] (pdT 9) 44 [(slotG 8)],
  oI [3] (pdT 10) (e1 (cAddo 0) (slotG 3)) 2,
  oI [10] (pdT 11) (eLoad1 (slotG 10)) 2,
  cI [11] (pdT 12) 44 [(slotG 11)],
  oI [9] (pdT 5) (eMov (slotG 9)) 1,
  oI [12] (pdT 6) (eMov (slotG 12)) 1]
noncomputable def R23_2 : CT :=
  .reg [
  oP (pdT 13) (eMov (slotG 5)),
  oP (pdT 14) (eMov (slotG 6)),
  oP (pdT 15) (e2 (cBin .lss) (slotG 13) (slotG 14))]
noncomputable def R23_3 : CT :=
  .reg [
  oP (pdT 4) (eMov (constG (.int .i64 (-1))))]
noncomputable def R23_4 : CT :=
  .reg [
  oP (pdT 16) (eMov (slotG 5)),
  oP (pdT 17) (eMov (slotG 6)),
  oP (pdT 18) (e2 (cBin .gtr) (slotG 16) (slotG 17))]
noncomputable def R23_5 : CT :=
  .reg [
  oP (pdT 4) (eMov (constG (.int .i64 1)))]
noncomputable def R23_6 : CT :=
  .reg [
  oP (pdT 19) (e1 (cAddo 0) (slotG 2)),
  oP (pdT 20) (eLoad1 (slotG 19)),
  oP (pdT 21) (e2 (cEq false .num) (slotG 20) (constG (.int .i64 2)))]
noncomputable def R23_7 : CT :=
  .reg [
  oP (pdT 22) (e1 (cAddo 2) (slotG 2)),
  oP (pdT 23) (eLoad1 (slotG 22)),
  oP (pdT 24) (e1 (cAddo 2) (slotG 3)),
  oP (pdT 25) (eLoad1 (slotG 24)),
  cP (pdT 26) 45 [(slotG 23), (slotG 25)],
  oP (pdT 4) (eMov (slotG 26))]
noncomputable def R23_8 : CT :=
  .reg [
  oP (pdT 27) (e1 (cAddo 1) (slotG 2)),
  oP (pdT 28) (eLoad1 (slotG 27)),
  oP (pdT 29) (e1 (cAddo 1) (slotG 3)),
  oP (pdT 30) (eLoad1 (slotG 29)),
  oP (pdT 31) (e2 (cBin .lss) (slotG 28) (slotG 30))]
noncomputable def R23_9 : CT :=
  .reg [
  oP (pdT 4) (eMov (constG (.int .i64 (-1))))]
noncomputable def R23_10 : CT :=
  .reg [
  oP (pdT 32) (e1 (cAddo 1) (slotG 2)),
  oP (pdT 33) (eLoad1 (slotG 32)),
  oP (pdT 34) (e1 (cAddo 1) (slotG 3)),
  oP (pdT 35) (eLoad1 (slotG 34)),
  oP (pdT 36) (e2 (cBin .gtr) (slotG 33) (slotG 35))]
noncomputable def R23_11 : CT :=
  .reg [
  oP (pdT 4) (eMov (constG (.int .i64 1)))]
noncomputable def R23_12 : CT :=
  .reg [
  oP (pdT 4) (eMov (constG (.int .i64 0)))]
noncomputable def B23 : CT := (.seq R23_0 (.seq R23_1 (.seq (.seq R23_2 (.cond (slotG 15) (.seq R23_3 .ret) .skip)) (.seq (.seq R23_4 (.cond (slotG 18) (.seq R23_5 .ret) .skip)) (.seq (.seq R23_6 (.cond (slotG 21) (.seq R23_7 .ret) .skip)) (.seq (.seq R23_8 (.cond (slotG 31) (.seq R23_9 .ret) .skip)) (.seq (.seq R23_10 (.cond (slotG 36) (.seq R23_11 .ret) .skip)) (.seq R23_12 .ret))))))))
noncomputable def A23 : CF := { res := [rTmp 4], code := B23, nt := 37 }
theorem c23 : ctF Tryz.prog 23 = some A23 := by kernel_rfl

/-! 42: cadastre/value.rank -/
noncomputable def R42_0 : CT :=
  .reg [
  oP (pdT 2) (eMov (constG (.int .i64 0)))]
noncomputable def R42_1 : CT :=
  .reg [
  oP (pdT 3) (eMov (constG (.int .i64 0)))]
noncomputable def R42_2 : CT :=
  .reg [
  oP (pdT 4) (eMov (slotG 0))]
noncomputable def R42_3 : CT :=
  .reg [
  oP (pdT 6) (e2 (cEq false .num) (slotG 4) (constG (.int .i64 2))),
  oP (pdT 5) (eMov (slotG 6))]
noncomputable def R42_4 : CT :=
  .reg [
  oP (pdT 8) (e2 (cEq false .num) (slotG 4) (constG (.int .i64 1))),
  oP (pdT 7) (eMov (slotG 8))]
noncomputable def R42_5 : CT :=
  .reg [
  oP (pdT 10) (e2 (cEq false .num) (slotG 4) (constG (.int .i64 3))),
  oP (pdT 9) (eMov (slotG 10))]
noncomputable def R42_6 : CT :=
  .reg [
  oP (pdT 11) (eMov (slotG 3)),
  oP (pdT 12) (e2 (cBin .add) (slotG 11) (constG (.int .i64 1))),
  oP (pdT 3) (eMov (slotG 12))]
noncomputable def R42_7 : CT :=
  .reg [
  oP (pdT 13) (eMov (slotG 3)),
  oP (pdT 14) (e2 (cBin .add) (slotG 13) (constG (.int .i64 1))),
  oP (pdT 3) (eMov (slotG 14))]
noncomputable def R42_8 : CT :=
  .reg [
  oP (pdT 15) (eMov (slotG 3)),
  oP (pdT 16) (e2 (cBin .add) (slotG 15) (constG (.int .i64 1))),
  oP (pdT 3) (eMov (slotG 16))]
noncomputable def R42_9 : CT :=
  .reg [
  oP (pdT 17) (eMov (slotG 3)),
  oP (pdT 2) (eMov (slotG 17))]
noncomputable def B42 : CT := (.seq R42_0 (.seq R42_1 (.seq (.seq R42_2 (.block 0 (.seq (.block 3 (.seq (.block 2 (.seq (.block 1 (.seq (.seq (.seq R42_3 (.cond (slotG 5) (.exit 1) .skip)) (.seq (.seq R42_4 (.cond (slotG 7) (.exit 2) .skip)) (.seq R42_5 (.cond (slotG 9) (.exit 3) .skip)))) (.exit 0))) R42_6)) R42_7)) (.seq R42_8 (.exit 0))))) (.seq R42_9 .ret))))
noncomputable def A42 : CF := { res := [rTmp 2], code := B42, nt := 18 }
theorem c42 : ctF Tryz.prog 42 = some A42 := by kernel_rfl

/-! 43: strings.Compare -/
noncomputable def R43_0 : CT :=
  .reg [
  oP (pdT 4) (eMov (constG (.int .i64 0)))]
noncomputable def R43_1 : CT :=
  .reg [
  oP (pdT 5) (eMov (slotG 0)),
  oP (pdT 6) (eMov (slotG 1)),
  cP (pdT 7) 64 [(slotG 5), (slotG 6)],
  oP (pdT 4) (eMov (slotG 7))]
noncomputable def B43 : CT := (.seq R43_0 (.seq R43_1 .ret))
noncomputable def A43 : CF := { res := [rTmp 4], code := B43, nt := 8 }
theorem c43 : ctF Tryz.prog 43 = some A43 := by kernel_rfl

/-! 44: cadastre/cadastreref03.place -/
noncomputable def R44_0 : CT :=
  .reg [
  oP (pdT 2) (eMov (constG (.int .i64 0)))]
noncomputable def R44_1 : CT :=
  .reg [
  oP (pdT 3) (eMov (slotG 0)),
  oP (pdT 4) (e2 (cEq false .num) (slotG 3) (constG (.int .i64 0)))]
noncomputable def R44_2 : CT :=
  .reg [
  oP (pdT 2) (eMov (constG (.int .i64 0)))]
noncomputable def R44_3 : CT :=
  .reg [
  oP (pdT 5) (eMov (slotG 0)),
  oP (pdT 6) (e2 (cEq false .num) (slotG 5) (constG (.int .i64 3)))]
noncomputable def R44_4 : CT :=
  .reg [
  oP (pdT 2) (eMov (constG (.int .i64 1)))]
noncomputable def R44_5 : CT :=
  .reg [
  oP (pdT 7) (eMov (slotG 0)),
  oP (pdT 8) (e2 (cEq false .num) (slotG 7) (constG (.int .i64 1)))]
noncomputable def R44_6 : CT :=
  .reg [
  oP (pdT 2) (eMov (constG (.int .i64 2)))]
noncomputable def R44_7 : CT :=
  .reg [
  oP (pdT 2) (eMov (constG (.int .i64 3)))]
noncomputable def B44 : CT := (.seq R44_0 (.seq (.seq R44_1 (.cond (slotG 4) (.seq R44_2 .ret) .skip)) (.seq (.seq R44_3 (.cond (slotG 6) (.seq R44_4 .ret) .skip)) (.seq (.seq R44_5 (.cond (slotG 8) (.seq R44_6 .ret) .skip)) (.seq R44_7 .ret)))))
noncomputable def A44 : CF := { res := [rTmp 2], code := B44, nt := 9 }
theorem c44 : ctF Tryz.prog 44 = some A44 := by kernel_rfl

/-! 45: cadastre/cadastreref03.Bytes -/
noncomputable def R45_0 : CT :=
  .reg [
  oP (pdT 4) (eMov (constG (.int .i64 0)))]
noncomputable def R45_1 : CT :=
  .reg [
  oP (pdT 5) (eMov (constG (.int .i64 0)))]
noncomputable def R45_2 : CT :=
  .reg [
  oP (pdT 6) (eMov (slotG 5)),
  oP (pdT 7) (eMov (slotG 0)),
  oP (pdT 8) (e1 cLenS (slotG 7)),
  oP (pdT 9) (e2 (cBin .lss) (slotG 6) (slotG 8)),
  oP (pdT 10) (eMov (slotG 9)),
  gP (slotG 10) true (pdT 11) (eMov (slotG 5)),
  gP (slotG 10) true (pdT 12) (eMov (slotG 1)),
  gP (slotG 10) true (pdT 13) (e1 cLenS (slotG 12)),
  gP (slotG 10) true (pdT 14) (e2 (cBin .lss) (slotG 11) (slotG 13)),
  oP (pdT 15) (ePick (slotG 10) (slotG 14) (constG (.bool false)))]
noncomputable def R45_3 : CT :=
  .drw [18, 19, 20, 21, 22, 23, 24] [
  oI [0] (pdT 18) (eMov (slotG 0)) 1,
  oI [5] (pdT 19) (eMov (slotG 5)) 1,
  oI [18, 19] (pdT 20) (e2 cIxs (slotG 18) (slotG 19)) 1,
  oI [1] (pdT 21) (eMov (slotG 1)) 1,
  oI [5] (pdT 22) (eMov (slotG 5)) 1,
  oI [21, 22] (pdT 23) (e2 cIxs (slotG 21) (slotG 22)) 1,
  oI [20, 23] (pdT 24) (e2 (cBin .lss) (slotG 20) (slotG 23)) 1]
noncomputable def R45_4 : CT :=
  .reg [
  oP (pdT 4) (eMov (constG (.int .i64 (-1))))]
noncomputable def R45_5 : CT :=
  .drw [25, 26, 27, 28, 29, 30, 31] [
  oI [0] (pdT 25) (eMov (slotG 0)) 1,
  oI [5] (pdT 26) (eMov (slotG 5)) 1,
  oI [25, 26] (pdT 27) (e2 cIxs (slotG 25) (slotG 26)) 1,
  oI [1] (pdT 28) (eMov (slotG 1)) 1,
  oI [5] (pdT 29) (eMov (slotG 5)) 1,
  oI [28, 29] (pdT 30) (e2 cIxs (slotG 28) (slotG 29)) 1,
  oI [27, 30] (pdT 31) (e2 (cBin .gtr) (slotG 27) (slotG 30)) 1]
noncomputable def R45_6 : CT :=
  .reg [
  oP (pdT 4) (eMov (constG (.int .i64 1)))]
noncomputable def R45_7 : CT :=
  .reg [
  oP (pdT 16) (eMov (slotG 5)),
  oP (pdT 17) (e2 (cBin .add) (slotG 16) (constG (.int .i64 1))),
  oP (pdT 5) (eMov (slotG 17))]
noncomputable def L45_0 : CT := (.seq (.seq R45_2 (.cond (slotG 15) .skip (.exit 0))) (.seq (.block 1 (.seq (.seq R45_3 (.cond (slotG 24) (.seq R45_4 .ret) .skip)) (.seq R45_5 (.cond (slotG 31) (.seq R45_6 .ret) .skip)))) R45_7))
noncomputable def R45_8 : CT :=
  .reg [
  oP (pdT 32) (eMov (slotG 0)),
  oP (pdT 33) (e1 cLenS (slotG 32)),
  oP (pdT 34) (eMov (slotG 1)),
  oP (pdT 35) (e1 cLenS (slotG 34)),
  oP (pdT 36) (e2 (cBin .lss) (slotG 33) (slotG 35))]
noncomputable def R45_9 : CT :=
  .reg [
  oP (pdT 4) (eMov (constG (.int .i64 (-1))))]
noncomputable def R45_10 : CT :=
  .reg [
  oP (pdT 37) (eMov (slotG 0)),
  oP (pdT 38) (e1 cLenS (slotG 37)),
  oP (pdT 39) (eMov (slotG 1)),
  oP (pdT 40) (e1 cLenS (slotG 39)),
  oP (pdT 41) (e2 (cBin .gtr) (slotG 38) (slotG 40))]
noncomputable def R45_11 : CT :=
  .reg [
  oP (pdT 4) (eMov (constG (.int .i64 1)))]
noncomputable def R45_12 : CT :=
  .reg [
  oP (pdT 4) (eMov (constG (.int .i64 0)))]
noncomputable def B45 : CT := (.seq R45_0 (.seq (.seq R45_1 (.block 0 (.loop L45_0))) (.seq (.seq R45_8 (.cond (slotG 36) (.seq R45_9 .ret) .skip)) (.seq (.seq R45_10 (.cond (slotG 41) (.seq R45_11 .ret) .skip)) (.seq R45_12 .ret)))))
noncomputable def A45 : CF := { res := [rTmp 4], code := B45, nt := 42 }
theorem c45 : ctF Tryz.prog 45 = some A45 := by kernel_rfl

/-! 64: internal/bytealg.CompareString -/
noncomputable def R64_0 : CT :=
  .reg [
  oP (pdT 4) (eMov (constG (.int .i64 0)))]
noncomputable def R64_1 : CT :=
  .reg [
  oP (pdT 5) (eMov (slotG 0)),
  oP (pdT 6) (eMov (slotG 1)),
  oP (pdT 7) (e2 cCmpS (slotG 5) (slotG 6)),
  oP (pdT 4) (eMov (slotG 7))]
noncomputable def B64 : CT := (.seq R64_0 (.seq R64_1 .ret))
noncomputable def A64 : CF := { res := [rTmp 4], code := B64, nt := 8 }
theorem c64 : ctF Tryz.prog 64 = some A64 := by kernel_rfl

end Go.Abs
