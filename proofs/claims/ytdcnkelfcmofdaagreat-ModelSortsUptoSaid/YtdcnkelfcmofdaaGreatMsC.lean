/- A part of the proof. -/
import Derived.Test.YtdcnkelfcmofdaaGreatProg
import Derived.KernelRfl
import Derived.Test.YtdcnkelfcmofdaaGreatAbs6
import Derived.Test.YtdcnkelfcmofdaaGreatAbs5
namespace Go.Abs
open Go.Proofs
set_option maxRecDepth 100000
/-! 3: cadastre/cadastrelaw22.ModelSorts -/
noncomputable def R3_0 : CT :=
  .reg [
  oP (pdT 2) (eMov (constG (.bool false)))]
noncomputable def R3_1 : CT :=
  .reg [
  oP (pdT 5) (eMov (slotG 0)),
  oP (pdT 6) (e1 cLenL (slotG 5)),
  oP (pdT 7) (e2 (cBin .gtr) (slotG 6) (constG (.int .i64 500)))]
noncomputable def R3_2 : CT :=
  .reg [
  cP (pdT 8) 4 [],
  oP (pdT 2) (eMov (slotG 8))]
noncomputable def R3_3 : CT :=
  .reg [
  oP (pdT 3) (eMov (constG (.int .i64 0)))]
noncomputable def R3_4 : CT :=
  .reg [
  oP (pdT 9) (eMov (slotG 3)),
  oP (pdT 10) (eMov (slotG 0)),
  oP (pdT 11) (e1 cLenL (slotG 10)),
  oP (pdT 12) (e2 (cBin .lss) (slotG 9) (slotG 11))]
noncomputable def R3_5 : CT :=
  .reg [
  oP (pdT 4) (eMov (constG (.int .i64 0)))]
noncomputable def R3_6 : CT :=
  .reg [
  oP (pdT 15) (eMov (slotG 4)),
  oP (pdT 16) (eMov (slotG 0)),
  oP (pdT 17) (eMov (slotG 3)),
  oP (pdT 18) (e2 (cIxa 1) (slotG 16) (slotG 17)),
  oP (pdT 19) (eLoad1 (slotG 18)),
  oP (pdT 20) (e1 cLenL (slotG 19)),
  oP (pdT 21) (e2 (cBin .lss) (slotG 15) (slotG 20))]
noncomputable def R3_7 : CT :=
  .reg [
  oP (pdT 24) (eMov (slotG 0)),
  oP (pdT 25) (eMov (slotG 3)),
  oP (pdT 26) (e2 (cIxa 1) (slotG 24) (slotG 25)),
  oP (pdT 27) (eLoad1 (slotG 26)),
  oP (pdT 28) (eMov (slotG 4)),
  oP (pdT 29) (e2 (cIxa 3) (slotG 27) (slotG 28)),
  oP (pdT 30) (eLoadN 3 (slotG 29)),
  cP (pdT 31) 5 [(slotG 30)],
  oP (pdT 32) (e1 (cUn .not) (slotG 31))]
noncomputable def R3_8 : CT :=
  .reg [
  oP (pdT 33) (eMov (slotG 0)),
  cP (pdT 34) 6 [(slotG 33)],
  oP (pdT 35) (e1 cLenL (slotG 34)),
  oP (pdT 36) (eMov (slotG 0)),
  oP (pdT 37) (e1 cLenL (slotG 36)),
  oP (pdT 38) (e2 (cEq false .num) (slotG 35) (slotG 37)),
  oP (pdT 39) (eMov (slotG 38)),
  gcP (slotG 39) true (pdT 40) 4 [],
  oP (pdT 41) (ePick (slotG 39) (slotG 40) (constG (.bool false))),
  oP (pdT 2) (eMov (slotG 41))]
noncomputable def R3_9 : CT :=
  .reg [
  oP (pdT 22) (eMov (slotG 4)),
  oP (pdT 23) (e2 (cBin .add) (slotG 22) (constG (.int .i64 1))),
  oP (pdT 4) (eMov (slotG 23))]
noncomputable def L3_0 : CT := (.seq (.seq R3_6 (.cond (slotG 21) .skip (.exit 2))) (.seq (.block 3 (.seq R3_7 (.cond (slotG 32) (.seq R3_8 .ret) .skip))) R3_9))
noncomputable def R3_10 : CT :=
  .reg [
  oP (pdT 13) (eMov (slotG 3)),
  oP (pdT 14) (e2 (cBin .add) (slotG 13) (constG (.int .i64 1))),
  oP (pdT 3) (eMov (slotG 14))]
noncomputable def L3_1 : CT := (.seq (.seq R3_4 (.cond (slotG 12) .skip (.exit 0))) (.seq (.block 1 (.seq R3_5 (.block 2 (.loop L3_0)))) R3_10))
noncomputable def R3_11 : CT :=
  .reg [
  oP (pdT 42) (eMov (slotG 0)),
  cP (pdT 43) 6 [(slotG 42)],
  oP (pdT 44) (eMov (slotG 0)),
  cP (pdT 45) 8 [(slotG 44), (constG (.cst (.slice none 0 0)))],
  cP (pdT 46) 7 [(slotG 43), (slotG 45)],
  oP (pdT 47) (eMov (slotG 46)),
  gcP (slotG 47) true (pdT 48) 4 [],
  oP (pdT 49) (ePick (slotG 47) (slotG 48) (constG (.bool false))),
  oP (pdT 2) (eMov (slotG 49))]
noncomputable def B3 : CT := (.seq R3_0 (.seq (.seq R3_1 (.cond (slotG 7) (.seq R3_2 .ret) .skip)) (.seq (.seq R3_3 (.block 0 (.loop L3_1))) (.seq R3_11 .ret))))
noncomputable def A3 : CF := { res := [rTmp 2], code := B3, nt := 50 }
theorem c3 : ctF Tryz.prog 3 = some A3 := by kernel_rfl

/-! 5: cadastre/cadastreref03.May -/
noncomputable def R5_0 : CT :=
  .reg [
  oP (pdT 1) (eBox (slotG 0)),
  oP (pdT 2) (eMov (constG (.bool false)))]
noncomputable def R5_1 : CT :=
  .reg [
  oP (pdT 3) (e1 (cAddo 0) (slotG 1)),
  oP (pdT 4) (eLoad1 (slotG 3)),
  oP (pdT 5) (e2 (cEq false .num) (slotG 4) (constG (.int .i64 0)))]
noncomputable def R5_2 : CT :=
  .reg [
  oP (pdT 6) (e1 (cAddo 1) (slotG 1)),
  oP (pdT 7) (eLoad1 (slotG 6)),
  oP (pdT 8) (e2 (cEq false .num) (slotG 7) (constG (.int .i64 0))),
  oP (pdT 9) (eMov (slotG 8)),
  gP (slotG 9) true (pdT 10) (e1 (cAddo 2) (slotG 1)),
  gP (slotG 9) true (pdT 11) (eLoad1 (slotG 10)),
  gP (slotG 9) true (pdT 12) (e2 (cEq false .num) (slotG 11) (constG (.str []))),
  oP (pdT 13) (ePick (slotG 9) (slotG 12) (constG (.bool false))),
  oP (pdT 2) (eMov (slotG 13))]
noncomputable def R5_3 : CT :=
  .reg [
  oP (pdT 14) (e1 (cAddo 0) (slotG 1)),
  oP (pdT 15) (eLoad1 (slotG 14)),
  oP (pdT 16) (e2 (cEq false .num) (slotG 15) (constG (.int .i64 1)))]
noncomputable def R5_4 : CT :=
  .reg [
  oP (pdT 17) (e1 (cAddo 2) (slotG 1)),
  oP (pdT 18) (eLoad1 (slotG 17)),
  oP (pdT 19) (e2 (cEq false .num) (slotG 18) (constG (.str []))),
  oP (pdT 2) (eMov (slotG 19))]
noncomputable def R5_5 : CT :=
  .reg [
  oP (pdT 20) (e1 (cAddo 0) (slotG 1)),
  oP (pdT 21) (eLoad1 (slotG 20)),
  oP (pdT 22) (e2 (cEq false .num) (slotG 21) (constG (.int .i64 2)))]
noncomputable def R5_6 : CT :=
  .reg [
  oP (pdT 23) (e1 (cAddo 1) (slotG 1)),
  oP (pdT 24) (eLoad1 (slotG 23)),
  oP (pdT 25) (e2 (cEq false .num) (slotG 24) (constG (.int .i64 0))),
  oP (pdT 26) (eMov (slotG 25)),
  gP (slotG 26) true (pdT 27) (e1 (cAddo 2) (slotG 1)),
  gP (slotG 26) true (pdT 28) (eLoad1 (slotG 27)),
  gP (slotG 26) true (pdT 29) (e1 cLenS (slotG 28)),
  gP (slotG 26) true (pdT 30) (e2 (cBin .leq) (slotG 29) (constG (.int .i64 64))),
  oP (pdT 31) (ePick (slotG 26) (slotG 30) (constG (.bool false))),
  oP (pdT 2) (eMov (slotG 31))]
noncomputable def R5_7 : CT :=
  .reg [
  oP (pdT 32) (e1 (cAddo 0) (slotG 1)),
  oP (pdT 33) (eLoad1 (slotG 32)),
  oP (pdT 34) (e2 (cEq false .num) (slotG 33) (constG (.int .i64 3))),
  oP (pdT 35) (eMov (slotG 34)),
  gP (slotG 35) true (pdT 36) (e1 (cAddo 2) (slotG 1)),
  gP (slotG 35) true (pdT 37) (eLoad1 (slotG 36)),
  gP (slotG 35) true (pdT 38) (e2 (cEq false .num) (slotG 37) (constG (.str []))),
  oP (pdT 39) (ePick (slotG 35) (slotG 38) (constG (.bool false))),
  oP (pdT 40) (eMov (slotG 39)),
  gP (slotG 40) true (pdT 41) (e1 (cAddo 1) (slotG 1)),
  gP (slotG 40) true (pdT 42) (eLoad1 (slotG 41)),
  gP (slotG 40) true (pdT 43) (e2 (cBin .geq) (slotG 42) (constG (.int .i64 0))),
  oP (pdT 44) (ePick (slotG 40) (slotG 43) (constG (.bool false))),
  oP (pdT 45) (eMov (slotG 44)),
  gP (slotG 45) true (pdT 46) (e1 (cAddo 1) (slotG 1)),
  gP (slotG 45) true (pdT 47) (eLoad1 (slotG 46)),
  gP (slotG 45) true (pdT 48) (e2 (cBin .leq) (slotG 47) (constG (.int .i64 1))),
  oP (pdT 49) (ePick (slotG 45) (slotG 48) (constG (.bool false))),
  oP (pdT 2) (eMov (slotG 49))]
noncomputable def B5 : CT := (.seq R5_0 (.seq (.seq R5_1 (.cond (slotG 5) (.seq R5_2 .ret) .skip)) (.seq (.seq R5_3 (.cond (slotG 16) (.seq R5_4 .ret) .skip)) (.seq (.seq R5_5 (.cond (slotG 22) (.seq R5_6 .ret) .skip)) (.seq R5_7 .ret)))))
noncomputable def A5 : CF := { res := [rTmp 2], code := B5, nt := 50 }
theorem c5 : ctF Tryz.prog 5 = some A5 := by kernel_rfl

/-! 6: cadastre/model.Sorted -/
noncomputable def R6_0 : CT :=
  .reg [
  oP (pdT 2) (eMov (constG (.cst (.slice none 0 0))))]
noncomputable def R6_1 : CT :=
  .reg [
  oP (pdT 6) (eMov (slotG 0)),
  oP (pdT 7) (e1 cLenL (slotG 6)),
  oP (pdT 8) (eMksl [(.cst (.slice none 0 0))] 1 24 (constG (.int .i64 0)) (slotG 7)),
  oP (pdT 3) (eMov (slotG 8))]
noncomputable def R6_2 : CT :=
  .reg [
  oP (pdT 9) (eMov (slotG 0)),
  oP (pdT 10) (e1 cLenL (slotG 9)),
  oP (pdT 11) (eMov (constG (.int .i64 0)))]
noncomputable def R6_3 : CT :=
  .reg [
  oP (pdT 12) (e2 (cBin .lss) (slotG 11) (slotG 10))]
noncomputable def R6_4 : CT :=
  .reg [
  oP (pdT 13) (e2 (cIxa 1) (slotG 9) (slotG 11)),
  oP (pdT 14) (eLoad1 (slotG 13)),
  oP (pdT 5) (eMov (slotG 14))]
noncomputable def R6_5 : CT :=
  .reg [
  oP (pdT 15) (eMov (slotG 3)),
  oP (pdT 16) (eMov (slotG 5)),
  cP (pdT 17) 15 [(slotG 16)],
  oP (pdT 18) (eBslice [(.cst (.slice none 0 0))] 1 1 [(0, 1, (slotG 17))]),
  oP (pdT 19) (eApp 1 24 (slotG 15) (slotG 18)),
  oP (pdT 3) (eMov (slotG 19))]
noncomputable def R6_6 : CT :=
  .reg [
  oP (pdT 20) (e2 (cBin .add) (slotG 11) (constG (.int .i64 1))),
  oP (pdT 11) (eMov (slotG 20))]
noncomputable def L6_0 : CT := (.seq R6_3 (.seq (.cond (slotG 12) .skip (.exit 0)) (.seq (.block 1 (.seq R6_4 R6_5)) R6_6)))
noncomputable def R6_7 : CT :=
  .reg [
  oP (pdT 21) (eMov (slotG 3)),
  cP (pdT 22) 16 [(slotG 21), (constG (.fn (.func 17) [] []))]]
noncomputable def R6_8 : CT :=
  .reg [
  oP (pdT 23) (eMov (slotG 3)),
  oP (pdT 2) (eMov (slotG 23))]
noncomputable def B6 : CT := (.seq R6_0 (.seq R6_1 (.seq (.seq R6_2 (.block 0 (.loop L6_0))) (.seq R6_7 (.seq R6_8 .ret)))))
noncomputable def A6 : CF := { res := [rTmp 2], code := B6, nt := 24 }
theorem c6 : ctF Tryz.prog 6 = some A6 := by kernel_rfl

/-! 7: cadastre/cadastreref17.SameRows -/
noncomputable def R7_0 : CT :=
  .reg [
  oP (pdT 4) (eMov (constG (.bool false)))]
noncomputable def R7_1 : CT :=
  .reg [
  oP (pdT 6) (eMov (slotG 0)),
  oP (pdT 7) (e1 cLenL (slotG 6)),
  oP (pdT 8) (eMov (slotG 1)),
  oP (pdT 9) (e1 cLenL (slotG 8)),
  oP (pdT 10) (e2 (cEq true .num) (slotG 7) (slotG 9))]
noncomputable def R7_2 : CT :=
  .reg [
  oP (pdT 4) (eMov (constG (.bool false)))]
noncomputable def R7_3 : CT :=
  .reg [
  oP (pdT 5) (eMov (constG (.int .i64 0)))]
noncomputable def R7_4 : CT :=
  .reg [
  oP (pdT 11) (eMov (slotG 5)),
  oP (pdT 12) (eMov (slotG 0)),
  oP (pdT 13) (e1 cLenL (slotG 12)),
  oP (pdT 14) (e2 (cBin .lss) (slotG 11) (slotG 13))]
noncomputable def R7_5 : CT :=
  .drw [17, 18, 19, 20, 21, 22, 23, 24, 25, 26] [
  oI [0] (pdT 17) (eMov (slotG 0)) 1,
  oI [5] (pdT 18) (eMov (slotG 5)) 1,
  oI [17, 18] (pdT 19) (e2 (cIxa 1) (slotG 17) (slotG 18)) 1,
  oI [19] (pdT 20) (eLoad1 (slotG 19)) 1,
  oI [1] (pdT 21) (eMov (slotG 1)) 1,
  oI [5] (pdT 22) (eMov (slotG 5)) 1,
  oI [21, 22] (pdT 23) (e2 (cIxa 1) (slotG 21) (slotG 22)) 1,
  oI [23] (pdT 24) (eLoad1 (slotG 23)) 1,
  cI [20, 24] (pdT 25) 18 [(slotG 20), (slotG 24)],
  oI [25] (pdT 26) (e1 (cUn .not) (slotG 25)) 1]
noncomputable def R7_6 : CT :=
  .reg [
  oP (pdT 4) (eMov (constG (.bool false)))]
noncomputable def R7_7 : CT :=
  .reg [
  oP (pdT 15) (eMov (slotG 5)),
  oP (pdT 16) (e2 (cBin .add) (slotG 15) (constG (.int .i64 1))),
  oP (pdT 5) (eMov (slotG 16))]
noncomputable def L7_0 : CT := (.seq (.seq R7_4 (.cond (slotG 14) .skip (.exit 0))) (.seq (.block 1 (.seq R7_5 (.cond (slotG 26) (.seq R7_6 .ret) .skip))) R7_7))
noncomputable def R7_8 : CT :=
  .reg [
  oP (pdT 4) (eMov (constG (.bool true)))]
noncomputable def B7 : CT := (.seq R7_0 (.seq (.seq R7_1 (.cond (slotG 10) (.seq R7_2 .ret) .skip)) (.seq (.seq R7_3 (.block 0 (.loop L7_0))) (.seq R7_8 .ret))))
noncomputable def A7 : CF := { res := [rTmp 4], code := B7, nt := 27 }
theorem c7 : ctF Tryz.prog 7 = some A7 := by kernel_rfl

/-! 8: cadastre/cadastreref22.Sorted -/
noncomputable def R8_0 : CT :=
  .reg [
  oP (pdT 4) (eMov (constG (.cst (.slice none 0 0))))]
noncomputable def R8_1 : CT :=
  .reg [
  oP (pdT 10) (eMov (slotG 0)),
  oP (pdT 11) (e1 cLenL (slotG 10)),
  oP (pdT 12) (e2 (cBin .lss) (slotG 11) (constG (.int .i64 2)))]
noncomputable def R8_2 : CT :=
  .reg [
  oP (pdT 13) (eBslice [(.cst (.slice none 0 0))] 0 1 []),
  oP (pdT 14) (eMov (slotG 0)),
  oP (pdT 15) (eApp 1 24 (slotG 13) (slotG 14)),
  oP (pdT 4) (eMov (slotG 15))]
noncomputable def R8_3 : CT :=
  .reg [
  oP (pdT 16) (eMov (slotG 0)),
  oP (pdT 17) (eMov (slotG 0)),
  oP (pdT 18) (e1 cLenL (slotG 17)),
  oP (pdT 19) (e2 (cBin .quo) (slotG 18) (constG (.int .i64 2))),
  oP (pdT 20) (eSl (cSlc 1) (slotG 16) none (some (slotG 19)) none),
  oP (pdT 21) (eMov (slotG 1)),
  cP (pdT 22) 8 [(slotG 20), (slotG 21)],
  oP (pdT 5) (eMov (slotG 22))]
noncomputable def R8_4 : CT :=
  .reg [
  oP (pdT 23) (eMov (slotG 0)),
  oP (pdT 24) (eMov (slotG 0)),
  oP (pdT 25) (e1 cLenL (slotG 24)),
  oP (pdT 26) (e2 (cBin .quo) (slotG 25) (constG (.int .i64 2))),
  oP (pdT 27) (eSl (cSlc 1) (slotG 23) (some (slotG 26)) none none),
  oP (pdT 28) (eMov (slotG 1)),
  cP (pdT 29) 8 [(slotG 27), (slotG 28)],
  oP (pdT 6) (eMov (slotG 29))]
noncomputable def R8_5 : CT :=
  .reg [
  oP (pdT 7) (eMov (constG (.cst (.slice none 0 0))))]
noncomputable def R8_6 : CT :=
  .reg [
  oP (pdT 8) (eMov (constG (.int .i64 0)))]
noncomputable def R8_7 : CT :=
  .reg [
  oP (pdT 9) (eMov (constG (.int .i64 0)))]
noncomputable def R8_8 : CT :=
  .reg [
  oP (pdT 30) (eMov (slotG 8)),
  oP (pdT 31) (eMov (slotG 5)),
  oP (pdT 32) (e1 cLenL (slotG 31)),
  oP (pdT 33) (e2 (cBin .lss) (slotG 30) (slotG 32)),
  oP (pdT 34) (eMov (slotG 33)),
  gP (slotG 34) false (pdT 35) (eMov (slotG 9)),
  gP (slotG 34) false (pdT 36) (eMov (slotG 6)),
  gP (slotG 34) false (pdT 37) (e1 cLenL (slotG 36)),
  gP (slotG 34) false (pdT 38) (e2 (cBin .lss) (slotG 35) (slotG 37)),
  oP (pdT 39) (ePick (slotG 34) (constG (.bool true)) (slotG 38))]
noncomputable def R8_9 : CT :=
  .drw [40, 41, 42, 43, 44, 45, 46, 47, 48, 49, 50, 51, 52, 53, 54, 55, 56, 57, 58, 59, 60, 61, 62] [
  oI [9] (pdT 40) (eMov (slotG 9)) 1,
  oI [6] (pdT 41) (eMov (slotG 6)) 1,
  oI [41] (pdT 42) (e1 cLenL (slotG 41)) 1,
  oI [40, 42] (pdT 43) (e2 (cBin .geq) (slotG 40) (slotG 42)) 1,
  oI [43] (pdT 44) (eMov (slotG 43)) 1,
  goI [44, 8] (slotG 44) false (pdT 45) (eMov (slotG 8)) 1,
  goI [44, 5] (slotG 44) false (pdT 46) (eMov (slotG 5)) 1,
  goI [44, 46] (slotG 44) false (pdT 47) (e1 cLenL (slotG 46)) 1,
  goI [44, 45, 47] (slotG 44) false (pdT 48) (e2 (cBin .lss) (slotG 45) (slotG 47)) 1,
  goI [44, 48] (slotG 44) false (pdT 49) (eMov (slotG 48)) 1,
  goI [49, 5] (slotG 49) true (pdT 50) (eMov (slotG 5)) 1,
  goI [49, 8] (slotG 49) true (pdT 51) (eMov (slotG 8)) 1,
  goI [49, 50, 51] (slotG 49) true (pdT 52) (e2 (cIxa 1) (slotG 50) (slotG 51)) 1,
  goI [49, 52] (slotG 49) true (pdT 53) (eLoad1 (slotG 52)) 1,
  goI [49, 6] (slotG 49) true (pdT 54) (eMov (slotG 6)) 1,
  goI [49, 9] (slotG 49) true (pdT 55) (eMov (slotG 9)) 1,
  goI [49, 54, 55] (slotG 49) true (pdT 56) (e2 (cIxa 1) (slotG 54) (slotG 55)) 1,
  goI [49, 56] (slotG 49) true (pdT 57) (eLoad1 (slotG 56)) 1,
  goI [49, 1] (slotG 49) true (pdT 58) (eMov (slotG 1)) 1,
  gcI [49, 53, 57, 58] (slotG 49) true (pdT 59) 19 [(slotG 53), (slotG 57), (slotG 58)],
  goI [49, 59] (slotG 49) true (pdT 60) (e2 (cBin .leq) (slotG 59) (constG (.int .i64 0))) 1,
  goI [44, 49, 60] (slotG 44) false (pdT 61) (ePick (slotG 49) (slotG 60) (constG (.bool false))) 1,
  oI [44, 61] (pdT 62) (ePick (slotG 44) (constG (.bool true)) (slotG 61)) 1]
noncomputable def R8_10 : CT :=
  .reg [
  oP (pdT 63) (eMov (slotG 7)),
  oP (pdT 64) (eMov (slotG 5)),
  oP (pdT 65) (eMov (slotG 8)),
  oP (pdT 66) (e2 (cIxa 1) (slotG 64) (slotG 65)),
  oP (pdT 67) (eLoad1 (slotG 66)),
  oP (pdT 68) (eBslice [(.cst (.slice none 0 0))] 1 1 [(0, 1, (slotG 67))]),
  oP (pdT 69) (eApp 1 24 (slotG 63) (slotG 68)),
  oP (pdT 7) (eMov (slotG 69))]
noncomputable def R8_11 : CT :=
  .reg [
  oP (pdT 70) (eMov (slotG 8)),
  oP (pdT 71) (e2 (cBin .add) (slotG 70) (constG (.int .i64 1))),
  oP (pdT 8) (eMov (slotG 71))]
noncomputable def R8_12 : CT :=
  .reg [
  oP (pdT 72) (eMov (slotG 7)),
  oP (pdT 73) (eMov (slotG 6)),
  oP (pdT 74) (eMov (slotG 9)),
  oP (pdT 75) (e2 (cIxa 1) (slotG 73) (slotG 74)),
  oP (pdT 76) (eLoad1 (slotG 75)),
  oP (pdT 77) (eBslice [(.cst (.slice none 0 0))] 1 1 [(0, 1, (slotG 76))]),
  oP (pdT 78) (eApp 1 24 (slotG 72) (slotG 77)),
  oP (pdT 7) (eMov (slotG 78))]
noncomputable def R8_13 : CT :=
  .reg [
  oP (pdT 79) (eMov (slotG 9)),
  oP (pdT 80) (e2 (cBin .add) (slotG 79) (constG (.int .i64 1))),
  oP (pdT 9) (eMov (slotG 80))]
noncomputable def L8_0 : CT := (.seq (.seq R8_8 (.cond (slotG 39) .skip (.exit 0))) (.block 1 (.seq R8_9 (.cond (slotG 62) (.seq R8_10 R8_11) (.seq R8_12 R8_13)))))
noncomputable def R8_14 : CT :=
  .reg [
  oP (pdT 81) (eMov (slotG 7)),
  oP (pdT 4) (eMov (slotG 81))]
noncomputable def B8 : CT := (.seq R8_0 (.seq (.seq R8_1 (.cond (slotG 12) (.seq R8_2 .ret) .skip)) (.seq R8_3 (.seq R8_4 (.seq R8_5 (.seq R8_6 (.seq R8_7 (.seq (.block 0 (.loop L8_0)) (.seq R8_14 .ret)))))))))
noncomputable def A8 : CF := { res := [rTmp 4], code := B8, nt := 82 }
theorem c8 : ctF Tryz.prog 8 = some A8 := by kernel_rfl

/-! 15: slices.Clone[[]cadastre/api.Value,cadastre/api.Value] -/
noncomputable def R15_0 : CT :=
  .reg [
  oP (pdT 2) (eMov (constG (.cst (.slice none 0 0))))]
noncomputable def R15_1 : CT :=
  .reg [
  oP (pdT 3) (eMov (slotG 0)),
  oP (pdT 4) (e2 (cEq false .slice) (slotG 3) (constG (.cst (.slice none 0 0))))]
noncomputable def R15_2 : CT :=
  .reg [
  oP (pdT 2) (eMov (constG (.cst (.slice none 0 0))))]
noncomputable def R15_3 : CT :=
  .reg [
  oP (pdT 5) (eBslice [(.int .i64 0), (.int .i64 0), (.str [])] 0 3 []),
  oP (pdT 6) (eMov (slotG 0)),
  oP (pdT 7) (eApp 3 32 (slotG 5) (slotG 6)),
  oP (pdT 2) (eMov (slotG 7))]
noncomputable def B15 : CT := (.seq R15_0 (.seq (.seq R15_1 (.cond (slotG 4) (.seq R15_2 .ret) .skip)) (.seq R15_3 .ret)))
noncomputable def A15 : CF := { res := [rTmp 2], code := B15, nt := 8 }
theorem c15 : ctF Tryz.prog 15 = some A15 := by kernel_rfl

/-! 16: slices.SortStableFunc[[][]cadastre/api.Value,[]cadastre/api.Value] -/
noncomputable def R16_0 : CT :=
  .reg [
  oP (pdT 4) (eMov (slotG 0)),
  oP (pdT 5) (eMov (slotG 0)),
  oP (pdT 6) (e1 cLenL (slotG 5)),
  oP (pdT 7) (eMov (slotG 1)),
  cP (pdT 8) 27 [(slotG 4), (slotG 6), (slotG 7)]]
noncomputable def B16 : CT := R16_0
noncomputable def A16 : CF := { res := [], code := B16, nt := 9 }
theorem c16 : ctF Tryz.prog 16 = some A16 := by kernel_rfl

/-! 17: cadastre/model.order -/
noncomputable def R17_0 : CT :=
  .reg [
  oP (pdT 4) (eMov (constG (.int .i64 0)))]
noncomputable def R17_1 : CT :=
  .reg [
  oP (pdT 8) (eMov (slotG 0)),
  oP (pdT 9) (e1 cLenL (slotG 8)),
  oP (pdT 10) (eMov (slotG 1)),
  oP (pdT 11) (e1 cLenL (slotG 10)),
  oP (pdT 12) (eMnx minI [(slotG 9), (slotG 11)]),
  oP (pdT 13) (eMov (constG (.int .i64 0)))]
noncomputable def R17_2 : CT :=
  .reg [
  oP (pdT 14) (e2 (cBin .lss) (slotG 13) (slotG 12))]
noncomputable def R17_3 : CT :=
  .reg [
  oP (pdT 15) (eMov (slotG 13)),
  oP (pdT 5) (eMov (slotG 15))]
noncomputable def R17_4 : CT :=
  .drw [17, 18, 19, 20, 21, 22, 23, 24, 25, 16, 26, 27] [
  oI [0] (pdT 17) (eMov (slotG 0)) 1,
  oI [5] (pdT 18) (eMov (slotG 5)) 1,
  oI [17, 18] (pdT 19) (e2 (cIxa 3) (slotG 17) (slotG 18)) 1,
  oI [19] (pdT 20) (eLoadN 3 (slotG 19)) 1,
  oI [1] (pdT 21) (eMov (slotG 1)) 1,
  oI [5] (pdT 22) (eMov (slotG 5)) 1,
  oI [21, 22] (pdT 23) (e2 (cIxa 3) (slotG 21) (slotG 22)) 1,
  oI [23] (pdT 24) (eLoadN 3 (slotG 23)) 1,
  cI [20, 24] (pdT 25) 28 [(slotG 20), (slotG 24)],
  oI [25] (pdT 16) (eMov (slotG 25)) 1,
  oI [16] (pdT 26) (e1 (cExt 0) (slotG 16)) 1,
  oI [16] (pdT 27) (e1 (cExt 1) (slotG 16)) 1,
  oI [26] (pdT 6) (eMov (slotG 26)) 1,
  oI [27] (pdT 7) (eMov (slotG 27)) 1]
noncomputable def R17_5 : CT :=
  .reg [
  oP (pdT 28) (eMov (slotG 7)),
  oP (pdT 29) (e2 (cEq true .num) (slotG 28) (constG (.int .i64 0)))]
noncomputable def R17_6 : CT :=
  .reg [
  oP (pdT 6) (eMov (constG (.int .i64 0)))]
noncomputable def R17_7 : CT :=
  .reg [
  oP (pdT 30) (eMov (slotG 0)),
  oP (pdT 31) (eMov (slotG 5)),
  oP (pdT 32) (e2 (cIxa 3) (slotG 30) (slotG 31)),
  oP (pdT 33) (eLoadN 3 (slotG 32)),
  cP (pdT 34) 29 [(slotG 33)]]
noncomputable def R17_8 : CT :=
  .reg [
  oP (pdT 6) (eMov (constG (.int .i64 (-1))))]
noncomputable def R17_9 : CT :=
  .reg [
  oP (pdT 35) (eMov (slotG 1)),
  oP (pdT 36) (eMov (slotG 5)),
  oP (pdT 37) (e2 (cIxa 3) (slotG 35) (slotG 36)),
  oP (pdT 38) (eLoadN 3 (slotG 37)),
  cP (pdT 39) 29 [(slotG 38)]]
noncomputable def R17_10 : CT :=
  .reg [
  oP (pdT 6) (eMov (constG (.int .i64 1)))]
noncomputable def R17_11 : CT :=
  .reg [
  oP (pdT 40) (eMov (slotG 6)),
  oP (pdT 41) (e2 (cEq true .num) (slotG 40) (constG (.int .i64 0)))]
noncomputable def R17_12 : CT :=
  .reg [
  oP (pdT 42) (eMov (slotG 6)),
  oP (pdT 4) (eMov (slotG 42))]
noncomputable def R17_13 : CT :=
  .reg [
  oP (pdT 43) (e2 (cBin .add) (slotG 13) (constG (.int .i64 1))),
  oP (pdT 13) (eMov (slotG 43))]
noncomputable def L17_0 : CT := (.seq R17_2 (.seq (.cond (slotG 14) .skip (.exit 0)) (.seq (.block 1 (.seq R17_3 (.seq R17_4 (.seq (.seq R17_5 (.cond (slotG 29) (.seq R17_6 (.seq R17_7 (.cond (slotG 34) R17_8 (.seq R17_9 (.cond (slotG 39) R17_10 .skip))))) .skip)) (.seq R17_11 (.cond (slotG 41) (.seq R17_12 .ret) .skip)))))) R17_13)))
noncomputable def R17_14 : CT :=
  .reg [
  oP (pdT 44) (eMov (slotG 0)),
  oP (pdT 45) (e1 cLenL (slotG 44)),
  oP (pdT 46) (eMov (slotG 1)),
  oP (pdT 47) (e1 cLenL (slotG 46)),
  oP (pdT 48) (e2 (cBin .sub) (slotG 45) (slotG 47)),
  oP (pdT 4) (eMov (slotG 48))]
noncomputable def B17 : CT := (.seq R17_0 (.seq (.seq R17_1 (.block 0 (.loop L17_0))) (.seq R17_14 .ret)))
noncomputable def A17 : CF := { res := [rTmp 4], code := B17, nt := 49 }
theorem c17 : ctF Tryz.prog 17 = some A17 := by kernel_rfl

/-! 18: cadastre/cadastreref04.Same -/
noncomputable def R18_0 : CT :=
  .reg [
  oP (pdT 4) (eMov (constG (.bool false)))]
noncomputable def R18_1 : CT :=
  .reg [
  oP (pdT 6) (eMov (slotG 0)),
  oP (pdT 7) (e1 cLenL (slotG 6)),
  oP (pdT 8) (eMov (slotG 1)),
  oP (pdT 9) (e1 cLenL (slotG 8)),
  oP (pdT 10) (e2 (cEq true .num) (slotG 7) (slotG 9))]
noncomputable def R18_2 : CT :=
  .reg [
  oP (pdT 4) (eMov (constG (.bool false)))]
noncomputable def R18_3 : CT :=
  .reg [
  oP (pdT 5) (eMov (constG (.int .i64 0)))]
noncomputable def R18_4 : CT :=
  .reg [
  oP (pdT 11) (eMov (slotG 5)),
  oP (pdT 12) (eMov (slotG 0)),
  oP (pdT 13) (e1 cLenL (slotG 12)),
  oP (pdT 14) (e2 (cBin .lss) (slotG 11) (slotG 13))]
noncomputable def R18_5 : CT :=
  .drw [17, 18, 19, 20, 21, 22, 23, 24, 25] [
  oI [0] (pdT 17) (eMov (slotG 0)) 1,
  oI [5] (pdT 18) (eMov (slotG 5)) 1,
  oI [17, 18] (pdT 19) (e2 (cIxa 3) (slotG 17) (slotG 18)) 1,
  oI [19] (pdT 20) (eLoadN 3 (slotG 19)) 1,
  oI [1] (pdT 21) (eMov (slotG 1)) 1,
  oI [5] (pdT 22) (eMov (slotG 5)) 1,
  oI [21, 22] (pdT 23) (e2 (cIxa 3) (slotG 21) (slotG 22)) 1,
  oI [23] (pdT 24) (eLoadN 3 (slotG 23)) 1,
  oI [20, 24] (pdT 25) (e2 (cEqA true [.i, .i, .s]) (slotG 20) (slotG 24)) 1]
noncomputable def R18_6 : CT :=
  .reg [
  oP (pdT 4) (eMov (constG (.bool false)))]
noncomputable def R18_7 : CT :=
  .reg [
  oP (pdT 15) (eMov (slotG 5)),
  oP (pdT 16) (e2 (cBin .add) (slotG 15) (constG (.int .i64 1))),
  oP (pdT 5) (eMov (slotG 16))]
noncomputable def L18_0 : CT := (.seq (.seq R18_4 (.cond (slotG 14) .skip (.exit 0))) (.seq (.block 1 (.seq R18_5 (.cond (slotG 25) (.seq R18_6 .ret) .skip))) R18_7))
noncomputable def R18_8 : CT :=
  .reg [
  oP (pdT 4) (eMov (constG (.bool true)))]
noncomputable def B18 : CT := (.seq R18_0 (.seq (.seq R18_1 (.cond (slotG 10) (.seq R18_2 .ret) .skip)) (.seq (.seq R18_3 (.block 0 (.loop L18_0))) (.seq R18_8 .ret))))
noncomputable def A18 : CF := { res := [rTmp 4], code := B18, nt := 26 }
theorem c18 : ctF Tryz.prog 18 = some A18 := by kernel_rfl

/-! 19: cadastre/cadastreref22.Order -/
noncomputable def R19_0 : CT :=
  .reg [
  oP (pdT 6) (eMov (constG (.int .i64 0)))]
noncomputable def R19_1 : CT :=
  .reg [
  oP (pdT 7) (eMov (constG (.int .i64 0)))]
noncomputable def R19_2 : CT :=
  .reg [
  oP (pdT 9) (eMov (slotG 7)),
  oP (pdT 10) (eMov (slotG 2)),
  oP (pdT 11) (e1 cLenL (slotG 10)),
  oP (pdT 12) (e2 (cBin .lss) (slotG 9) (slotG 11))]
noncomputable def R19_3 : CT :=
  .drw [15, 16, 17, 18, 19, 20, 21, 22, 23, 24, 25, 26, 27, 28, 29, 30, 31] [
  oI [0] (pdT 15) (eMov (slotG 0)) 1,
  oI [2] (pdT 16) (eMov (slotG 2)) 1,
  oI [7] (pdT 17) (eMov (slotG 7)) 1,
  oI [16, 17] (pdT 18) (e2 (cIxa 2) (slotG 16) (slotG 17)) 1,
  oI [18] (pdT 19) (e1 (cAddo 0) (slotG 18)) 1,
  oI [19] (pdT 20) (eLoad1 (slotG 19)) 1,
  oI [15, 20] (pdT 21) (e2 (cIxa 3) (slotG 15) (slotG 20)) 1,
  oI [21] (pdT 22) (eLoadN 3 (slotG 21)) 1,
  oI [1] (pdT 23) (eMov (slotG 1)) 1,
  oI [2] (pdT 24) (eMov (slotG 2)) 1,
  oI [7] (pdT 25) (eMov (slotG 7)) 1,
  oI [24, 25] (pdT 26) (e2 (cIxa 2) (slotG 24) (slotG 25)) 1,
  oI [26] (pdT 27) (e1 (cAddo 0) (slotG 26)) 1,
  oI [27] (pdT 28) (eLoad1 (slotG 27)) 1,
  oI [23, 28] (pdT 29) (e2 (cIxa 3) (slotG 23) (slotG 28)) 1,
  oI [29] (pdT 30) (eLoadN 3 (slotG 29)) 1,
  cI [22, 30] (pdT 31) 30 [(slotG 22), (slotG 30)],
  oI [31] (pdT 8) (eMov (slotG 31)) 1]
noncomputable def R19_4 : CT :=
  .reg [
  oP (pdT 32) (eMov (slotG 2)),
  oP (pdT 33) (eMov (slotG 7)),
  oP (pdT 34) (e2 (cIxa 2) (slotG 32) (slotG 33)),
  oP (pdT 35) (e1 (cAddo 1) (slotG 34)),
  oP (pdT 36) (eLoad1 (slotG 35))]
noncomputable def R19_5 : CT :=
  .reg [
  oP (pdT 37) (eMov (slotG 8)),
  oP (pdT 38) (e1 (cUn .neg) (slotG 37)),
  oP (pdT 8) (eMov (slotG 38))]
noncomputable def R19_6 : CT :=
  .reg [
  oP (pdT 39) (eMov (slotG 8)),
  oP (pdT 40) (e2 (cEq true .num) (slotG 39) (constG (.int .i64 0)))]
noncomputable def R19_7 : CT :=
  .reg [
  oP (pdT 41) (eMov (slotG 8)),
  oP (pdT 6) (eMov (slotG 41))]
noncomputable def R19_8 : CT :=
  .reg [
  oP (pdT 13) (eMov (slotG 7)),
  oP (pdT 14) (e2 (cBin .add) (slotG 13) (constG (.int .i64 1))),
  oP (pdT 7) (eMov (slotG 14))]
noncomputable def L19_0 : CT := (.seq (.seq R19_2 (.cond (slotG 12) .skip (.exit 0))) (.seq (.block 1 (.seq R19_3 (.seq (.seq R19_4 (.cond (slotG 36) R19_5 .skip)) (.seq R19_6 (.cond (slotG 40) (.seq R19_7 .ret) .skip))))) R19_8))
noncomputable def R19_9 : CT :=
  .reg [
  oP (pdT 42) (eMov (slotG 0)),
  oP (pdT 43) (eMov (slotG 1)),
  cP (pdT 44) 31 [(slotG 42), (slotG 43)],
  oP (pdT 6) (eMov (slotG 44))]
noncomputable def B19 : CT := (.seq R19_0 (.seq (.seq R19_1 (.block 0 (.loop L19_0))) (.seq R19_9 .ret)))
noncomputable def A19 : CF := { res := [rTmp 6], code := B19, nt := 45 }
theorem c19 : ctF Tryz.prog 19 = some A19 := by kernel_rfl

/-! 27: slices.stableCmpFunc[[]cadastre/api.Value] -/
noncomputable def R27_0 : CT :=
  .reg [
  oP (pdT 6) (eMov (constG (.int .i64 20)))]
noncomputable def R27_1 : CT :=
  .reg [
  oP (pdT 10) (eMov (slotG 6)),
  oP (pdT 7) (eMov (constG (.int .i64 0))),
  oP (pdT 8) (eMov (slotG 10))]
noncomputable def R27_2 : CT :=
  .reg [
  oP (pdT 11) (eMov (slotG 8)),
  oP (pdT 12) (eMov (slotG 1)),
  oP (pdT 13) (e2 (cBin .leq) (slotG 11) (slotG 12))]
noncomputable def R27_3 : CT :=
  .reg [
  oP (pdT 14) (eMov (slotG 0)),
  oP (pdT 15) (eMov (slotG 7)),
  oP (pdT 16) (eMov (slotG 8)),
  oP (pdT 17) (eMov (slotG 2)),
  cP (pdT 18) 67 [(slotG 14), (slotG 15), (slotG 16), (slotG 17)]]
noncomputable def R27_4 : CT :=
  .reg [
  oP (pdT 19) (eMov (slotG 8)),
  oP (pdT 7) (eMov (slotG 19))]
noncomputable def R27_5 : CT :=
  .reg [
  oP (pdT 20) (eMov (slotG 8)),
  oP (pdT 21) (eMov (slotG 6)),
  oP (pdT 22) (e2 (cBin .add) (slotG 20) (slotG 21)),
  oP (pdT 8) (eMov (slotG 22))]
noncomputable def L27_0 : CT := (.seq (.seq R27_2 (.cond (slotG 13) .skip (.exit 0))) (.block 1 (.seq R27_3 (.seq R27_4 R27_5))))
noncomputable def R27_6 : CT :=
  .reg [
  oP (pdT 23) (eMov (slotG 0)),
  oP (pdT 24) (eMov (slotG 7)),
  oP (pdT 25) (eMov (slotG 1)),
  oP (pdT 26) (eMov (slotG 2)),
  cP (pdT 27) 67 [(slotG 23), (slotG 24), (slotG 25), (slotG 26)]]
noncomputable def R27_7 : CT :=
  .reg [
  oP (pdT 28) (eMov (slotG 6)),
  oP (pdT 29) (eMov (slotG 1)),
  oP (pdT 30) (e2 (cBin .lss) (slotG 28) (slotG 29))]
noncomputable def R27_8 : CT :=
  .reg [
  oP (pdT 31) (eMov (slotG 6)),
  oP (pdT 32) (e2 (cBin .mul) (constG (.int .i64 2)) (slotG 31)),
  oP (pdT 7) (eMov (constG (.int .i64 0))),
  oP (pdT 8) (eMov (slotG 32))]
noncomputable def R27_9 : CT :=
  .reg [
  oP (pdT 33) (eMov (slotG 8)),
  oP (pdT 34) (eMov (slotG 1)),
  oP (pdT 35) (e2 (cBin .leq) (slotG 33) (slotG 34))]
noncomputable def R27_10 : CT :=
  .reg [
  oP (pdT 36) (eMov (slotG 0)),
  oP (pdT 37) (eMov (slotG 7)),
  oP (pdT 38) (eMov (slotG 7)),
  oP (pdT 39) (eMov (slotG 6)),
  oP (pdT 40) (e2 (cBin .add) (slotG 38) (slotG 39)),
  oP (pdT 41) (eMov (slotG 8)),
  oP (pdT 42) (eMov (slotG 2)),
  cP (pdT 43) 68 [(slotG 36), (slotG 37), (slotG 40), (slotG 41), (slotG 42)]]
noncomputable def R27_11 : CT :=
  .reg [
  oP (pdT 44) (eMov (slotG 8)),
  oP (pdT 7) (eMov (slotG 44))]
noncomputable def R27_12 : CT :=
  .reg [
  oP (pdT 45) (eMov (slotG 8)),
  oP (pdT 46) (eMov (slotG 6)),
  oP (pdT 47) (e2 (cBin .mul) (constG (.int .i64 2)) (slotG 46)),
  oP (pdT 48) (e2 (cBin .add) (slotG 45) (slotG 47)),
  oP (pdT 8) (eMov (slotG 48))]
noncomputable def L27_1 : CT := (.seq (.seq R27_9 (.cond (slotG 35) .skip (.exit 4))) (.block 5 (.seq R27_10 (.seq R27_11 R27_12))))
noncomputable def R27_13 : CT :=
  .reg [
  oP (pdT 49) (eMov (slotG 7)),
  oP (pdT 50) (eMov (slotG 6)),
  oP (pdT 51) (e2 (cBin .add) (slotG 49) (slotG 50)),
  oP (pdT 9) (eMov (slotG 51))]
noncomputable def R27_14 : CT :=
  .reg [
  oP (pdT 52) (eMov (slotG 9)),
  oP (pdT 53) (eMov (slotG 1)),
  oP (pdT 54) (e2 (cBin .lss) (slotG 52) (slotG 53))]
noncomputable def R27_15 : CT :=
  .reg [
  oP (pdT 55) (eMov (slotG 0)),
  oP (pdT 56) (eMov (slotG 7)),
  oP (pdT 57) (eMov (slotG 9)),
  oP (pdT 58) (eMov (slotG 1)),
  oP (pdT 59) (eMov (slotG 2)),
  cP (pdT 60) 68 [(slotG 55), (slotG 56), (slotG 57), (slotG 58), (slotG 59)]]
noncomputable def R27_16 : CT :=
  .reg [
  oP (pdT 61) (eMov (slotG 6)),
  oP (pdT 62) (e2 (cBin .mul) (slotG 61) (constG (.int .i64 2))),
  oP (pdT 6) (eMov (slotG 62))]
noncomputable def L27_2 : CT := (.seq (.seq R27_7 (.cond (slotG 30) .skip (.exit 2))) (.block 3 (.seq R27_8 (.seq (.block 4 (.loop L27_1)) (.seq (.seq R27_13 (.seq R27_14 (.cond (slotG 54) R27_15 .skip))) R27_16)))))
noncomputable def B27 : CT := (.seq R27_0 (.seq R27_1 (.seq (.block 0 (.loop L27_0)) (.seq R27_6 (.block 2 (.loop L27_2))))))
noncomputable def A27 : CF := { res := [], code := B27, nt := 63 }
theorem c27 : ctF Tryz.prog 27 = some A27 := by kernel_rfl

/-! 28: cadastre/value.Compare -/
noncomputable def R28_0 : CT :=
  .reg [
  oP (pdT 2) (eBox (slotG 0)),
  oP (pdT 3) (eBox (slotG 1)),
  oP (pdT 4) (eMov (constG (.int .i64 0))),
  oP (pdT 5) (eMov (constG (.int .i64 0)))]
noncomputable def R28_1 : CT :=
  .reg [
  oP (pdT 6) (eLoadN 3 (slotG 2)),
  cP (pdT 7) 29 [(slotG 6)],
  oP (pdT 8) (e1 (cUn .not) (slotG 7)),
  oP (pdT 9) (eMov (slotG 8)),
  gP (slotG 9) false (pdT 10) (eLoadN 3 (slotG 3)),
  gcP (slotG 9) false (pdT 11) 29 [(slotG 10)],
  gP (slotG 9) false (pdT 12) (e1 (cUn .not) (slotG 11)),
  oP (pdT 13) (ePick (slotG 9) (constG (.bool true)) (slotG 12))]
noncomputable def R28_2 : CT :=
  .reg [
  oP (pdT 4) (eMov (constG (.int .i64 0))),
  oP (pdT 5) (eMov (constG (.int .i64 5)))]
noncomputable def R28_3 : CT :=
  .reg [
  oP (pdT 14) (eLoadN 3 (slotG 2)),
  oP (pdT 15) (eLoadN 3 (slotG 3)),
  cP (pdT 16) 69 [(slotG 14), (slotG 15)],
  oP (pdT 4) (eMov (slotG 16)),
  oP (pdT 5) (eMov (constG (.int .i64 0)))]
noncomputable def B28 : CT := (.seq R28_0 (.seq (.seq R28_1 (.cond (slotG 13) (.seq R28_2 .ret) .skip)) (.seq R28_3 .ret)))
noncomputable def A28 : CF := { res := [rTmp 4, rTmp 5], code := B28, nt := 17 }
theorem c28 : ctF Tryz.prog 28 = some A28 := by kernel_rfl

/-! 29: cadastre/value.May -/
noncomputable def R29_0 : CT :=
  .reg [
  oP (pdT 1) (eBox (slotG 0)),
  oP (pdT 2) (eMov (constG (.bool false)))]
noncomputable def R29_1 : CT :=
  .reg [
  oP (pdT 3) (e1 (cAddo 0) (slotG 1)),
  oP (pdT 4) (eLoad1 (slotG 3))]
noncomputable def R29_2 : CT :=
  .reg [
  oP (pdT 6) (e2 (cEq false .num) (slotG 4) (constG (.int .i64 0))),
  oP (pdT 5) (eMov (slotG 6))]
noncomputable def R29_3 : CT :=
  .reg [
  oP (pdT 7) (eLoadN 3 (slotG 1)),
  oP (pdT 8) (eBuild [(.int .i64 0), (.int .i64 0), (.str [])] 3 []),
  oP (pdT 9) (e2 (cEqA false [.i, .i, .s]) (slotG 7) (slotG 8)),
  oP (pdT 2) (eMov (slotG 9))]
noncomputable def R29_4 : CT :=
  .reg [
  oP (pdT 11) (e2 (cEq false .num) (slotG 4) (constG (.int .i64 1))),
  oP (pdT 10) (eMov (slotG 11))]
noncomputable def R29_5 : CT :=
  .reg [
  oP (pdT 12) (e1 (cAddo 2) (slotG 1)),
  oP (pdT 13) (eLoad1 (slotG 12)),
  oP (pdT 14) (e2 (cEq false .num) (slotG 13) (constG (.str []))),
  oP (pdT 2) (eMov (slotG 14))]
noncomputable def R29_6 : CT :=
  .reg [
  oP (pdT 16) (e2 (cEq false .num) (slotG 4) (constG (.int .i64 2))),
  oP (pdT 15) (eMov (slotG 16))]
noncomputable def R29_7 : CT :=
  .reg [
  oP (pdT 17) (e1 (cAddo 1) (slotG 1)),
  oP (pdT 18) (eLoad1 (slotG 17)),
  oP (pdT 19) (e2 (cEq false .num) (slotG 18) (constG (.int .i64 0))),
  oP (pdT 20) (eMov (slotG 19)),
  gP (slotG 20) true (pdT 21) (e1 (cAddo 2) (slotG 1)),
  gP (slotG 20) true (pdT 22) (eLoad1 (slotG 21)),
  gP (slotG 20) true (pdT 23) (e1 cLenS (slotG 22)),
  gP (slotG 20) true (pdT 24) (e2 (cBin .leq) (slotG 23) (constG (.int .i64 64))),
  oP (pdT 25) (ePick (slotG 20) (slotG 24) (constG (.bool false))),
  oP (pdT 2) (eMov (slotG 25))]
noncomputable def R29_8 : CT :=
  .reg [
  oP (pdT 27) (e2 (cEq false .num) (slotG 4) (constG (.int .i64 3))),
  oP (pdT 26) (eMov (slotG 27))]
noncomputable def R29_9 : CT :=
  .reg [
  oP (pdT 28) (e1 (cAddo 2) (slotG 1)),
  oP (pdT 29) (eLoad1 (slotG 28)),
  oP (pdT 30) (e2 (cEq false .num) (slotG 29) (constG (.str []))),
  oP (pdT 31) (eMov (slotG 30)),
  gP (slotG 31) true (pdT 32) (e1 (cAddo 1) (slotG 1)),
  gP (slotG 31) true (pdT 33) (eLoad1 (slotG 32)),
  gP (slotG 31) true (pdT 34) (e2 (cEq false .num) (slotG 33) (constG (.int .i64 0))),
  gP (slotG 31) true (pdT 35) (eMov (slotG 34)),
  gP (slotG 35) false (pdT 36) (e1 (cAddo 1) (slotG 1)),
  gP (slotG 35) false (pdT 37) (eLoad1 (slotG 36)),
  gP (slotG 35) false (pdT 38) (e2 (cEq false .num) (slotG 37) (constG (.int .i64 1))),
  gP (slotG 31) true (pdT 39) (ePick (slotG 35) (constG (.bool true)) (slotG 38)),
  oP (pdT 40) (ePick (slotG 31) (slotG 39) (constG (.bool false))),
  oP (pdT 2) (eMov (slotG 40))]
noncomputable def R29_10 : CT :=
  .reg [
  oP (pdT 2) (eMov (constG (.bool false)))]
noncomputable def B29 : CT := (.seq R29_0 (.seq (.seq R29_1 (.block 0 (.seq R29_2 (.cond (slotG 5) (.seq R29_3 .ret) (.seq R29_4 (.cond (slotG 10) (.seq R29_5 .ret) (.seq R29_6 (.cond (slotG 15) (.seq R29_7 .ret) (.seq R29_8 (.cond (slotG 26) (.seq R29_9 .ret) .skip)))))))))) (.seq R29_10 .ret)))
noncomputable def A29 : CF := { res := [rTmp 2], code := B29, nt := 41 }
theorem c29 : ctF Tryz.prog 29 = some A29 := by kernel_rfl

/-! 30: cadastre/cadastreref03.Order -/
noncomputable def R30_0 : CT :=
  .reg [
  oP (pdT 2) (eBox (slotG 0)),
  oP (pdT 3) (eBox (slotG 1)),
  oP (pdT 4) (eMov (constG (.int .i64 0)))]
noncomputable def R30_1 : CT :=
  .drw [7, 8, 9, 10, 11, 12] [
  oI [2] (pdT 7) (e1 (cAddo 0) (slotG 2)) 1,
  oI [7] (pdT 8) (eLoad1 (slotG 7)) 1,
  cI [8] (pdT 9) 70 [(slotG 8)],
  oI [3] (pdT 10) (e1 (cAddo 0) (slotG 3)) 2,
  oI [10] (pdT 11) (eLoad1 (slotG 10)) 2,
  cI [11] (pdT 12) 70 [(slotG 11)],
  oI [9] (pdT 5) (eMov (slotG 9)) 1,
  oI [12] (pdT 6) (eMov (slotG 12)) 1]
noncomputable def R30_2 : CT :=
  .reg [
  oP (pdT 13) (eMov (slotG 5)),
  oP (pdT 14) (eMov (slotG 6)),
  oP (pdT 15) (e2 (cBin .lss) (slotG 13) (slotG 14))]
noncomputable def R30_3 : CT :=
  .reg [
  oP (pdT 4) (eMov (constG (.int .i64 (-1))))]
noncomputable def R30_4 : CT :=
  .reg [
  oP (pdT 16) (eMov (slotG 5)),
  oP (pdT 17) (eMov (slotG 6)),
  oP (pdT 18) (e2 (cBin .gtr) (slotG 16) (slotG 17))]
noncomputable def R30_5 : CT :=
  .reg [
  oP (pdT 4) (eMov (constG (.int .i64 1)))]
noncomputable def R30_6 : CT :=
  .reg [
  oP (pdT 19) (e1 (cAddo 0) (slotG 2)),
  oP (pdT 20) (eLoad1 (slotG 19)),
  oP (pdT 21) (e2 (cEq false .num) (slotG 20) (constG (.int .i64 2)))]
noncomputable def R30_7 : CT :=
  .reg [
  oP (pdT 22) (e1 (cAddo 2) (slotG 2)),
  oP (pdT 23) (eLoad1 (slotG 22)),
  oP (pdT 24) (e1 (cAddo 2) (slotG 3)),
  oP (pdT 25) (eLoad1 (slotG 24)),
  cP (pdT 26) 71 [(slotG 23), (slotG 25)],
  oP (pdT 4) (eMov (slotG 26))]
noncomputable def R30_8 : CT :=
  .reg [
  oP (pdT 27) (e1 (cAddo 1) (slotG 2)),
  oP (pdT 28) (eLoad1 (slotG 27)),
  oP (pdT 29) (e1 (cAddo 1) (slotG 3)),
  oP (pdT 30) (eLoad1 (slotG 29)),
  oP (pdT 31) (e2 (cBin .lss) (slotG 28) (slotG 30))]
noncomputable def R30_9 : CT :=
  .reg [
  oP (pdT 4) (eMov (constG (.int .i64 (-1))))]
noncomputable def R30_10 : CT :=
  .reg [
  oP (pdT 32) (e1 (cAddo 1) (slotG 2)),
  oP (pdT 33) (eLoad1 (slotG 32)),
  oP (pdT 34) (e1 (cAddo 1) (slotG 3)),
  oP (pdT 35) (eLoad1 (slotG 34)),
  oP (pdT 36) (e2 (cBin .gtr) (slotG 33) (slotG 35))]
noncomputable def R30_11 : CT :=
  .reg [
  oP (pdT 4) (eMov (constG (.int .i64 1)))]
noncomputable def R30_12 : CT :=
  .reg [
  oP (pdT 4) (eMov (constG (.int .i64 0)))]
noncomputable def B30 : CT := (.seq R30_0 (.seq R30_1 (.seq (.seq R30_2 (.cond (slotG 15) (.seq R30_3 .ret) .skip)) (.seq (.seq R30_4 (.cond (slotG 18) (.seq R30_5 .ret) .skip)) (.seq (.seq R30_6 (.cond (slotG 21) (.seq R30_7 .ret) .skip)) (.seq (.seq R30_8 (.cond (slotG 31) (.seq R30_9 .ret) .skip)) (.seq (.seq R30_10 (.cond (slotG 36) (.seq R30_11 .ret) .skip)) (.seq R30_12 .ret))))))))
noncomputable def A30 : CF := { res := [rTmp 4], code := B30, nt := 37 }
theorem c30 : ctF Tryz.prog 30 = some A30 := by kernel_rfl

/-! 31: cadastre/cadastreref04.Order -/
noncomputable def R31_0 : CT :=
  .reg [
  oP (pdT 4) (eMov (constG (.int .i64 0)))]
noncomputable def R31_1 : CT :=
  .reg [
  oP (pdT 5) (eMov (constG (.int .i64 0)))]
noncomputable def R31_2 : CT :=
  .reg [
  oP (pdT 7) (eMov (slotG 5)),
  oP (pdT 8) (eMov (slotG 0)),
  oP (pdT 9) (e1 cLenL (slotG 8)),
  oP (pdT 10) (e2 (cBin .lss) (slotG 7) (slotG 9)),
  oP (pdT 11) (eMov (slotG 10)),
  gP (slotG 11) true (pdT 12) (eMov (slotG 5)),
  gP (slotG 11) true (pdT 13) (eMov (slotG 1)),
  gP (slotG 11) true (pdT 14) (e1 cLenL (slotG 13)),
  gP (slotG 11) true (pdT 15) (e2 (cBin .lss) (slotG 12) (slotG 14)),
  oP (pdT 16) (ePick (slotG 11) (slotG 15) (constG (.bool false)))]
noncomputable def R31_3 : CT :=
  .drw [19, 20, 21, 22, 23, 24, 25, 26, 27] [
  oI [0] (pdT 19) (eMov (slotG 0)) 1,
  oI [5] (pdT 20) (eMov (slotG 5)) 1,
  oI [19, 20] (pdT 21) (e2 (cIxa 3) (slotG 19) (slotG 20)) 1,
  oI [21] (pdT 22) (eLoadN 3 (slotG 21)) 1,
  oI [1] (pdT 23) (eMov (slotG 1)) 1,
  oI [5] (pdT 24) (eMov (slotG 5)) 1,
  oI [23, 24] (pdT 25) (e2 (cIxa 3) (slotG 23) (slotG 24)) 1,
  oI [25] (pdT 26) (eLoadN 3 (slotG 25)) 1,
  cI [22, 26] (pdT 27) 30 [(slotG 22), (slotG 26)],
  oI [27] (pdT 6) (eMov (slotG 27)) 1]
noncomputable def R31_4 : CT :=
  .reg [
  oP (pdT 28) (eMov (slotG 6)),
  oP (pdT 29) (e2 (cEq true .num) (slotG 28) (constG (.int .i64 0)))]
noncomputable def R31_5 : CT :=
  .reg [
  oP (pdT 30) (eMov (slotG 6)),
  oP (pdT 4) (eMov (slotG 30))]
noncomputable def R31_6 : CT :=
  .reg [
  oP (pdT 17) (eMov (slotG 5)),
  oP (pdT 18) (e2 (cBin .add) (slotG 17) (constG (.int .i64 1))),
  oP (pdT 5) (eMov (slotG 18))]
noncomputable def L31_0 : CT := (.seq (.seq R31_2 (.cond (slotG 16) .skip (.exit 0))) (.seq (.block 1 (.seq R31_3 (.seq R31_4 (.cond (slotG 29) (.seq R31_5 .ret) .skip)))) R31_6))
noncomputable def R31_7 : CT :=
  .reg [
  oP (pdT 31) (eMov (slotG 0)),
  oP (pdT 32) (e1 cLenL (slotG 31)),
  oP (pdT 33) (eMov (slotG 1)),
  oP (pdT 34) (e1 cLenL (slotG 33)),
  oP (pdT 35) (e2 (cBin .lss) (slotG 32) (slotG 34))]
noncomputable def R31_8 : CT :=
  .reg [
  oP (pdT 4) (eMov (constG (.int .i64 (-1))))]
noncomputable def R31_9 : CT :=
  .reg [
  oP (pdT 36) (eMov (slotG 0)),
  oP (pdT 37) (e1 cLenL (slotG 36)),
  oP (pdT 38) (eMov (slotG 1)),
  oP (pdT 39) (e1 cLenL (slotG 38)),
  oP (pdT 40) (e2 (cBin .gtr) (slotG 37) (slotG 39))]
noncomputable def R31_10 : CT :=
  .reg [
  oP (pdT 4) (eMov (constG (.int .i64 1)))]
noncomputable def R31_11 : CT :=
  .reg [
  oP (pdT 4) (eMov (constG (.int .i64 0)))]
noncomputable def B31 : CT := (.seq R31_0 (.seq (.seq R31_1 (.block 0 (.loop L31_0))) (.seq (.seq R31_7 (.cond (slotG 35) (.seq R31_8 .ret) .skip)) (.seq (.seq R31_9 (.cond (slotG 40) (.seq R31_10 .ret) .skip)) (.seq R31_11 .ret)))))
noncomputable def A31 : CF := { res := [rTmp 4], code := B31, nt := 41 }
theorem c31 : ctF Tryz.prog 31 = some A31 := by kernel_rfl

/-! 67: slices.insertionSortCmpFunc[[]cadastre/api.Value] -/
noncomputable def R67_0 : CT :=
  .reg [
  oP (pdT 10) (eMov (slotG 1)),
  oP (pdT 11) (e2 (cBin .add) (slotG 10) (constG (.int .i64 1))),
  oP (pdT 8) (eMov (slotG 11))]
noncomputable def R67_1 : CT :=
  .reg [
  oP (pdT 12) (eMov (slotG 8)),
  oP (pdT 13) (eMov (slotG 2)),
  oP (pdT 14) (e2 (cBin .lss) (slotG 12) (slotG 13))]
noncomputable def R67_2 : CT :=
  .reg [
  oP (pdT 17) (eMov (slotG 8)),
  oP (pdT 9) (eMov (slotG 17))]
noncomputable def R67_3 : CT :=
  .drw [18, 19, 20, 21, 22, 23, 24, 25, 26, 27, 28, 29, 30, 31, 32, 33, 34] [
  oI [9] (pdT 18) (eMov (slotG 9)) 1,
  oI [1] (pdT 19) (eMov (slotG 1)) 1,
  oI [18, 19] (pdT 20) (e2 (cBin .gtr) (slotG 18) (slotG 19)) 1,
  oI [20] (pdT 21) (eMov (slotG 20)) 1,
  goI [21, 3] (slotG 21) true (pdT 22) (eMov (slotG 3)) 1,
  goI [21, 0] (slotG 21) true (pdT 23) (eMov (slotG 0)) 1,
  goI [21, 9] (slotG 21) true (pdT 24) (eMov (slotG 9)) 1,
  goI [21, 23, 24] (slotG 21) true (pdT 25) (e2 (cIxa 1) (slotG 23) (slotG 24)) 1,
  goI [21, 25] (slotG 21) true (pdT 26) (eLoad1 (slotG 25)) 1,
  goI [21, 0] (slotG 21) true (pdT 27) (eMov (slotG 0)) 1,
  goI [21, 9] (slotG 21) true (pdT 28) (eMov (slotG 9)) 1,
  goI [21, 28] (slotG 21) true (pdT 29) (e2 (cBin .sub) (slotG 28) (constG (.int .i64 1))) 1,
  goI [21, 27, 29] (slotG 21) true (pdT 30) (e2 (cIxa 1) (slotG 27) (slotG 29)) 1,
  goI [21, 30] (slotG 21) true (pdT 31) (eLoad1 (slotG 30)) 1,
  gvI [21, 22, 26, 31] (slotG 21) true (pdT 32) (slotG 22) [(slotG 26), (slotG 31)],
  goI [21, 32] (slotG 21) true (pdT 33) (e2 (cBin .lss) (slotG 32) (constG (.int .i64 0))) 1,
  oI [21, 33] (pdT 34) (ePick (slotG 21) (slotG 33) (constG (.bool false))) 1]
noncomputable def R67_4 : CT :=
  .drw [37, 38, 39, 40, 41, 42, 43, 44, 45, 46, 47, 48, 49, 50, 51, 52] [
  oI [0] (pdT 37) (eMov (slotG 0)) 1,
  oI [9] (pdT 38) (eMov (slotG 9)) 1,
  oI [0] (pdT 42) (eMov (slotG 0)) 1,
  oI [9] (pdT 43) (eMov (slotG 9)) 1,
  oI [43] (pdT 44) (e2 (cBin .sub) (slotG 43) (constG (.int .i64 1))) 1,
  oI [42, 44] (pdT 45) (e2 (cIxa 1) (slotG 42) (slotG 44)) 1,
  oI [45] (pdT 46) (eLoad1 (slotG 45)) 1,
  oI [0] (pdT 47) (eMov (slotG 0)) 1,
  oI [9] (pdT 48) (eMov (slotG 9)) 1,
  oI [47, 48] (pdT 49) (e2 (cIxa 1) (slotG 47) (slotG 48)) 1,
  oI [49] (pdT 50) (eLoad1 (slotG 49)) 1,
  oI [37, 38] (pdT 51) (e2 (cIxa 1) (slotG 37) (slotG 38)) 1,
  mI [51, 46] pdN (eStore 1 (slotG 51) (slotG 46)),
  oI [0] (pdT 39) (eMov (slotG 0)) 2,
  oI [9] (pdT 40) (eMov (slotG 9)) 2,
  oI [40] (pdT 41) (e2 (cBin .sub) (slotG 40) (constG (.int .i64 1))) 2,
  oI [39, 41] (pdT 52) (e2 (cIxa 1) (slotG 39) (slotG 41)) 1,
  mI [52, 50] pdN (eStore 1 (slotG 52) (slotG 50))]
noncomputable def R67_5 : CT :=
  .reg [
  oP (pdT 35) (eMov (slotG 9)),
  oP (pdT 36) (e2 (cBin .sub) (slotG 35) (constG (.int .i64 1))),
  oP (pdT 9) (eMov (slotG 36))]
noncomputable def L67_0 : CT := (.seq (.seq R67_3 (.cond (slotG 34) .skip (.exit 2))) (.seq (.block 3 R67_4) R67_5))
noncomputable def R67_6 : CT :=
  .reg [
  oP (pdT 15) (eMov (slotG 8)),
  oP (pdT 16) (e2 (cBin .add) (slotG 15) (constG (.int .i64 1))),
  oP (pdT 8) (eMov (slotG 16))]
noncomputable def L67_1 : CT := (.seq (.seq R67_1 (.cond (slotG 14) .skip (.exit 0))) (.seq (.block 1 (.seq R67_2 (.block 2 (.loop L67_0)))) R67_6))
noncomputable def B67 : CT := (.seq R67_0 (.block 0 (.loop L67_1)))
noncomputable def A67 : CF := { res := [], code := B67, nt := 53 }
theorem c67 : ctF Tryz.prog 67 = some A67 := by kernel_rfl

/-! 68: slices.symMergeCmpFunc[[]cadastre/api.Value] -/
noncomputable def R68_0 : CT :=
  .reg [
  oP (pdT 25) (eMov (slotG 2)),
  oP (pdT 26) (eMov (slotG 1)),
  oP (pdT 27) (e2 (cBin .sub) (slotG 25) (slotG 26)),
  oP (pdT 28) (e2 (cEq false .num) (slotG 27) (constG (.int .i64 1)))]
noncomputable def R68_1 : CT :=
  .reg [
  oP (pdT 29) (eMov (slotG 2)),
  oP (pdT 10) (eMov (slotG 29))]
noncomputable def R68_2 : CT :=
  .reg [
  oP (pdT 30) (eMov (slotG 3)),
  oP (pdT 11) (eMov (slotG 30))]
noncomputable def R68_3 : CT :=
  .reg [
  oP (pdT 31) (eMov (slotG 10)),
  oP (pdT 32) (eMov (slotG 11)),
  oP (pdT 33) (e2 (cBin .lss) (slotG 31) (slotG 32))]
noncomputable def R68_4 : CT :=
  .reg [
  oP (pdT 34) (eMov (slotG 10)),
  oP (pdT 35) (eMov (slotG 11)),
  oP (pdT 36) (e2 (cBin .add) (slotG 34) (slotG 35)),
  oP (pdT 37) (e1 (cToInt .u64) (slotG 36)),
  oP (pdT 38) (e2 (cBin .shr) (slotG 37) (constG (.int .u64 1))),
  oP (pdT 39) (e1 (cToInt .i64) (slotG 38)),
  oP (pdT 12) (eMov (slotG 39))]
noncomputable def R68_5 : CT :=
  .drw [40, 41, 42, 43, 44, 45, 46, 47, 48, 49, 50] [
  oI [4] (pdT 40) (eMov (slotG 4)) 1,
  oI [0] (pdT 41) (eMov (slotG 0)) 1,
  oI [12] (pdT 42) (eMov (slotG 12)) 1,
  oI [41, 42] (pdT 43) (e2 (cIxa 1) (slotG 41) (slotG 42)) 1,
  oI [43] (pdT 44) (eLoad1 (slotG 43)) 1,
  oI [0] (pdT 45) (eMov (slotG 0)) 1,
  oI [1] (pdT 46) (eMov (slotG 1)) 1,
  oI [45, 46] (pdT 47) (e2 (cIxa 1) (slotG 45) (slotG 46)) 1,
  oI [47] (pdT 48) (eLoad1 (slotG 47)) 1,
  vI [40, 44, 48] (pdT 49) (slotG 40) [(slotG 44), (slotG 48)],
  oI [49] (pdT 50) (e2 (cBin .lss) (slotG 49) (constG (.int .i64 0))) 1]
noncomputable def R68_6 : CT :=
  .reg [
  oP (pdT 51) (eMov (slotG 12)),
  oP (pdT 52) (e2 (cBin .add) (slotG 51) (constG (.int .i64 1))),
  oP (pdT 10) (eMov (slotG 52))]
noncomputable def R68_7 : CT :=
  .reg [
  oP (pdT 53) (eMov (slotG 12)),
  oP (pdT 11) (eMov (slotG 53))]
noncomputable def L68_0 : CT := (.seq (.seq R68_3 (.cond (slotG 33) .skip (.exit 0))) (.block 1 (.seq R68_4 (.seq R68_5 (.cond (slotG 50) R68_6 R68_7)))))
noncomputable def R68_8 : CT :=
  .reg [
  oP (pdT 54) (eMov (slotG 1)),
  oP (pdT 13) (eMov (slotG 54))]
noncomputable def R68_9 : CT :=
  .reg [
  oP (pdT 55) (eMov (slotG 13)),
  oP (pdT 56) (eMov (slotG 10)),
  oP (pdT 57) (e2 (cBin .sub) (slotG 56) (constG (.int .i64 1))),
  oP (pdT 58) (e2 (cBin .lss) (slotG 55) (slotG 57))]
noncomputable def R68_10 : CT :=
  .drw [61, 62, 63, 64, 65, 66, 67, 68, 69, 70, 71, 72, 73, 74, 75, 76] [
  oI [0] (pdT 61) (eMov (slotG 0)) 1,
  oI [13] (pdT 62) (eMov (slotG 13)) 1,
  oI [0] (pdT 66) (eMov (slotG 0)) 1,
  oI [13] (pdT 67) (eMov (slotG 13)) 1,
  oI [67] (pdT 68) (e2 (cBin .add) (slotG 67) (constG (.int .i64 1))) 1,
  oI [66, 68] (pdT 69) (e2 (cIxa 1) (slotG 66) (slotG 68)) 1,
  oI [69] (pdT 70) (eLoad1 (slotG 69)) 1,
  oI [0] (pdT 71) (eMov (slotG 0)) 1,
  oI [13] (pdT 72) (eMov (slotG 13)) 1,
  oI [71, 72] (pdT 73) (e2 (cIxa 1) (slotG 71) (slotG 72)) 1,
  oI [73] (pdT 74) (eLoad1 (slotG 73)) 1,
  oI [61, 62] (pdT 75) (e2 (cIxa 1) (slotG 61) (slotG 62)) 1,
  mI [75, 70] pdN (eStore 1 (slotG 75) (slotG 70)),
  oI [0] (pdT 63) (eMov (slotG 0)) 2,
  oI [13] (pdT 64) (eMov (slotG 13)) 2,
  oI [64] (pdT 65) (e2 (cBin .add) (slotG 64) (constG (.int .i64 1))) 2,
  oI [63, 65] (pdT 76) (e2 (cIxa 1) (slotG 63) (slotG 65)) 1,
  mI [76, 74] pdN (eStore 1 (slotG 76) (slotG 74))]
noncomputable def R68_11 : CT :=
  .reg [
  oP (pdT 59) (eMov (slotG 13)),
  oP (pdT 60) (e2 (cBin .add) (slotG 59) (constG (.int .i64 1))),
  oP (pdT 13) (eMov (slotG 60))]
noncomputable def L68_1 : CT := (.seq (.seq R68_9 (.cond (slotG 58) .skip (.exit 2))) (.seq (.block 3 R68_10) R68_11))
noncomputable def R68_12 : CT :=
  .reg [
  oP (pdT 77) (eMov (slotG 3)),
  oP (pdT 78) (eMov (slotG 2)),
  oP (pdT 79) (e2 (cBin .sub) (slotG 77) (slotG 78)),
  oP (pdT 80) (e2 (cEq false .num) (slotG 79) (constG (.int .i64 1)))]
noncomputable def R68_13 : CT :=
  .reg [
  oP (pdT 81) (eMov (slotG 1)),
  oP (pdT 14) (eMov (slotG 81))]
noncomputable def R68_14 : CT :=
  .reg [
  oP (pdT 82) (eMov (slotG 2)),
  oP (pdT 15) (eMov (slotG 82))]
noncomputable def R68_15 : CT :=
  .reg [
  oP (pdT 83) (eMov (slotG 14)),
  oP (pdT 84) (eMov (slotG 15)),
  oP (pdT 85) (e2 (cBin .lss) (slotG 83) (slotG 84))]
noncomputable def R68_16 : CT :=
  .reg [
  oP (pdT 86) (eMov (slotG 14)),
  oP (pdT 87) (eMov (slotG 15)),
  oP (pdT 88) (e2 (cBin .add) (slotG 86) (slotG 87)),
  oP (pdT 89) (e1 (cToInt .u64) (slotG 88)),
  oP (pdT 90) (e2 (cBin .shr) (slotG 89) (constG (.int .u64 1))),
  oP (pdT 91) (e1 (cToInt .i64) (slotG 90)),
  oP (pdT 16) (eMov (slotG 91))]
noncomputable def R68_17 : CT :=
  .drw [92, 93, 94, 95, 96, 97, 98, 99, 100, 101, 102, 103] [
  oI [4] (pdT 92) (eMov (slotG 4)) 1,
  oI [0] (pdT 93) (eMov (slotG 0)) 1,
  oI [2] (pdT 94) (eMov (slotG 2)) 1,
  oI [93, 94] (pdT 95) (e2 (cIxa 1) (slotG 93) (slotG 94)) 1,
  oI [95] (pdT 96) (eLoad1 (slotG 95)) 1,
  oI [0] (pdT 97) (eMov (slotG 0)) 1,
  oI [16] (pdT 98) (eMov (slotG 16)) 1,
  oI [97, 98] (pdT 99) (e2 (cIxa 1) (slotG 97) (slotG 98)) 1,
  oI [99] (pdT 100) (eLoad1 (slotG 99)) 1,
  vI [92, 96, 100] (pdT 101) (slotG 92) [(slotG 96), (slotG 100)],
  oI [101] (pdT 102) (e2 (cBin .lss) (slotG 101) (constG (.int .i64 0))) 1,
  oI [102] (pdT 103) (e1 (cUn .not) (slotG 102)) 1]
noncomputable def R68_18 : CT :=
  .reg [
  oP (pdT 104) (eMov (slotG 16)),
  oP (pdT 105) (e2 (cBin .add) (slotG 104) (constG (.int .i64 1))),
  oP (pdT 14) (eMov (slotG 105))]
noncomputable def R68_19 : CT :=
  .reg [
  oP (pdT 106) (eMov (slotG 16)),
  oP (pdT 15) (eMov (slotG 106))]
noncomputable def L68_2 : CT := (.seq (.seq R68_15 (.cond (slotG 85) .skip (.exit 4))) (.block 5 (.seq R68_16 (.seq R68_17 (.cond (slotG 103) R68_18 R68_19)))))
noncomputable def R68_20 : CT :=
  .reg [
  oP (pdT 107) (eMov (slotG 2)),
  oP (pdT 17) (eMov (slotG 107))]
noncomputable def R68_21 : CT :=
  .reg [
  oP (pdT 108) (eMov (slotG 17)),
  oP (pdT 109) (eMov (slotG 14)),
  oP (pdT 110) (e2 (cBin .gtr) (slotG 108) (slotG 109))]
noncomputable def R68_22 : CT :=
  .drw [113, 114, 115, 116, 117, 118, 119, 120, 121, 122, 123, 124, 125, 126, 127, 128] [
  oI [0] (pdT 113) (eMov (slotG 0)) 1,
  oI [17] (pdT 114) (eMov (slotG 17)) 1,
  oI [0] (pdT 118) (eMov (slotG 0)) 1,
  oI [17] (pdT 119) (eMov (slotG 17)) 1,
  oI [119] (pdT 120) (e2 (cBin .sub) (slotG 119) (constG (.int .i64 1))) 1,
  oI [118, 120] (pdT 121) (e2 (cIxa 1) (slotG 118) (slotG 120)) 1,
  oI [121] (pdT 122) (eLoad1 (slotG 121)) 1,
  oI [0] (pdT 123) (eMov (slotG 0)) 1,
  oI [17] (pdT 124) (eMov (slotG 17)) 1,
  oI [123, 124] (pdT 125) (e2 (cIxa 1) (slotG 123) (slotG 124)) 1,
  oI [125] (pdT 126) (eLoad1 (slotG 125)) 1,
  oI [113, 114] (pdT 127) (e2 (cIxa 1) (slotG 113) (slotG 114)) 1,
  mI [127, 122] pdN (eStore 1 (slotG 127) (slotG 122)),
  oI [0] (pdT 115) (eMov (slotG 0)) 2,
  oI [17] (pdT 116) (eMov (slotG 17)) 2,
  oI [116] (pdT 117) (e2 (cBin .sub) (slotG 116) (constG (.int .i64 1))) 2,
  oI [115, 117] (pdT 128) (e2 (cIxa 1) (slotG 115) (slotG 117)) 1,
  mI [128, 126] pdN (eStore 1 (slotG 128) (slotG 126))]
noncomputable def R68_23 : CT :=
  .reg [
  oP (pdT 111) (eMov (slotG 17)),
  oP (pdT 112) (e2 (cBin .sub) (slotG 111) (constG (.int .i64 1))),
  oP (pdT 17) (eMov (slotG 112))]
noncomputable def L68_3 : CT := (.seq (.seq R68_21 (.cond (slotG 110) .skip (.exit 6))) (.seq (.block 7 R68_22) R68_23))
noncomputable def R68_24 : CT :=
  .reg [
  oP (pdT 129) (eMov (slotG 1)),
  oP (pdT 130) (eMov (slotG 3)),
  oP (pdT 131) (e2 (cBin .add) (slotG 129) (slotG 130)),
  oP (pdT 132) (e1 (cToInt .u64) (slotG 131)),
  oP (pdT 133) (e2 (cBin .shr) (slotG 132) (constG (.int .u64 1))),
  oP (pdT 134) (e1 (cToInt .i64) (slotG 133)),
  oP (pdT 18) (eMov (slotG 134))]
noncomputable def R68_25 : CT :=
  .reg [
  oP (pdT 135) (eMov (slotG 18)),
  oP (pdT 136) (eMov (slotG 2)),
  oP (pdT 137) (e2 (cBin .add) (slotG 135) (slotG 136)),
  oP (pdT 19) (eMov (slotG 137))]
noncomputable def R68_26 : CT :=
  .reg [
  oP (pdT 20) (eMov (constG (.int .i64 0))),
  oP (pdT 21) (eMov (constG (.int .i64 0)))]
noncomputable def R68_27 : CT :=
  .reg [
  oP (pdT 138) (eMov (slotG 2)),
  oP (pdT 139) (eMov (slotG 18)),
  oP (pdT 140) (e2 (cBin .gtr) (slotG 138) (slotG 139))]
noncomputable def R68_28 : CT :=
  .reg [
  oP (pdT 141) (eMov (slotG 19)),
  oP (pdT 142) (eMov (slotG 3)),
  oP (pdT 143) (e2 (cBin .sub) (slotG 141) (slotG 142)),
  oP (pdT 20) (eMov (slotG 143))]
noncomputable def R68_29 : CT :=
  .reg [
  oP (pdT 144) (eMov (slotG 18)),
  oP (pdT 21) (eMov (slotG 144))]
noncomputable def R68_30 : CT :=
  .reg [
  oP (pdT 145) (eMov (slotG 1)),
  oP (pdT 20) (eMov (slotG 145))]
noncomputable def R68_31 : CT :=
  .reg [
  oP (pdT 146) (eMov (slotG 2)),
  oP (pdT 21) (eMov (slotG 146))]
noncomputable def R68_32 : CT :=
  .reg [
  oP (pdT 147) (eMov (slotG 19)),
  oP (pdT 148) (e2 (cBin .sub) (slotG 147) (constG (.int .i64 1))),
  oP (pdT 22) (eMov (slotG 148))]
noncomputable def R68_33 : CT :=
  .reg [
  oP (pdT 149) (eMov (slotG 20)),
  oP (pdT 150) (eMov (slotG 21)),
  oP (pdT 151) (e2 (cBin .lss) (slotG 149) (slotG 150))]
noncomputable def R68_34 : CT :=
  .reg [
  oP (pdT 152) (eMov (slotG 20)),
  oP (pdT 153) (eMov (slotG 21)),
  oP (pdT 154) (e2 (cBin .add) (slotG 152) (slotG 153)),
  oP (pdT 155) (e1 (cToInt .u64) (slotG 154)),
  oP (pdT 156) (e2 (cBin .shr) (slotG 155) (constG (.int .u64 1))),
  oP (pdT 157) (e1 (cToInt .i64) (slotG 156)),
  oP (pdT 23) (eMov (slotG 157))]
noncomputable def R68_35 : CT :=
  .drw [158, 159, 160, 161, 162, 163, 164, 165, 166, 167, 168, 169, 170, 171] [
  oI [4] (pdT 158) (eMov (slotG 4)) 1,
  oI [0] (pdT 159) (eMov (slotG 0)) 1,
  oI [22] (pdT 160) (eMov (slotG 22)) 1,
  oI [23] (pdT 161) (eMov (slotG 23)) 1,
  oI [160, 161] (pdT 162) (e2 (cBin .sub) (slotG 160) (slotG 161)) 1,
  oI [159, 162] (pdT 163) (e2 (cIxa 1) (slotG 159) (slotG 162)) 1,
  oI [163] (pdT 164) (eLoad1 (slotG 163)) 1,
  oI [0] (pdT 165) (eMov (slotG 0)) 1,
  oI [23] (pdT 166) (eMov (slotG 23)) 1,
  oI [165, 166] (pdT 167) (e2 (cIxa 1) (slotG 165) (slotG 166)) 1,
  oI [167] (pdT 168) (eLoad1 (slotG 167)) 1,
  vI [158, 164, 168] (pdT 169) (slotG 158) [(slotG 164), (slotG 168)],
  oI [169] (pdT 170) (e2 (cBin .lss) (slotG 169) (constG (.int .i64 0))) 1,
  oI [170] (pdT 171) (e1 (cUn .not) (slotG 170)) 1]
noncomputable def R68_36 : CT :=
  .reg [
  oP (pdT 172) (eMov (slotG 23)),
  oP (pdT 173) (e2 (cBin .add) (slotG 172) (constG (.int .i64 1))),
  oP (pdT 20) (eMov (slotG 173))]
noncomputable def R68_37 : CT :=
  .reg [
  oP (pdT 174) (eMov (slotG 23)),
  oP (pdT 21) (eMov (slotG 174))]
noncomputable def L68_4 : CT := (.seq (.seq R68_33 (.cond (slotG 151) .skip (.exit 8))) (.block 9 (.seq R68_34 (.seq R68_35 (.cond (slotG 171) R68_36 R68_37)))))
noncomputable def R68_38 : CT :=
  .reg [
  oP (pdT 175) (eMov (slotG 19)),
  oP (pdT 176) (eMov (slotG 20)),
  oP (pdT 177) (e2 (cBin .sub) (slotG 175) (slotG 176)),
  oP (pdT 24) (eMov (slotG 177))]
noncomputable def R68_39 : CT :=
  .reg [
  oP (pdT 178) (eMov (slotG 20)),
  oP (pdT 179) (eMov (slotG 2)),
  oP (pdT 180) (e2 (cBin .lss) (slotG 178) (slotG 179)),
  oP (pdT 181) (eMov (slotG 180)),
  gP (slotG 181) true (pdT 182) (eMov (slotG 2)),
  gP (slotG 181) true (pdT 183) (eMov (slotG 24)),
  gP (slotG 181) true (pdT 184) (e2 (cBin .lss) (slotG 182) (slotG 183)),
  oP (pdT 185) (ePick (slotG 181) (slotG 184) (constG (.bool false)))]
noncomputable def R68_40 : CT :=
  .reg [
  oP (pdT 186) (eMov (slotG 0)),
  oP (pdT 187) (eMov (slotG 20)),
  oP (pdT 188) (eMov (slotG 2)),
  oP (pdT 189) (eMov (slotG 24)),
  oP (pdT 190) (eMov (slotG 4)),
  cP (pdT 191) 127 [(slotG 186), (slotG 187), (slotG 188), (slotG 189), (slotG 190)]]
noncomputable def R68_41 : CT :=
  .reg [
  oP (pdT 192) (eMov (slotG 1)),
  oP (pdT 193) (eMov (slotG 20)),
  oP (pdT 194) (e2 (cBin .lss) (slotG 192) (slotG 193)),
  oP (pdT 195) (eMov (slotG 194)),
  gP (slotG 195) true (pdT 196) (eMov (slotG 20)),
  gP (slotG 195) true (pdT 197) (eMov (slotG 18)),
  gP (slotG 195) true (pdT 198) (e2 (cBin .lss) (slotG 196) (slotG 197)),
  oP (pdT 199) (ePick (slotG 195) (slotG 198) (constG (.bool false)))]
noncomputable def R68_42 : CT :=
  .reg [
  oP (pdT 200) (eMov (slotG 0)),
  oP (pdT 201) (eMov (slotG 1)),
  oP (pdT 202) (eMov (slotG 20)),
  oP (pdT 203) (eMov (slotG 18)),
  oP (pdT 204) (eMov (slotG 4)),
  cP (pdT 205) 68 [(slotG 200), (slotG 201), (slotG 202), (slotG 203), (slotG 204)]]
noncomputable def R68_43 : CT :=
  .reg [
  oP (pdT 206) (eMov (slotG 18)),
  oP (pdT 207) (eMov (slotG 24)),
  oP (pdT 208) (e2 (cBin .lss) (slotG 206) (slotG 207)),
  oP (pdT 209) (eMov (slotG 208)),
  gP (slotG 209) true (pdT 210) (eMov (slotG 24)),
  gP (slotG 209) true (pdT 211) (eMov (slotG 3)),
  gP (slotG 209) true (pdT 212) (e2 (cBin .lss) (slotG 210) (slotG 211)),
  oP (pdT 213) (ePick (slotG 209) (slotG 212) (constG (.bool false)))]
noncomputable def R68_44 : CT :=
  .reg [
  oP (pdT 214) (eMov (slotG 0)),
  oP (pdT 215) (eMov (slotG 18)),
  oP (pdT 216) (eMov (slotG 24)),
  oP (pdT 217) (eMov (slotG 3)),
  oP (pdT 218) (eMov (slotG 4)),
  cP (pdT 219) 68 [(slotG 214), (slotG 215), (slotG 216), (slotG 217), (slotG 218)]]
noncomputable def B68 : CT := (.seq (.seq R68_0 (.cond (slotG 28) (.seq R68_1 (.seq R68_2 (.seq (.block 0 (.loop L68_0)) (.seq (.seq R68_8 (.block 2 (.loop L68_1))) .ret)))) .skip)) (.seq (.seq R68_12 (.cond (slotG 80) (.seq R68_13 (.seq R68_14 (.seq (.block 4 (.loop L68_2)) (.seq (.seq R68_20 (.block 6 (.loop L68_3))) .ret)))) .skip)) (.seq R68_24 (.seq R68_25 (.seq R68_26 (.seq (.seq R68_27 (.cond (slotG 140) (.seq R68_28 R68_29) (.seq R68_30 R68_31))) (.seq R68_32 (.seq (.block 8 (.loop L68_4)) (.seq R68_38 (.seq (.seq R68_39 (.cond (slotG 185) R68_40 .skip)) (.seq (.seq R68_41 (.cond (slotG 199) R68_42 .skip)) (.seq R68_43 (.cond (slotG 213) R68_44 .skip)))))))))))))
noncomputable def A68 : CF := { res := [], code := B68, nt := 220 }
theorem c68 : ctF Tryz.prog 68 = some A68 := by kernel_rfl

/-! 69: cadastre/value.order -/
noncomputable def R69_0 : CT :=
  .reg [
  oP (pdT 2) (eBox (slotG 0)),
  oP (pdT 3) (eBox (slotG 1)),
  oP (pdT 4) (eMov (constG (.int .i64 0)))]
noncomputable def R69_1 : CT :=
  .reg [
  oP (pdT 5) (e1 (cAddo 0) (slotG 2)),
  oP (pdT 6) (eLoad1 (slotG 5)),
  oP (pdT 7) (e1 (cAddo 0) (slotG 3)),
  oP (pdT 8) (eLoad1 (slotG 7)),
  oP (pdT 9) (e2 (cEq true .num) (slotG 6) (slotG 8))]
noncomputable def R69_2 : CT :=
  .drw [10, 11, 12, 13, 14, 15, 16] [
  oI [2] (pdT 10) (e1 (cAddo 0) (slotG 2)) 1,
  oI [10] (pdT 11) (eLoad1 (slotG 10)) 1,
  cI [11] (pdT 12) 128 [(slotG 11)],
  oI [3] (pdT 13) (e1 (cAddo 0) (slotG 3)) 2,
  oI [13] (pdT 14) (eLoad1 (slotG 13)) 2,
  cI [14] (pdT 15) 128 [(slotG 14)],
  oI [12, 15] (pdT 16) (e2 (cBin .lss) (slotG 12) (slotG 15)) 1]
noncomputable def R69_3 : CT :=
  .reg [
  oP (pdT 4) (eMov (constG (.int .i64 (-1))))]
noncomputable def R69_4 : CT :=
  .reg [
  oP (pdT 4) (eMov (constG (.int .i64 1)))]
noncomputable def R69_5 : CT :=
  .reg [
  oP (pdT 17) (e1 (cAddo 0) (slotG 2)),
  oP (pdT 18) (eLoad1 (slotG 17)),
  oP (pdT 19) (e2 (cEq false .num) (slotG 18) (constG (.int .i64 2)))]
noncomputable def R69_6 : CT :=
  .reg [
  oP (pdT 20) (e1 (cAddo 2) (slotG 2)),
  oP (pdT 21) (eLoad1 (slotG 20)),
  oP (pdT 22) (e1 (cAddo 2) (slotG 3)),
  oP (pdT 23) (eLoad1 (slotG 22)),
  cP (pdT 24) 129 [(slotG 21), (slotG 23)],
  oP (pdT 4) (eMov (slotG 24))]
noncomputable def R69_7 : CT :=
  .reg [
  oP (pdT 25) (e1 (cAddo 1) (slotG 2)),
  oP (pdT 26) (eLoad1 (slotG 25)),
  oP (pdT 27) (e1 (cAddo 1) (slotG 3)),
  oP (pdT 28) (eLoad1 (slotG 27)),
  oP (pdT 29) (e2 (cBin .lss) (slotG 26) (slotG 28))]
noncomputable def R69_8 : CT :=
  .reg [
  oP (pdT 4) (eMov (constG (.int .i64 (-1))))]
noncomputable def R69_9 : CT :=
  .reg [
  oP (pdT 30) (e1 (cAddo 1) (slotG 2)),
  oP (pdT 31) (eLoad1 (slotG 30)),
  oP (pdT 32) (e1 (cAddo 1) (slotG 3)),
  oP (pdT 33) (eLoad1 (slotG 32)),
  oP (pdT 34) (e2 (cBin .gtr) (slotG 31) (slotG 33))]
noncomputable def R69_10 : CT :=
  .reg [
  oP (pdT 4) (eMov (constG (.int .i64 1)))]
noncomputable def R69_11 : CT :=
  .reg [
  oP (pdT 4) (eMov (constG (.int .i64 0)))]
noncomputable def B69 : CT := (.seq R69_0 (.seq (.seq R69_1 (.cond (slotG 9) (.seq (.seq R69_2 (.cond (slotG 16) (.seq R69_3 .ret) .skip)) (.seq R69_4 .ret)) .skip)) (.seq (.seq R69_5 (.cond (slotG 19) (.seq R69_6 .ret) .skip)) (.seq (.seq R69_7 (.cond (slotG 29) (.seq R69_8 .ret) .skip)) (.seq (.seq R69_9 (.cond (slotG 34) (.seq R69_10 .ret) .skip)) (.seq R69_11 .ret))))))
noncomputable def A69 : CF := { res := [rTmp 4], code := B69, nt := 35 }
theorem c69 : ctF Tryz.prog 69 = some A69 := by kernel_rfl

/-! 70: cadastre/cadastreref03.place -/
noncomputable def R70_0 : CT :=
  .reg [
  oP (pdT 2) (eMov (constG (.int .i64 0)))]
noncomputable def R70_1 : CT :=
  .reg [
  oP (pdT 3) (eMov (slotG 0)),
  oP (pdT 4) (e2 (cEq false .num) (slotG 3) (constG (.int .i64 0)))]
noncomputable def R70_2 : CT :=
  .reg [
  oP (pdT 2) (eMov (constG (.int .i64 0)))]
noncomputable def R70_3 : CT :=
  .reg [
  oP (pdT 5) (eMov (slotG 0)),
  oP (pdT 6) (e2 (cEq false .num) (slotG 5) (constG (.int .i64 3)))]
noncomputable def R70_4 : CT :=
  .reg [
  oP (pdT 2) (eMov (constG (.int .i64 1)))]
noncomputable def R70_5 : CT :=
  .reg [
  oP (pdT 7) (eMov (slotG 0)),
  oP (pdT 8) (e2 (cEq false .num) (slotG 7) (constG (.int .i64 1)))]
noncomputable def R70_6 : CT :=
  .reg [
  oP (pdT 2) (eMov (constG (.int .i64 2)))]
noncomputable def R70_7 : CT :=
  .reg [
  oP (pdT 2) (eMov (constG (.int .i64 3)))]
noncomputable def B70 : CT := (.seq R70_0 (.seq (.seq R70_1 (.cond (slotG 4) (.seq R70_2 .ret) .skip)) (.seq (.seq R70_3 (.cond (slotG 6) (.seq R70_4 .ret) .skip)) (.seq (.seq R70_5 (.cond (slotG 8) (.seq R70_6 .ret) .skip)) (.seq R70_7 .ret)))))
noncomputable def A70 : CF := { res := [rTmp 2], code := B70, nt := 9 }
theorem c70 : ctF Tryz.prog 70 = some A70 := by kernel_rfl

/-! 71: cadastre/cadastreref03.Bytes -/
noncomputable def R71_0 : CT :=
  .reg [
  oP (pdT 4) (eMov (constG (.int .i64 0)))]
noncomputable def R71_1 : CT :=
  .reg [
  oP (pdT 5) (eMov (constG (.int .i64 0)))]
noncomputable def R71_2 : CT :=
  .reg [
  oP (pdT 6) (eMov (slotG 5)),
  oP (pdT 7) (eMov (slotG 0)),
  oP (pdT 8) (e1 cLenS (slotG 7)),
  oP (pdT 9) (e2 (cBin .lss) (slotG 6) (slotG 8)),
  oP (pdT 10) (eMov (slotG 9)),
  gP (slotG 10) true (pdT 11) (eMov (slotG 5)),
  gP (slotG 10) true (pdT 12) (eMov (slotG 1)),
  gP (slotG 10) true (pdT 13) (e1 cLenS (slotG 12)),
  gP (slotG 10) true (pdT 14) (e2 (cBin .lss) (slotG 11) (slotG 13)),
  oP (pdT 15) (ePick (slotG 10) (slotG 14) (constG (.bool false)))]
noncomputable def R71_3 : CT :=
  .drw [18, 19, 20, 21, 22, 23, 24] [
  oI [0] (pdT 18) (eMov (slotG 0)) 1,
  oI [5] (pdT 19) (eMov (slotG 5)) 1,
  oI [18, 19] (pdT 20) (e2 cIxs (slotG 18) (slotG 19)) 1,
  oI [1] (pdT 21) (eMov (slotG 1)) 1,
  oI [5] (pdT 22) (eMov (slotG 5)) 1,
  oI [21, 22] (pdT 23) (e2 cIxs (slotG 21) (slotG 22)) 1,
  oI [20, 23] (pdT 24) (e2 (cBin .lss) (slotG 20) (slotG 23)) 1]
noncomputable def R71_4 : CT :=
  .reg [
  oP (pdT 4) (eMov (constG (.int .i64 (-1))))]
noncomputable def R71_5 : CT :=
  .drw [25, 26, 27, 28, 29, 30, 31] [
  oI [0] (pdT 25) (eMov (slotG 0)) 1,
  oI [5] (pdT 26) (eMov (slotG 5)) 1,
  oI [25, 26] (pdT 27) (e2 cIxs (slotG 25) (slotG 26)) 1,
  oI [1] (pdT 28) (eMov (slotG 1)) 1,
  oI [5] (pdT 29) (eMov (slotG 5)) 1,
  oI [28, 29] (pdT 30) (e2 cIxs (slotG 28) (slotG 29)) 1,
  oI [27, 30] (pdT 31) (e2 (cBin .gtr) (slotG 27) (slotG 30)) 1]
noncomputable def R71_6 : CT :=
  .reg [
  oP (pdT 4) (eMov (constG (.int .i64 1)))]
noncomputable def R71_7 : CT :=
  .reg [
  oP (pdT 16) (eMov (slotG 5)),
  oP (pdT 17) (e2 (cBin .add) (slotG 16) (constG (.int .i64 1))),
  oP (pdT 5) (eMov (slotG 17))]
noncomputable def L71_0 : CT := (.seq (.seq R71_2 (.cond (slotG 15) .skip (.exit 0))) (.seq (.block 1 (.seq (.seq R71_3 (.cond (slotG 24) (.seq R71_4 .ret) .skip)) (.seq R71_5 (.cond (slotG 31) (.seq R71_6 .ret) .skip)))) R71_7))
noncomputable def R71_8 : CT :=
  .reg [
  oP (pdT 32) (eMov (slotG 0)),
  oP (pdT 33) (e1 cLenS (slotG 32)),
  oP (pdT 34) (eMov (slotG 1)),
  oP (pdT 35) (e1 cLenS (slotG 34)),
  oP (pdT 36) (e2 (cBin .lss) (slotG 33) (slotG 35))]
noncomputable def R71_9 : CT :=
  .reg [
  oP (pdT 4) (eMov (constG (.int .i64 (-1))))]
noncomputable def R71_10 : CT :=
  .reg [
  oP (pdT 37) (eMov (slotG 0)),
  oP (pdT 38) (e1 cLenS (slotG 37)),
  oP (pdT 39) (eMov (slotG 1)),
  oP (pdT 40) (e1 cLenS (slotG 39)),
  oP (pdT 41) (e2 (cBin .gtr) (slotG 38) (slotG 40))]
noncomputable def R71_11 : CT :=
  .reg [
  oP (pdT 4) (eMov (constG (.int .i64 1)))]
noncomputable def R71_12 : CT :=
  .reg [
  oP (pdT 4) (eMov (constG (.int .i64 0)))]
noncomputable def B71 : CT := (.seq R71_0 (.seq (.seq R71_1 (.block 0 (.loop L71_0))) (.seq (.seq R71_8 (.cond (slotG 36) (.seq R71_9 .ret) .skip)) (.seq (.seq R71_10 (.cond (slotG 41) (.seq R71_11 .ret) .skip)) (.seq R71_12 .ret)))))
noncomputable def A71 : CF := { res := [rTmp 4], code := B71, nt := 42 }
theorem c71 : ctF Tryz.prog 71 = some A71 := by kernel_rfl

/-! 127: slices.rotateCmpFunc[[]cadastre/api.Value] -/
noncomputable def R127_0 : CT :=
  .reg [
  oP (pdT 12) (eMov (slotG 2)),
  oP (pdT 13) (eMov (slotG 1)),
  oP (pdT 14) (e2 (cBin .sub) (slotG 12) (slotG 13)),
  oP (pdT 10) (eMov (slotG 14))]
noncomputable def R127_1 : CT :=
  .reg [
  oP (pdT 15) (eMov (slotG 3)),
  oP (pdT 16) (eMov (slotG 2)),
  oP (pdT 17) (e2 (cBin .sub) (slotG 15) (slotG 16)),
  oP (pdT 11) (eMov (slotG 17))]
noncomputable def R127_2 : CT :=
  .reg [
  oP (pdT 18) (eMov (slotG 10)),
  oP (pdT 19) (eMov (slotG 11)),
  oP (pdT 20) (e2 (cEq true .num) (slotG 18) (slotG 19))]
noncomputable def R127_3 : CT :=
  .reg [
  oP (pdT 21) (eMov (slotG 10)),
  oP (pdT 22) (eMov (slotG 11)),
  oP (pdT 23) (e2 (cBin .gtr) (slotG 21) (slotG 22))]
noncomputable def R127_4 : CT :=
  .reg [
  oP (pdT 24) (eMov (slotG 0)),
  oP (pdT 25) (eMov (slotG 2)),
  oP (pdT 26) (eMov (slotG 10)),
  oP (pdT 27) (e2 (cBin .sub) (slotG 25) (slotG 26)),
  oP (pdT 28) (eMov (slotG 2)),
  oP (pdT 29) (eMov (slotG 11)),
  oP (pdT 30) (eMov (slotG 4)),
  cP (pdT 31) 173 [(slotG 24), (slotG 27), (slotG 28), (slotG 29), (slotG 30)]]
noncomputable def R127_5 : CT :=
  .reg [
  oP (pdT 32) (eMov (slotG 10)),
  oP (pdT 33) (eMov (slotG 11)),
  oP (pdT 34) (e2 (cBin .sub) (slotG 32) (slotG 33)),
  oP (pdT 10) (eMov (slotG 34))]
noncomputable def R127_6 : CT :=
  .reg [
  oP (pdT 35) (eMov (slotG 0)),
  oP (pdT 36) (eMov (slotG 2)),
  oP (pdT 37) (eMov (slotG 10)),
  oP (pdT 38) (e2 (cBin .sub) (slotG 36) (slotG 37)),
  oP (pdT 39) (eMov (slotG 2)),
  oP (pdT 40) (eMov (slotG 11)),
  oP (pdT 41) (e2 (cBin .add) (slotG 39) (slotG 40)),
  oP (pdT 42) (eMov (slotG 10)),
  oP (pdT 43) (e2 (cBin .sub) (slotG 41) (slotG 42)),
  oP (pdT 44) (eMov (slotG 10)),
  oP (pdT 45) (eMov (slotG 4)),
  cP (pdT 46) 173 [(slotG 35), (slotG 38), (slotG 43), (slotG 44), (slotG 45)]]
noncomputable def R127_7 : CT :=
  .reg [
  oP (pdT 47) (eMov (slotG 11)),
  oP (pdT 48) (eMov (slotG 10)),
  oP (pdT 49) (e2 (cBin .sub) (slotG 47) (slotG 48)),
  oP (pdT 11) (eMov (slotG 49))]
noncomputable def L127_0 : CT := (.seq (.seq R127_2 (.cond (slotG 20) .skip (.exit 0))) (.block 1 (.seq R127_3 (.cond (slotG 23) (.seq R127_4 R127_5) (.seq R127_6 R127_7)))))
noncomputable def R127_8 : CT :=
  .reg [
  oP (pdT 50) (eMov (slotG 0)),
  oP (pdT 51) (eMov (slotG 2)),
  oP (pdT 52) (eMov (slotG 10)),
  oP (pdT 53) (e2 (cBin .sub) (slotG 51) (slotG 52)),
  oP (pdT 54) (eMov (slotG 2)),
  oP (pdT 55) (eMov (slotG 10)),
  oP (pdT 56) (eMov (slotG 4)),
  cP (pdT 57) 173 [(slotG 50), (slotG 53), (slotG 54), (slotG 55), (slotG 56)]]
noncomputable def B127 : CT := (.seq R127_0 (.seq R127_1 (.seq (.block 0 (.loop L127_0)) R127_8)))
noncomputable def A127 : CF := { res := [], code := B127, nt := 58 }
theorem c127 : ctF Tryz.prog 127 = some A127 := by kernel_rfl

/-! 128: cadastre/value.rank -/
noncomputable def R128_0 : CT :=
  .reg [
  oP (pdT 2) (eMov (constG (.int .i64 0)))]
noncomputable def R128_1 : CT :=
  .reg [
  oP (pdT 3) (eMov (constG (.int .i64 0)))]
noncomputable def R128_2 : CT :=
  .reg [
  oP (pdT 4) (eMov (slotG 0))]
noncomputable def R128_3 : CT :=
  .reg [
  oP (pdT 6) (e2 (cEq false .num) (slotG 4) (constG (.int .i64 2))),
  oP (pdT 5) (eMov (slotG 6))]
noncomputable def R128_4 : CT :=
  .reg [
  oP (pdT 8) (e2 (cEq false .num) (slotG 4) (constG (.int .i64 1))),
  oP (pdT 7) (eMov (slotG 8))]
noncomputable def R128_5 : CT :=
  .reg [
  oP (pdT 10) (e2 (cEq false .num) (slotG 4) (constG (.int .i64 3))),
  oP (pdT 9) (eMov (slotG 10))]
noncomputable def R128_6 : CT :=
  .reg [
  oP (pdT 11) (eMov (slotG 3)),
  oP (pdT 12) (e2 (cBin .add) (slotG 11) (constG (.int .i64 1))),
  oP (pdT 3) (eMov (slotG 12))]
noncomputable def R128_7 : CT :=
  .reg [
  oP (pdT 13) (eMov (slotG 3)),
  oP (pdT 14) (e2 (cBin .add) (slotG 13) (constG (.int .i64 1))),
  oP (pdT 3) (eMov (slotG 14))]
noncomputable def R128_8 : CT :=
  .reg [
  oP (pdT 15) (eMov (slotG 3)),
  oP (pdT 16) (e2 (cBin .add) (slotG 15) (constG (.int .i64 1))),
  oP (pdT 3) (eMov (slotG 16))]
noncomputable def R128_9 : CT :=
  .reg [
  oP (pdT 17) (eMov (slotG 3)),
  oP (pdT 2) (eMov (slotG 17))]
noncomputable def B128 : CT := (.seq R128_0 (.seq R128_1 (.seq (.seq R128_2 (.block 0 (.seq (.block 3 (.seq (.block 2 (.seq (.block 1 (.seq (.seq (.seq R128_3 (.cond (slotG 5) (.exit 1) .skip)) (.seq (.seq R128_4 (.cond (slotG 7) (.exit 2) .skip)) (.seq R128_5 (.cond (slotG 9) (.exit 3) .skip)))) (.exit 0))) R128_6)) R128_7)) (.seq R128_8 (.exit 0))))) (.seq R128_9 .ret))))
noncomputable def A128 : CF := { res := [rTmp 2], code := B128, nt := 18 }
theorem c128 : ctF Tryz.prog 128 = some A128 := by kernel_rfl

/-! 129: strings.Compare -/
noncomputable def R129_0 : CT :=
  .reg [
  oP (pdT 4) (eMov (constG (.int .i64 0)))]
noncomputable def R129_1 : CT :=
  .reg [
  oP (pdT 5) (eMov (slotG 0)),
  oP (pdT 6) (eMov (slotG 1)),
  cP (pdT 7) 174 [(slotG 5), (slotG 6)],
  oP (pdT 4) (eMov (slotG 7))]
noncomputable def B129 : CT := (.seq R129_0 (.seq R129_1 .ret))
noncomputable def A129 : CF := { res := [rTmp 4], code := B129, nt := 8 }
theorem c129 : ctF Tryz.prog 129 = some A129 := by kernel_rfl

/-! 173: slices.swapRangeCmpFunc[[]cadastre/api.Value] -/
noncomputable def R173_0 : CT :=
  .reg [
  oP (pdT 10) (eMov (constG (.int .i64 0)))]
noncomputable def R173_1 : CT :=
  .reg [
  oP (pdT 11) (eMov (slotG 10)),
  oP (pdT 12) (eMov (slotG 3)),
  oP (pdT 13) (e2 (cBin .lss) (slotG 11) (slotG 12))]
noncomputable def R173_2 : CT :=
  .drw [16, 17, 18, 19, 20, 21, 22, 23, 24, 25, 26, 27, 28, 29, 30, 31, 32, 33, 34, 35, 36, 37] [
  oI [0] (pdT 16) (eMov (slotG 0)) 1,
  oI [1] (pdT 17) (eMov (slotG 1)) 1,
  oI [10] (pdT 18) (eMov (slotG 10)) 1,
  oI [17, 18] (pdT 19) (e2 (cBin .add) (slotG 17) (slotG 18)) 1,
  oI [0] (pdT 24) (eMov (slotG 0)) 1,
  oI [2] (pdT 25) (eMov (slotG 2)) 1,
  oI [10] (pdT 26) (eMov (slotG 10)) 1,
  oI [25, 26] (pdT 27) (e2 (cBin .add) (slotG 25) (slotG 26)) 1,
  oI [24, 27] (pdT 28) (e2 (cIxa 1) (slotG 24) (slotG 27)) 1,
  oI [28] (pdT 29) (eLoad1 (slotG 28)) 1,
  oI [0] (pdT 30) (eMov (slotG 0)) 1,
  oI [1] (pdT 31) (eMov (slotG 1)) 1,
  oI [10] (pdT 32) (eMov (slotG 10)) 1,
  oI [31, 32] (pdT 33) (e2 (cBin .add) (slotG 31) (slotG 32)) 1,
  oI [30, 33] (pdT 34) (e2 (cIxa 1) (slotG 30) (slotG 33)) 1,
  oI [34] (pdT 35) (eLoad1 (slotG 34)) 1,
  oI [16, 19] (pdT 36) (e2 (cIxa 1) (slotG 16) (slotG 19)) 1,
  mI [36, 29] pdN (eStore 1 (slotG 36) (slotG 29)),
  oI [0] (pdT 20) (eMov (slotG 0)) 2,
  oI [2] (pdT 21) (eMov (slotG 2)) 2,
  oI [10] (pdT 22) (eMov (slotG 10)) 2,
  oI [21, 22] (pdT 23) (e2 (cBin .add) (slotG 21) (slotG 22)) 2,
  oI [20, 23] (pdT 37) (e2 (cIxa 1) (slotG 20) (slotG 23)) 1,
  mI [37, 35] pdN (eStore 1 (slotG 37) (slotG 35))]
noncomputable def R173_3 : CT :=
  .reg [
  oP (pdT 14) (eMov (slotG 10)),
  oP (pdT 15) (e2 (cBin .add) (slotG 14) (constG (.int .i64 1))),
  oP (pdT 10) (eMov (slotG 15))]
noncomputable def L173_0 : CT := (.seq (.seq R173_1 (.cond (slotG 13) .skip (.exit 0))) (.seq (.block 1 R173_2) R173_3))
noncomputable def B173 : CT := (.seq R173_0 (.block 0 (.loop L173_0)))
noncomputable def A173 : CF := { res := [], code := B173, nt := 38 }
theorem c173 : ctF Tryz.prog 173 = some A173 := by kernel_rfl

/-! 174: internal/bytealg.CompareString -/
noncomputable def R174_0 : CT :=
  .reg [
  oP (pdT 4) (eMov (constG (.int .i64 0)))]
noncomputable def R174_1 : CT :=
  .reg [
  oP (pdT 5) (eMov (slotG 0)),
  oP (pdT 6) (eMov (slotG 1)),
  oP (pdT 7) (e2 cCmpS (slotG 5) (slotG 6)),
  oP (pdT 4) (eMov (slotG 7))]
noncomputable def B174 : CT := (.seq R174_0 (.seq R174_1 .ret))
noncomputable def A174 : CF := { res := [rTmp 4], code := B174, nt := 8 }
theorem c174 : ctF Tryz.prog 174 = some A174 := by kernel_rfl

end Go.Abs
