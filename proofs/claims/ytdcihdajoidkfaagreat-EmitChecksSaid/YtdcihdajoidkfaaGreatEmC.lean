/- A part of the proof. -/
import Derived.Test.YtdcihdajoidkfaaGreatProg
import Derived.KernelRfl
import Derived.Test.YtdcihdajoidkfaaGreatAbsOw
namespace Go.Abs
open Go.Proofs
set_option maxRecDepth 100000
/-! 3: cadastre/cadastrelaw24.EmitChecks -/
noncomputable def R3_0 : CT :=
  .reg [
  oP (pdT 1) (eBox (slotG 0)),
  oP (pdT 2) (eMov (constG (.bool false)))]
noncomputable def R3_1 : CT :=
  .drw [3, 4, 5, 6, 7, 8, 9, 10] [
  oI [1] (pdT 3) (eLoadN 3 (slotG 1)) 1,
  cI [3] (pdT 4) 4 [(slotG 3)],
  oI [1] (pdT 5) (eLoadN 3 (slotG 1)) 2,
  cI [5] (pdT 6) 5 [(slotG 5)],
  oI [4, 6] (pdT 7) (e2 (cEq false .num) (slotG 4) (slotG 6)) 1,
  oI [7] (pdT 8) (eMov (slotG 7)) 1,
  gcI [8] (slotG 8) true (pdT 9) 6 [],
  oI [8, 9] (pdT 10) (ePick (slotG 8) (slotG 9) (constG (.bool false))) 1,
  oI [10] (pdT 2) (eMov (slotG 10)) 1]
noncomputable def B3 : CT := (.seq R3_0 (.seq R3_1 .ret))
noncomputable def A3 : CF := { res := [rTmp 2], code := B3, nt := 11 }
theorem c3 : ctF Tryz.prog 3 = some A3 := by kernel_rfl

/-! 4: cadastre/emit.Check -/
noncomputable def R4_0 : CT :=
  .reg [
  oP (pdT 1) (eBox (slotG 0)),
  oP (pdT 2) (eMov (constG (.int .i64 0)))]
noncomputable def R4_1 : CT :=
  .reg [
  oP (pdT 5) (e1 (cAddo 0) (slotG 1)),
  oP (pdT 6) (eLoad1 (slotG 5)),
  oP (pdT 7) (e2 (cBin .lss) (slotG 6) (constG (.int .i64 0))),
  oP (pdT 8) (eMov (slotG 7)),
  gP (slotG 8) false (pdT 9) (e1 (cAddo 0) (slotG 1)),
  gP (slotG 8) false (pdT 10) (eLoad1 (slotG 9)),
  gP (slotG 8) false (pdT 11) (e2 (cBin .gtr) (slotG 10) (constG (.int .i64 256))),
  oP (pdT 12) (ePick (slotG 8) (constG (.bool true)) (slotG 11)),
  oP (pdT 13) (eMov (slotG 12)),
  gP (slotG 13) false (pdT 14) (e1 (cAddo 1) (slotG 1)),
  gP (slotG 13) false (pdT 15) (eLoad1 (slotG 14)),
  gP (slotG 13) false (pdT 16) (e2 (cBin .lss) (slotG 15) (constG (.int .i64 0))),
  oP (pdT 17) (ePick (slotG 13) (constG (.bool true)) (slotG 16)),
  oP (pdT 18) (eMov (slotG 17)),
  gP (slotG 18) false (pdT 19) (e1 (cAddo 1) (slotG 1)),
  gP (slotG 18) false (pdT 20) (eLoad1 (slotG 19)),
  gP (slotG 18) false (pdT 21) (e2 (cBin .gtr) (slotG 20) (constG (.int .i64 4))),
  oP (pdT 22) (ePick (slotG 18) (constG (.bool true)) (slotG 21)),
  oP (pdT 23) (eMov (slotG 22)),
  gP (slotG 23) false (pdT 24) (e1 (cAddo 2) (slotG 1)),
  gP (slotG 23) false (pdT 25) (eLoad1 (slotG 24)),
  gP (slotG 23) false (pdT 26) (e1 cLenL (slotG 25)),
  gP (slotG 23) false (pdT 27) (e2 (cBin .gtr) (slotG 26) (constG (.int .i64 8192))),
  oP (pdT 28) (ePick (slotG 23) (constG (.bool true)) (slotG 27))]
noncomputable def R4_2 : CT :=
  .reg [
  oP (pdT 2) (eMov (constG (.int .i64 1)))]
noncomputable def R4_3 : CT :=
  .reg [
  oP (pdT 29) (e1 (cAddo 2) (slotG 1)),
  oP (pdT 30) (eLoad1 (slotG 29)),
  oP (pdT 31) (e1 cLenL (slotG 30)),
  oP (pdT 32) (eMov (constG (.int .i64 0)))]
noncomputable def R4_4 : CT :=
  .reg [
  oP (pdT 33) (e2 (cBin .lss) (slotG 32) (slotG 31))]
noncomputable def R4_5 : CT :=
  .reg [
  oP (pdT 34) (e2 (cIxa 15) (slotG 30) (slotG 32)),
  oP (pdT 35) (eLoadN 15 (slotG 34)),
  oP (pdT 4) (eAlloc [(.int .i64 0), (.int .i64 0), (.int .i64 0), (.int .i64 0), (.int .i64 0), (.int .i64 0), (.int .i64 0), (.int .u32 0), (.int .i64 0), (.int .i64 0), (.bool false), (.bool false), (.int .i64 0), (.int .i64 0), (.str [])] 15),
  oP pdN (eStore 15 (slotG 4) (slotG 35))]
noncomputable def R4_6 : CT :=
  .reg [
  oP (pdT 36) (eLoadN 3 (slotG 1)),
  oP (pdT 37) (eLoadN 15 (slotG 4)),
  cP (pdT 38) 7 [(slotG 36), (slotG 37)],
  oP (pdT 39) (e1 (cUn .not) (slotG 38))]
noncomputable def R4_7 : CT :=
  .reg [
  oP (pdT 2) (eMov (constG (.int .i64 1)))]
noncomputable def R4_8 : CT :=
  .reg [
  oP (pdT 40) (e2 (cBin .add) (slotG 32) (constG (.int .i64 1))),
  oP (pdT 32) (eMov (slotG 40))]
noncomputable def L4_0 : CT := (.seq R4_4 (.seq (.cond (slotG 33) .skip (.exit 0)) (.seq (.block 1 (.seq R4_5 (.seq R4_6 (.cond (slotG 39) (.seq R4_7 .ret) .skip)))) R4_8)))
noncomputable def R4_9 : CT :=
  .reg [
  oP (pdT 2) (eMov (constG (.int .i64 0)))]
noncomputable def B4 : CT := (.seq R4_0 (.seq (.seq R4_1 (.cond (slotG 28) (.seq R4_2 .ret) .skip)) (.seq (.seq R4_3 (.block 0 (.loop L4_0))) (.seq R4_9 .ret))))
noncomputable def A4 : CF := { res := [rTmp 2], code := B4, nt := 41 }
theorem c4 : ctF Tryz.prog 4 = some A4 := by kernel_rfl

/-! 5: cadastre/cadastreref24.Check -/
noncomputable def R5_0 : CT :=
  .reg [
  oP (pdT 1) (eBox (slotG 0)),
  oP (pdT 2) (eMov (constG (.int .i64 0)))]
noncomputable def R5_1 : CT :=
  .reg [
  oP (pdT 4) (e1 (cAddo 0) (slotG 1)),
  oP (pdT 5) (eLoad1 (slotG 4)),
  oP (pdT 6) (e2 (cBin .lss) (slotG 5) (constG (.int .i64 0))),
  oP (pdT 7) (eMov (slotG 6)),
  gP (slotG 7) false (pdT 8) (e1 (cAddo 0) (slotG 1)),
  gP (slotG 7) false (pdT 9) (eLoad1 (slotG 8)),
  gP (slotG 7) false (pdT 10) (e2 (cBin .gtr) (slotG 9) (constG (.int .i64 256))),
  oP (pdT 11) (ePick (slotG 7) (constG (.bool true)) (slotG 10)),
  oP (pdT 12) (eMov (slotG 11)),
  gP (slotG 12) false (pdT 13) (e1 (cAddo 1) (slotG 1)),
  gP (slotG 12) false (pdT 14) (eLoad1 (slotG 13)),
  gP (slotG 12) false (pdT 15) (e2 (cBin .lss) (slotG 14) (constG (.int .i64 0))),
  oP (pdT 16) (ePick (slotG 12) (constG (.bool true)) (slotG 15)),
  oP (pdT 17) (eMov (slotG 16)),
  gP (slotG 17) false (pdT 18) (e1 (cAddo 1) (slotG 1)),
  gP (slotG 17) false (pdT 19) (eLoad1 (slotG 18)),
  gP (slotG 17) false (pdT 20) (e2 (cBin .gtr) (slotG 19) (constG (.int .i64 4))),
  oP (pdT 21) (ePick (slotG 17) (constG (.bool true)) (slotG 20)),
  oP (pdT 22) (eMov (slotG 21)),
  gP (slotG 22) false (pdT 23) (e1 (cAddo 2) (slotG 1)),
  gP (slotG 22) false (pdT 24) (eLoad1 (slotG 23)),
  gP (slotG 22) false (pdT 25) (e1 cLenL (slotG 24)),
  gP (slotG 22) false (pdT 26) (e2 (cBin .gtr) (slotG 25) (constG (.int .i64 8192))),
  oP (pdT 27) (ePick (slotG 22) (constG (.bool true)) (slotG 26))]
noncomputable def R5_2 : CT :=
  .reg [
  oP (pdT 2) (eMov (constG (.int .i64 1)))]
noncomputable def R5_3 : CT :=
  .reg [
  oP (pdT 3) (eMov (constG (.int .i64 0)))]
noncomputable def R5_4 : CT :=
  .reg [
  oP (pdT 28) (eMov (slotG 3)),
  oP (pdT 29) (e1 (cAddo 2) (slotG 1)),
  oP (pdT 30) (eLoad1 (slotG 29)),
  oP (pdT 31) (e1 cLenL (slotG 30)),
  oP (pdT 32) (e2 (cBin .lss) (slotG 28) (slotG 31))]
noncomputable def R5_5 : CT :=
  .drw [35, 36, 37, 38, 39, 40, 41, 42] [
  oI [1] (pdT 35) (eLoadN 3 (slotG 1)) 1,
  oI [1] (pdT 36) (e1 (cAddo 2) (slotG 1)) 1,
  oI [36] (pdT 37) (eLoad1 (slotG 36)) 1,
  oI [3] (pdT 38) (eMov (slotG 3)) 1,
  oI [37, 38] (pdT 39) (e2 (cIxa 15) (slotG 37) (slotG 38)) 1,
  oI [39] (pdT 40) (eLoadN 15 (slotG 39)) 1,
  cI [35, 40] (pdT 41) 8 [(slotG 35), (slotG 40)],
  oI [41] (pdT 42) (e1 (cUn .not) (slotG 41)) 1]
noncomputable def R5_6 : CT :=
  .reg [
  oP (pdT 2) (eMov (constG (.int .i64 1)))]
noncomputable def R5_7 : CT :=
  .reg [
  oP (pdT 33) (eMov (slotG 3)),
  oP (pdT 34) (e2 (cBin .add) (slotG 33) (constG (.int .i64 1))),
  oP (pdT 3) (eMov (slotG 34))]
noncomputable def L5_0 : CT := (.seq (.seq R5_4 (.cond (slotG 32) .skip (.exit 0))) (.seq (.block 1 (.seq R5_5 (.cond (slotG 42) (.seq R5_6 .ret) .skip))) R5_7))
noncomputable def R5_8 : CT :=
  .reg [
  oP (pdT 2) (eMov (constG (.int .i64 0)))]
noncomputable def B5 : CT := (.seq R5_0 (.seq (.seq R5_1 (.cond (slotG 27) (.seq R5_2 .ret) .skip)) (.seq (.seq R5_3 (.block 0 (.loop L5_0))) (.seq R5_8 .ret))))
noncomputable def A5 : CF := { res := [rTmp 2], code := B5, nt := 43 }
theorem c5 : ctF Tryz.prog 5 = some A5 := by kernel_rfl

/-! 7: cadastre/emit.may -/
noncomputable def R7_0 : CT :=
  .reg [
  oP (pdT 2) (eBox (slotG 0)),
  oP (pdT 3) (eBox (slotG 1)),
  oP (pdT 4) (eMov (constG (.bool false)))]
noncomputable def R7_1 : CT :=
  .reg [
  oP (pdT 9) (eMkfn (.func 11) [] [(slotG 2)]),
  oP (pdT 5) (eMov (slotG 9))]
noncomputable def R7_2 : CT :=
  .reg [
  oP (pdT 10) (eMkfn (.func 12) [] [(slotG 2)]),
  oP (pdT 6) (eMov (slotG 10))]
noncomputable def R7_3 : CT :=
  .reg [
  oP (pdT 11) (e1 (cAddo 1) (slotG 3)),
  oP (pdT 12) (eLoad1 (slotG 11)),
  oP (pdT 13) (e2 (cBin .geq) (slotG 12) (constG (.int .i64 0))),
  oP (pdT 14) (eMov (slotG 13)),
  gP (slotG 14) true (pdT 15) (e1 (cAddo 1) (slotG 3)),
  gP (slotG 14) true (pdT 16) (eLoad1 (slotG 15)),
  gP (slotG 14) true (pdT 17) (e1 (cAddo 1) (slotG 2)),
  gP (slotG 14) true (pdT 18) (eLoad1 (slotG 17)),
  gP (slotG 14) true (pdT 19) (e2 (cBin .lss) (slotG 16) (slotG 18)),
  oP (pdT 20) (ePick (slotG 14) (slotG 19) (constG (.bool false))),
  oP (pdT 7) (eMov (slotG 20))]
noncomputable def R7_4 : CT :=
  .reg [
  oP (pdT 21) (e1 (cAddo 5) (slotG 3)),
  oP (pdT 22) (eLoad1 (slotG 21)),
  oP (pdT 23) (e2 (cBin .geq) (slotG 22) (constG (.int .i64 0))),
  oP (pdT 24) (eMov (slotG 23)),
  gP (slotG 24) true (pdT 25) (e1 (cAddo 5) (slotG 3)),
  gP (slotG 24) true (pdT 26) (eLoad1 (slotG 25)),
  gP (slotG 24) true (pdT 27) (e1 (cAddo 2) (slotG 2)),
  gP (slotG 24) true (pdT 28) (eLoad1 (slotG 27)),
  gP (slotG 24) true (pdT 29) (e1 cLenL (slotG 28)),
  gP (slotG 24) true (pdT 30) (e2 (cBin .leq) (slotG 26) (slotG 29)),
  oP (pdT 31) (ePick (slotG 24) (slotG 30) (constG (.bool false))),
  oP (pdT 8) (eMov (slotG 31))]
noncomputable def R7_5 : CT :=
  .reg [
  oP (pdT 32) (e1 (cAddo 0) (slotG 3)),
  oP (pdT 33) (eLoad1 (slotG 32))]
noncomputable def R7_6 : CT :=
  .reg [
  oP (pdT 35) (e2 (cEq false .num) (slotG 33) (constG (.int .i64 1))),
  oP (pdT 34) (eMov (slotG 35))]
noncomputable def R7_7 : CT :=
  .reg [
  oP (pdT 36) (eMov (slotG 7)),
  oP (pdT 4) (eMov (slotG 36))]
noncomputable def R7_8 : CT :=
  .reg [
  oP (pdT 38) (e2 (cEq false .num) (slotG 33) (constG (.int .i64 2))),
  oP (pdT 37) (eMov (slotG 38))]
noncomputable def R7_9 : CT :=
  .reg [
  oP (pdT 39) (eMov (slotG 7)),
  oP (pdT 40) (eMov (slotG 39)),
  gP (slotG 40) true (pdT 41) (eMov (slotG 6)),
  gP (slotG 40) true (pdT 42) (e1 (cAddo 2) (slotG 3)),
  gP (slotG 40) true (pdT 43) (eLoad1 (slotG 42)),
  gP (slotG 40) true (pdT 44) (e1 (cAddo 4) (slotG 3)),
  gP (slotG 40) true (pdT 45) (eLoad1 (slotG 44)),
  gvP (slotG 40) true (pdT 46) (slotG 41) [(slotG 43), (slotG 45)],
  oP (pdT 47) (ePick (slotG 40) (slotG 46) (constG (.bool false))),
  oP (pdT 48) (eMov (slotG 47)),
  gP (slotG 48) true (pdT 49) (e1 (cAddo 8) (slotG 3)),
  gP (slotG 48) true (pdT 50) (eLoad1 (slotG 49)),
  gP (slotG 48) true (pdT 51) (e2 (cEq false .num) (slotG 50) (constG (.int .i64 (-1)))),
  gP (slotG 48) true (pdT 52) (eMov (slotG 51)),
  gP (slotG 52) false (pdT 53) (eMov (slotG 5)),
  gP (slotG 52) false (pdT 54) (e1 (cAddo 8) (slotG 3)),
  gP (slotG 52) false (pdT 55) (eLoad1 (slotG 54)),
  gvP (slotG 52) false (pdT 56) (slotG 53) [(slotG 55)],
  gP (slotG 48) true (pdT 57) (ePick (slotG 52) (constG (.bool true)) (slotG 56)),
  oP (pdT 58) (ePick (slotG 48) (slotG 57) (constG (.bool false))),
  oP (pdT 59) (eMov (slotG 58)),
  gP (slotG 59) true (pdT 60) (e1 (cAddo 9) (slotG 3)),
  gP (slotG 59) true (pdT 61) (eLoad1 (slotG 60)),
  gP (slotG 59) true (pdT 62) (e2 (cEq false .num) (slotG 61) (constG (.int .i64 (-1)))),
  gP (slotG 59) true (pdT 63) (eMov (slotG 62)),
  gP (slotG 63) false (pdT 64) (eMov (slotG 5)),
  gP (slotG 63) false (pdT 65) (e1 (cAddo 9) (slotG 3)),
  gP (slotG 63) false (pdT 66) (eLoad1 (slotG 65)),
  gvP (slotG 63) false (pdT 67) (slotG 64) [(slotG 66)],
  gP (slotG 59) true (pdT 68) (ePick (slotG 63) (constG (.bool true)) (slotG 67)),
  oP (pdT 69) (ePick (slotG 59) (slotG 68) (constG (.bool false))),
  oP (pdT 4) (eMov (slotG 69))]
noncomputable def R7_10 : CT :=
  .reg [
  oP (pdT 71) (e2 (cEq false .num) (slotG 33) (constG (.int .i64 3))),
  oP (pdT 70) (eMov (slotG 71))]
noncomputable def R7_11 : CT :=
  .reg [
  oP (pdT 72) (eMov (slotG 7)),
  oP (pdT 73) (eMov (slotG 72)),
  gP (slotG 73) true (pdT 74) (eMov (slotG 8)),
  oP (pdT 75) (ePick (slotG 73) (slotG 74) (constG (.bool false))),
  oP (pdT 4) (eMov (slotG 75))]
noncomputable def R7_12 : CT :=
  .reg [
  oP (pdT 77) (e2 (cEq false .num) (slotG 33) (constG (.int .i64 4))),
  oP (pdT 76) (eMov (slotG 77))]
noncomputable def R7_13 : CT :=
  .reg [
  oP (pdT 78) (eMov (slotG 5)),
  oP (pdT 79) (e1 (cAddo 1) (slotG 3)),
  oP (pdT 80) (eLoad1 (slotG 79)),
  vP (pdT 81) (slotG 78) [(slotG 80)],
  oP (pdT 82) (eMov (slotG 81)),
  gP (slotG 82) true (pdT 83) (e1 (cAddo 2) (slotG 3)),
  gP (slotG 82) true (pdT 84) (eLoad1 (slotG 83)),
  gP (slotG 82) true (pdT 85) (e2 (cBin .geq) (slotG 84) (constG (.int .i64 0))),
  oP (pdT 86) (ePick (slotG 82) (slotG 85) (constG (.bool false))),
  oP (pdT 87) (eMov (slotG 86)),
  gP (slotG 87) true (pdT 88) (e1 (cAddo 2) (slotG 3)),
  gP (slotG 87) true (pdT 89) (eLoad1 (slotG 88)),
  gP (slotG 87) true (pdT 90) (e1 (cAddo 1) (slotG 2)),
  gP (slotG 87) true (pdT 91) (eLoad1 (slotG 90)),
  gP (slotG 87) true (pdT 92) (e2 (cBin .lss) (slotG 89) (slotG 91)),
  oP (pdT 93) (ePick (slotG 87) (slotG 92) (constG (.bool false))),
  oP (pdT 94) (eMov (slotG 93)),
  gP (slotG 94) true (pdT 95) (e1 (cAddo 3) (slotG 3)),
  gP (slotG 94) true (pdT 96) (eLoad1 (slotG 95)),
  gP (slotG 94) true (pdT 97) (e2 (cBin .geq) (slotG 96) (constG (.int .i64 0))),
  oP (pdT 98) (ePick (slotG 94) (slotG 97) (constG (.bool false))),
  oP (pdT 99) (eMov (slotG 98)),
  gP (slotG 99) true (pdT 100) (e1 (cAddo 3) (slotG 3)),
  gP (slotG 99) true (pdT 101) (eLoad1 (slotG 100)),
  gP (slotG 99) true (pdT 102) (e2 (cBin .lss) (slotG 101) (constG (.int .i64 16))),
  oP (pdT 103) (ePick (slotG 99) (slotG 102) (constG (.bool false))),
  oP (pdT 4) (eMov (slotG 103))]
noncomputable def R7_14 : CT :=
  .reg [
  oP (pdT 105) (e2 (cEq false .num) (slotG 33) (constG (.int .i64 5))),
  oP (pdT 104) (eMov (slotG 105))]
noncomputable def R7_15 : CT :=
  .reg [
  oP (pdT 106) (eMov (slotG 5)),
  oP (pdT 107) (e1 (cAddo 1) (slotG 3)),
  oP (pdT 108) (eLoad1 (slotG 107)),
  vP (pdT 109) (slotG 106) [(slotG 108)],
  oP (pdT 110) (eMov (slotG 109)),
  gP (slotG 110) true (pdT 111) (e1 (cAddo 12) (slotG 3)),
  gP (slotG 110) true (pdT 112) (eLoadN 3 (slotG 111)),
  gcP (slotG 110) true (pdT 113) 13 [(slotG 112)],
  oP (pdT 114) (ePick (slotG 110) (slotG 113) (constG (.bool false))),
  oP (pdT 4) (eMov (slotG 114))]
noncomputable def R7_16 : CT :=
  .reg [
  oP (pdT 116) (e2 (cEq false .num) (slotG 33) (constG (.int .i64 6))),
  oP (pdT 115) (eMov (slotG 116))]
noncomputable def R7_17 : CT :=
  .reg [
  oP (pdT 117) (eMov (slotG 5)),
  oP (pdT 118) (e1 (cAddo 1) (slotG 3)),
  oP (pdT 119) (eLoad1 (slotG 118)),
  vP (pdT 120) (slotG 117) [(slotG 119)],
  oP (pdT 121) (eMov (slotG 120)),
  gP (slotG 121) true (pdT 122) (eMov (slotG 5)),
  gP (slotG 121) true (pdT 123) (e1 (cAddo 2) (slotG 3)),
  gP (slotG 121) true (pdT 124) (eLoad1 (slotG 123)),
  gvP (slotG 121) true (pdT 125) (slotG 122) [(slotG 124)],
  oP (pdT 126) (ePick (slotG 121) (slotG 125) (constG (.bool false))),
  oP (pdT 127) (eMov (slotG 126)),
  gP (slotG 127) true (pdT 128) (e1 (cAddo 6) (slotG 3)),
  gP (slotG 127) true (pdT 129) (eLoad1 (slotG 128)),
  gP (slotG 127) true (pdT 130) (e2 (cBin .geq) (slotG 129) (constG (.int .i64 4))),
  oP (pdT 131) (ePick (slotG 127) (slotG 130) (constG (.bool false))),
  oP (pdT 132) (eMov (slotG 131)),
  gP (slotG 132) true (pdT 133) (e1 (cAddo 6) (slotG 3)),
  gP (slotG 132) true (pdT 134) (eLoad1 (slotG 133)),
  gP (slotG 132) true (pdT 135) (e2 (cBin .leq) (slotG 134) (constG (.int .i64 21))),
  oP (pdT 136) (ePick (slotG 132) (slotG 135) (constG (.bool false))),
  oP (pdT 137) (eMov (slotG 136)),
  gP (slotG 137) true (pdT 138) (e1 (cAddo 6) (slotG 3)),
  gP (slotG 137) true (pdT 139) (eLoad1 (slotG 138)),
  gP (slotG 137) true (pdT 140) (e2 (cBin .lss) (slotG 139) (constG (.int .i64 8))),
  gP (slotG 137) true (pdT 141) (eMov (slotG 140)),
  gP (slotG 141) false (pdT 142) (eMov (slotG 5)),
  gP (slotG 141) false (pdT 143) (e1 (cAddo 3) (slotG 3)),
  gP (slotG 141) false (pdT 144) (eLoad1 (slotG 143)),
  gvP (slotG 141) false (pdT 145) (slotG 142) [(slotG 144)],
  gP (slotG 137) true (pdT 146) (ePick (slotG 141) (constG (.bool true)) (slotG 145)),
  oP (pdT 147) (ePick (slotG 137) (slotG 146) (constG (.bool false))),
  oP (pdT 148) (eMov (slotG 147)),
  gP (slotG 148) true (pdT 149) (eMov (slotG 8)),
  oP (pdT 150) (ePick (slotG 148) (slotG 149) (constG (.bool false))),
  oP (pdT 4) (eMov (slotG 150))]
noncomputable def R7_18 : CT :=
  .reg [
  oP (pdT 152) (e2 (cEq false .num) (slotG 33) (constG (.int .i64 7))),
  oP (pdT 151) (eMov (slotG 152))]
noncomputable def R7_19 : CT :=
  .reg [
  oP (pdT 153) (eMov (slotG 5)),
  oP (pdT 154) (e1 (cAddo 1) (slotG 3)),
  oP (pdT 155) (eLoad1 (slotG 154)),
  vP (pdT 156) (slotG 153) [(slotG 155)],
  oP (pdT 157) (eMov (slotG 156)),
  gP (slotG 157) true (pdT 158) (eMov (slotG 8)),
  oP (pdT 159) (ePick (slotG 157) (slotG 158) (constG (.bool false))),
  oP (pdT 4) (eMov (slotG 159))]
noncomputable def R7_20 : CT :=
  .reg [
  oP (pdT 161) (e2 (cEq false .num) (slotG 33) (constG (.int .i64 8))),
  oP (pdT 160) (eMov (slotG 161))]
noncomputable def R7_21 : CT :=
  .reg [
  oP (pdT 162) (eMov (slotG 6)),
  oP (pdT 163) (e1 (cAddo 1) (slotG 3)),
  oP (pdT 164) (eLoad1 (slotG 163)),
  oP (pdT 165) (e1 (cAddo 4) (slotG 3)),
  oP (pdT 166) (eLoad1 (slotG 165)),
  vP (pdT 167) (slotG 162) [(slotG 164), (slotG 166)],
  oP (pdT 4) (eMov (slotG 167))]
noncomputable def R7_22 : CT :=
  .reg [
  oP (pdT 169) (e2 (cEq false .num) (slotG 33) (constG (.int .i64 9))),
  oP (pdT 168) (eMov (slotG 169))]
noncomputable def R7_23 : CT :=
  .reg [
  oP (pdT 170) (eMov (slotG 7)),
  oP (pdT 171) (eMov (slotG 170)),
  gP (slotG 171) true (pdT 172) (eMov (slotG 6)),
  gP (slotG 171) true (pdT 173) (e1 (cAddo 2) (slotG 3)),
  gP (slotG 171) true (pdT 174) (eLoad1 (slotG 173)),
  gP (slotG 171) true (pdT 175) (e1 (cAddo 4) (slotG 3)),
  gP (slotG 171) true (pdT 176) (eLoad1 (slotG 175)),
  gvP (slotG 171) true (pdT 177) (slotG 172) [(slotG 174), (slotG 176)],
  oP (pdT 178) (ePick (slotG 171) (slotG 177) (constG (.bool false))),
  oP (pdT 4) (eMov (slotG 178))]
noncomputable def R7_24 : CT :=
  .reg [
  oP (pdT 180) (e2 (cEq false .num) (slotG 33) (constG (.int .i64 10))),
  oP (pdT 179) (eMov (slotG 180))]
noncomputable def R7_25 : CT :=
  .reg [
  oP (pdT 181) (eMov (slotG 8)),
  oP (pdT 4) (eMov (slotG 181))]
noncomputable def R7_26 : CT :=
  .reg [
  oP (pdT 182) (e1 (cAddo 0) (slotG 3)),
  oP (pdT 183) (eLoad1 (slotG 182)),
  oP (pdT 184) (e2 (cEq false .num) (slotG 183) (constG (.int .i64 11))),
  oP (pdT 4) (eMov (slotG 184))]
noncomputable def B7 : CT := (.seq R7_0 (.seq R7_1 (.seq R7_2 (.seq R7_3 (.seq R7_4 (.seq (.seq R7_5 (.block 0 (.seq R7_6 (.cond (slotG 34) (.seq R7_7 .ret) (.seq R7_8 (.cond (slotG 37) (.seq R7_9 .ret) (.seq R7_10 (.cond (slotG 70) (.seq R7_11 .ret) (.seq R7_12 (.cond (slotG 76) (.seq R7_13 .ret) (.seq R7_14 (.cond (slotG 104) (.seq R7_15 .ret) (.seq R7_16 (.cond (slotG 115) (.seq R7_17 .ret) (.seq R7_18 (.cond (slotG 151) (.seq R7_19 .ret) (.seq R7_20 (.cond (slotG 160) (.seq R7_21 .ret) (.seq R7_22 (.cond (slotG 168) (.seq R7_23 .ret) (.seq R7_24 (.cond (slotG 179) (.seq R7_25 .ret) .skip)))))))))))))))))))))) (.seq R7_26 .ret)))))))
noncomputable def A7 : CF := { res := [rTmp 4], code := B7, nt := 185 }
theorem c7 : ctF Tryz.prog 7 = some A7 := by kernel_rfl

/-! 8: cadastre/cadastreref24.Instr -/
noncomputable def R8_0 : CT :=
  .reg [
  oP (pdT 2) (eBox (slotG 0)),
  oP (pdT 3) (eBox (slotG 1)),
  oP (pdT 4) (eMov (constG (.bool false)))]
noncomputable def R8_1 : CT :=
  .reg [
  oP (pdT 7) (e1 (cAddo 0) (slotG 3)),
  oP (pdT 8) (eLoad1 (slotG 7)),
  oP (pdT 9) (e2 (cEq false .num) (slotG 8) (constG (.int .i64 1)))]
noncomputable def R8_2 : CT :=
  .reg [
  oP (pdT 10) (eLoadN 3 (slotG 2)),
  oP (pdT 11) (e1 (cAddo 1) (slotG 3)),
  oP (pdT 12) (eLoad1 (slotG 11)),
  cP (pdT 13) 14 [(slotG 10), (slotG 12)],
  oP (pdT 4) (eMov (slotG 13))]
noncomputable def R8_3 : CT :=
  .reg [
  oP (pdT 14) (e1 (cAddo 0) (slotG 3)),
  oP (pdT 15) (eLoad1 (slotG 14)),
  oP (pdT 16) (e2 (cEq false .num) (slotG 15) (constG (.int .i64 2)))]
noncomputable def R8_4 : CT :=
  .reg [
  oP (pdT 17) (eLoadN 3 (slotG 2)),
  oP (pdT 18) (e1 (cAddo 1) (slotG 3)),
  oP (pdT 19) (eLoad1 (slotG 18)),
  cP (pdT 20) 14 [(slotG 17), (slotG 19)],
  oP (pdT 21) (eMov (slotG 20)),
  gP (slotG 21) true (pdT 22) (eLoadN 3 (slotG 2)),
  gP (slotG 21) true (pdT 23) (e1 (cAddo 2) (slotG 3)),
  gP (slotG 21) true (pdT 24) (eLoad1 (slotG 23)),
  gP (slotG 21) true (pdT 25) (e1 (cAddo 4) (slotG 3)),
  gP (slotG 21) true (pdT 26) (eLoad1 (slotG 25)),
  gcP (slotG 21) true (pdT 27) 15 [(slotG 22), (slotG 24), (slotG 26)],
  oP (pdT 28) (ePick (slotG 21) (slotG 27) (constG (.bool false))),
  oP (pdT 29) (eMov (slotG 28)),
  gP (slotG 29) true (pdT 30) (e1 (cAddo 8) (slotG 3)),
  gP (slotG 29) true (pdT 31) (eLoad1 (slotG 30)),
  gP (slotG 29) true (pdT 32) (e2 (cEq false .num) (slotG 31) (constG (.int .i64 (-1)))),
  gP (slotG 29) true (pdT 33) (eMov (slotG 32)),
  gP (slotG 33) false (pdT 34) (eLoadN 3 (slotG 2)),
  gP (slotG 33) false (pdT 35) (e1 (cAddo 8) (slotG 3)),
  gP (slotG 33) false (pdT 36) (eLoad1 (slotG 35)),
  gcP (slotG 33) false (pdT 37) 16 [(slotG 34), (slotG 36)],
  gP (slotG 29) true (pdT 38) (ePick (slotG 33) (constG (.bool true)) (slotG 37)),
  oP (pdT 39) (ePick (slotG 29) (slotG 38) (constG (.bool false))),
  oP (pdT 40) (eMov (slotG 39)),
  gP (slotG 40) true (pdT 41) (e1 (cAddo 9) (slotG 3)),
  gP (slotG 40) true (pdT 42) (eLoad1 (slotG 41)),
  gP (slotG 40) true (pdT 43) (e2 (cEq false .num) (slotG 42) (constG (.int .i64 (-1)))),
  gP (slotG 40) true (pdT 44) (eMov (slotG 43)),
  gP (slotG 44) false (pdT 45) (eLoadN 3 (slotG 2)),
  gP (slotG 44) false (pdT 46) (e1 (cAddo 9) (slotG 3)),
  gP (slotG 44) false (pdT 47) (eLoad1 (slotG 46)),
  gcP (slotG 44) false (pdT 48) 16 [(slotG 45), (slotG 47)],
  gP (slotG 40) true (pdT 49) (ePick (slotG 44) (constG (.bool true)) (slotG 48)),
  oP (pdT 50) (ePick (slotG 40) (slotG 49) (constG (.bool false))),
  oP (pdT 4) (eMov (slotG 50))]
noncomputable def R8_5 : CT :=
  .reg [
  oP (pdT 51) (e1 (cAddo 0) (slotG 3)),
  oP (pdT 52) (eLoad1 (slotG 51)),
  oP (pdT 53) (e2 (cEq false .num) (slotG 52) (constG (.int .i64 3)))]
noncomputable def R8_6 : CT :=
  .reg [
  oP (pdT 54) (eLoadN 3 (slotG 2)),
  oP (pdT 55) (e1 (cAddo 1) (slotG 3)),
  oP (pdT 56) (eLoad1 (slotG 55)),
  cP (pdT 57) 14 [(slotG 54), (slotG 56)],
  oP (pdT 58) (eMov (slotG 57)),
  gP (slotG 58) true (pdT 59) (eLoadN 3 (slotG 2)),
  gP (slotG 58) true (pdT 60) (e1 (cAddo 5) (slotG 3)),
  gP (slotG 58) true (pdT 61) (eLoad1 (slotG 60)),
  gcP (slotG 58) true (pdT 62) 17 [(slotG 59), (slotG 61)],
  oP (pdT 63) (ePick (slotG 58) (slotG 62) (constG (.bool false))),
  oP (pdT 4) (eMov (slotG 63))]
noncomputable def R8_7 : CT :=
  .reg [
  oP (pdT 64) (e1 (cAddo 0) (slotG 3)),
  oP (pdT 65) (eLoad1 (slotG 64)),
  oP (pdT 66) (e2 (cEq false .num) (slotG 65) (constG (.int .i64 4)))]
noncomputable def R8_8 : CT :=
  .reg [
  oP (pdT 67) (eLoadN 3 (slotG 2)),
  oP (pdT 68) (e1 (cAddo 1) (slotG 3)),
  oP (pdT 69) (eLoad1 (slotG 68)),
  cP (pdT 70) 16 [(slotG 67), (slotG 69)],
  oP (pdT 71) (eMov (slotG 70)),
  gP (slotG 71) true (pdT 72) (eLoadN 3 (slotG 2)),
  gP (slotG 71) true (pdT 73) (e1 (cAddo 2) (slotG 3)),
  gP (slotG 71) true (pdT 74) (eLoad1 (slotG 73)),
  gcP (slotG 71) true (pdT 75) 14 [(slotG 72), (slotG 74)],
  oP (pdT 76) (ePick (slotG 71) (slotG 75) (constG (.bool false))),
  oP (pdT 77) (eMov (slotG 76)),
  gP (slotG 77) true (pdT 78) (e1 (cAddo 3) (slotG 3)),
  gP (slotG 77) true (pdT 79) (eLoad1 (slotG 78)),
  gP (slotG 77) true (pdT 80) (e2 (cBin .geq) (slotG 79) (constG (.int .i64 0))),
  oP (pdT 81) (ePick (slotG 77) (slotG 80) (constG (.bool false))),
  oP (pdT 82) (eMov (slotG 81)),
  gP (slotG 82) true (pdT 83) (e1 (cAddo 3) (slotG 3)),
  gP (slotG 82) true (pdT 84) (eLoad1 (slotG 83)),
  gP (slotG 82) true (pdT 85) (e2 (cBin .lss) (slotG 84) (constG (.int .i64 16))),
  oP (pdT 86) (ePick (slotG 82) (slotG 85) (constG (.bool false))),
  oP (pdT 4) (eMov (slotG 86))]
noncomputable def R8_9 : CT :=
  .reg [
  oP (pdT 87) (e1 (cAddo 0) (slotG 3)),
  oP (pdT 88) (eLoad1 (slotG 87)),
  oP (pdT 89) (e2 (cEq false .num) (slotG 88) (constG (.int .i64 5)))]
noncomputable def R8_10 : CT :=
  .reg [
  oP (pdT 90) (eLoadN 3 (slotG 2)),
  oP (pdT 91) (e1 (cAddo 1) (slotG 3)),
  oP (pdT 92) (eLoad1 (slotG 91)),
  cP (pdT 93) 16 [(slotG 90), (slotG 92)],
  oP (pdT 94) (eMov (slotG 93)),
  gP (slotG 94) true (pdT 95) (e1 (cAddo 12) (slotG 3)),
  gP (slotG 94) true (pdT 96) (eLoadN 3 (slotG 95)),
  gcP (slotG 94) true (pdT 97) 18 [(slotG 96)],
  oP (pdT 98) (ePick (slotG 94) (slotG 97) (constG (.bool false))),
  oP (pdT 4) (eMov (slotG 98))]
noncomputable def R8_11 : CT :=
  .reg [
  oP (pdT 99) (e1 (cAddo 0) (slotG 3)),
  oP (pdT 100) (eLoad1 (slotG 99)),
  oP (pdT 101) (e2 (cEq false .num) (slotG 100) (constG (.int .i64 6)))]
noncomputable def R8_12 : CT :=
  .reg [
  oP (pdT 102) (e1 (cAddo 6) (slotG 3)),
  oP (pdT 103) (eLoad1 (slotG 102)),
  oP (pdT 104) (e2 (cBin .geq) (slotG 103) (constG (.int .i64 8))),
  oP (pdT 105) (eMov (slotG 104)),
  gP (slotG 105) true (pdT 106) (e1 (cAddo 6) (slotG 3)),
  gP (slotG 105) true (pdT 107) (eLoad1 (slotG 106)),
  gP (slotG 105) true (pdT 108) (e2 (cBin .leq) (slotG 107) (constG (.int .i64 21))),
  oP (pdT 109) (ePick (slotG 105) (slotG 108) (constG (.bool false))),
  oP (pdT 5) (eMov (slotG 109))]
noncomputable def R8_13 : CT :=
  .reg [
  oP (pdT 110) (e1 (cAddo 6) (slotG 3)),
  oP (pdT 111) (eLoad1 (slotG 110)),
  oP (pdT 112) (e2 (cEq false .num) (slotG 111) (constG (.int .i64 4))),
  oP (pdT 113) (eMov (slotG 112)),
  gP (slotG 113) false (pdT 114) (e1 (cAddo 6) (slotG 3)),
  gP (slotG 113) false (pdT 115) (eLoad1 (slotG 114)),
  gP (slotG 113) false (pdT 116) (e2 (cEq false .num) (slotG 115) (constG (.int .i64 5))),
  oP (pdT 117) (ePick (slotG 113) (constG (.bool true)) (slotG 116)),
  oP (pdT 118) (eMov (slotG 117)),
  gP (slotG 118) false (pdT 119) (e1 (cAddo 6) (slotG 3)),
  gP (slotG 118) false (pdT 120) (eLoad1 (slotG 119)),
  gP (slotG 118) false (pdT 121) (e2 (cEq false .num) (slotG 120) (constG (.int .i64 6))),
  oP (pdT 122) (ePick (slotG 118) (constG (.bool true)) (slotG 121)),
  oP (pdT 123) (eMov (slotG 122)),
  gP (slotG 123) false (pdT 124) (e1 (cAddo 6) (slotG 3)),
  gP (slotG 123) false (pdT 125) (eLoad1 (slotG 124)),
  gP (slotG 123) false (pdT 126) (e2 (cEq false .num) (slotG 125) (constG (.int .i64 7))),
  oP (pdT 127) (ePick (slotG 123) (constG (.bool true)) (slotG 126)),
  oP (pdT 6) (eMov (slotG 127))]
noncomputable def R8_14 : CT :=
  .reg [
  oP (pdT 128) (eLoadN 3 (slotG 2)),
  oP (pdT 129) (e1 (cAddo 1) (slotG 3)),
  oP (pdT 130) (eLoad1 (slotG 129)),
  cP (pdT 131) 16 [(slotG 128), (slotG 130)],
  oP (pdT 132) (eMov (slotG 131)),
  gP (slotG 132) true (pdT 133) (eLoadN 3 (slotG 2)),
  gP (slotG 132) true (pdT 134) (e1 (cAddo 2) (slotG 3)),
  gP (slotG 132) true (pdT 135) (eLoad1 (slotG 134)),
  gcP (slotG 132) true (pdT 136) 16 [(slotG 133), (slotG 135)],
  oP (pdT 137) (ePick (slotG 132) (slotG 136) (constG (.bool false))),
  oP (pdT 138) (eMov (slotG 137)),
  gP (slotG 138) true (pdT 139) (eMov (slotG 6)),
  gP (slotG 138) true (pdT 140) (eMov (slotG 139)),
  gP (slotG 140) false (pdT 141) (eMov (slotG 5)),
  gP (slotG 140) false (pdT 142) (eMov (slotG 141)),
  gP (slotG 142) true (pdT 143) (eLoadN 3 (slotG 2)),
  gP (slotG 142) true (pdT 144) (e1 (cAddo 3) (slotG 3)),
  gP (slotG 142) true (pdT 145) (eLoad1 (slotG 144)),
  gcP (slotG 142) true (pdT 146) 16 [(slotG 143), (slotG 145)],
  gP (slotG 140) false (pdT 147) (ePick (slotG 142) (slotG 146) (constG (.bool false))),
  gP (slotG 138) true (pdT 148) (ePick (slotG 140) (constG (.bool true)) (slotG 147)),
  oP (pdT 149) (ePick (slotG 138) (slotG 148) (constG (.bool false))),
  oP (pdT 150) (eMov (slotG 149)),
  gP (slotG 150) true (pdT 151) (eLoadN 3 (slotG 2)),
  gP (slotG 150) true (pdT 152) (e1 (cAddo 5) (slotG 3)),
  gP (slotG 150) true (pdT 153) (eLoad1 (slotG 152)),
  gcP (slotG 150) true (pdT 154) 17 [(slotG 151), (slotG 153)],
  oP (pdT 155) (ePick (slotG 150) (slotG 154) (constG (.bool false))),
  oP (pdT 4) (eMov (slotG 155))]
noncomputable def R8_15 : CT :=
  .reg [
  oP (pdT 156) (e1 (cAddo 0) (slotG 3)),
  oP (pdT 157) (eLoad1 (slotG 156)),
  oP (pdT 158) (e2 (cEq false .num) (slotG 157) (constG (.int .i64 7)))]
noncomputable def R8_16 : CT :=
  .reg [
  oP (pdT 159) (eLoadN 3 (slotG 2)),
  oP (pdT 160) (e1 (cAddo 1) (slotG 3)),
  oP (pdT 161) (eLoad1 (slotG 160)),
  cP (pdT 162) 16 [(slotG 159), (slotG 161)],
  oP (pdT 163) (eMov (slotG 162)),
  gP (slotG 163) true (pdT 164) (eLoadN 3 (slotG 2)),
  gP (slotG 163) true (pdT 165) (e1 (cAddo 5) (slotG 3)),
  gP (slotG 163) true (pdT 166) (eLoad1 (slotG 165)),
  gcP (slotG 163) true (pdT 167) 17 [(slotG 164), (slotG 166)],
  oP (pdT 168) (ePick (slotG 163) (slotG 167) (constG (.bool false))),
  oP (pdT 4) (eMov (slotG 168))]
noncomputable def R8_17 : CT :=
  .reg [
  oP (pdT 169) (e1 (cAddo 0) (slotG 3)),
  oP (pdT 170) (eLoad1 (slotG 169)),
  oP (pdT 171) (e2 (cEq false .num) (slotG 170) (constG (.int .i64 8)))]
noncomputable def R8_18 : CT :=
  .reg [
  oP (pdT 172) (eLoadN 3 (slotG 2)),
  oP (pdT 173) (e1 (cAddo 1) (slotG 3)),
  oP (pdT 174) (eLoad1 (slotG 173)),
  oP (pdT 175) (e1 (cAddo 4) (slotG 3)),
  oP (pdT 176) (eLoad1 (slotG 175)),
  cP (pdT 177) 15 [(slotG 172), (slotG 174), (slotG 176)],
  oP (pdT 4) (eMov (slotG 177))]
noncomputable def R8_19 : CT :=
  .reg [
  oP (pdT 178) (e1 (cAddo 0) (slotG 3)),
  oP (pdT 179) (eLoad1 (slotG 178)),
  oP (pdT 180) (e2 (cEq false .num) (slotG 179) (constG (.int .i64 9)))]
noncomputable def R8_20 : CT :=
  .reg [
  oP (pdT 181) (eLoadN 3 (slotG 2)),
  oP (pdT 182) (e1 (cAddo 1) (slotG 3)),
  oP (pdT 183) (eLoad1 (slotG 182)),
  cP (pdT 184) 14 [(slotG 181), (slotG 183)],
  oP (pdT 185) (eMov (slotG 184)),
  gP (slotG 185) true (pdT 186) (eLoadN 3 (slotG 2)),
  gP (slotG 185) true (pdT 187) (e1 (cAddo 2) (slotG 3)),
  gP (slotG 185) true (pdT 188) (eLoad1 (slotG 187)),
  gP (slotG 185) true (pdT 189) (e1 (cAddo 4) (slotG 3)),
  gP (slotG 185) true (pdT 190) (eLoad1 (slotG 189)),
  gcP (slotG 185) true (pdT 191) 15 [(slotG 186), (slotG 188), (slotG 190)],
  oP (pdT 192) (ePick (slotG 185) (slotG 191) (constG (.bool false))),
  oP (pdT 4) (eMov (slotG 192))]
noncomputable def R8_21 : CT :=
  .reg [
  oP (pdT 193) (e1 (cAddo 0) (slotG 3)),
  oP (pdT 194) (eLoad1 (slotG 193)),
  oP (pdT 195) (e2 (cEq false .num) (slotG 194) (constG (.int .i64 10)))]
noncomputable def R8_22 : CT :=
  .reg [
  oP (pdT 196) (eLoadN 3 (slotG 2)),
  oP (pdT 197) (e1 (cAddo 5) (slotG 3)),
  oP (pdT 198) (eLoad1 (slotG 197)),
  cP (pdT 199) 17 [(slotG 196), (slotG 198)],
  oP (pdT 4) (eMov (slotG 199))]
noncomputable def R8_23 : CT :=
  .reg [
  oP (pdT 200) (e1 (cAddo 0) (slotG 3)),
  oP (pdT 201) (eLoad1 (slotG 200)),
  oP (pdT 202) (e2 (cEq false .num) (slotG 201) (constG (.int .i64 11))),
  oP (pdT 4) (eMov (slotG 202))]
noncomputable def B8 : CT := (.seq R8_0 (.seq (.seq R8_1 (.cond (slotG 9) (.seq R8_2 .ret) .skip)) (.seq (.seq R8_3 (.cond (slotG 16) (.seq R8_4 .ret) .skip)) (.seq (.seq R8_5 (.cond (slotG 53) (.seq R8_6 .ret) .skip)) (.seq (.seq R8_7 (.cond (slotG 66) (.seq R8_8 .ret) .skip)) (.seq (.seq R8_9 (.cond (slotG 89) (.seq R8_10 .ret) .skip)) (.seq (.seq R8_11 (.cond (slotG 101) (.seq R8_12 (.seq R8_13 (.seq R8_14 .ret))) .skip)) (.seq (.seq R8_15 (.cond (slotG 158) (.seq R8_16 .ret) .skip)) (.seq (.seq R8_17 (.cond (slotG 171) (.seq R8_18 .ret) .skip)) (.seq (.seq R8_19 (.cond (slotG 180) (.seq R8_20 .ret) .skip)) (.seq (.seq R8_21 (.cond (slotG 195) (.seq R8_22 .ret) .skip)) (.seq R8_23 .ret))))))))))))
noncomputable def A8 : CF := { res := [rTmp 4], code := B8, nt := 203 }
theorem c8 : ctF Tryz.prog 8 = some A8 := by kernel_rfl

/-! 11: cadastre/emit.may$1 -/
noncomputable def R11_0 : CT :=
  .reg [
  oP (pdT 3) (eMov (constG (.bool false)))]
noncomputable def R11_1 : CT :=
  .reg [
  oP (pdT 4) (eMov (slotG 0)),
  oP (pdT 5) (e2 (cBin .geq) (slotG 4) (constG (.int .i64 0))),
  oP (pdT 6) (eMov (slotG 5)),
  gP (slotG 6) true (pdT 7) (eMov (slotG 0)),
  gP (slotG 6) true (pdT 8) (e1 (cAddo 0) (slotG 1)),
  gP (slotG 6) true (pdT 9) (eLoad1 (slotG 8)),
  gP (slotG 6) true (pdT 10) (e2 (cBin .lss) (slotG 7) (slotG 9)),
  oP (pdT 11) (ePick (slotG 6) (slotG 10) (constG (.bool false))),
  oP (pdT 3) (eMov (slotG 11))]
noncomputable def B11 : CT := (.seq R11_0 (.seq R11_1 .ret))
noncomputable def A11 : CF := { res := [rTmp 3], code := B11, nt := 12 }
theorem c11 : ctF Tryz.prog 11 = some A11 := by kernel_rfl

/-! 12: cadastre/emit.may$2 -/
noncomputable def R12_0 : CT :=
  .reg [
  oP (pdT 5) (eMov (constG (.bool false)))]
noncomputable def R12_1 : CT :=
  .reg [
  oP (pdT 6) (eMov (slotG 1)),
  oP (pdT 7) (e2 (cBin .geq) (slotG 6) (constG (.int .i64 0))),
  oP (pdT 8) (eMov (slotG 7)),
  gP (slotG 8) true (pdT 9) (eMov (slotG 1)),
  gP (slotG 8) true (pdT 10) (e2 (cBin .leq) (slotG 9) (constG (.int .i64 16))),
  oP (pdT 11) (ePick (slotG 8) (slotG 10) (constG (.bool false))),
  oP (pdT 12) (eMov (slotG 11)),
  gP (slotG 12) true (pdT 13) (eMov (slotG 0)),
  gP (slotG 12) true (pdT 14) (e2 (cBin .geq) (slotG 13) (constG (.int .i64 0))),
  oP (pdT 15) (ePick (slotG 12) (slotG 14) (constG (.bool false))),
  oP (pdT 16) (eMov (slotG 15)),
  gP (slotG 16) true (pdT 17) (eMov (slotG 0)),
  gP (slotG 16) true (pdT 18) (e1 (cAddo 0) (slotG 2)),
  gP (slotG 16) true (pdT 19) (eLoad1 (slotG 18)),
  gP (slotG 16) true (pdT 20) (eMov (slotG 1)),
  gP (slotG 16) true (pdT 21) (e2 (cBin .sub) (slotG 19) (slotG 20)),
  gP (slotG 16) true (pdT 22) (e2 (cBin .leq) (slotG 17) (slotG 21)),
  oP (pdT 23) (ePick (slotG 16) (slotG 22) (constG (.bool false))),
  oP (pdT 5) (eMov (slotG 23))]
noncomputable def B12 : CT := (.seq R12_0 (.seq R12_1 .ret))
noncomputable def A12 : CF := { res := [rTmp 5], code := B12, nt := 24 }
theorem c12 : ctF Tryz.prog 12 = some A12 := by kernel_rfl

/-! 13: cadastre/value.May -/
noncomputable def R13_0 : CT :=
  .reg [
  oP (pdT 1) (eBox (slotG 0)),
  oP (pdT 2) (eMov (constG (.bool false)))]
noncomputable def R13_1 : CT :=
  .reg [
  oP (pdT 3) (e1 (cAddo 0) (slotG 1)),
  oP (pdT 4) (eLoad1 (slotG 3))]
noncomputable def R13_2 : CT :=
  .reg [
  oP (pdT 6) (e2 (cEq false .num) (slotG 4) (constG (.int .i64 0))),
  oP (pdT 5) (eMov (slotG 6))]
noncomputable def R13_3 : CT :=
  .reg [
  oP (pdT 7) (eLoadN 3 (slotG 1)),
  oP (pdT 8) (eBuild [(.int .i64 0), (.int .i64 0), (.str [])] 3 []),
  oP (pdT 9) (e2 (cEqA false [.i, .i, .s]) (slotG 7) (slotG 8)),
  oP (pdT 2) (eMov (slotG 9))]
noncomputable def R13_4 : CT :=
  .reg [
  oP (pdT 11) (e2 (cEq false .num) (slotG 4) (constG (.int .i64 1))),
  oP (pdT 10) (eMov (slotG 11))]
noncomputable def R13_5 : CT :=
  .reg [
  oP (pdT 12) (e1 (cAddo 2) (slotG 1)),
  oP (pdT 13) (eLoad1 (slotG 12)),
  oP (pdT 14) (e2 (cEq false .num) (slotG 13) (constG (.str []))),
  oP (pdT 2) (eMov (slotG 14))]
noncomputable def R13_6 : CT :=
  .reg [
  oP (pdT 16) (e2 (cEq false .num) (slotG 4) (constG (.int .i64 2))),
  oP (pdT 15) (eMov (slotG 16))]
noncomputable def R13_7 : CT :=
  .reg [
  oP (pdT 17) (e1 (cAddo 1) (slotG 1)),
  oP (pdT 18) (eLoad1 (slotG 17)),
  oP (pdT 19) (e2 (cEq false .num) (slotG 18) (constG (.int .i64 0))),
  oP (pdT 20) (eMov (slotG 19)),
  gP (slotG 20) true (pdT 21) (e1 (cAddo 2) (slotG 1)),
  gP (slotG 20) true (pdT 22) (eLoad1 (slotG 21)),
  gP (slotG 20) true (pdT 23) (e1 cLenS (slotG 22)),
  gP (slotG 20) true (pdT 24) (e2 (cBin .leq) (slotG 23) (constG (.int .i64 64))),
  oP (pdT 25) (ePick (slotG 20) (slotG 24) (constG (.bool false))),
  oP (pdT 2) (eMov (slotG 25))]
noncomputable def R13_8 : CT :=
  .reg [
  oP (pdT 27) (e2 (cEq false .num) (slotG 4) (constG (.int .i64 3))),
  oP (pdT 26) (eMov (slotG 27))]
noncomputable def R13_9 : CT :=
  .reg [
  oP (pdT 28) (e1 (cAddo 2) (slotG 1)),
  oP (pdT 29) (eLoad1 (slotG 28)),
  oP (pdT 30) (e2 (cEq false .num) (slotG 29) (constG (.str []))),
  oP (pdT 31) (eMov (slotG 30)),
  gP (slotG 31) true (pdT 32) (e1 (cAddo 1) (slotG 1)),
  gP (slotG 31) true (pdT 33) (eLoad1 (slotG 32)),
  gP (slotG 31) true (pdT 34) (e2 (cEq false .num) (slotG 33) (constG (.int .i64 0))),
  gP (slotG 31) true (pdT 35) (eMov (slotG 34)),
  gP (slotG 35) false (pdT 36) (e1 (cAddo 1) (slotG 1)),
  gP (slotG 35) false (pdT 37) (eLoad1 (slotG 36)),
  gP (slotG 35) false (pdT 38) (e2 (cEq false .num) (slotG 37) (constG (.int .i64 1))),
  gP (slotG 31) true (pdT 39) (ePick (slotG 35) (constG (.bool true)) (slotG 38)),
  oP (pdT 40) (ePick (slotG 31) (slotG 39) (constG (.bool false))),
  oP (pdT 2) (eMov (slotG 40))]
noncomputable def R13_10 : CT :=
  .reg [
  oP (pdT 2) (eMov (constG (.bool false)))]
noncomputable def B13 : CT := (.seq R13_0 (.seq (.seq R13_1 (.block 0 (.seq R13_2 (.cond (slotG 5) (.seq R13_3 .ret) (.seq R13_4 (.cond (slotG 10) (.seq R13_5 .ret) (.seq R13_6 (.cond (slotG 15) (.seq R13_7 .ret) (.seq R13_8 (.cond (slotG 26) (.seq R13_9 .ret) .skip)))))))))) (.seq R13_10 .ret)))
noncomputable def A13 : CF := { res := [rTmp 2], code := B13, nt := 41 }
theorem c13 : ctF Tryz.prog 13 = some A13 := by kernel_rfl

/-! 14: cadastre/cadastreref24.cursor -/
noncomputable def R14_0 : CT :=
  .reg [
  oP (pdT 2) (eBox (slotG 0)),
  oP (pdT 4) (eMov (constG (.bool false)))]
noncomputable def R14_1 : CT :=
  .reg [
  oP (pdT 5) (eMov (slotG 1)),
  oP (pdT 6) (e2 (cBin .geq) (slotG 5) (constG (.int .i64 0))),
  oP (pdT 7) (eMov (slotG 6)),
  gP (slotG 7) true (pdT 8) (eMov (slotG 1)),
  gP (slotG 7) true (pdT 9) (e1 (cAddo 1) (slotG 2)),
  gP (slotG 7) true (pdT 10) (eLoad1 (slotG 9)),
  gP (slotG 7) true (pdT 11) (e2 (cBin .lss) (slotG 8) (slotG 10)),
  oP (pdT 12) (ePick (slotG 7) (slotG 11) (constG (.bool false))),
  oP (pdT 4) (eMov (slotG 12))]
noncomputable def B14 : CT := (.seq R14_0 (.seq R14_1 .ret))
noncomputable def A14 : CF := { res := [rTmp 4], code := B14, nt := 13 }
theorem c14 : ctF Tryz.prog 14 = some A14 := by kernel_rfl

/-! 15: cadastre/cadastreref24.regs -/
noncomputable def R15_0 : CT :=
  .reg [
  oP (pdT 3) (eBox (slotG 0)),
  oP (pdT 6) (eMov (constG (.bool false)))]
noncomputable def R15_1 : CT :=
  .reg [
  oP (pdT 7) (eMov (slotG 2)),
  oP (pdT 8) (e2 (cBin .geq) (slotG 7) (constG (.int .i64 0))),
  oP (pdT 9) (eMov (slotG 8)),
  gP (slotG 9) true (pdT 10) (eMov (slotG 2)),
  gP (slotG 9) true (pdT 11) (e2 (cBin .leq) (slotG 10) (constG (.int .i64 16))),
  oP (pdT 12) (ePick (slotG 9) (slotG 11) (constG (.bool false))),
  oP (pdT 13) (eMov (slotG 12)),
  gP (slotG 13) true (pdT 14) (eMov (slotG 1)),
  gP (slotG 13) true (pdT 15) (e2 (cBin .geq) (slotG 14) (constG (.int .i64 0))),
  oP (pdT 16) (ePick (slotG 13) (slotG 15) (constG (.bool false))),
  oP (pdT 17) (eMov (slotG 16)),
  gP (slotG 17) true (pdT 18) (eMov (slotG 1)),
  gP (slotG 17) true (pdT 19) (e1 (cAddo 0) (slotG 3)),
  gP (slotG 17) true (pdT 20) (eLoad1 (slotG 19)),
  gP (slotG 17) true (pdT 21) (e2 (cBin .leq) (slotG 18) (slotG 20)),
  oP (pdT 22) (ePick (slotG 17) (slotG 21) (constG (.bool false))),
  oP (pdT 23) (eMov (slotG 22)),
  gP (slotG 23) true (pdT 24) (eMov (slotG 2)),
  gP (slotG 23) true (pdT 25) (e1 (cAddo 0) (slotG 3)),
  gP (slotG 23) true (pdT 26) (eLoad1 (slotG 25)),
  gP (slotG 23) true (pdT 27) (eMov (slotG 1)),
  gP (slotG 23) true (pdT 28) (e2 (cBin .sub) (slotG 26) (slotG 27)),
  gP (slotG 23) true (pdT 29) (e2 (cBin .leq) (slotG 24) (slotG 28)),
  oP (pdT 30) (ePick (slotG 23) (slotG 29) (constG (.bool false))),
  oP (pdT 6) (eMov (slotG 30))]
noncomputable def B15 : CT := (.seq R15_0 (.seq R15_1 .ret))
noncomputable def A15 : CF := { res := [rTmp 6], code := B15, nt := 31 }
theorem c15 : ctF Tryz.prog 15 = some A15 := by kernel_rfl

/-! 16: cadastre/cadastreref24.reg -/
noncomputable def R16_0 : CT :=
  .reg [
  oP (pdT 2) (eBox (slotG 0)),
  oP (pdT 4) (eMov (constG (.bool false)))]
noncomputable def R16_1 : CT :=
  .reg [
  oP (pdT 5) (eMov (slotG 1)),
  oP (pdT 6) (e2 (cBin .geq) (slotG 5) (constG (.int .i64 0))),
  oP (pdT 7) (eMov (slotG 6)),
  gP (slotG 7) true (pdT 8) (eMov (slotG 1)),
  gP (slotG 7) true (pdT 9) (e1 (cAddo 0) (slotG 2)),
  gP (slotG 7) true (pdT 10) (eLoad1 (slotG 9)),
  gP (slotG 7) true (pdT 11) (e2 (cBin .lss) (slotG 8) (slotG 10)),
  oP (pdT 12) (ePick (slotG 7) (slotG 11) (constG (.bool false))),
  oP (pdT 4) (eMov (slotG 12))]
noncomputable def B16 : CT := (.seq R16_0 (.seq R16_1 .ret))
noncomputable def A16 : CF := { res := [rTmp 4], code := B16, nt := 13 }
theorem c16 : ctF Tryz.prog 16 = some A16 := by kernel_rfl

/-! 17: cadastre/cadastreref24.target -/
noncomputable def R17_0 : CT :=
  .reg [
  oP (pdT 2) (eBox (slotG 0)),
  oP (pdT 4) (eMov (constG (.bool false)))]
noncomputable def R17_1 : CT :=
  .reg [
  oP (pdT 5) (eMov (slotG 1)),
  oP (pdT 6) (e2 (cBin .geq) (slotG 5) (constG (.int .i64 0))),
  oP (pdT 7) (eMov (slotG 6)),
  gP (slotG 7) true (pdT 8) (eMov (slotG 1)),
  gP (slotG 7) true (pdT 9) (e1 (cAddo 2) (slotG 2)),
  gP (slotG 7) true (pdT 10) (eLoad1 (slotG 9)),
  gP (slotG 7) true (pdT 11) (e1 cLenL (slotG 10)),
  gP (slotG 7) true (pdT 12) (e2 (cBin .leq) (slotG 8) (slotG 11)),
  oP (pdT 13) (ePick (slotG 7) (slotG 12) (constG (.bool false))),
  oP (pdT 4) (eMov (slotG 13))]
noncomputable def B17 : CT := (.seq R17_0 (.seq R17_1 .ret))
noncomputable def A17 : CF := { res := [rTmp 4], code := B17, nt := 14 }
theorem c17 : ctF Tryz.prog 17 = some A17 := by kernel_rfl

/-! 18: cadastre/cadastreref03.May -/
noncomputable def R18_0 : CT :=
  .reg [
  oP (pdT 1) (eBox (slotG 0)),
  oP (pdT 2) (eMov (constG (.bool false)))]
noncomputable def R18_1 : CT :=
  .reg [
  oP (pdT 3) (e1 (cAddo 0) (slotG 1)),
  oP (pdT 4) (eLoad1 (slotG 3)),
  oP (pdT 5) (e2 (cEq false .num) (slotG 4) (constG (.int .i64 0)))]
noncomputable def R18_2 : CT :=
  .reg [
  oP (pdT 6) (e1 (cAddo 1) (slotG 1)),
  oP (pdT 7) (eLoad1 (slotG 6)),
  oP (pdT 8) (e2 (cEq false .num) (slotG 7) (constG (.int .i64 0))),
  oP (pdT 9) (eMov (slotG 8)),
  gP (slotG 9) true (pdT 10) (e1 (cAddo 2) (slotG 1)),
  gP (slotG 9) true (pdT 11) (eLoad1 (slotG 10)),
  gP (slotG 9) true (pdT 12) (e2 (cEq false .num) (slotG 11) (constG (.str []))),
  oP (pdT 13) (ePick (slotG 9) (slotG 12) (constG (.bool false))),
  oP (pdT 2) (eMov (slotG 13))]
noncomputable def R18_3 : CT :=
  .reg [
  oP (pdT 14) (e1 (cAddo 0) (slotG 1)),
  oP (pdT 15) (eLoad1 (slotG 14)),
  oP (pdT 16) (e2 (cEq false .num) (slotG 15) (constG (.int .i64 1)))]
noncomputable def R18_4 : CT :=
  .reg [
  oP (pdT 17) (e1 (cAddo 2) (slotG 1)),
  oP (pdT 18) (eLoad1 (slotG 17)),
  oP (pdT 19) (e2 (cEq false .num) (slotG 18) (constG (.str []))),
  oP (pdT 2) (eMov (slotG 19))]
noncomputable def R18_5 : CT :=
  .reg [
  oP (pdT 20) (e1 (cAddo 0) (slotG 1)),
  oP (pdT 21) (eLoad1 (slotG 20)),
  oP (pdT 22) (e2 (cEq false .num) (slotG 21) (constG (.int .i64 2)))]
noncomputable def R18_6 : CT :=
  .reg [
  oP (pdT 23) (e1 (cAddo 1) (slotG 1)),
  oP (pdT 24) (eLoad1 (slotG 23)),
  oP (pdT 25) (e2 (cEq false .num) (slotG 24) (constG (.int .i64 0))),
  oP (pdT 26) (eMov (slotG 25)),
  gP (slotG 26) true (pdT 27) (e1 (cAddo 2) (slotG 1)),
  gP (slotG 26) true (pdT 28) (eLoad1 (slotG 27)),
  gP (slotG 26) true (pdT 29) (e1 cLenS (slotG 28)),
  gP (slotG 26) true (pdT 30) (e2 (cBin .leq) (slotG 29) (constG (.int .i64 64))),
  oP (pdT 31) (ePick (slotG 26) (slotG 30) (constG (.bool false))),
  oP (pdT 2) (eMov (slotG 31))]
noncomputable def R18_7 : CT :=
  .reg [
  oP (pdT 32) (e1 (cAddo 0) (slotG 1)),
  oP (pdT 33) (eLoad1 (slotG 32)),
  oP (pdT 34) (e2 (cEq false .num) (slotG 33) (constG (.int .i64 3))),
  oP (pdT 35) (eMov (slotG 34)),
  gP (slotG 35) true (pdT 36) (e1 (cAddo 2) (slotG 1)),
  gP (slotG 35) true (pdT 37) (eLoad1 (slotG 36)),
  gP (slotG 35) true (pdT 38) (e2 (cEq false .num) (slotG 37) (constG (.str []))),
  oP (pdT 39) (ePick (slotG 35) (slotG 38) (constG (.bool false))),
  oP (pdT 40) (eMov (slotG 39)),
  gP (slotG 40) true (pdT 41) (e1 (cAddo 1) (slotG 1)),
  gP (slotG 40) true (pdT 42) (eLoad1 (slotG 41)),
  gP (slotG 40) true (pdT 43) (e2 (cBin .geq) (slotG 42) (constG (.int .i64 0))),
  oP (pdT 44) (ePick (slotG 40) (slotG 43) (constG (.bool false))),
  oP (pdT 45) (eMov (slotG 44)),
  gP (slotG 45) true (pdT 46) (e1 (cAddo 1) (slotG 1)),
  gP (slotG 45) true (pdT 47) (eLoad1 (slotG 46)),
  gP (slotG 45) true (pdT 48) (e2 (cBin .leq) (slotG 47) (constG (.int .i64 1))),
  oP (pdT 49) (ePick (slotG 45) (slotG 48) (constG (.bool false))),
  oP (pdT 2) (eMov (slotG 49))]
noncomputable def B18 : CT := (.seq R18_0 (.seq (.seq R18_1 (.cond (slotG 5) (.seq R18_2 .ret) .skip)) (.seq (.seq R18_3 (.cond (slotG 16) (.seq R18_4 .ret) .skip)) (.seq (.seq R18_5 (.cond (slotG 22) (.seq R18_6 .ret) .skip)) (.seq R18_7 .ret)))))
noncomputable def A18 : CF := { res := [rTmp 2], code := B18, nt := 50 }
theorem c18 : ctF Tryz.prog 18 = some A18 := by kernel_rfl

end Go.Abs
