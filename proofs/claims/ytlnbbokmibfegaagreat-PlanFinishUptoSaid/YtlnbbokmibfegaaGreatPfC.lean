/- A part of the proof. -/
import Derived.Test.YtlnbbokmibfegaaGreatProg
import Derived.KernelRfl
import Derived.Test.YtlnbbokmibfegaaGreatAbs5
import Derived.Test.YtlnbbokmibfegaaGreatAbs6
namespace Go.Abs
open Go.Proofs
set_option maxRecDepth 100000
/-! 3: cadastre/cadastrelaw23.PlanFinish -/
noncomputable def R3_0 : CT :=
  .reg [
  oP (pdT 2) (eBox (slotG 0)),
  oP (pdT 4) (eMov (constG (.bool false)))]
noncomputable def R3_1 : CT :=
  .reg [
  oP (pdT 7) (eMov (slotG 1)),
  oP (pdT 8) (e1 cLenL (slotG 7)),
  oP (pdT 9) (e2 (cBin .gtr) (slotG 8) (constG (.int .i64 300)))]
noncomputable def R3_2 : CT :=
  .reg [
  cP (pdT 10) 4 [],
  oP (pdT 4) (eMov (slotG 10))]
noncomputable def R3_3 : CT :=
  .reg [
  oP (pdT 5) (eMov (constG (.int .i64 0)))]
noncomputable def R3_4 : CT :=
  .reg [
  oP (pdT 11) (eMov (slotG 5)),
  oP (pdT 12) (eMov (slotG 1)),
  oP (pdT 13) (e1 cLenL (slotG 12)),
  oP (pdT 14) (e2 (cBin .lss) (slotG 11) (slotG 13))]
noncomputable def R3_5 : CT :=
  .reg [
  oP (pdT 17) (eMov (slotG 1)),
  oP (pdT 18) (eMov (slotG 5)),
  oP (pdT 19) (e2 (cIxa 1) (slotG 17) (slotG 18)),
  oP (pdT 20) (eLoad1 (slotG 19)),
  cP (pdT 21) 5 [(slotG 20)],
  oP (pdT 22) (e1 (cUn .not) (slotG 21))]
noncomputable def R3_6 : CT :=
  .reg [
  cP (pdT 23) 4 [],
  oP (pdT 4) (eMov (slotG 23))]
noncomputable def R3_7 : CT :=
  .reg [
  oP (pdT 6) (eMov (constG (.int .i64 0)))]
noncomputable def R3_8 : CT :=
  .reg [
  oP (pdT 24) (eMov (slotG 6)),
  oP (pdT 25) (e1 (cAddo 21) (slotG 2)),
  oP (pdT 26) (eLoad1 (slotG 25)),
  oP (pdT 27) (e1 cLenL (slotG 26)),
  oP (pdT 28) (e2 (cBin .lss) (slotG 24) (slotG 27))]
noncomputable def R3_9 : CT :=
  .drw [31, 32, 33, 34, 35, 36, 37, 38, 39, 40, 41, 42, 43, 44, 45, 46, 47, 48, 49, 50, 51] [
  oI [2] (pdT 31) (e1 (cAddo 21) (slotG 2)) 1,
  oI [31] (pdT 32) (eLoad1 (slotG 31)) 1,
  oI [6] (pdT 33) (eMov (slotG 6)) 1,
  oI [32, 33] (pdT 34) (e2 (cIxa 2) (slotG 32) (slotG 33)) 1,
  oI [34] (pdT 35) (e1 (cAddo 0) (slotG 34)) 1,
  oI [35] (pdT 36) (eLoad1 (slotG 35)) 1,
  oI [36] (pdT 37) (e2 (cBin .lss) (slotG 36) (constG (.int .i64 0))) 1,
  oI [37] (pdT 38) (eMov (slotG 37)) 1,
  goI [38, 2] (slotG 38) false (pdT 39) (e1 (cAddo 21) (slotG 2)) 1,
  goI [38, 39] (slotG 38) false (pdT 40) (eLoad1 (slotG 39)) 1,
  goI [38, 6] (slotG 38) false (pdT 41) (eMov (slotG 6)) 1,
  goI [38, 40, 41] (slotG 38) false (pdT 42) (e2 (cIxa 2) (slotG 40) (slotG 41)) 1,
  goI [38, 42] (slotG 38) false (pdT 43) (e1 (cAddo 0) (slotG 42)) 1,
  goI [38, 43] (slotG 38) false (pdT 44) (eLoad1 (slotG 43)) 1,
  goI [38, 1] (slotG 38) false (pdT 45) (eMov (slotG 1)) 1,
  goI [38, 5] (slotG 38) false (pdT 46) (eMov (slotG 5)) 1,
  goI [38, 45, 46] (slotG 38) false (pdT 47) (e2 (cIxa 1) (slotG 45) (slotG 46)) 1,
  goI [38, 47] (slotG 38) false (pdT 48) (eLoad1 (slotG 47)) 1,
  goI [38, 48] (slotG 38) false (pdT 49) (e1 cLenL (slotG 48)) 1,
  goI [38, 44, 49] (slotG 38) false (pdT 50) (e2 (cBin .geq) (slotG 44) (slotG 49)) 1,
  oI [38, 50] (pdT 51) (ePick (slotG 38) (constG (.bool true)) (slotG 50)) 1]
noncomputable def R3_10 : CT :=
  .reg [
  cP (pdT 52) 4 [],
  oP (pdT 4) (eMov (slotG 52))]
noncomputable def R3_11 : CT :=
  .reg [
  oP (pdT 29) (eMov (slotG 6)),
  oP (pdT 30) (e2 (cBin .add) (slotG 29) (constG (.int .i64 1))),
  oP (pdT 6) (eMov (slotG 30))]
noncomputable def L3_0 : CT := (.seq (.seq R3_8 (.cond (slotG 28) .skip (.exit 2))) (.seq (.block 3 (.seq R3_9 (.cond (slotG 51) (.seq R3_10 .ret) .skip))) R3_11))
noncomputable def R3_12 : CT :=
  .reg [
  oP (pdT 15) (eMov (slotG 5)),
  oP (pdT 16) (e2 (cBin .add) (slotG 15) (constG (.int .i64 1))),
  oP (pdT 5) (eMov (slotG 16))]
noncomputable def L3_1 : CT := (.seq (.seq R3_4 (.cond (slotG 14) .skip (.exit 0))) (.seq (.block 1 (.seq (.seq R3_5 (.cond (slotG 22) (.seq R3_6 .ret) .skip)) (.seq R3_7 (.block 2 (.loop L3_0))))) R3_12))
noncomputable def R3_13 : CT :=
  .drw [53, 54, 55, 56, 57, 58, 59, 60, 61, 62] [
  oI [2] (pdT 53) (eLoadN 25 (slotG 2)) 1,
  oI [1] (pdT 54) (eMov (slotG 1)) 1,
  cI [53, 54] (pdT 55) 7 [(slotG 53), (slotG 54)],
  oI [2] (pdT 56) (eLoadN 25 (slotG 2)) 2,
  oI [1] (pdT 57) (eMov (slotG 1)) 2,
  cI [56, 57] (pdT 58) 8 [(slotG 56), (slotG 57)],
  cI [55, 58] (pdT 59) 6 [(slotG 55), (slotG 58)],
  oI [59] (pdT 60) (eMov (slotG 59)) 1,
  gcI [60] (slotG 60) true (pdT 61) 4 [],
  oI [60, 61] (pdT 62) (ePick (slotG 60) (slotG 61) (constG (.bool false))) 1,
  oI [62] (pdT 4) (eMov (slotG 62)) 1]
noncomputable def B3 : CT := (.seq R3_0 (.seq (.seq R3_1 (.cond (slotG 9) (.seq R3_2 .ret) .skip)) (.seq (.seq R3_3 (.block 0 (.loop L3_1))) (.seq R3_13 .ret))))
noncomputable def A3 : CF := { res := [rTmp 4], code := B3, nt := 63 }
theorem c3 : ctF Tryz.prog 3 = some A3 := by kernel_rfl

/-! 5: cadastre/cadastrelaw23.whole -/
noncomputable def R5_0 : CT :=
  .reg [
  oP (pdT 2) (eMov (constG (.bool false)))]
noncomputable def R5_1 : CT :=
  .reg [
  oP (pdT 6) (eBuild [(.int .i64 0), (.int .i64 0), (.int .i64 0), (.str []), (.str []), (.str []), (.int .i64 0), (.cst (.slice none 0 0))] 8 [(0, 1, (constG (.int .i64 1)))]),
  oP (pdT 7) (eMov (slotG 0)),
  cP (pdT 8) 15 [(slotG 6), (slotG 7)],
  oP (pdT 5) (eMov (slotG 8)),
  oP (pdT 9) (e1 (cExt 0) (slotG 5)),
  oP (pdT 10) (e1 (cExt 1) (slotG 5)),
  oP (pdT 3) (eAlloc [(.int .i64 0), (.int .i64 0), (.str [])] 3),
  oP pdN (eStore 3 (slotG 3) (slotG 9)),
  oP (pdT 4) (eMov (slotG 10))]
noncomputable def R5_2 : CT :=
  .reg [
  oP (pdT 11) (eMov (slotG 4)),
  oP (pdT 12) (e2 (cEq false .num) (slotG 11) (constG (.int .i64 0))),
  oP (pdT 2) (eMov (slotG 12))]
noncomputable def B5 : CT := (.seq R5_0 (.seq R5_1 (.seq R5_2 .ret)))
noncomputable def A5 : CF := { res := [rTmp 2], code := B5, nt := 13 }
theorem c5 : ctF Tryz.prog 5 = some A5 := by kernel_rfl

/-! 6: cadastre/cadastreref17.SameRows -/
noncomputable def R6_0 : CT :=
  .reg [
  oP (pdT 4) (eMov (constG (.bool false)))]
noncomputable def R6_1 : CT :=
  .reg [
  oP (pdT 6) (eMov (slotG 0)),
  oP (pdT 7) (e1 cLenL (slotG 6)),
  oP (pdT 8) (eMov (slotG 1)),
  oP (pdT 9) (e1 cLenL (slotG 8)),
  oP (pdT 10) (e2 (cEq true .num) (slotG 7) (slotG 9))]
noncomputable def R6_2 : CT :=
  .reg [
  oP (pdT 4) (eMov (constG (.bool false)))]
noncomputable def R6_3 : CT :=
  .reg [
  oP (pdT 5) (eMov (constG (.int .i64 0)))]
noncomputable def R6_4 : CT :=
  .reg [
  oP (pdT 11) (eMov (slotG 5)),
  oP (pdT 12) (eMov (slotG 0)),
  oP (pdT 13) (e1 cLenL (slotG 12)),
  oP (pdT 14) (e2 (cBin .lss) (slotG 11) (slotG 13))]
noncomputable def R6_5 : CT :=
  .drw [17, 18, 19, 20, 21, 22, 23, 24, 25, 26] [
  oI [0] (pdT 17) (eMov (slotG 0)) 1,
  oI [5] (pdT 18) (eMov (slotG 5)) 1,
  oI [17, 18] (pdT 19) (e2 (cIxa 1) (slotG 17) (slotG 18)) 1,
  oI [19] (pdT 20) (eLoad1 (slotG 19)) 1,
  oI [1] (pdT 21) (eMov (slotG 1)) 1,
  oI [5] (pdT 22) (eMov (slotG 5)) 1,
  oI [21, 22] (pdT 23) (e2 (cIxa 1) (slotG 21) (slotG 22)) 1,
  oI [23] (pdT 24) (eLoad1 (slotG 23)) 1,
  cI [20, 24] (pdT 25) 16 [(slotG 20), (slotG 24)],
  oI [25] (pdT 26) (e1 (cUn .not) (slotG 25)) 1]
noncomputable def R6_6 : CT :=
  .reg [
  oP (pdT 4) (eMov (constG (.bool false)))]
noncomputable def R6_7 : CT :=
  .reg [
  oP (pdT 15) (eMov (slotG 5)),
  oP (pdT 16) (e2 (cBin .add) (slotG 15) (constG (.int .i64 1))),
  oP (pdT 5) (eMov (slotG 16))]
noncomputable def L6_0 : CT := (.seq (.seq R6_4 (.cond (slotG 14) .skip (.exit 0))) (.seq (.block 1 (.seq R6_5 (.cond (slotG 26) (.seq R6_6 .ret) .skip))) R6_7))
noncomputable def R6_8 : CT :=
  .reg [
  oP (pdT 4) (eMov (constG (.bool true)))]
noncomputable def B6 : CT := (.seq R6_0 (.seq (.seq R6_1 (.cond (slotG 10) (.seq R6_2 .ret) .skip)) (.seq (.seq R6_3 (.block 0 (.loop L6_0))) (.seq R6_8 .ret))))
noncomputable def A6 : CF := { res := [rTmp 4], code := B6, nt := 27 }
theorem c6 : ctF Tryz.prog 6 = some A6 := by kernel_rfl

/-! 7: cadastre/plan.Finish -/
noncomputable def R7_0 : CT :=
  .reg [
  oP (pdT 2) (eBox (slotG 0)),
  oP (pdT 4) (eMov (constG (.cst (.slice none 0 0))))]
noncomputable def R7_1 : CT :=
  .reg [
  oP (pdT 7) (eMov (slotG 1)),
  cP (pdT 8) 17 [(slotG 7)],
  oP (pdT 5) (eMov (slotG 8))]
noncomputable def R7_2 : CT :=
  .reg [
  oP (pdT 9) (e1 (cAddo 22) (slotG 2)),
  oP (pdT 10) (eLoad1 (slotG 9))]
noncomputable def R7_3 : CT :=
  .reg [
  oP (pdT 11) (eMov (slotG 5)),
  cP (pdT 12) 18 [(slotG 11), (constG (.fn (.func 19) [] []))],
  oP (pdT 5) (eMov (slotG 12))]
noncomputable def R7_4 : CT :=
  .reg [
  oP (pdT 13) (eMov (slotG 5)),
  oP (pdT 14) (eMkfn (.func 21) [] [(slotG 2)]),
  cP (pdT 15) 20 [(slotG 13), (slotG 14)]]
noncomputable def R7_5 : CT :=
  .reg [
  oP (pdT 16) (e1 (cAddo 23) (slotG 2)),
  oP (pdT 17) (eLoad1 (slotG 16)),
  oP (pdT 18) (eMov (slotG 17)),
  gP (slotG 18) true (pdT 19) (e1 (cAddo 24) (slotG 2)),
  gP (slotG 18) true (pdT 20) (eLoad1 (slotG 19)),
  gP (slotG 18) true (pdT 21) (eMov (slotG 5)),
  gP (slotG 18) true (pdT 22) (e1 cLenL (slotG 21)),
  gP (slotG 18) true (pdT 23) (e2 (cBin .lss) (slotG 20) (slotG 22)),
  oP (pdT 24) (ePick (slotG 18) (slotG 23) (constG (.bool false)))]
noncomputable def R7_6 : CT :=
  .reg [
  oP (pdT 25) (e1 (cAddo 24) (slotG 2)),
  oP (pdT 26) (eLoad1 (slotG 25)),
  oP (pdT 27) (eMnx maxI [(slotG 26), (constG (.int .i64 0))]),
  oP (pdT 6) (eMov (slotG 27))]
noncomputable def R7_7 : CT :=
  .reg [
  oP (pdT 28) (eMov (slotG 5)),
  oP (pdT 29) (eMov (slotG 6)),
  oP (pdT 30) (eMov (slotG 6)),
  oP (pdT 31) (eSl (cSlc 1) (slotG 28) none (some (slotG 29)) (some (slotG 30))),
  oP (pdT 5) (eMov (slotG 31))]
noncomputable def R7_8 : CT :=
  .reg [
  oP (pdT 32) (eMov (slotG 5)),
  oP (pdT 4) (eMov (slotG 32))]
noncomputable def B7 : CT := (.seq R7_0 (.seq R7_1 (.seq (.seq R7_2 (.cond (slotG 10) R7_3 .skip)) (.seq R7_4 (.seq (.seq R7_5 (.cond (slotG 24) (.seq R7_6 R7_7) .skip)) (.seq R7_8 .ret))))))
noncomputable def A7 : CF := { res := [rTmp 4], code := B7, nt := 33 }
theorem c7 : ctF Tryz.prog 7 = some A7 := by kernel_rfl

/-! 8: cadastre/cadastreref23.Finish -/
noncomputable def R8_0 : CT :=
  .reg [
  oP (pdT 2) (eBox (slotG 0)),
  oP (pdT 4) (eMov (constG (.cst (.slice none 0 0))))]
noncomputable def R8_1 : CT :=
  .reg [
  oP (pdT 6) (eMov (slotG 1)),
  oP (pdT 7) (e1 (cAddo 21) (slotG 2)),
  oP (pdT 8) (eLoad1 (slotG 7)),
  cP (pdT 9) 23 [(slotG 6), (slotG 8)],
  oP (pdT 5) (eMov (slotG 9))]
noncomputable def R8_2 : CT :=
  .reg [
  oP (pdT 10) (e1 (cAddo 22) (slotG 2)),
  oP (pdT 11) (eLoad1 (slotG 10))]
noncomputable def R8_3 : CT :=
  .reg [
  oP (pdT 12) (eMov (slotG 5)),
  cP (pdT 13) 24 [(slotG 12)],
  oP (pdT 5) (eMov (slotG 13))]
noncomputable def R8_4 : CT :=
  .reg [
  oP (pdT 14) (e1 (cAddo 23) (slotG 2)),
  oP (pdT 15) (eLoad1 (slotG 14)),
  oP (pdT 16) (eMov (slotG 15)),
  gP (slotG 16) true (pdT 17) (e1 (cAddo 24) (slotG 2)),
  gP (slotG 16) true (pdT 18) (eLoad1 (slotG 17)),
  gP (slotG 16) true (pdT 19) (eMov (slotG 5)),
  gP (slotG 16) true (pdT 20) (e1 cLenL (slotG 19)),
  gP (slotG 16) true (pdT 21) (e2 (cBin .lss) (slotG 18) (slotG 20)),
  oP (pdT 22) (ePick (slotG 16) (slotG 21) (constG (.bool false)))]
noncomputable def R8_5 : CT :=
  .reg [
  oP (pdT 23) (eMov (slotG 5)),
  oP (pdT 24) (e1 (cAddo 24) (slotG 2)),
  oP (pdT 25) (eLoad1 (slotG 24)),
  oP (pdT 26) (eMnx maxI [(slotG 25), (constG (.int .i64 0))]),
  oP (pdT 27) (eSl (cSlc 1) (slotG 23) none (some (slotG 26)) none),
  oP (pdT 5) (eMov (slotG 27))]
noncomputable def R8_6 : CT :=
  .reg [
  oP (pdT 28) (eMov (slotG 5)),
  oP (pdT 4) (eMov (slotG 28))]
noncomputable def B8 : CT := (.seq R8_0 (.seq R8_1 (.seq (.seq R8_2 (.cond (slotG 11) R8_3 .skip)) (.seq (.seq R8_4 (.cond (slotG 22) R8_5 .skip)) (.seq R8_6 .ret)))))
noncomputable def A8 : CF := { res := [rTmp 4], code := B8, nt := 29 }
theorem c8 : ctF Tryz.prog 8 = some A8 := by kernel_rfl

/-! 15: cadastre/cadastreref21.Eval -/
noncomputable def R15_0 : CT :=
  .reg [
  oP (pdT 2) (eBox (slotG 0)),
  oP (pdT 4) (eAlloc [(.int .i64 0), (.int .i64 0), (.str [])] 3),
  oP (pdT 5) (eMov (constG (.int .i64 0)))]
noncomputable def R15_1 : CT :=
  .reg [
  oP (pdT 6) (eLoadN 8 (slotG 2)),
  oP (pdT 7) (eMov (slotG 1)),
  oP (pdT 8) (e1 cLenL (slotG 7)),
  cP (pdT 9) 37 [(slotG 6), (slotG 8)],
  oP (pdT 10) (e1 (cUn .not) (slotG 9))]
noncomputable def R15_2 : CT :=
  .reg [
  oP (pdT 11) (eBuild [(.int .i64 0), (.int .i64 0), (.str [])] 3 []),
  oP pdN (eStore 3 (slotG 4) (slotG 11)),
  oP (pdT 5) (eMov (constG (.int .i64 1)))]
noncomputable def R15_3 : CT :=
  .reg [
  oP (pdT 12) (eMov (slotG 1)),
  cP (pdT 13) 38 [(slotG 12)],
  oP (pdT 14) (e1 (cUn .not) (slotG 13))]
noncomputable def R15_4 : CT :=
  .reg [
  oP (pdT 15) (eBuild [(.int .i64 0), (.int .i64 0), (.str [])] 3 []),
  oP pdN (eStore 3 (slotG 4) (slotG 15)),
  oP (pdT 5) (eMov (constG (.int .i64 5)))]
noncomputable def R15_5 : CT :=
  .reg [
  oP (pdT 16) (eLoadN 8 (slotG 2)),
  oP (pdT 17) (eMov (slotG 1)),
  cP (pdT 18) 39 [(slotG 16), (slotG 17)],
  oP (pdT 19) (e1 (cExt 0) (slotG 18)),
  oP (pdT 20) (e1 (cExt 1) (slotG 18)),
  oP pdN (eStore 3 (slotG 4) (slotG 19)),
  oP (pdT 5) (eMov (slotG 20))]
noncomputable def B15 : CT := (.seq R15_0 (.seq (.seq R15_1 (.cond (slotG 10) (.seq R15_2 .ret) .skip)) (.seq (.seq R15_3 (.cond (slotG 14) (.seq R15_4 .ret) .skip)) (.seq R15_5 .ret))))
noncomputable def A15 : CF := { res := [rCelN 4 3, rTmp 5], code := B15, nt := 21 }
theorem c15 : ctF Tryz.prog 15 = some A15 := by kernel_rfl

/-! 16: cadastre/cadastreref04.Same -/
noncomputable def R16_0 : CT :=
  .reg [
  oP (pdT 4) (eMov (constG (.bool false)))]
noncomputable def R16_1 : CT :=
  .reg [
  oP (pdT 6) (eMov (slotG 0)),
  oP (pdT 7) (e1 cLenL (slotG 6)),
  oP (pdT 8) (eMov (slotG 1)),
  oP (pdT 9) (e1 cLenL (slotG 8)),
  oP (pdT 10) (e2 (cEq true .num) (slotG 7) (slotG 9))]
noncomputable def R16_2 : CT :=
  .reg [
  oP (pdT 4) (eMov (constG (.bool false)))]
noncomputable def R16_3 : CT :=
  .reg [
  oP (pdT 5) (eMov (constG (.int .i64 0)))]
noncomputable def R16_4 : CT :=
  .reg [
  oP (pdT 11) (eMov (slotG 5)),
  oP (pdT 12) (eMov (slotG 0)),
  oP (pdT 13) (e1 cLenL (slotG 12)),
  oP (pdT 14) (e2 (cBin .lss) (slotG 11) (slotG 13))]
noncomputable def R16_5 : CT :=
  .drw [17, 18, 19, 20, 21, 22, 23, 24, 25] [
  oI [0] (pdT 17) (eMov (slotG 0)) 1,
  oI [5] (pdT 18) (eMov (slotG 5)) 1,
  oI [17, 18] (pdT 19) (e2 (cIxa 3) (slotG 17) (slotG 18)) 1,
  oI [19] (pdT 20) (eLoadN 3 (slotG 19)) 1,
  oI [1] (pdT 21) (eMov (slotG 1)) 1,
  oI [5] (pdT 22) (eMov (slotG 5)) 1,
  oI [21, 22] (pdT 23) (e2 (cIxa 3) (slotG 21) (slotG 22)) 1,
  oI [23] (pdT 24) (eLoadN 3 (slotG 23)) 1,
  oI [20, 24] (pdT 25) (e2 (cEqA true [.i, .i, .s]) (slotG 20) (slotG 24)) 1]
noncomputable def R16_6 : CT :=
  .reg [
  oP (pdT 4) (eMov (constG (.bool false)))]
noncomputable def R16_7 : CT :=
  .reg [
  oP (pdT 15) (eMov (slotG 5)),
  oP (pdT 16) (e2 (cBin .add) (slotG 15) (constG (.int .i64 1))),
  oP (pdT 5) (eMov (slotG 16))]
noncomputable def L16_0 : CT := (.seq (.seq R16_4 (.cond (slotG 14) .skip (.exit 0))) (.seq (.block 1 (.seq R16_5 (.cond (slotG 25) (.seq R16_6 .ret) .skip))) R16_7))
noncomputable def R16_8 : CT :=
  .reg [
  oP (pdT 4) (eMov (constG (.bool true)))]
noncomputable def B16 : CT := (.seq R16_0 (.seq (.seq R16_1 (.cond (slotG 10) (.seq R16_2 .ret) .skip)) (.seq (.seq R16_3 (.block 0 (.loop L16_0))) (.seq R16_8 .ret))))
noncomputable def A16 : CF := { res := [rTmp 4], code := B16, nt := 26 }
theorem c16 : ctF Tryz.prog 16 = some A16 := by kernel_rfl

/-! 17: cadastre/model.Sorted -/
noncomputable def R17_0 : CT :=
  .reg [
  oP (pdT 2) (eMov (constG (.cst (.slice none 0 0))))]
noncomputable def R17_1 : CT :=
  .reg [
  oP (pdT 6) (eMov (slotG 0)),
  oP (pdT 7) (e1 cLenL (slotG 6)),
  oP (pdT 8) (eMksl [(.cst (.slice none 0 0))] 1 24 (constG (.int .i64 0)) (slotG 7)),
  oP (pdT 3) (eMov (slotG 8))]
noncomputable def R17_2 : CT :=
  .reg [
  oP (pdT 9) (eMov (slotG 0)),
  oP (pdT 10) (e1 cLenL (slotG 9)),
  oP (pdT 11) (eMov (constG (.int .i64 0)))]
noncomputable def R17_3 : CT :=
  .reg [
  oP (pdT 12) (e2 (cBin .lss) (slotG 11) (slotG 10))]
noncomputable def R17_4 : CT :=
  .reg [
  oP (pdT 13) (e2 (cIxa 1) (slotG 9) (slotG 11)),
  oP (pdT 14) (eLoad1 (slotG 13)),
  oP (pdT 5) (eMov (slotG 14))]
noncomputable def R17_5 : CT :=
  .reg [
  oP (pdT 15) (eMov (slotG 3)),
  oP (pdT 16) (eMov (slotG 5)),
  cP (pdT 17) 40 [(slotG 16)],
  oP (pdT 18) (eBslice [(.cst (.slice none 0 0))] 1 1 [(0, 1, (slotG 17))]),
  oP (pdT 19) (eApp 1 24 (slotG 15) (slotG 18)),
  oP (pdT 3) (eMov (slotG 19))]
noncomputable def R17_6 : CT :=
  .reg [
  oP (pdT 20) (e2 (cBin .add) (slotG 11) (constG (.int .i64 1))),
  oP (pdT 11) (eMov (slotG 20))]
noncomputable def L17_0 : CT := (.seq R17_3 (.seq (.cond (slotG 12) .skip (.exit 0)) (.seq (.block 1 (.seq R17_4 R17_5)) R17_6)))
noncomputable def R17_7 : CT :=
  .reg [
  oP (pdT 21) (eMov (slotG 3)),
  cP (pdT 22) 20 [(slotG 21), (constG (.fn (.func 41) [] []))]]
noncomputable def R17_8 : CT :=
  .reg [
  oP (pdT 23) (eMov (slotG 3)),
  oP (pdT 2) (eMov (slotG 23))]
noncomputable def B17 : CT := (.seq R17_0 (.seq R17_1 (.seq (.seq R17_2 (.block 0 (.loop L17_0))) (.seq R17_7 (.seq R17_8 .ret)))))
noncomputable def A17 : CF := { res := [rTmp 2], code := B17, nt := 24 }
theorem c17 : ctF Tryz.prog 17 = some A17 := by kernel_rfl

/-! 18: slices.CompactFunc[[][]cadastre/api.Value,[]cadastre/api.Value] -/
noncomputable def R18_0 : CT :=
  .reg [
  oP (pdT 4) (eMov (constG (.cst (.slice none 0 0))))]
noncomputable def R18_1 : CT :=
  .reg [
  oP (pdT 8) (eMov (slotG 0)),
  oP (pdT 9) (e1 cLenL (slotG 8)),
  oP (pdT 10) (e2 (cBin .lss) (slotG 9) (constG (.int .i64 2)))]
noncomputable def R18_2 : CT :=
  .reg [
  oP (pdT 11) (eMov (slotG 0)),
  oP (pdT 4) (eMov (slotG 11))]
noncomputable def R18_3 : CT :=
  .reg [
  oP (pdT 5) (eMov (constG (.int .i64 1)))]
noncomputable def R18_4 : CT :=
  .reg [
  oP (pdT 12) (eMov (slotG 5)),
  oP (pdT 13) (eMov (slotG 0)),
  oP (pdT 14) (e1 cLenL (slotG 13)),
  oP (pdT 15) (e2 (cBin .lss) (slotG 12) (slotG 14))]
noncomputable def R18_5 : CT :=
  .drw [18, 19, 20, 21, 22, 23, 24, 25, 26, 27, 28] [
  oI [1] (pdT 18) (eMov (slotG 1)) 1,
  oI [0] (pdT 19) (eMov (slotG 0)) 1,
  oI [5] (pdT 20) (eMov (slotG 5)) 1,
  oI [19, 20] (pdT 21) (e2 (cIxa 1) (slotG 19) (slotG 20)) 1,
  oI [21] (pdT 22) (eLoad1 (slotG 21)) 1,
  oI [0] (pdT 23) (eMov (slotG 0)) 1,
  oI [5] (pdT 24) (eMov (slotG 5)) 1,
  oI [24] (pdT 25) (e2 (cBin .sub) (slotG 24) (constG (.int .i64 1))) 1,
  oI [23, 25] (pdT 26) (e2 (cIxa 1) (slotG 23) (slotG 25)) 1,
  oI [26] (pdT 27) (eLoad1 (slotG 26)) 1,
  vI [18, 22, 27] (pdT 28) (slotG 18) [(slotG 22), (slotG 27)]]
noncomputable def R18_6 : CT :=
  .reg [
  oP (pdT 29) (eMov (slotG 0)),
  oP (pdT 30) (eMov (slotG 5)),
  oP (pdT 31) (eSl (cSlc 1) (slotG 29) (some (slotG 30)) none none),
  oP (pdT 6) (eMov (slotG 31))]
noncomputable def R18_7 : CT :=
  .reg [
  oP (pdT 7) (eMov (constG (.int .i64 1)))]
noncomputable def R18_8 : CT :=
  .reg [
  oP (pdT 32) (eMov (slotG 7)),
  oP (pdT 33) (eMov (slotG 6)),
  oP (pdT 34) (e1 cLenL (slotG 33)),
  oP (pdT 35) (e2 (cBin .lss) (slotG 32) (slotG 34))]
noncomputable def R18_9 : CT :=
  .drw [38, 39, 40, 41, 42, 43, 44, 45, 46, 47, 48, 49] [
  oI [1] (pdT 38) (eMov (slotG 1)) 1,
  oI [6] (pdT 39) (eMov (slotG 6)) 1,
  oI [7] (pdT 40) (eMov (slotG 7)) 1,
  oI [39, 40] (pdT 41) (e2 (cIxa 1) (slotG 39) (slotG 40)) 1,
  oI [41] (pdT 42) (eLoad1 (slotG 41)) 1,
  oI [6] (pdT 43) (eMov (slotG 6)) 1,
  oI [7] (pdT 44) (eMov (slotG 7)) 1,
  oI [44] (pdT 45) (e2 (cBin .sub) (slotG 44) (constG (.int .i64 1))) 1,
  oI [43, 45] (pdT 46) (e2 (cIxa 1) (slotG 43) (slotG 45)) 1,
  oI [46] (pdT 47) (eLoad1 (slotG 46)) 1,
  vI [38, 42, 47] (pdT 48) (slotG 38) [(slotG 42), (slotG 47)],
  oI [48] (pdT 49) (e1 (cUn .not) (slotG 48)) 1]
noncomputable def R18_10 : CT :=
  .reg [
  oP (pdT 50) (eMov (slotG 0)),
  oP (pdT 51) (eMov (slotG 5)),
  oP (pdT 52) (eMov (slotG 6)),
  oP (pdT 53) (eMov (slotG 7)),
  oP (pdT 54) (e2 (cIxa 1) (slotG 52) (slotG 53)),
  oP (pdT 55) (eLoad1 (slotG 54)),
  oP (pdT 56) (e2 (cIxa 1) (slotG 50) (slotG 51)),
  oP pdN (eStore 1 (slotG 56) (slotG 55))]
noncomputable def R18_11 : CT :=
  .reg [
  oP (pdT 57) (eMov (slotG 5)),
  oP (pdT 58) (e2 (cBin .add) (slotG 57) (constG (.int .i64 1))),
  oP (pdT 5) (eMov (slotG 58))]
noncomputable def R18_12 : CT :=
  .reg [
  oP (pdT 36) (eMov (slotG 7)),
  oP (pdT 37) (e2 (cBin .add) (slotG 36) (constG (.int .i64 1))),
  oP (pdT 7) (eMov (slotG 37))]
noncomputable def L18_0 : CT := (.seq (.seq R18_8 (.cond (slotG 35) .skip (.exit 2))) (.seq (.block 3 (.seq R18_9 (.cond (slotG 49) (.seq R18_10 R18_11) .skip))) R18_12))
noncomputable def R18_13 : CT :=
  .reg [
  oP (pdT 59) (eMov (slotG 0)),
  oP (pdT 60) (eMov (slotG 5)),
  oP (pdT 61) (eSl (cSlc 1) (slotG 59) (some (slotG 60)) none none),
  oP pdN (eClrS [(.cst (.slice none 0 0))] 1 (slotG 61))]
noncomputable def R18_14 : CT :=
  .reg [
  oP (pdT 62) (eMov (slotG 0)),
  oP (pdT 63) (eMov (slotG 5)),
  oP (pdT 64) (eSl (cSlc 1) (slotG 62) none (some (slotG 63)) none),
  oP (pdT 4) (eMov (slotG 64))]
noncomputable def R18_15 : CT :=
  .reg [
  oP (pdT 16) (eMov (slotG 5)),
  oP (pdT 17) (e2 (cBin .add) (slotG 16) (constG (.int .i64 1))),
  oP (pdT 5) (eMov (slotG 17))]
noncomputable def L18_1 : CT := (.seq (.seq R18_4 (.cond (slotG 15) .skip (.exit 0))) (.seq (.block 1 (.seq R18_5 (.cond (slotG 28) (.seq R18_6 (.seq (.seq R18_7 (.block 2 (.loop L18_0))) (.seq R18_13 (.seq R18_14 .ret)))) .skip))) R18_15))
noncomputable def R18_16 : CT :=
  .reg [
  oP (pdT 65) (eMov (slotG 0)),
  oP (pdT 4) (eMov (slotG 65))]
noncomputable def B18 : CT := (.seq R18_0 (.seq (.seq R18_1 (.cond (slotG 10) (.seq R18_2 .ret) .skip)) (.seq (.seq R18_3 (.block 0 (.loop L18_1))) (.seq R18_16 .ret))))
noncomputable def A18 : CF := { res := [rTmp 4], code := B18, nt := 66 }
theorem c18 : ctF Tryz.prog 18 = some A18 := by kernel_rfl

/-! 19: slices.Equal[[]cadastre/api.Value,cadastre/api.Value] -/
noncomputable def R19_0 : CT :=
  .reg [
  oP (pdT 4) (eMov (constG (.bool false)))]
noncomputable def R19_1 : CT :=
  .reg [
  oP (pdT 6) (eMov (slotG 0)),
  oP (pdT 7) (e1 cLenL (slotG 6)),
  oP (pdT 8) (eMov (slotG 1)),
  oP (pdT 9) (e1 cLenL (slotG 8)),
  oP (pdT 10) (e2 (cEq true .num) (slotG 7) (slotG 9))]
noncomputable def R19_2 : CT :=
  .reg [
  oP (pdT 4) (eMov (constG (.bool false)))]
noncomputable def R19_3 : CT :=
  .reg [
  oP (pdT 11) (eMov (slotG 0)),
  oP (pdT 12) (e1 cLenL (slotG 11)),
  oP (pdT 13) (eMov (constG (.int .i64 0)))]
noncomputable def R19_4 : CT :=
  .reg [
  oP (pdT 14) (e2 (cBin .lss) (slotG 13) (slotG 12))]
noncomputable def R19_5 : CT :=
  .reg [
  oP (pdT 15) (eMov (slotG 13)),
  oP (pdT 5) (eMov (slotG 15))]
noncomputable def R19_6 : CT :=
  .drw [16, 17, 18, 19, 20, 21, 22, 23, 24] [
  oI [0] (pdT 16) (eMov (slotG 0)) 1,
  oI [5] (pdT 17) (eMov (slotG 5)) 1,
  oI [16, 17] (pdT 18) (e2 (cIxa 3) (slotG 16) (slotG 17)) 1,
  oI [18] (pdT 19) (eLoadN 3 (slotG 18)) 1,
  oI [1] (pdT 20) (eMov (slotG 1)) 1,
  oI [5] (pdT 21) (eMov (slotG 5)) 1,
  oI [20, 21] (pdT 22) (e2 (cIxa 3) (slotG 20) (slotG 21)) 1,
  oI [22] (pdT 23) (eLoadN 3 (slotG 22)) 1,
  oI [19, 23] (pdT 24) (e2 (cEqA true [.i, .i, .s]) (slotG 19) (slotG 23)) 1]
noncomputable def R19_7 : CT :=
  .reg [
  oP (pdT 4) (eMov (constG (.bool false)))]
noncomputable def R19_8 : CT :=
  .reg [
  oP (pdT 25) (e2 (cBin .add) (slotG 13) (constG (.int .i64 1))),
  oP (pdT 13) (eMov (slotG 25))]
noncomputable def L19_0 : CT := (.seq R19_4 (.seq (.cond (slotG 14) .skip (.exit 0)) (.seq (.block 1 (.seq R19_5 (.seq R19_6 (.cond (slotG 24) (.seq R19_7 .ret) .skip)))) R19_8)))
noncomputable def R19_9 : CT :=
  .reg [
  oP (pdT 4) (eMov (constG (.bool true)))]
noncomputable def B19 : CT := (.seq R19_0 (.seq (.seq R19_1 (.cond (slotG 10) (.seq R19_2 .ret) .skip)) (.seq (.seq R19_3 (.block 0 (.loop L19_0))) (.seq R19_9 .ret))))
noncomputable def A19 : CF := { res := [rTmp 4], code := B19, nt := 26 }
theorem c19 : ctF Tryz.prog 19 = some A19 := by kernel_rfl

/-! 20: slices.SortStableFunc[[][]cadastre/api.Value,[]cadastre/api.Value] -/
noncomputable def R20_0 : CT :=
  .reg [
  oP (pdT 4) (eMov (slotG 0)),
  oP (pdT 5) (eMov (slotG 0)),
  oP (pdT 6) (e1 cLenL (slotG 5)),
  oP (pdT 7) (eMov (slotG 1)),
  cP (pdT 8) 42 [(slotG 4), (slotG 6), (slotG 7)]]
noncomputable def B20 : CT := R20_0
noncomputable def A20 : CF := { res := [], code := B20, nt := 9 }
theorem c20 : ctF Tryz.prog 20 = some A20 := by kernel_rfl

/-! 21: cadastre/plan.Finish$1 -/
noncomputable def R21_0 : CT :=
  .reg [
  oP (pdT 5) (eMov (constG (.int .i64 0)))]
noncomputable def R21_1 : CT :=
  .reg [
  oP (pdT 10) (e1 (cAddo 21) (slotG 2)),
  oP (pdT 11) (eLoad1 (slotG 10)),
  oP (pdT 12) (e1 cLenL (slotG 11)),
  oP (pdT 13) (eMov (constG (.int .i64 0)))]
noncomputable def R21_2 : CT :=
  .reg [
  oP (pdT 14) (e2 (cBin .lss) (slotG 13) (slotG 12))]
noncomputable def R21_3 : CT :=
  .reg [
  oP (pdT 15) (e2 (cIxa 2) (slotG 11) (slotG 13)),
  oP (pdT 16) (eLoadN 2 (slotG 15)),
  oP (pdT 7) (eAlloc [(.int .i64 0), (.bool false)] 2),
  oP pdN (eStore 2 (slotG 7) (slotG 16))]
noncomputable def R21_4 : CT :=
  .reg [
  oP (pdT 17) (e1 (cAddo 0) (slotG 7)),
  oP (pdT 18) (eLoad1 (slotG 17)),
  oP (pdT 19) (e2 (cBin .lss) (slotG 18) (constG (.int .i64 0))),
  oP (pdT 20) (eMov (slotG 19)),
  gP (slotG 20) false (pdT 21) (e1 (cAddo 0) (slotG 7)),
  gP (slotG 20) false (pdT 22) (eLoad1 (slotG 21)),
  gP (slotG 20) false (pdT 23) (eMov (slotG 0)),
  gP (slotG 20) false (pdT 24) (e1 cLenL (slotG 23)),
  gP (slotG 20) false (pdT 25) (eMov (slotG 1)),
  gP (slotG 20) false (pdT 26) (e1 cLenL (slotG 25)),
  gP (slotG 20) false (pdT 27) (eMnx minI [(slotG 24), (slotG 26)]),
  gP (slotG 20) false (pdT 28) (e2 (cBin .geq) (slotG 22) (slotG 27)),
  oP (pdT 29) (ePick (slotG 20) (constG (.bool true)) (slotG 28))]
noncomputable def R21_5 : CT :=
  .drw [31, 32, 33, 34, 35, 36, 37, 38, 39, 40, 41, 30, 42, 43] [
  oI [0] (pdT 31) (eMov (slotG 0)) 1,
  oI [7] (pdT 32) (e1 (cAddo 0) (slotG 7)) 1,
  oI [32] (pdT 33) (eLoad1 (slotG 32)) 1,
  oI [31, 33] (pdT 34) (e2 (cIxa 3) (slotG 31) (slotG 33)) 1,
  oI [34] (pdT 35) (eLoadN 3 (slotG 34)) 1,
  oI [1] (pdT 36) (eMov (slotG 1)) 1,
  oI [7] (pdT 37) (e1 (cAddo 0) (slotG 7)) 1,
  oI [37] (pdT 38) (eLoad1 (slotG 37)) 1,
  oI [36, 38] (pdT 39) (e2 (cIxa 3) (slotG 36) (slotG 38)) 1,
  oI [39] (pdT 40) (eLoadN 3 (slotG 39)) 1,
  cI [35, 40] (pdT 41) 22 [(slotG 35), (slotG 40)],
  oI [41] (pdT 30) (eMov (slotG 41)) 1,
  oI [30] (pdT 42) (e1 (cExt 0) (slotG 30)) 1,
  oI [30] (pdT 43) (e1 (cExt 1) (slotG 30)) 1,
  oI [42] (pdT 8) (eMov (slotG 42)) 1,
  oI [43] (pdT 9) (eMov (slotG 43)) 1]
noncomputable def R21_6 : CT :=
  .reg [
  oP (pdT 44) (e1 (cAddo 1) (slotG 7)),
  oP (pdT 45) (eLoad1 (slotG 44))]
noncomputable def R21_7 : CT :=
  .reg [
  oP (pdT 46) (eMov (slotG 8)),
  oP (pdT 47) (e1 (cUn .neg) (slotG 46)),
  oP (pdT 8) (eMov (slotG 47))]
noncomputable def R21_8 : CT :=
  .reg [
  oP (pdT 48) (eMov (slotG 8)),
  oP (pdT 49) (e2 (cEq true .num) (slotG 48) (constG (.int .i64 0)))]
noncomputable def R21_9 : CT :=
  .reg [
  oP (pdT 50) (eMov (slotG 8)),
  oP (pdT 5) (eMov (slotG 50))]
noncomputable def R21_10 : CT :=
  .reg [
  oP (pdT 51) (e2 (cBin .add) (slotG 13) (constG (.int .i64 1))),
  oP (pdT 13) (eMov (slotG 51))]
noncomputable def L21_0 : CT := (.seq R21_2 (.seq (.cond (slotG 14) .skip (.exit 0)) (.seq (.block 1 (.seq R21_3 (.seq (.seq R21_4 (.cond (slotG 29) (.exit 1) .skip)) (.seq R21_5 (.seq (.seq R21_6 (.cond (slotG 45) R21_7 .skip)) (.seq R21_8 (.cond (slotG 49) (.seq R21_9 .ret) .skip))))))) R21_10)))
noncomputable def R21_11 : CT :=
  .reg [
  oP (pdT 5) (eMov (constG (.int .i64 0)))]
noncomputable def B21 : CT := (.seq R21_0 (.seq (.seq R21_1 (.block 0 (.loop L21_0))) (.seq R21_11 .ret)))
noncomputable def A21 : CF := { res := [rTmp 5], code := B21, nt := 52 }
theorem c21 : ctF Tryz.prog 21 = some A21 := by kernel_rfl

/-! 22: cadastre/value.Compare -/
noncomputable def R22_0 : CT :=
  .reg [
  oP (pdT 2) (eBox (slotG 0)),
  oP (pdT 3) (eBox (slotG 1)),
  oP (pdT 4) (eMov (constG (.int .i64 0))),
  oP (pdT 5) (eMov (constG (.int .i64 0)))]
noncomputable def R22_1 : CT :=
  .reg [
  oP (pdT 6) (eLoadN 3 (slotG 2)),
  cP (pdT 7) 43 [(slotG 6)],
  oP (pdT 8) (e1 (cUn .not) (slotG 7)),
  oP (pdT 9) (eMov (slotG 8)),
  gP (slotG 9) false (pdT 10) (eLoadN 3 (slotG 3)),
  gcP (slotG 9) false (pdT 11) 43 [(slotG 10)],
  gP (slotG 9) false (pdT 12) (e1 (cUn .not) (slotG 11)),
  oP (pdT 13) (ePick (slotG 9) (constG (.bool true)) (slotG 12))]
noncomputable def R22_2 : CT :=
  .reg [
  oP (pdT 4) (eMov (constG (.int .i64 0))),
  oP (pdT 5) (eMov (constG (.int .i64 5)))]
noncomputable def R22_3 : CT :=
  .reg [
  oP (pdT 14) (eLoadN 3 (slotG 2)),
  oP (pdT 15) (eLoadN 3 (slotG 3)),
  cP (pdT 16) 44 [(slotG 14), (slotG 15)],
  oP (pdT 4) (eMov (slotG 16)),
  oP (pdT 5) (eMov (constG (.int .i64 0)))]
noncomputable def B22 : CT := (.seq R22_0 (.seq (.seq R22_1 (.cond (slotG 13) (.seq R22_2 .ret) .skip)) (.seq R22_3 .ret)))
noncomputable def A22 : CF := { res := [rTmp 4, rTmp 5], code := B22, nt := 17 }
theorem c22 : ctF Tryz.prog 22 = some A22 := by kernel_rfl

/-! 23: cadastre/cadastreref22.Sorted -/
noncomputable def R23_0 : CT :=
  .reg [
  oP (pdT 4) (eMov (constG (.cst (.slice none 0 0))))]
noncomputable def R23_1 : CT :=
  .reg [
  oP (pdT 10) (eMov (slotG 0)),
  oP (pdT 11) (e1 cLenL (slotG 10)),
  oP (pdT 12) (e2 (cBin .lss) (slotG 11) (constG (.int .i64 2)))]
noncomputable def R23_2 : CT :=
  .reg [
  oP (pdT 13) (eBslice [(.cst (.slice none 0 0))] 0 1 []),
  oP (pdT 14) (eMov (slotG 0)),
  oP (pdT 15) (eApp 1 24 (slotG 13) (slotG 14)),
  oP (pdT 4) (eMov (slotG 15))]
noncomputable def R23_3 : CT :=
  .reg [
  oP (pdT 16) (eMov (slotG 0)),
  oP (pdT 17) (eMov (slotG 0)),
  oP (pdT 18) (e1 cLenL (slotG 17)),
  oP (pdT 19) (e2 (cBin .quo) (slotG 18) (constG (.int .i64 2))),
  oP (pdT 20) (eSl (cSlc 1) (slotG 16) none (some (slotG 19)) none),
  oP (pdT 21) (eMov (slotG 1)),
  cP (pdT 22) 23 [(slotG 20), (slotG 21)],
  oP (pdT 5) (eMov (slotG 22))]
noncomputable def R23_4 : CT :=
  .reg [
  oP (pdT 23) (eMov (slotG 0)),
  oP (pdT 24) (eMov (slotG 0)),
  oP (pdT 25) (e1 cLenL (slotG 24)),
  oP (pdT 26) (e2 (cBin .quo) (slotG 25) (constG (.int .i64 2))),
  oP (pdT 27) (eSl (cSlc 1) (slotG 23) (some (slotG 26)) none none),
  oP (pdT 28) (eMov (slotG 1)),
  cP (pdT 29) 23 [(slotG 27), (slotG 28)],
  oP (pdT 6) (eMov (slotG 29))]
noncomputable def R23_5 : CT :=
  .reg [
  oP (pdT 7) (eMov (constG (.cst (.slice none 0 0))))]
noncomputable def R23_6 : CT :=
  .reg [
  oP (pdT 8) (eMov (constG (.int .i64 0)))]
noncomputable def R23_7 : CT :=
  .reg [
  oP (pdT 9) (eMov (constG (.int .i64 0)))]
noncomputable def R23_8 : CT :=
  .reg [
  oP (pdT 30) (eMov (slotG 8)),
  oP (pdT 31) (eMov (slotG 5)),
  oP (pdT 32) (e1 cLenL (slotG 31)),
  oP (pdT 33) (e2 (cBin .lss) (slotG 30) (slotG 32)),
  oP (pdT 34) (eMov (slotG 33)),
  gP (slotG 34) false (pdT 35) (eMov (slotG 9)),
  gP (slotG 34) false (pdT 36) (eMov (slotG 6)),
  gP (slotG 34) false (pdT 37) (e1 cLenL (slotG 36)),
  gP (slotG 34) false (pdT 38) (e2 (cBin .lss) (slotG 35) (slotG 37)),
  oP (pdT 39) (ePick (slotG 34) (constG (.bool true)) (slotG 38))]
noncomputable def R23_9 : CT :=
  .drw [40, 41, 42, 43, 44, 45, 46, 47, 48, 49, 50, 51, 52, 53, 54, 55, 56, 57, 58, 59, 60, 61, 62] [
  oI [9] (pdT 40) (eMov (slotG 9)) 1,
  oI [6] (pdT 41) (eMov (slotG 6)) 1,
  oI [41] (pdT 42) (e1 cLenL (slotG 41)) 1,
  oI [40, 42] (pdT 43) (e2 (cBin .geq) (slotG 40) (slotG 42)) 1,
  oI [43] (pdT 44) (eMov (slotG 43)) 1,
  goI [44, 8] (slotG 44) false (pdT 45) (eMov (slotG 8)) 1,
  goI [44, 5] (slotG 44) false (pdT 46) (eMov (slotG 5)) 1,
  goI [44, 46] (slotG 44) false (pdT 47) (e1 cLenL (slotG 46)) 1,
  goI [44, 45, 47] (slotG 44) false (pdT 48) (e2 (cBin .lss) (slotG 45) (slotG 47)) 1,
  goI [44, 48] (slotG 44) false (pdT 49) (eMov (slotG 48)) 1,
  goI [49, 5] (slotG 49) true (pdT 50) (eMov (slotG 5)) 1,
  goI [49, 8] (slotG 49) true (pdT 51) (eMov (slotG 8)) 1,
  goI [49, 50, 51] (slotG 49) true (pdT 52) (e2 (cIxa 1) (slotG 50) (slotG 51)) 1,
  goI [49, 52] (slotG 49) true (pdT 53) (eLoad1 (slotG 52)) 1,
  goI [49, 6] (slotG 49) true (pdT 54) (eMov (slotG 6)) 1,
  goI [49, 9] (slotG 49) true (pdT 55) (eMov (slotG 9)) 1,
  goI [49, 54, 55] (slotG 49) true (pdT 56) (e2 (cIxa 1) (slotG 54) (slotG 55)) 1,
  goI [49, 56] (slotG 49) true (pdT 57) (eLoad1 (slotG 56)) 1,
  goI [49, 1] (slotG 49) true (pdT 58) (eMov (slotG 1)) 1,
  gcI [49, 53, 57, 58] (slotG 49) true (pdT 59) 45 [(slotG 53), (slotG 57), (slotG 58)],
  goI [49, 59] (slotG 49) true (pdT 60) (e2 (cBin .leq) (slotG 59) (constG (.int .i64 0))) 1,
  goI [44, 49, 60] (slotG 44) false (pdT 61) (ePick (slotG 49) (slotG 60) (constG (.bool false))) 1,
  oI [44, 61] (pdT 62) (ePick (slotG 44) (constG (.bool true)) (slotG 61)) 1]
noncomputable def R23_10 : CT :=
  .reg [
  oP (pdT 63) (eMov (slotG 7)),
  oP (pdT 64) (eMov (slotG 5)),
  oP (pdT 65) (eMov (slotG 8)),
  oP (pdT 66) (e2 (cIxa 1) (slotG 64) (slotG 65)),
  oP (pdT 67) (eLoad1 (slotG 66)),
  oP (pdT 68) (eBslice [(.cst (.slice none 0 0))] 1 1 [(0, 1, (slotG 67))]),
  oP (pdT 69) (eApp 1 24 (slotG 63) (slotG 68)),
  oP (pdT 7) (eMov (slotG 69))]
noncomputable def R23_11 : CT :=
  .reg [
  oP (pdT 70) (eMov (slotG 8)),
  oP (pdT 71) (e2 (cBin .add) (slotG 70) (constG (.int .i64 1))),
  oP (pdT 8) (eMov (slotG 71))]
noncomputable def R23_12 : CT :=
  .reg [
  oP (pdT 72) (eMov (slotG 7)),
  oP (pdT 73) (eMov (slotG 6)),
  oP (pdT 74) (eMov (slotG 9)),
  oP (pdT 75) (e2 (cIxa 1) (slotG 73) (slotG 74)),
  oP (pdT 76) (eLoad1 (slotG 75)),
  oP (pdT 77) (eBslice [(.cst (.slice none 0 0))] 1 1 [(0, 1, (slotG 76))]),
  oP (pdT 78) (eApp 1 24 (slotG 72) (slotG 77)),
  oP (pdT 7) (eMov (slotG 78))]
noncomputable def R23_13 : CT :=
  .reg [
  oP (pdT 79) (eMov (slotG 9)),
  oP (pdT 80) (e2 (cBin .add) (slotG 79) (constG (.int .i64 1))),
  oP (pdT 9) (eMov (slotG 80))]
noncomputable def L23_0 : CT := (.seq (.seq R23_8 (.cond (slotG 39) .skip (.exit 0))) (.block 1 (.seq R23_9 (.cond (slotG 62) (.seq R23_10 R23_11) (.seq R23_12 R23_13)))))
noncomputable def R23_14 : CT :=
  .reg [
  oP (pdT 81) (eMov (slotG 7)),
  oP (pdT 4) (eMov (slotG 81))]
noncomputable def B23 : CT := (.seq R23_0 (.seq (.seq R23_1 (.cond (slotG 12) (.seq R23_2 .ret) .skip)) (.seq R23_3 (.seq R23_4 (.seq R23_5 (.seq R23_6 (.seq R23_7 (.seq (.block 0 (.loop L23_0)) (.seq R23_14 .ret)))))))))
noncomputable def A23 : CF := { res := [rTmp 4], code := B23, nt := 82 }
theorem c23 : ctF Tryz.prog 23 = some A23 := by kernel_rfl

/-! 24: cadastre/cadastreref22.Once -/
noncomputable def R24_0 : CT :=
  .reg [
  oP (pdT 2) (eMov (constG (.cst (.slice none 0 0))))]
noncomputable def R24_1 : CT :=
  .reg [
  oP (pdT 3) (eMov (constG (.cst (.slice none 0 0))))]
noncomputable def R24_2 : CT :=
  .reg [
  oP (pdT 4) (eMov (constG (.int .i64 0)))]
noncomputable def R24_3 : CT :=
  .reg [
  oP (pdT 5) (eMov (slotG 4)),
  oP (pdT 6) (eMov (slotG 0)),
  oP (pdT 7) (e1 cLenL (slotG 6)),
  oP (pdT 8) (e2 (cBin .lss) (slotG 5) (slotG 7))]
noncomputable def R24_4 : CT :=
  .drw [11, 12, 13, 14, 15, 16, 17, 18, 19, 20, 21, 22, 23, 24, 25] [
  oI [4] (pdT 11) (eMov (slotG 4)) 1,
  oI [11] (pdT 12) (e2 (cEq false .num) (slotG 11) (constG (.int .i64 0))) 1,
  oI [12] (pdT 13) (eMov (slotG 12)) 1,
  goI [13, 0] (slotG 13) false (pdT 14) (eMov (slotG 0)) 1,
  goI [13, 4] (slotG 13) false (pdT 15) (eMov (slotG 4)) 1,
  goI [13, 15] (slotG 13) false (pdT 16) (e2 (cBin .sub) (slotG 15) (constG (.int .i64 1))) 1,
  goI [13, 14, 16] (slotG 13) false (pdT 17) (e2 (cIxa 1) (slotG 14) (slotG 16)) 1,
  goI [13, 17] (slotG 13) false (pdT 18) (eLoad1 (slotG 17)) 1,
  goI [13, 0] (slotG 13) false (pdT 19) (eMov (slotG 0)) 1,
  goI [13, 4] (slotG 13) false (pdT 20) (eMov (slotG 4)) 1,
  goI [13, 19, 20] (slotG 13) false (pdT 21) (e2 (cIxa 1) (slotG 19) (slotG 20)) 1,
  goI [13, 21] (slotG 13) false (pdT 22) (eLoad1 (slotG 21)) 1,
  gcI [13, 18, 22] (slotG 13) false (pdT 23) 16 [(slotG 18), (slotG 22)],
  goI [13, 23] (slotG 13) false (pdT 24) (e1 (cUn .not) (slotG 23)) 1,
  oI [13, 24] (pdT 25) (ePick (slotG 13) (constG (.bool true)) (slotG 24)) 1]
noncomputable def R24_5 : CT :=
  .reg [
  oP (pdT 26) (eMov (slotG 3)),
  oP (pdT 27) (eMov (slotG 0)),
  oP (pdT 28) (eMov (slotG 4)),
  oP (pdT 29) (e2 (cIxa 1) (slotG 27) (slotG 28)),
  oP (pdT 30) (eLoad1 (slotG 29)),
  oP (pdT 31) (eBslice [(.cst (.slice none 0 0))] 1 1 [(0, 1, (slotG 30))]),
  oP (pdT 32) (eApp 1 24 (slotG 26) (slotG 31)),
  oP (pdT 3) (eMov (slotG 32))]
noncomputable def R24_6 : CT :=
  .reg [
  oP (pdT 9) (eMov (slotG 4)),
  oP (pdT 10) (e2 (cBin .add) (slotG 9) (constG (.int .i64 1))),
  oP (pdT 4) (eMov (slotG 10))]
noncomputable def L24_0 : CT := (.seq (.seq R24_3 (.cond (slotG 8) .skip (.exit 0))) (.seq (.block 1 (.seq R24_4 (.cond (slotG 25) R24_5 .skip))) R24_6))
noncomputable def R24_7 : CT :=
  .reg [
  oP (pdT 33) (eMov (slotG 3)),
  oP (pdT 2) (eMov (slotG 33))]
noncomputable def B24 : CT := (.seq R24_0 (.seq R24_1 (.seq (.seq R24_2 (.block 0 (.loop L24_0))) (.seq R24_7 .ret))))
noncomputable def A24 : CF := { res := [rTmp 2], code := B24, nt := 34 }
theorem c24 : ctF Tryz.prog 24 = some A24 := by kernel_rfl

/-! 37: cadastre/cadastreref21.Right -/
noncomputable def R37_0 : CT :=
  .reg [
  oP (pdT 2) (eBox (slotG 0)),
  oP (pdT 4) (eMov (constG (.bool false)))]
noncomputable def R37_1 : CT :=
  .reg [
  oP (pdT 5) (eMov (constG (.int .i64 2)))]
noncomputable def R37_2 : CT :=
  .reg [
  oP (pdT 7) (e1 (cAddo 0) (slotG 2)),
  oP (pdT 8) (eLoad1 (slotG 7)),
  oP (pdT 9) (e2 (cEq false .num) (slotG 8) (constG (.int .i64 1))),
  oP (pdT 10) (eMov (slotG 9)),
  gP (slotG 10) false (pdT 11) (e1 (cAddo 0) (slotG 2)),
  gP (slotG 10) false (pdT 12) (eLoad1 (slotG 11)),
  gP (slotG 10) false (pdT 13) (e2 (cEq false .num) (slotG 12) (constG (.int .i64 3))),
  oP (pdT 14) (ePick (slotG 10) (constG (.bool true)) (slotG 13))]
noncomputable def R37_3 : CT :=
  .reg [
  oP (pdT 5) (eMov (constG (.int .i64 0)))]
noncomputable def R37_4 : CT :=
  .reg [
  oP (pdT 15) (e1 (cAddo 0) (slotG 2)),
  oP (pdT 16) (eLoad1 (slotG 15)),
  oP (pdT 17) (e2 (cEq false .num) (slotG 16) (constG (.int .i64 4))),
  oP (pdT 18) (eMov (slotG 17)),
  gP (slotG 18) false (pdT 19) (e1 (cAddo 0) (slotG 2)),
  gP (slotG 18) false (pdT 20) (eLoad1 (slotG 19)),
  gP (slotG 18) false (pdT 21) (e2 (cEq false .num) (slotG 20) (constG (.int .i64 5))),
  oP (pdT 22) (ePick (slotG 18) (constG (.bool true)) (slotG 21)),
  oP (pdT 23) (eMov (slotG 22)),
  gP (slotG 23) false (pdT 24) (e1 (cAddo 0) (slotG 2)),
  gP (slotG 23) false (pdT 25) (eLoad1 (slotG 24)),
  gP (slotG 23) false (pdT 26) (e2 (cEq false .num) (slotG 25) (constG (.int .i64 6))),
  oP (pdT 27) (ePick (slotG 23) (constG (.bool true)) (slotG 26)),
  oP (pdT 28) (eMov (slotG 27)),
  gP (slotG 28) false (pdT 29) (e1 (cAddo 0) (slotG 2)),
  gP (slotG 28) false (pdT 30) (eLoad1 (slotG 29)),
  gP (slotG 28) false (pdT 31) (e2 (cEq false .num) (slotG 30) (constG (.int .i64 7))),
  oP (pdT 32) (ePick (slotG 28) (constG (.bool true)) (slotG 31))]
noncomputable def R37_5 : CT :=
  .reg [
  oP (pdT 5) (eMov (constG (.int .i64 1)))]
noncomputable def R37_6 : CT :=
  .reg [
  oP (pdT 33) (e1 (cAddo 0) (slotG 2)),
  oP (pdT 34) (eLoad1 (slotG 33)),
  oP (pdT 35) (e2 (cBin .lss) (slotG 34) (constG (.int .i64 8))),
  oP (pdT 36) (eMov (slotG 35)),
  gP (slotG 36) false (pdT 37) (e1 (cAddo 0) (slotG 2)),
  gP (slotG 36) false (pdT 38) (eLoad1 (slotG 37)),
  gP (slotG 36) false (pdT 39) (e2 (cBin .gtr) (slotG 38) (constG (.int .i64 21))),
  oP (pdT 40) (ePick (slotG 36) (constG (.bool true)) (slotG 39))]
noncomputable def R37_7 : CT :=
  .reg [
  oP (pdT 4) (eMov (constG (.bool false)))]
noncomputable def R37_8 : CT :=
  .reg [
  oP (pdT 41) (e1 (cAddo 7) (slotG 2)),
  oP (pdT 42) (eLoad1 (slotG 41)),
  oP (pdT 43) (e1 cLenL (slotG 42)),
  oP (pdT 44) (eMov (slotG 5)),
  oP (pdT 45) (e2 (cEq true .num) (slotG 43) (slotG 44))]
noncomputable def R37_9 : CT :=
  .reg [
  oP (pdT 4) (eMov (constG (.bool false)))]
noncomputable def R37_10 : CT :=
  .reg [
  oP (pdT 46) (e1 (cAddo 0) (slotG 2)),
  oP (pdT 47) (eLoad1 (slotG 46)),
  oP (pdT 48) (e2 (cEq false .num) (slotG 47) (constG (.int .i64 1)))]
noncomputable def R37_11 : CT :=
  .reg [
  oP (pdT 49) (e1 (cAddo 1) (slotG 2)),
  oP (pdT 50) (eLoadN 3 (slotG 49)),
  cP (pdT 51) 74 [(slotG 50)],
  oP (pdT 4) (eMov (slotG 51))]
noncomputable def R37_12 : CT :=
  .reg [
  oP (pdT 52) (e1 (cAddo 0) (slotG 2)),
  oP (pdT 53) (eLoad1 (slotG 52)),
  oP (pdT 54) (e2 (cEq false .num) (slotG 53) (constG (.int .i64 3)))]
noncomputable def R37_13 : CT :=
  .reg [
  oP (pdT 55) (e1 (cAddo 6) (slotG 2)),
  oP (pdT 56) (eLoad1 (slotG 55)),
  oP (pdT 57) (e2 (cBin .geq) (slotG 56) (constG (.int .i64 0))),
  oP (pdT 58) (eMov (slotG 57)),
  gP (slotG 58) true (pdT 59) (e1 (cAddo 6) (slotG 2)),
  gP (slotG 58) true (pdT 60) (eLoad1 (slotG 59)),
  gP (slotG 58) true (pdT 61) (eMov (slotG 1)),
  gP (slotG 58) true (pdT 62) (e2 (cBin .lss) (slotG 60) (slotG 61)),
  oP (pdT 63) (ePick (slotG 58) (slotG 62) (constG (.bool false))),
  oP (pdT 4) (eMov (slotG 63))]
noncomputable def R37_14 : CT :=
  .reg [
  oP (pdT 6) (eMov (constG (.int .i64 0)))]
noncomputable def R37_15 : CT :=
  .reg [
  oP (pdT 64) (eMov (slotG 6)),
  oP (pdT 65) (eMov (slotG 5)),
  oP (pdT 66) (e2 (cBin .lss) (slotG 64) (slotG 65))]
noncomputable def R37_16 : CT :=
  .reg [
  oP (pdT 69) (e1 (cAddo 7) (slotG 2)),
  oP (pdT 70) (eLoad1 (slotG 69)),
  oP (pdT 71) (eMov (slotG 6)),
  oP (pdT 72) (e2 (cIxa 8) (slotG 70) (slotG 71)),
  oP (pdT 73) (eLoadN 8 (slotG 72)),
  oP (pdT 74) (eMov (slotG 1)),
  cP (pdT 75) 37 [(slotG 73), (slotG 74)],
  oP (pdT 76) (e1 (cUn .not) (slotG 75))]
noncomputable def R37_17 : CT :=
  .reg [
  oP (pdT 4) (eMov (constG (.bool false)))]
noncomputable def R37_18 : CT :=
  .reg [
  oP (pdT 67) (eMov (slotG 6)),
  oP (pdT 68) (e2 (cBin .add) (slotG 67) (constG (.int .i64 1))),
  oP (pdT 6) (eMov (slotG 68))]
noncomputable def L37_0 : CT := (.seq (.seq R37_15 (.cond (slotG 66) .skip (.exit 0))) (.seq (.block 1 (.seq R37_16 (.cond (slotG 76) (.seq R37_17 .ret) .skip))) R37_18))
noncomputable def R37_19 : CT :=
  .reg [
  oP (pdT 4) (eMov (constG (.bool true)))]
noncomputable def B37 : CT := (.seq R37_0 (.seq R37_1 (.seq (.seq R37_2 (.cond (slotG 14) R37_3 (.seq R37_4 (.cond (slotG 32) R37_5 (.seq R37_6 (.cond (slotG 40) (.seq R37_7 .ret) .skip)))))) (.seq (.seq R37_8 (.cond (slotG 45) (.seq R37_9 .ret) .skip)) (.seq (.seq R37_10 (.cond (slotG 48) (.seq R37_11 .ret) .skip)) (.seq (.seq R37_12 (.cond (slotG 54) (.seq R37_13 .ret) .skip)) (.seq (.seq R37_14 (.block 0 (.loop L37_0))) (.seq R37_19 .ret))))))))
noncomputable def A37 : CF := { res := [rTmp 4], code := B37, nt := 77 }
theorem c37 : ctF Tryz.prog 37 = some A37 := by kernel_rfl

/-! 38: cadastre/cadastreref21.whole -/
noncomputable def R38_0 : CT :=
  .reg [
  oP (pdT 2) (eMov (constG (.bool false)))]
noncomputable def R38_1 : CT :=
  .reg [
  oP (pdT 3) (eMov (constG (.int .i64 0)))]
noncomputable def R38_2 : CT :=
  .reg [
  oP (pdT 4) (eMov (slotG 3)),
  oP (pdT 5) (eMov (slotG 0)),
  oP (pdT 6) (e1 cLenL (slotG 5)),
  oP (pdT 7) (e2 (cBin .lss) (slotG 4) (slotG 6))]
noncomputable def R38_3 : CT :=
  .reg [
  oP (pdT 10) (eMov (slotG 0)),
  oP (pdT 11) (eMov (slotG 3)),
  oP (pdT 12) (e2 (cIxa 3) (slotG 10) (slotG 11)),
  oP (pdT 13) (eLoadN 3 (slotG 12)),
  cP (pdT 14) 74 [(slotG 13)],
  oP (pdT 15) (e1 (cUn .not) (slotG 14))]
noncomputable def R38_4 : CT :=
  .reg [
  oP (pdT 2) (eMov (constG (.bool false)))]
noncomputable def R38_5 : CT :=
  .reg [
  oP (pdT 8) (eMov (slotG 3)),
  oP (pdT 9) (e2 (cBin .add) (slotG 8) (constG (.int .i64 1))),
  oP (pdT 3) (eMov (slotG 9))]
noncomputable def L38_0 : CT := (.seq (.seq R38_2 (.cond (slotG 7) .skip (.exit 0))) (.seq (.block 1 (.seq R38_3 (.cond (slotG 15) (.seq R38_4 .ret) .skip))) R38_5))
noncomputable def R38_6 : CT :=
  .reg [
  oP (pdT 2) (eMov (constG (.bool true)))]
noncomputable def B38 : CT := (.seq R38_0 (.seq (.seq R38_1 (.block 0 (.loop L38_0))) (.seq R38_6 .ret)))
noncomputable def A38 : CF := { res := [rTmp 2], code := B38, nt := 16 }
theorem c38 : ctF Tryz.prog 38 = some A38 := by kernel_rfl

/-! 39: cadastre/cadastreref21.Value -/
noncomputable def R39_0 : CT :=
  .reg [
  oP (pdT 2) (eBox (slotG 0)),
  oP (pdT 4) (eAlloc [(.int .i64 0), (.int .i64 0), (.str [])] 3),
  oP (pdT 5) (eMov (constG (.int .i64 0)))]
noncomputable def R39_1 : CT :=
  .reg [
  oP (pdT 9) (e1 (cAddo 0) (slotG 2)),
  oP (pdT 10) (eLoad1 (slotG 9)),
  oP (pdT 11) (e2 (cEq false .num) (slotG 10) (constG (.int .i64 1)))]
noncomputable def R39_2 : CT :=
  .reg [
  oP (pdT 12) (e1 (cAddo 1) (slotG 2)),
  oP (pdT 13) (eLoadN 3 (slotG 12)),
  oP pdN (eStore 3 (slotG 4) (slotG 13)),
  oP (pdT 5) (eMov (constG (.int .i64 0)))]
noncomputable def R39_3 : CT :=
  .reg [
  oP (pdT 14) (e1 (cAddo 0) (slotG 2)),
  oP (pdT 15) (eLoad1 (slotG 14)),
  oP (pdT 16) (e2 (cEq false .num) (slotG 15) (constG (.int .i64 3)))]
noncomputable def R39_4 : CT :=
  .reg [
  oP (pdT 17) (eMov (slotG 1)),
  oP (pdT 18) (e1 (cAddo 6) (slotG 2)),
  oP (pdT 19) (eLoad1 (slotG 18)),
  oP (pdT 20) (e2 (cIxa 3) (slotG 17) (slotG 19)),
  oP (pdT 21) (eLoadN 3 (slotG 20)),
  oP pdN (eStore 3 (slotG 4) (slotG 21)),
  oP (pdT 5) (eMov (constG (.int .i64 0)))]
noncomputable def R39_5 : CT :=
  .reg [
  oP (pdT 23) (e1 (cAddo 7) (slotG 2)),
  oP (pdT 24) (eLoad1 (slotG 23)),
  oP (pdT 25) (e2 (cIxa 8) (slotG 24) (constG (.int .i64 0))),
  oP (pdT 26) (eLoadN 8 (slotG 25)),
  oP (pdT 27) (eMov (slotG 1)),
  cP (pdT 28) 39 [(slotG 26), (slotG 27)],
  oP (pdT 22) (eMov (slotG 28)),
  oP (pdT 29) (e1 (cExt 0) (slotG 22)),
  oP (pdT 30) (e1 (cExt 1) (slotG 22)),
  oP (pdT 6) (eAlloc [(.int .i64 0), (.int .i64 0), (.str [])] 3),
  oP pdN (eStore 3 (slotG 6) (slotG 29)),
  oP (pdT 7) (eMov (slotG 30))]
noncomputable def R39_6 : CT :=
  .reg [
  oP (pdT 31) (eMov (slotG 7)),
  oP (pdT 32) (e2 (cEq true .num) (slotG 31) (constG (.int .i64 0)))]
noncomputable def R39_7 : CT :=
  .reg [
  oP (pdT 33) (eBuild [(.int .i64 0), (.int .i64 0), (.str [])] 3 []),
  oP (pdT 34) (eMov (slotG 7)),
  oP pdN (eStore 3 (slotG 4) (slotG 33)),
  oP (pdT 5) (eMov (slotG 34))]
noncomputable def R39_8 : CT :=
  .reg [
  oP (pdT 35) (e1 (cAddo 0) (slotG 2)),
  oP (pdT 36) (eLoad1 (slotG 35)),
  oP (pdT 37) (e2 (cEq false .num) (slotG 36) (constG (.int .i64 4)))]
noncomputable def R39_9 : CT :=
  .reg [
  oP (pdT 38) (eLoadN 3 (slotG 6)),
  cP (pdT 39) 75 [(slotG 38)],
  oP (pdT 40) (e1 (cExt 0) (slotG 39)),
  oP (pdT 41) (e1 (cExt 1) (slotG 39)),
  oP pdN (eStore 3 (slotG 4) (slotG 40)),
  oP (pdT 5) (eMov (slotG 41))]
noncomputable def R39_10 : CT :=
  .reg [
  oP (pdT 42) (e1 (cAddo 0) (slotG 2)),
  oP (pdT 43) (eLoad1 (slotG 42)),
  oP (pdT 44) (e2 (cEq false .num) (slotG 43) (constG (.int .i64 5)))]
noncomputable def R39_11 : CT :=
  .reg [
  oP (pdT 45) (eLoadN 3 (slotG 6)),
  cP (pdT 46) 76 [(slotG 45)],
  oP (pdT 47) (e1 (cExt 0) (slotG 46)),
  oP (pdT 48) (e1 (cExt 1) (slotG 46)),
  oP pdN (eStore 3 (slotG 4) (slotG 47)),
  oP (pdT 5) (eMov (slotG 48))]
noncomputable def R39_12 : CT :=
  .reg [
  oP (pdT 49) (e1 (cAddo 0) (slotG 2)),
  oP (pdT 50) (eLoad1 (slotG 49)),
  oP (pdT 51) (e2 (cEq false .num) (slotG 50) (constG (.int .i64 6))),
  oP (pdT 52) (eMov (slotG 51)),
  gP (slotG 52) false (pdT 53) (e1 (cAddo 0) (slotG 2)),
  gP (slotG 52) false (pdT 54) (eLoad1 (slotG 53)),
  gP (slotG 52) false (pdT 55) (e2 (cEq false .num) (slotG 54) (constG (.int .i64 7))),
  oP (pdT 56) (ePick (slotG 52) (constG (.bool true)) (slotG 55))]
noncomputable def R39_13 : CT :=
  .reg [
  oP (pdT 57) (e1 (cAddo 0) (slotG 6)),
  oP (pdT 58) (eLoad1 (slotG 57)),
  oP (pdT 59) (e2 (cEq false .num) (slotG 58) (constG (.int .i64 0))),
  oP (pdT 60) (e1 (cAddo 0) (slotG 2)),
  oP (pdT 61) (eLoad1 (slotG 60)),
  oP (pdT 62) (e2 (cEq false .num) (slotG 61) (constG (.int .i64 6))),
  oP (pdT 63) (e2 (cEq false .bool) (slotG 59) (slotG 62)),
  cP (pdT 64) 77 [(slotG 63)],
  oP pdN (eStore 3 (slotG 4) (slotG 64)),
  oP (pdT 5) (eMov (constG (.int .i64 0)))]
noncomputable def R39_14 : CT :=
  .reg [
  oP (pdT 66) (e1 (cAddo 7) (slotG 2)),
  oP (pdT 67) (eLoad1 (slotG 66)),
  oP (pdT 68) (e2 (cIxa 8) (slotG 67) (constG (.int .i64 1))),
  oP (pdT 69) (eLoadN 8 (slotG 68)),
  oP (pdT 70) (eMov (slotG 1)),
  cP (pdT 71) 39 [(slotG 69), (slotG 70)],
  oP (pdT 65) (eMov (slotG 71)),
  oP (pdT 72) (e1 (cExt 0) (slotG 65)),
  oP (pdT 73) (e1 (cExt 1) (slotG 65)),
  oP (pdT 8) (eAlloc [(.int .i64 0), (.int .i64 0), (.str [])] 3),
  oP pdN (eStore 3 (slotG 8) (slotG 72)),
  oP (pdT 7) (eMov (slotG 73))]
noncomputable def R39_15 : CT :=
  .reg [
  oP (pdT 74) (eMov (slotG 7)),
  oP (pdT 75) (e2 (cEq true .num) (slotG 74) (constG (.int .i64 0)))]
noncomputable def R39_16 : CT :=
  .reg [
  oP (pdT 76) (eBuild [(.int .i64 0), (.int .i64 0), (.str [])] 3 []),
  oP (pdT 77) (eMov (slotG 7)),
  oP pdN (eStore 3 (slotG 4) (slotG 76)),
  oP (pdT 5) (eMov (slotG 77))]
noncomputable def R39_17 : CT :=
  .reg [
  oP (pdT 78) (e1 (cAddo 0) (slotG 2)),
  oP (pdT 79) (eLoad1 (slotG 78)),
  oP (pdT 80) (e2 (cBin .leq) (slotG 79) (constG (.int .i64 12)))]
noncomputable def R39_18 : CT :=
  .reg [
  oP (pdT 81) (e1 (cAddo 0) (slotG 2)),
  oP (pdT 82) (eLoad1 (slotG 81)),
  oP (pdT 83) (e2 (cBin .sub) (slotG 82) (constG (.int .i64 8))),
  oP (pdT 84) (eLoadN 3 (slotG 6)),
  oP (pdT 85) (eLoadN 3 (slotG 8)),
  cP (pdT 86) 78 [(slotG 83), (slotG 84), (slotG 85)],
  oP (pdT 87) (e1 (cExt 0) (slotG 86)),
  oP (pdT 88) (e1 (cExt 1) (slotG 86)),
  oP pdN (eStore 3 (slotG 4) (slotG 87)),
  oP (pdT 5) (eMov (slotG 88))]
noncomputable def R39_19 : CT :=
  .reg [
  oP (pdT 89) (e1 (cAddo 0) (slotG 2)),
  oP (pdT 90) (eLoad1 (slotG 89)),
  oP (pdT 91) (e2 (cEq false .num) (slotG 90) (constG (.int .i64 13)))]
noncomputable def R39_20 : CT :=
  .reg [
  oP (pdT 92) (eLoadN 3 (slotG 6)),
  oP (pdT 93) (eLoadN 3 (slotG 8)),
  cP (pdT 94) 79 [(slotG 92), (slotG 93)],
  oP (pdT 95) (e1 (cExt 0) (slotG 94)),
  oP (pdT 96) (e1 (cExt 1) (slotG 94)),
  oP pdN (eStore 3 (slotG 4) (slotG 95)),
  oP (pdT 5) (eMov (slotG 96))]
noncomputable def R39_21 : CT :=
  .reg [
  oP (pdT 97) (e1 (cAddo 0) (slotG 2)),
  oP (pdT 98) (eLoad1 (slotG 97)),
  oP (pdT 99) (e2 (cEq false .num) (slotG 98) (constG (.int .i64 20)))]
noncomputable def R39_22 : CT :=
  .reg [
  oP (pdT 100) (eLoadN 3 (slotG 6)),
  oP (pdT 101) (eLoadN 3 (slotG 8)),
  cP (pdT 102) 80 [(slotG 100), (slotG 101)],
  oP (pdT 103) (e1 (cExt 0) (slotG 102)),
  oP (pdT 104) (e1 (cExt 1) (slotG 102)),
  oP pdN (eStore 3 (slotG 4) (slotG 103)),
  oP (pdT 5) (eMov (slotG 104))]
noncomputable def R39_23 : CT :=
  .reg [
  oP (pdT 105) (e1 (cAddo 0) (slotG 2)),
  oP (pdT 106) (eLoad1 (slotG 105)),
  oP (pdT 107) (e2 (cEq false .num) (slotG 106) (constG (.int .i64 21)))]
noncomputable def R39_24 : CT :=
  .reg [
  oP (pdT 108) (eLoadN 3 (slotG 6)),
  oP (pdT 109) (eLoadN 3 (slotG 8)),
  cP (pdT 110) 81 [(slotG 108), (slotG 109)],
  oP (pdT 111) (e1 (cExt 0) (slotG 110)),
  oP (pdT 112) (e1 (cExt 1) (slotG 110)),
  oP pdN (eStore 3 (slotG 4) (slotG 111)),
  oP (pdT 5) (eMov (slotG 112))]
noncomputable def R39_25 : CT :=
  .reg [
  oP (pdT 113) (e1 (cAddo 0) (slotG 2)),
  oP (pdT 114) (eLoad1 (slotG 113)),
  oP (pdT 115) (e2 (cBin .sub) (slotG 114) (constG (.int .i64 14))),
  oP (pdT 116) (eLoadN 3 (slotG 6)),
  oP (pdT 117) (eLoadN 3 (slotG 8)),
  cP (pdT 118) 82 [(slotG 115), (slotG 116), (slotG 117)],
  oP (pdT 119) (e1 (cExt 0) (slotG 118)),
  oP (pdT 120) (e1 (cExt 1) (slotG 118)),
  oP pdN (eStore 3 (slotG 4) (slotG 119)),
  oP (pdT 5) (eMov (slotG 120))]
noncomputable def B39 : CT := (.seq R39_0 (.seq (.seq R39_1 (.cond (slotG 11) (.seq R39_2 .ret) .skip)) (.seq (.seq R39_3 (.cond (slotG 16) (.seq R39_4 .ret) .skip)) (.seq R39_5 (.seq (.seq R39_6 (.cond (slotG 32) (.seq R39_7 .ret) .skip)) (.seq (.seq R39_8 (.cond (slotG 37) (.seq R39_9 .ret) .skip)) (.seq (.seq R39_10 (.cond (slotG 44) (.seq R39_11 .ret) .skip)) (.seq (.seq R39_12 (.cond (slotG 56) (.seq R39_13 .ret) .skip)) (.seq R39_14 (.seq (.seq R39_15 (.cond (slotG 75) (.seq R39_16 .ret) .skip)) (.seq (.seq R39_17 (.cond (slotG 80) (.seq R39_18 .ret) .skip)) (.seq (.seq R39_19 (.cond (slotG 91) (.seq R39_20 .ret) .skip)) (.seq (.seq R39_21 (.cond (slotG 99) (.seq R39_22 .ret) .skip)) (.seq (.seq R39_23 (.cond (slotG 107) (.seq R39_24 .ret) .skip)) (.seq R39_25 .ret)))))))))))))))
noncomputable def A39 : CF := { res := [rCelN 4 3, rTmp 5], code := B39, nt := 121 }
theorem c39 : ctF Tryz.prog 39 = some A39 := by kernel_rfl

/-! 40: slices.Clone[[]cadastre/api.Value,cadastre/api.Value] -/
noncomputable def R40_0 : CT :=
  .reg [
  oP (pdT 2) (eMov (constG (.cst (.slice none 0 0))))]
noncomputable def R40_1 : CT :=
  .reg [
  oP (pdT 3) (eMov (slotG 0)),
  oP (pdT 4) (e2 (cEq false .slice) (slotG 3) (constG (.cst (.slice none 0 0))))]
noncomputable def R40_2 : CT :=
  .reg [
  oP (pdT 2) (eMov (constG (.cst (.slice none 0 0))))]
noncomputable def R40_3 : CT :=
  .reg [
  oP (pdT 5) (eBslice [(.int .i64 0), (.int .i64 0), (.str [])] 0 3 []),
  oP (pdT 6) (eMov (slotG 0)),
  oP (pdT 7) (eApp 3 32 (slotG 5) (slotG 6)),
  oP (pdT 2) (eMov (slotG 7))]
noncomputable def B40 : CT := (.seq R40_0 (.seq (.seq R40_1 (.cond (slotG 4) (.seq R40_2 .ret) .skip)) (.seq R40_3 .ret)))
noncomputable def A40 : CF := { res := [rTmp 2], code := B40, nt := 8 }
theorem c40 : ctF Tryz.prog 40 = some A40 := by kernel_rfl

/-! 41: cadastre/model.order -/
noncomputable def R41_0 : CT :=
  .reg [
  oP (pdT 4) (eMov (constG (.int .i64 0)))]
noncomputable def R41_1 : CT :=
  .reg [
  oP (pdT 8) (eMov (slotG 0)),
  oP (pdT 9) (e1 cLenL (slotG 8)),
  oP (pdT 10) (eMov (slotG 1)),
  oP (pdT 11) (e1 cLenL (slotG 10)),
  oP (pdT 12) (eMnx minI [(slotG 9), (slotG 11)]),
  oP (pdT 13) (eMov (constG (.int .i64 0)))]
noncomputable def R41_2 : CT :=
  .reg [
  oP (pdT 14) (e2 (cBin .lss) (slotG 13) (slotG 12))]
noncomputable def R41_3 : CT :=
  .reg [
  oP (pdT 15) (eMov (slotG 13)),
  oP (pdT 5) (eMov (slotG 15))]
noncomputable def R41_4 : CT :=
  .drw [17, 18, 19, 20, 21, 22, 23, 24, 25, 16, 26, 27] [
  oI [0] (pdT 17) (eMov (slotG 0)) 1,
  oI [5] (pdT 18) (eMov (slotG 5)) 1,
  oI [17, 18] (pdT 19) (e2 (cIxa 3) (slotG 17) (slotG 18)) 1,
  oI [19] (pdT 20) (eLoadN 3 (slotG 19)) 1,
  oI [1] (pdT 21) (eMov (slotG 1)) 1,
  oI [5] (pdT 22) (eMov (slotG 5)) 1,
  oI [21, 22] (pdT 23) (e2 (cIxa 3) (slotG 21) (slotG 22)) 1,
  oI [23] (pdT 24) (eLoadN 3 (slotG 23)) 1,
  cI [20, 24] (pdT 25) 22 [(slotG 20), (slotG 24)],
  oI [25] (pdT 16) (eMov (slotG 25)) 1,
  oI [16] (pdT 26) (e1 (cExt 0) (slotG 16)) 1,
  oI [16] (pdT 27) (e1 (cExt 1) (slotG 16)) 1,
  oI [26] (pdT 6) (eMov (slotG 26)) 1,
  oI [27] (pdT 7) (eMov (slotG 27)) 1]
noncomputable def R41_5 : CT :=
  .reg [
  oP (pdT 28) (eMov (slotG 7)),
  oP (pdT 29) (e2 (cEq true .num) (slotG 28) (constG (.int .i64 0)))]
noncomputable def R41_6 : CT :=
  .reg [
  oP (pdT 6) (eMov (constG (.int .i64 0)))]
noncomputable def R41_7 : CT :=
  .reg [
  oP (pdT 30) (eMov (slotG 0)),
  oP (pdT 31) (eMov (slotG 5)),
  oP (pdT 32) (e2 (cIxa 3) (slotG 30) (slotG 31)),
  oP (pdT 33) (eLoadN 3 (slotG 32)),
  cP (pdT 34) 43 [(slotG 33)]]
noncomputable def R41_8 : CT :=
  .reg [
  oP (pdT 6) (eMov (constG (.int .i64 (-1))))]
noncomputable def R41_9 : CT :=
  .reg [
  oP (pdT 35) (eMov (slotG 1)),
  oP (pdT 36) (eMov (slotG 5)),
  oP (pdT 37) (e2 (cIxa 3) (slotG 35) (slotG 36)),
  oP (pdT 38) (eLoadN 3 (slotG 37)),
  cP (pdT 39) 43 [(slotG 38)]]
noncomputable def R41_10 : CT :=
  .reg [
  oP (pdT 6) (eMov (constG (.int .i64 1)))]
noncomputable def R41_11 : CT :=
  .reg [
  oP (pdT 40) (eMov (slotG 6)),
  oP (pdT 41) (e2 (cEq true .num) (slotG 40) (constG (.int .i64 0)))]
noncomputable def R41_12 : CT :=
  .reg [
  oP (pdT 42) (eMov (slotG 6)),
  oP (pdT 4) (eMov (slotG 42))]
noncomputable def R41_13 : CT :=
  .reg [
  oP (pdT 43) (e2 (cBin .add) (slotG 13) (constG (.int .i64 1))),
  oP (pdT 13) (eMov (slotG 43))]
noncomputable def L41_0 : CT := (.seq R41_2 (.seq (.cond (slotG 14) .skip (.exit 0)) (.seq (.block 1 (.seq R41_3 (.seq R41_4 (.seq (.seq R41_5 (.cond (slotG 29) (.seq R41_6 (.seq R41_7 (.cond (slotG 34) R41_8 (.seq R41_9 (.cond (slotG 39) R41_10 .skip))))) .skip)) (.seq R41_11 (.cond (slotG 41) (.seq R41_12 .ret) .skip)))))) R41_13)))
noncomputable def R41_14 : CT :=
  .reg [
  oP (pdT 44) (eMov (slotG 0)),
  oP (pdT 45) (e1 cLenL (slotG 44)),
  oP (pdT 46) (eMov (slotG 1)),
  oP (pdT 47) (e1 cLenL (slotG 46)),
  oP (pdT 48) (e2 (cBin .sub) (slotG 45) (slotG 47)),
  oP (pdT 4) (eMov (slotG 48))]
noncomputable def B41 : CT := (.seq R41_0 (.seq (.seq R41_1 (.block 0 (.loop L41_0))) (.seq R41_14 .ret)))
noncomputable def A41 : CF := { res := [rTmp 4], code := B41, nt := 49 }
theorem c41 : ctF Tryz.prog 41 = some A41 := by kernel_rfl

/-! 42: slices.stableCmpFunc[[]cadastre/api.Value] -/
noncomputable def R42_0 : CT :=
  .reg [
  oP (pdT 6) (eMov (constG (.int .i64 20)))]
noncomputable def R42_1 : CT :=
  .reg [
  oP (pdT 10) (eMov (slotG 6)),
  oP (pdT 7) (eMov (constG (.int .i64 0))),
  oP (pdT 8) (eMov (slotG 10))]
noncomputable def R42_2 : CT :=
  .reg [
  oP (pdT 11) (eMov (slotG 8)),
  oP (pdT 12) (eMov (slotG 1)),
  oP (pdT 13) (e2 (cBin .leq) (slotG 11) (slotG 12))]
noncomputable def R42_3 : CT :=
  .reg [
  oP (pdT 14) (eMov (slotG 0)),
  oP (pdT 15) (eMov (slotG 7)),
  oP (pdT 16) (eMov (slotG 8)),
  oP (pdT 17) (eMov (slotG 2)),
  cP (pdT 18) 83 [(slotG 14), (slotG 15), (slotG 16), (slotG 17)]]
noncomputable def R42_4 : CT :=
  .reg [
  oP (pdT 19) (eMov (slotG 8)),
  oP (pdT 7) (eMov (slotG 19))]
noncomputable def R42_5 : CT :=
  .reg [
  oP (pdT 20) (eMov (slotG 8)),
  oP (pdT 21) (eMov (slotG 6)),
  oP (pdT 22) (e2 (cBin .add) (slotG 20) (slotG 21)),
  oP (pdT 8) (eMov (slotG 22))]
noncomputable def L42_0 : CT := (.seq (.seq R42_2 (.cond (slotG 13) .skip (.exit 0))) (.block 1 (.seq R42_3 (.seq R42_4 R42_5))))
noncomputable def R42_6 : CT :=
  .reg [
  oP (pdT 23) (eMov (slotG 0)),
  oP (pdT 24) (eMov (slotG 7)),
  oP (pdT 25) (eMov (slotG 1)),
  oP (pdT 26) (eMov (slotG 2)),
  cP (pdT 27) 83 [(slotG 23), (slotG 24), (slotG 25), (slotG 26)]]
noncomputable def R42_7 : CT :=
  .reg [
  oP (pdT 28) (eMov (slotG 6)),
  oP (pdT 29) (eMov (slotG 1)),
  oP (pdT 30) (e2 (cBin .lss) (slotG 28) (slotG 29))]
noncomputable def R42_8 : CT :=
  .reg [
  oP (pdT 31) (eMov (slotG 6)),
  oP (pdT 32) (e2 (cBin .mul) (constG (.int .i64 2)) (slotG 31)),
  oP (pdT 7) (eMov (constG (.int .i64 0))),
  oP (pdT 8) (eMov (slotG 32))]
noncomputable def R42_9 : CT :=
  .reg [
  oP (pdT 33) (eMov (slotG 8)),
  oP (pdT 34) (eMov (slotG 1)),
  oP (pdT 35) (e2 (cBin .leq) (slotG 33) (slotG 34))]
noncomputable def R42_10 : CT :=
  .reg [
  oP (pdT 36) (eMov (slotG 0)),
  oP (pdT 37) (eMov (slotG 7)),
  oP (pdT 38) (eMov (slotG 7)),
  oP (pdT 39) (eMov (slotG 6)),
  oP (pdT 40) (e2 (cBin .add) (slotG 38) (slotG 39)),
  oP (pdT 41) (eMov (slotG 8)),
  oP (pdT 42) (eMov (slotG 2)),
  cP (pdT 43) 84 [(slotG 36), (slotG 37), (slotG 40), (slotG 41), (slotG 42)]]
noncomputable def R42_11 : CT :=
  .reg [
  oP (pdT 44) (eMov (slotG 8)),
  oP (pdT 7) (eMov (slotG 44))]
noncomputable def R42_12 : CT :=
  .reg [
  oP (pdT 45) (eMov (slotG 8)),
  oP (pdT 46) (eMov (slotG 6)),
  oP (pdT 47) (e2 (cBin .mul) (constG (.int .i64 2)) (slotG 46)),
  oP (pdT 48) (e2 (cBin .add) (slotG 45) (slotG 47)),
  oP (pdT 8) (eMov (slotG 48))]
noncomputable def L42_1 : CT := (.seq (.seq R42_9 (.cond (slotG 35) .skip (.exit 4))) (.block 5 (.seq R42_10 (.seq R42_11 R42_12))))
noncomputable def R42_13 : CT :=
  .reg [
  oP (pdT 49) (eMov (slotG 7)),
  oP (pdT 50) (eMov (slotG 6)),
  oP (pdT 51) (e2 (cBin .add) (slotG 49) (slotG 50)),
  oP (pdT 9) (eMov (slotG 51))]
noncomputable def R42_14 : CT :=
  .reg [
  oP (pdT 52) (eMov (slotG 9)),
  oP (pdT 53) (eMov (slotG 1)),
  oP (pdT 54) (e2 (cBin .lss) (slotG 52) (slotG 53))]
noncomputable def R42_15 : CT :=
  .reg [
  oP (pdT 55) (eMov (slotG 0)),
  oP (pdT 56) (eMov (slotG 7)),
  oP (pdT 57) (eMov (slotG 9)),
  oP (pdT 58) (eMov (slotG 1)),
  oP (pdT 59) (eMov (slotG 2)),
  cP (pdT 60) 84 [(slotG 55), (slotG 56), (slotG 57), (slotG 58), (slotG 59)]]
noncomputable def R42_16 : CT :=
  .reg [
  oP (pdT 61) (eMov (slotG 6)),
  oP (pdT 62) (e2 (cBin .mul) (slotG 61) (constG (.int .i64 2))),
  oP (pdT 6) (eMov (slotG 62))]
noncomputable def L42_2 : CT := (.seq (.seq R42_7 (.cond (slotG 30) .skip (.exit 2))) (.block 3 (.seq R42_8 (.seq (.block 4 (.loop L42_1)) (.seq (.seq R42_13 (.seq R42_14 (.cond (slotG 54) R42_15 .skip))) R42_16)))))
noncomputable def B42 : CT := (.seq R42_0 (.seq R42_1 (.seq (.block 0 (.loop L42_0)) (.seq R42_6 (.block 2 (.loop L42_2))))))
noncomputable def A42 : CF := { res := [], code := B42, nt := 63 }
theorem c42 : ctF Tryz.prog 42 = some A42 := by kernel_rfl

/-! 43: cadastre/value.May -/
noncomputable def R43_0 : CT :=
  .reg [
  oP (pdT 1) (eBox (slotG 0)),
  oP (pdT 2) (eMov (constG (.bool false)))]
noncomputable def R43_1 : CT :=
  .reg [
  oP (pdT 3) (e1 (cAddo 0) (slotG 1)),
  oP (pdT 4) (eLoad1 (slotG 3))]
noncomputable def R43_2 : CT :=
  .reg [
  oP (pdT 6) (e2 (cEq false .num) (slotG 4) (constG (.int .i64 0))),
  oP (pdT 5) (eMov (slotG 6))]
noncomputable def R43_3 : CT :=
  .reg [
  oP (pdT 7) (eLoadN 3 (slotG 1)),
  oP (pdT 8) (eBuild [(.int .i64 0), (.int .i64 0), (.str [])] 3 []),
  oP (pdT 9) (e2 (cEqA false [.i, .i, .s]) (slotG 7) (slotG 8)),
  oP (pdT 2) (eMov (slotG 9))]
noncomputable def R43_4 : CT :=
  .reg [
  oP (pdT 11) (e2 (cEq false .num) (slotG 4) (constG (.int .i64 1))),
  oP (pdT 10) (eMov (slotG 11))]
noncomputable def R43_5 : CT :=
  .reg [
  oP (pdT 12) (e1 (cAddo 2) (slotG 1)),
  oP (pdT 13) (eLoad1 (slotG 12)),
  oP (pdT 14) (e2 (cEq false .num) (slotG 13) (constG (.str []))),
  oP (pdT 2) (eMov (slotG 14))]
noncomputable def R43_6 : CT :=
  .reg [
  oP (pdT 16) (e2 (cEq false .num) (slotG 4) (constG (.int .i64 2))),
  oP (pdT 15) (eMov (slotG 16))]
noncomputable def R43_7 : CT :=
  .reg [
  oP (pdT 17) (e1 (cAddo 1) (slotG 1)),
  oP (pdT 18) (eLoad1 (slotG 17)),
  oP (pdT 19) (e2 (cEq false .num) (slotG 18) (constG (.int .i64 0))),
  oP (pdT 20) (eMov (slotG 19)),
  gP (slotG 20) true (pdT 21) (e1 (cAddo 2) (slotG 1)),
  gP (slotG 20) true (pdT 22) (eLoad1 (slotG 21)),
  gP (slotG 20) true (pdT 23) (e1 cLenS (slotG 22)),
  gP (slotG 20) true (pdT 24) (e2 (cBin .leq) (slotG 23) (constG (.int .i64 64))),
  oP (pdT 25) (ePick (slotG 20) (slotG 24) (constG (.bool false))),
  oP (pdT 2) (eMov (slotG 25))]
noncomputable def R43_8 : CT :=
  .reg [
  oP (pdT 27) (e2 (cEq false .num) (slotG 4) (constG (.int .i64 3))),
  oP (pdT 26) (eMov (slotG 27))]
noncomputable def R43_9 : CT :=
  .reg [
  oP (pdT 28) (e1 (cAddo 2) (slotG 1)),
  oP (pdT 29) (eLoad1 (slotG 28)),
  oP (pdT 30) (e2 (cEq false .num) (slotG 29) (constG (.str []))),
  oP (pdT 31) (eMov (slotG 30)),
  gP (slotG 31) true (pdT 32) (e1 (cAddo 1) (slotG 1)),
  gP (slotG 31) true (pdT 33) (eLoad1 (slotG 32)),
  gP (slotG 31) true (pdT 34) (e2 (cEq false .num) (slotG 33) (constG (.int .i64 0))),
  gP (slotG 31) true (pdT 35) (eMov (slotG 34)),
  gP (slotG 35) false (pdT 36) (e1 (cAddo 1) (slotG 1)),
  gP (slotG 35) false (pdT 37) (eLoad1 (slotG 36)),
  gP (slotG 35) false (pdT 38) (e2 (cEq false .num) (slotG 37) (constG (.int .i64 1))),
  gP (slotG 31) true (pdT 39) (ePick (slotG 35) (constG (.bool true)) (slotG 38)),
  oP (pdT 40) (ePick (slotG 31) (slotG 39) (constG (.bool false))),
  oP (pdT 2) (eMov (slotG 40))]
noncomputable def R43_10 : CT :=
  .reg [
  oP (pdT 2) (eMov (constG (.bool false)))]
noncomputable def B43 : CT := (.seq R43_0 (.seq (.seq R43_1 (.block 0 (.seq R43_2 (.cond (slotG 5) (.seq R43_3 .ret) (.seq R43_4 (.cond (slotG 10) (.seq R43_5 .ret) (.seq R43_6 (.cond (slotG 15) (.seq R43_7 .ret) (.seq R43_8 (.cond (slotG 26) (.seq R43_9 .ret) .skip)))))))))) (.seq R43_10 .ret)))
noncomputable def A43 : CF := { res := [rTmp 2], code := B43, nt := 41 }
theorem c43 : ctF Tryz.prog 43 = some A43 := by kernel_rfl

/-! 44: cadastre/value.order -/
noncomputable def R44_0 : CT :=
  .reg [
  oP (pdT 2) (eBox (slotG 0)),
  oP (pdT 3) (eBox (slotG 1)),
  oP (pdT 4) (eMov (constG (.int .i64 0)))]
noncomputable def R44_1 : CT :=
  .reg [
  oP (pdT 5) (e1 (cAddo 0) (slotG 2)),
  oP (pdT 6) (eLoad1 (slotG 5)),
  oP (pdT 7) (e1 (cAddo 0) (slotG 3)),
  oP (pdT 8) (eLoad1 (slotG 7)),
  oP (pdT 9) (e2 (cEq true .num) (slotG 6) (slotG 8))]
noncomputable def R44_2 : CT :=
  .drw [10, 11, 12, 13, 14, 15, 16] [
  oI [2] (pdT 10) (e1 (cAddo 0) (slotG 2)) 1,
  oI [10] (pdT 11) (eLoad1 (slotG 10)) 1,
  cI [11] (pdT 12) 85 [(slotG 11)],
  oI [3] (pdT 13) (e1 (cAddo 0) (slotG 3)) 2,
  oI [13] (pdT 14) (eLoad1 (slotG 13)) 2,
  cI [14] (pdT 15) 85 [(slotG 14)],
  oI [12, 15] (pdT 16) (e2 (cBin .lss) (slotG 12) (slotG 15)) 1]
noncomputable def R44_3 : CT :=
  .reg [
  oP (pdT 4) (eMov (constG (.int .i64 (-1))))]
noncomputable def R44_4 : CT :=
  .reg [
  oP (pdT 4) (eMov (constG (.int .i64 1)))]
noncomputable def R44_5 : CT :=
  .reg [
  oP (pdT 17) (e1 (cAddo 0) (slotG 2)),
  oP (pdT 18) (eLoad1 (slotG 17)),
  oP (pdT 19) (e2 (cEq false .num) (slotG 18) (constG (.int .i64 2)))]
noncomputable def R44_6 : CT :=
  .reg [
  oP (pdT 20) (e1 (cAddo 2) (slotG 2)),
  oP (pdT 21) (eLoad1 (slotG 20)),
  oP (pdT 22) (e1 (cAddo 2) (slotG 3)),
  oP (pdT 23) (eLoad1 (slotG 22)),
  cP (pdT 24) 86 [(slotG 21), (slotG 23)],
  oP (pdT 4) (eMov (slotG 24))]
noncomputable def R44_7 : CT :=
  .reg [
  oP (pdT 25) (e1 (cAddo 1) (slotG 2)),
  oP (pdT 26) (eLoad1 (slotG 25)),
  oP (pdT 27) (e1 (cAddo 1) (slotG 3)),
  oP (pdT 28) (eLoad1 (slotG 27)),
  oP (pdT 29) (e2 (cBin .lss) (slotG 26) (slotG 28))]
noncomputable def R44_8 : CT :=
  .reg [
  oP (pdT 4) (eMov (constG (.int .i64 (-1))))]
noncomputable def R44_9 : CT :=
  .reg [
  oP (pdT 30) (e1 (cAddo 1) (slotG 2)),
  oP (pdT 31) (eLoad1 (slotG 30)),
  oP (pdT 32) (e1 (cAddo 1) (slotG 3)),
  oP (pdT 33) (eLoad1 (slotG 32)),
  oP (pdT 34) (e2 (cBin .gtr) (slotG 31) (slotG 33))]
noncomputable def R44_10 : CT :=
  .reg [
  oP (pdT 4) (eMov (constG (.int .i64 1)))]
noncomputable def R44_11 : CT :=
  .reg [
  oP (pdT 4) (eMov (constG (.int .i64 0)))]
noncomputable def B44 : CT := (.seq R44_0 (.seq (.seq R44_1 (.cond (slotG 9) (.seq (.seq R44_2 (.cond (slotG 16) (.seq R44_3 .ret) .skip)) (.seq R44_4 .ret)) .skip)) (.seq (.seq R44_5 (.cond (slotG 19) (.seq R44_6 .ret) .skip)) (.seq (.seq R44_7 (.cond (slotG 29) (.seq R44_8 .ret) .skip)) (.seq (.seq R44_9 (.cond (slotG 34) (.seq R44_10 .ret) .skip)) (.seq R44_11 .ret))))))
noncomputable def A44 : CF := { res := [rTmp 4], code := B44, nt := 35 }
theorem c44 : ctF Tryz.prog 44 = some A44 := by kernel_rfl

/-! 45: cadastre/cadastreref22.Order -/
noncomputable def R45_0 : CT :=
  .reg [
  oP (pdT 6) (eMov (constG (.int .i64 0)))]
noncomputable def R45_1 : CT :=
  .reg [
  oP (pdT 7) (eMov (constG (.int .i64 0)))]
noncomputable def R45_2 : CT :=
  .reg [
  oP (pdT 9) (eMov (slotG 7)),
  oP (pdT 10) (eMov (slotG 2)),
  oP (pdT 11) (e1 cLenL (slotG 10)),
  oP (pdT 12) (e2 (cBin .lss) (slotG 9) (slotG 11))]
noncomputable def R45_3 : CT :=
  .drw [15, 16, 17, 18, 19, 20, 21, 22, 23, 24, 25, 26, 27, 28, 29, 30, 31] [
  oI [0] (pdT 15) (eMov (slotG 0)) 1,
  oI [2] (pdT 16) (eMov (slotG 2)) 1,
  oI [7] (pdT 17) (eMov (slotG 7)) 1,
  oI [16, 17] (pdT 18) (e2 (cIxa 2) (slotG 16) (slotG 17)) 1,
  oI [18] (pdT 19) (e1 (cAddo 0) (slotG 18)) 1,
  oI [19] (pdT 20) (eLoad1 (slotG 19)) 1,
  oI [15, 20] (pdT 21) (e2 (cIxa 3) (slotG 15) (slotG 20)) 1,
  oI [21] (pdT 22) (eLoadN 3 (slotG 21)) 1,
  oI [1] (pdT 23) (eMov (slotG 1)) 1,
  oI [2] (pdT 24) (eMov (slotG 2)) 1,
  oI [7] (pdT 25) (eMov (slotG 7)) 1,
  oI [24, 25] (pdT 26) (e2 (cIxa 2) (slotG 24) (slotG 25)) 1,
  oI [26] (pdT 27) (e1 (cAddo 0) (slotG 26)) 1,
  oI [27] (pdT 28) (eLoad1 (slotG 27)) 1,
  oI [23, 28] (pdT 29) (e2 (cIxa 3) (slotG 23) (slotG 28)) 1,
  oI [29] (pdT 30) (eLoadN 3 (slotG 29)) 1,
  cI [22, 30] (pdT 31) 87 [(slotG 22), (slotG 30)],
  oI [31] (pdT 8) (eMov (slotG 31)) 1]
noncomputable def R45_4 : CT :=
  .reg [
  oP (pdT 32) (eMov (slotG 2)),
  oP (pdT 33) (eMov (slotG 7)),
  oP (pdT 34) (e2 (cIxa 2) (slotG 32) (slotG 33)),
  oP (pdT 35) (e1 (cAddo 1) (slotG 34)),
  oP (pdT 36) (eLoad1 (slotG 35))]
noncomputable def R45_5 : CT :=
  .reg [
  oP (pdT 37) (eMov (slotG 8)),
  oP (pdT 38) (e1 (cUn .neg) (slotG 37)),
  oP (pdT 8) (eMov (slotG 38))]
noncomputable def R45_6 : CT :=
  .reg [
  oP (pdT 39) (eMov (slotG 8)),
  oP (pdT 40) (e2 (cEq true .num) (slotG 39) (constG (.int .i64 0)))]
noncomputable def R45_7 : CT :=
  .reg [
  oP (pdT 41) (eMov (slotG 8)),
  oP (pdT 6) (eMov (slotG 41))]
noncomputable def R45_8 : CT :=
  .reg [
  oP (pdT 13) (eMov (slotG 7)),
  oP (pdT 14) (e2 (cBin .add) (slotG 13) (constG (.int .i64 1))),
  oP (pdT 7) (eMov (slotG 14))]
noncomputable def L45_0 : CT := (.seq (.seq R45_2 (.cond (slotG 12) .skip (.exit 0))) (.seq (.block 1 (.seq R45_3 (.seq (.seq R45_4 (.cond (slotG 36) R45_5 .skip)) (.seq R45_6 (.cond (slotG 40) (.seq R45_7 .ret) .skip))))) R45_8))
noncomputable def R45_9 : CT :=
  .reg [
  oP (pdT 42) (eMov (slotG 0)),
  oP (pdT 43) (eMov (slotG 1)),
  cP (pdT 44) 88 [(slotG 42), (slotG 43)],
  oP (pdT 6) (eMov (slotG 44))]
noncomputable def B45 : CT := (.seq R45_0 (.seq (.seq R45_1 (.block 0 (.loop L45_0))) (.seq R45_9 .ret)))
noncomputable def A45 : CF := { res := [rTmp 6], code := B45, nt := 45 }
theorem c45 : ctF Tryz.prog 45 = some A45 := by kernel_rfl

/-! 74: cadastre/cadastreref03.May -/
noncomputable def R74_0 : CT :=
  .reg [
  oP (pdT 1) (eBox (slotG 0)),
  oP (pdT 2) (eMov (constG (.bool false)))]
noncomputable def R74_1 : CT :=
  .reg [
  oP (pdT 3) (e1 (cAddo 0) (slotG 1)),
  oP (pdT 4) (eLoad1 (slotG 3)),
  oP (pdT 5) (e2 (cEq false .num) (slotG 4) (constG (.int .i64 0)))]
noncomputable def R74_2 : CT :=
  .reg [
  oP (pdT 6) (e1 (cAddo 1) (slotG 1)),
  oP (pdT 7) (eLoad1 (slotG 6)),
  oP (pdT 8) (e2 (cEq false .num) (slotG 7) (constG (.int .i64 0))),
  oP (pdT 9) (eMov (slotG 8)),
  gP (slotG 9) true (pdT 10) (e1 (cAddo 2) (slotG 1)),
  gP (slotG 9) true (pdT 11) (eLoad1 (slotG 10)),
  gP (slotG 9) true (pdT 12) (e2 (cEq false .num) (slotG 11) (constG (.str []))),
  oP (pdT 13) (ePick (slotG 9) (slotG 12) (constG (.bool false))),
  oP (pdT 2) (eMov (slotG 13))]
noncomputable def R74_3 : CT :=
  .reg [
  oP (pdT 14) (e1 (cAddo 0) (slotG 1)),
  oP (pdT 15) (eLoad1 (slotG 14)),
  oP (pdT 16) (e2 (cEq false .num) (slotG 15) (constG (.int .i64 1)))]
noncomputable def R74_4 : CT :=
  .reg [
  oP (pdT 17) (e1 (cAddo 2) (slotG 1)),
  oP (pdT 18) (eLoad1 (slotG 17)),
  oP (pdT 19) (e2 (cEq false .num) (slotG 18) (constG (.str []))),
  oP (pdT 2) (eMov (slotG 19))]
noncomputable def R74_5 : CT :=
  .reg [
  oP (pdT 20) (e1 (cAddo 0) (slotG 1)),
  oP (pdT 21) (eLoad1 (slotG 20)),
  oP (pdT 22) (e2 (cEq false .num) (slotG 21) (constG (.int .i64 2)))]
noncomputable def R74_6 : CT :=
  .reg [
  oP (pdT 23) (e1 (cAddo 1) (slotG 1)),
  oP (pdT 24) (eLoad1 (slotG 23)),
  oP (pdT 25) (e2 (cEq false .num) (slotG 24) (constG (.int .i64 0))),
  oP (pdT 26) (eMov (slotG 25)),
  gP (slotG 26) true (pdT 27) (e1 (cAddo 2) (slotG 1)),
  gP (slotG 26) true (pdT 28) (eLoad1 (slotG 27)),
  gP (slotG 26) true (pdT 29) (e1 cLenS (slotG 28)),
  gP (slotG 26) true (pdT 30) (e2 (cBin .leq) (slotG 29) (constG (.int .i64 64))),
  oP (pdT 31) (ePick (slotG 26) (slotG 30) (constG (.bool false))),
  oP (pdT 2) (eMov (slotG 31))]
noncomputable def R74_7 : CT :=
  .reg [
  oP (pdT 32) (e1 (cAddo 0) (slotG 1)),
  oP (pdT 33) (eLoad1 (slotG 32)),
  oP (pdT 34) (e2 (cEq false .num) (slotG 33) (constG (.int .i64 3))),
  oP (pdT 35) (eMov (slotG 34)),
  gP (slotG 35) true (pdT 36) (e1 (cAddo 2) (slotG 1)),
  gP (slotG 35) true (pdT 37) (eLoad1 (slotG 36)),
  gP (slotG 35) true (pdT 38) (e2 (cEq false .num) (slotG 37) (constG (.str []))),
  oP (pdT 39) (ePick (slotG 35) (slotG 38) (constG (.bool false))),
  oP (pdT 40) (eMov (slotG 39)),
  gP (slotG 40) true (pdT 41) (e1 (cAddo 1) (slotG 1)),
  gP (slotG 40) true (pdT 42) (eLoad1 (slotG 41)),
  gP (slotG 40) true (pdT 43) (e2 (cBin .geq) (slotG 42) (constG (.int .i64 0))),
  oP (pdT 44) (ePick (slotG 40) (slotG 43) (constG (.bool false))),
  oP (pdT 45) (eMov (slotG 44)),
  gP (slotG 45) true (pdT 46) (e1 (cAddo 1) (slotG 1)),
  gP (slotG 45) true (pdT 47) (eLoad1 (slotG 46)),
  gP (slotG 45) true (pdT 48) (e2 (cBin .leq) (slotG 47) (constG (.int .i64 1))),
  oP (pdT 49) (ePick (slotG 45) (slotG 48) (constG (.bool false))),
  oP (pdT 2) (eMov (slotG 49))]
noncomputable def B74 : CT := (.seq R74_0 (.seq (.seq R74_1 (.cond (slotG 5) (.seq R74_2 .ret) .skip)) (.seq (.seq R74_3 (.cond (slotG 16) (.seq R74_4 .ret) .skip)) (.seq (.seq R74_5 (.cond (slotG 22) (.seq R74_6 .ret) .skip)) (.seq R74_7 .ret)))))
noncomputable def A74 : CF := { res := [rTmp 2], code := B74, nt := 50 }
theorem c74 : ctF Tryz.prog 74 = some A74 := by kernel_rfl

/-! 83: slices.insertionSortCmpFunc[[]cadastre/api.Value] -/
noncomputable def R83_0 : CT :=
  .reg [
  oP (pdT 10) (eMov (slotG 1)),
  oP (pdT 11) (e2 (cBin .add) (slotG 10) (constG (.int .i64 1))),
  oP (pdT 8) (eMov (slotG 11))]
noncomputable def R83_1 : CT :=
  .reg [
  oP (pdT 12) (eMov (slotG 8)),
  oP (pdT 13) (eMov (slotG 2)),
  oP (pdT 14) (e2 (cBin .lss) (slotG 12) (slotG 13))]
noncomputable def R83_2 : CT :=
  .reg [
  oP (pdT 17) (eMov (slotG 8)),
  oP (pdT 9) (eMov (slotG 17))]
noncomputable def R83_3 : CT :=
  .drw [18, 19, 20, 21, 22, 23, 24, 25, 26, 27, 28, 29, 30, 31, 32, 33, 34] [
  oI [9] (pdT 18) (eMov (slotG 9)) 1,
  oI [1] (pdT 19) (eMov (slotG 1)) 1,
  oI [18, 19] (pdT 20) (e2 (cBin .gtr) (slotG 18) (slotG 19)) 1,
  oI [20] (pdT 21) (eMov (slotG 20)) 1,
  goI [21, 3] (slotG 21) true (pdT 22) (eMov (slotG 3)) 1,
  goI [21, 0] (slotG 21) true (pdT 23) (eMov (slotG 0)) 1,
  goI [21, 9] (slotG 21) true (pdT 24) (eMov (slotG 9)) 1,
  goI [21, 23, 24] (slotG 21) true (pdT 25) (e2 (cIxa 1) (slotG 23) (slotG 24)) 1,
  goI [21, 25] (slotG 21) true (pdT 26) (eLoad1 (slotG 25)) 1,
  goI [21, 0] (slotG 21) true (pdT 27) (eMov (slotG 0)) 1,
  goI [21, 9] (slotG 21) true (pdT 28) (eMov (slotG 9)) 1,
  goI [21, 28] (slotG 21) true (pdT 29) (e2 (cBin .sub) (slotG 28) (constG (.int .i64 1))) 1,
  goI [21, 27, 29] (slotG 21) true (pdT 30) (e2 (cIxa 1) (slotG 27) (slotG 29)) 1,
  goI [21, 30] (slotG 21) true (pdT 31) (eLoad1 (slotG 30)) 1,
  gvI [21, 22, 26, 31] (slotG 21) true (pdT 32) (slotG 22) [(slotG 26), (slotG 31)],
  goI [21, 32] (slotG 21) true (pdT 33) (e2 (cBin .lss) (slotG 32) (constG (.int .i64 0))) 1,
  oI [21, 33] (pdT 34) (ePick (slotG 21) (slotG 33) (constG (.bool false))) 1]
noncomputable def R83_4 : CT :=
  .drw [37, 38, 39, 40, 41, 42, 43, 44, 45, 46, 47, 48, 49, 50, 51, 52] [
  oI [0] (pdT 37) (eMov (slotG 0)) 1,
  oI [9] (pdT 38) (eMov (slotG 9)) 1,
  oI [0] (pdT 42) (eMov (slotG 0)) 1,
  oI [9] (pdT 43) (eMov (slotG 9)) 1,
  oI [43] (pdT 44) (e2 (cBin .sub) (slotG 43) (constG (.int .i64 1))) 1,
  oI [42, 44] (pdT 45) (e2 (cIxa 1) (slotG 42) (slotG 44)) 1,
  oI [45] (pdT 46) (eLoad1 (slotG 45)) 1,
  oI [0] (pdT 47) (eMov (slotG 0)) 1,
  oI [9] (pdT 48) (eMov (slotG 9)) 1,
  oI [47, 48] (pdT 49) (e2 (cIxa 1) (slotG 47) (slotG 48)) 1,
  oI [49] (pdT 50) (eLoad1 (slotG 49)) 1,
  oI [37, 38] (pdT 51) (e2 (cIxa 1) (slotG 37) (slotG 38)) 1,
  mI [51, 46] pdN (eStore 1 (slotG 51) (slotG 46)),
  oI [0] (pdT 39) (eMov (slotG 0)) 2,
  oI [9] (pdT 40) (eMov (slotG 9)) 2,
  oI [40] (pdT 41) (e2 (cBin .sub) (slotG 40) (constG (.int .i64 1))) 2,
  oI [39, 41] (pdT 52) (e2 (cIxa 1) (slotG 39) (slotG 41)) 1,
  mI [52, 50] pdN (eStore 1 (slotG 52) (slotG 50))]
noncomputable def R83_5 : CT :=
  .reg [
  oP (pdT 35) (eMov (slotG 9)),
  oP (pdT 36) (e2 (cBin .sub) (slotG 35) (constG (.int .i64 1))),
  oP (pdT 9) (eMov (slotG 36))]
noncomputable def L83_0 : CT := (.seq (.seq R83_3 (.cond (slotG 34) .skip (.exit 2))) (.seq (.block 3 R83_4) R83_5))
noncomputable def R83_6 : CT :=
  .reg [
  oP (pdT 15) (eMov (slotG 8)),
  oP (pdT 16) (e2 (cBin .add) (slotG 15) (constG (.int .i64 1))),
  oP (pdT 8) (eMov (slotG 16))]
noncomputable def L83_1 : CT := (.seq (.seq R83_1 (.cond (slotG 14) .skip (.exit 0))) (.seq (.block 1 (.seq R83_2 (.block 2 (.loop L83_0)))) R83_6))
noncomputable def B83 : CT := (.seq R83_0 (.block 0 (.loop L83_1)))
noncomputable def A83 : CF := { res := [], code := B83, nt := 53 }
theorem c83 : ctF Tryz.prog 83 = some A83 := by kernel_rfl

/-! 84: slices.symMergeCmpFunc[[]cadastre/api.Value] -/
noncomputable def R84_0 : CT :=
  .reg [
  oP (pdT 25) (eMov (slotG 2)),
  oP (pdT 26) (eMov (slotG 1)),
  oP (pdT 27) (e2 (cBin .sub) (slotG 25) (slotG 26)),
  oP (pdT 28) (e2 (cEq false .num) (slotG 27) (constG (.int .i64 1)))]
noncomputable def R84_1 : CT :=
  .reg [
  oP (pdT 29) (eMov (slotG 2)),
  oP (pdT 10) (eMov (slotG 29))]
noncomputable def R84_2 : CT :=
  .reg [
  oP (pdT 30) (eMov (slotG 3)),
  oP (pdT 11) (eMov (slotG 30))]
noncomputable def R84_3 : CT :=
  .reg [
  oP (pdT 31) (eMov (slotG 10)),
  oP (pdT 32) (eMov (slotG 11)),
  oP (pdT 33) (e2 (cBin .lss) (slotG 31) (slotG 32))]
noncomputable def R84_4 : CT :=
  .reg [
  oP (pdT 34) (eMov (slotG 10)),
  oP (pdT 35) (eMov (slotG 11)),
  oP (pdT 36) (e2 (cBin .add) (slotG 34) (slotG 35)),
  oP (pdT 37) (e1 (cToInt .u64) (slotG 36)),
  oP (pdT 38) (e2 (cBin .shr) (slotG 37) (constG (.int .u64 1))),
  oP (pdT 39) (e1 (cToInt .i64) (slotG 38)),
  oP (pdT 12) (eMov (slotG 39))]
noncomputable def R84_5 : CT :=
  .drw [40, 41, 42, 43, 44, 45, 46, 47, 48, 49, 50] [
  oI [4] (pdT 40) (eMov (slotG 4)) 1,
  oI [0] (pdT 41) (eMov (slotG 0)) 1,
  oI [12] (pdT 42) (eMov (slotG 12)) 1,
  oI [41, 42] (pdT 43) (e2 (cIxa 1) (slotG 41) (slotG 42)) 1,
  oI [43] (pdT 44) (eLoad1 (slotG 43)) 1,
  oI [0] (pdT 45) (eMov (slotG 0)) 1,
  oI [1] (pdT 46) (eMov (slotG 1)) 1,
  oI [45, 46] (pdT 47) (e2 (cIxa 1) (slotG 45) (slotG 46)) 1,
  oI [47] (pdT 48) (eLoad1 (slotG 47)) 1,
  vI [40, 44, 48] (pdT 49) (slotG 40) [(slotG 44), (slotG 48)],
  oI [49] (pdT 50) (e2 (cBin .lss) (slotG 49) (constG (.int .i64 0))) 1]
noncomputable def R84_6 : CT :=
  .reg [
  oP (pdT 51) (eMov (slotG 12)),
  oP (pdT 52) (e2 (cBin .add) (slotG 51) (constG (.int .i64 1))),
  oP (pdT 10) (eMov (slotG 52))]
noncomputable def R84_7 : CT :=
  .reg [
  oP (pdT 53) (eMov (slotG 12)),
  oP (pdT 11) (eMov (slotG 53))]
noncomputable def L84_0 : CT := (.seq (.seq R84_3 (.cond (slotG 33) .skip (.exit 0))) (.block 1 (.seq R84_4 (.seq R84_5 (.cond (slotG 50) R84_6 R84_7)))))
noncomputable def R84_8 : CT :=
  .reg [
  oP (pdT 54) (eMov (slotG 1)),
  oP (pdT 13) (eMov (slotG 54))]
noncomputable def R84_9 : CT :=
  .reg [
  oP (pdT 55) (eMov (slotG 13)),
  oP (pdT 56) (eMov (slotG 10)),
  oP (pdT 57) (e2 (cBin .sub) (slotG 56) (constG (.int .i64 1))),
  oP (pdT 58) (e2 (cBin .lss) (slotG 55) (slotG 57))]
noncomputable def R84_10 : CT :=
  .drw [61, 62, 63, 64, 65, 66, 67, 68, 69, 70, 71, 72, 73, 74, 75, 76] [
  oI [0] (pdT 61) (eMov (slotG 0)) 1,
  oI [13] (pdT 62) (eMov (slotG 13)) 1,
  oI [0] (pdT 66) (eMov (slotG 0)) 1,
  oI [13] (pdT 67) (eMov (slotG 13)) 1,
  oI [67] (pdT 68) (e2 (cBin .add) (slotG 67) (constG (.int .i64 1))) 1,
  oI [66, 68] (pdT 69) (e2 (cIxa 1) (slotG 66) (slotG 68)) 1,
  oI [69] (pdT 70) (eLoad1 (slotG 69)) 1,
  oI [0] (pdT 71) (eMov (slotG 0)) 1,
  oI [13] (pdT 72) (eMov (slotG 13)) 1,
  oI [71, 72] (pdT 73) (e2 (cIxa 1) (slotG 71) (slotG 72)) 1,
  oI [73] (pdT 74) (eLoad1 (slotG 73)) 1,
  oI [61, 62] (pdT 75) (e2 (cIxa 1) (slotG 61) (slotG 62)) 1,
  mI [75, 70] pdN (eStore 1 (slotG 75) (slotG 70)),
  oI [0] (pdT 63) (eMov (slotG 0)) 2,
  oI [13] (pdT 64) (eMov (slotG 13)) 2,
  oI [64] (pdT 65) (e2 (cBin .add) (slotG 64) (constG (.int .i64 1))) 2,
  oI [63, 65] (pdT 76) (e2 (cIxa 1) (slotG 63) (slotG 65)) 1,
  mI [76, 74] pdN (eStore 1 (slotG 76) (slotG 74))]
noncomputable def R84_11 : CT :=
  .reg [
  oP (pdT 59) (eMov (slotG 13)),
  oP (pdT 60) (e2 (cBin .add) (slotG 59) (constG (.int .i64 1))),
  oP (pdT 13) (eMov (slotG 60))]
noncomputable def L84_1 : CT := (.seq (.seq R84_9 (.cond (slotG 58) .skip (.exit 2))) (.seq (.block 3 R84_10) R84_11))
noncomputable def R84_12 : CT :=
  .reg [
  oP (pdT 77) (eMov (slotG 3)),
  oP (pdT 78) (eMov (slotG 2)),
  oP (pdT 79) (e2 (cBin .sub) (slotG 77) (slotG 78)),
  oP (pdT 80) (e2 (cEq false .num) (slotG 79) (constG (.int .i64 1)))]
noncomputable def R84_13 : CT :=
  .reg [
  oP (pdT 81) (eMov (slotG 1)),
  oP (pdT 14) (eMov (slotG 81))]
noncomputable def R84_14 : CT :=
  .reg [
  oP (pdT 82) (eMov (slotG 2)),
  oP (pdT 15) (eMov (slotG 82))]
noncomputable def R84_15 : CT :=
  .reg [
  oP (pdT 83) (eMov (slotG 14)),
  oP (pdT 84) (eMov (slotG 15)),
  oP (pdT 85) (e2 (cBin .lss) (slotG 83) (slotG 84))]
noncomputable def R84_16 : CT :=
  .reg [
  oP (pdT 86) (eMov (slotG 14)),
  oP (pdT 87) (eMov (slotG 15)),
  oP (pdT 88) (e2 (cBin .add) (slotG 86) (slotG 87)),
  oP (pdT 89) (e1 (cToInt .u64) (slotG 88)),
  oP (pdT 90) (e2 (cBin .shr) (slotG 89) (constG (.int .u64 1))),
  oP (pdT 91) (e1 (cToInt .i64) (slotG 90)),
  oP (pdT 16) (eMov (slotG 91))]
noncomputable def R84_17 : CT :=
  .drw [92, 93, 94, 95, 96, 97, 98, 99, 100, 101, 102, 103] [
  oI [4] (pdT 92) (eMov (slotG 4)) 1,
  oI [0] (pdT 93) (eMov (slotG 0)) 1,
  oI [2] (pdT 94) (eMov (slotG 2)) 1,
  oI [93, 94] (pdT 95) (e2 (cIxa 1) (slotG 93) (slotG 94)) 1,
  oI [95] (pdT 96) (eLoad1 (slotG 95)) 1,
  oI [0] (pdT 97) (eMov (slotG 0)) 1,
  oI [16] (pdT 98) (eMov (slotG 16)) 1,
  oI [97, 98] (pdT 99) (e2 (cIxa 1) (slotG 97) (slotG 98)) 1,
  oI [99] (pdT 100) (eLoad1 (slotG 99)) 1,
  vI [92, 96, 100] (pdT 101) (slotG 92) [(slotG 96), (slotG 100)],
  oI [101] (pdT 102) (e2 (cBin .lss) (slotG 101) (constG (.int .i64 0))) 1,
  oI [102] (pdT 103) (e1 (cUn .not) (slotG 102)) 1]
noncomputable def R84_18 : CT :=
  .reg [
  oP (pdT 104) (eMov (slotG 16)),
  oP (pdT 105) (e2 (cBin .add) (slotG 104) (constG (.int .i64 1))),
  oP (pdT 14) (eMov (slotG 105))]
noncomputable def R84_19 : CT :=
  .reg [
  oP (pdT 106) (eMov (slotG 16)),
  oP (pdT 15) (eMov (slotG 106))]
noncomputable def L84_2 : CT := (.seq (.seq R84_15 (.cond (slotG 85) .skip (.exit 4))) (.block 5 (.seq R84_16 (.seq R84_17 (.cond (slotG 103) R84_18 R84_19)))))
noncomputable def R84_20 : CT :=
  .reg [
  oP (pdT 107) (eMov (slotG 2)),
  oP (pdT 17) (eMov (slotG 107))]
noncomputable def R84_21 : CT :=
  .reg [
  oP (pdT 108) (eMov (slotG 17)),
  oP (pdT 109) (eMov (slotG 14)),
  oP (pdT 110) (e2 (cBin .gtr) (slotG 108) (slotG 109))]
noncomputable def R84_22 : CT :=
  .drw [113, 114, 115, 116, 117, 118, 119, 120, 121, 122, 123, 124, 125, 126, 127, 128] [
  oI [0] (pdT 113) (eMov (slotG 0)) 1,
  oI [17] (pdT 114) (eMov (slotG 17)) 1,
  oI [0] (pdT 118) (eMov (slotG 0)) 1,
  oI [17] (pdT 119) (eMov (slotG 17)) 1,
  oI [119] (pdT 120) (e2 (cBin .sub) (slotG 119) (constG (.int .i64 1))) 1,
  oI [118, 120] (pdT 121) (e2 (cIxa 1) (slotG 118) (slotG 120)) 1,
  oI [121] (pdT 122) (eLoad1 (slotG 121)) 1,
  oI [0] (pdT 123) (eMov (slotG 0)) 1,
  oI [17] (pdT 124) (eMov (slotG 17)) 1,
  oI [123, 124] (pdT 125) (e2 (cIxa 1) (slotG 123) (slotG 124)) 1,
  oI [125] (pdT 126) (eLoad1 (slotG 125)) 1,
  oI [113, 114] (pdT 127) (e2 (cIxa 1) (slotG 113) (slotG 114)) 1,
  mI [127, 122] pdN (eStore 1 (slotG 127) (slotG 122)),
  oI [0] (pdT 115) (eMov (slotG 0)) 2,
  oI [17] (pdT 116) (eMov (slotG 17)) 2,
  oI [116] (pdT 117) (e2 (cBin .sub) (slotG 116) (constG (.int .i64 1))) 2,
  oI [115, 117] (pdT 128) (e2 (cIxa 1) (slotG 115) (slotG 117)) 1,
  mI [128, 126] pdN (eStore 1 (slotG 128) (slotG 126))]
noncomputable def R84_23 : CT :=
  .reg [
  oP (pdT 111) (eMov (slotG 17)),
  oP (pdT 112) (e2 (cBin .sub) (slotG 111) (constG (.int .i64 1))),
  oP (pdT 17) (eMov (slotG 112))]
noncomputable def L84_3 : CT := (.seq (.seq R84_21 (.cond (slotG 110) .skip (.exit 6))) (.seq (.block 7 R84_22) R84_23))
noncomputable def R84_24 : CT :=
  .reg [
  oP (pdT 129) (eMov (slotG 1)),
  oP (pdT 130) (eMov (slotG 3)),
  oP (pdT 131) (e2 (cBin .add) (slotG 129) (slotG 130)),
  oP (pdT 132) (e1 (cToInt .u64) (slotG 131)),
  oP (pdT 133) (e2 (cBin .shr) (slotG 132) (constG (.int .u64 1))),
  oP (pdT 134) (e1 (cToInt .i64) (slotG 133)),
  oP (pdT 18) (eMov (slotG 134))]
noncomputable def R84_25 : CT :=
  .reg [
  oP (pdT 135) (eMov (slotG 18)),
  oP (pdT 136) (eMov (slotG 2)),
  oP (pdT 137) (e2 (cBin .add) (slotG 135) (slotG 136)),
  oP (pdT 19) (eMov (slotG 137))]
noncomputable def R84_26 : CT :=
  .reg [
  oP (pdT 20) (eMov (constG (.int .i64 0))),
  oP (pdT 21) (eMov (constG (.int .i64 0)))]
noncomputable def R84_27 : CT :=
  .reg [
  oP (pdT 138) (eMov (slotG 2)),
  oP (pdT 139) (eMov (slotG 18)),
  oP (pdT 140) (e2 (cBin .gtr) (slotG 138) (slotG 139))]
noncomputable def R84_28 : CT :=
  .reg [
  oP (pdT 141) (eMov (slotG 19)),
  oP (pdT 142) (eMov (slotG 3)),
  oP (pdT 143) (e2 (cBin .sub) (slotG 141) (slotG 142)),
  oP (pdT 20) (eMov (slotG 143))]
noncomputable def R84_29 : CT :=
  .reg [
  oP (pdT 144) (eMov (slotG 18)),
  oP (pdT 21) (eMov (slotG 144))]
noncomputable def R84_30 : CT :=
  .reg [
  oP (pdT 145) (eMov (slotG 1)),
  oP (pdT 20) (eMov (slotG 145))]
noncomputable def R84_31 : CT :=
  .reg [
  oP (pdT 146) (eMov (slotG 2)),
  oP (pdT 21) (eMov (slotG 146))]
noncomputable def R84_32 : CT :=
  .reg [
  oP (pdT 147) (eMov (slotG 19)),
  oP (pdT 148) (e2 (cBin .sub) (slotG 147) (constG (.int .i64 1))),
  oP (pdT 22) (eMov (slotG 148))]
noncomputable def R84_33 : CT :=
  .reg [
  oP (pdT 149) (eMov (slotG 20)),
  oP (pdT 150) (eMov (slotG 21)),
  oP (pdT 151) (e2 (cBin .lss) (slotG 149) (slotG 150))]
noncomputable def R84_34 : CT :=
  .reg [
  oP (pdT 152) (eMov (slotG 20)),
  oP (pdT 153) (eMov (slotG 21)),
  oP (pdT 154) (e2 (cBin .add) (slotG 152) (slotG 153)),
  oP (pdT 155) (e1 (cToInt .u64) (slotG 154)),
  oP (pdT 156) (e2 (cBin .shr) (slotG 155) (constG (.int .u64 1))),
  oP (pdT 157) (e1 (cToInt .i64) (slotG 156)),
  oP (pdT 23) (eMov (slotG 157))]
noncomputable def R84_35 : CT :=
  .drw [158, 159, 160, 161, 162, 163, 164, 165, 166, 167, 168, 169, 170, 171] [
  oI [4] (pdT 158) (eMov (slotG 4)) 1,
  oI [0] (pdT 159) (eMov (slotG 0)) 1,
  oI [22] (pdT 160) (eMov (slotG 22)) 1,
  oI [23] (pdT 161) (eMov (slotG 23)) 1,
  oI [160, 161] (pdT 162) (e2 (cBin .sub) (slotG 160) (slotG 161)) 1,
  oI [159, 162] (pdT 163) (e2 (cIxa 1) (slotG 159) (slotG 162)) 1,
  oI [163] (pdT 164) (eLoad1 (slotG 163)) 1,
  oI [0] (pdT 165) (eMov (slotG 0)) 1,
  oI [23] (pdT 166) (eMov (slotG 23)) 1,
  oI [165, 166] (pdT 167) (e2 (cIxa 1) (slotG 165) (slotG 166)) 1,
  oI [167] (pdT 168) (eLoad1 (slotG 167)) 1,
  vI [158, 164, 168] (pdT 169) (slotG 158) [(slotG 164), (slotG 168)],
  oI [169] (pdT 170) (e2 (cBin .lss) (slotG 169) (constG (.int .i64 0))) 1,
  oI [170] (pdT 171) (e1 (cUn .not) (slotG 170)) 1]
noncomputable def R84_36 : CT :=
  .reg [
  oP (pdT 172) (eMov (slotG 23)),
  oP (pdT 173) (e2 (cBin .add) (slotG 172) (constG (.int .i64 1))),
  oP (pdT 20) (eMov (slotG 173))]
noncomputable def R84_37 : CT :=
  .reg [
  oP (pdT 174) (eMov (slotG 23)),
  oP (pdT 21) (eMov (slotG 174))]
noncomputable def L84_4 : CT := (.seq (.seq R84_33 (.cond (slotG 151) .skip (.exit 8))) (.block 9 (.seq R84_34 (.seq R84_35 (.cond (slotG 171) R84_36 R84_37)))))
noncomputable def R84_38 : CT :=
  .reg [
  oP (pdT 175) (eMov (slotG 19)),
  oP (pdT 176) (eMov (slotG 20)),
  oP (pdT 177) (e2 (cBin .sub) (slotG 175) (slotG 176)),
  oP (pdT 24) (eMov (slotG 177))]
noncomputable def R84_39 : CT :=
  .reg [
  oP (pdT 178) (eMov (slotG 20)),
  oP (pdT 179) (eMov (slotG 2)),
  oP (pdT 180) (e2 (cBin .lss) (slotG 178) (slotG 179)),
  oP (pdT 181) (eMov (slotG 180)),
  gP (slotG 181) true (pdT 182) (eMov (slotG 2)),
  gP (slotG 181) true (pdT 183) (eMov (slotG 24)),
  gP (slotG 181) true (pdT 184) (e2 (cBin .lss) (slotG 182) (slotG 183)),
  oP (pdT 185) (ePick (slotG 181) (slotG 184) (constG (.bool false)))]
noncomputable def R84_40 : CT :=
  .reg [
  oP (pdT 186) (eMov (slotG 0)),
  oP (pdT 187) (eMov (slotG 20)),
  oP (pdT 188) (eMov (slotG 2)),
  oP (pdT 189) (eMov (slotG 24)),
  oP (pdT 190) (eMov (slotG 4)),
  cP (pdT 191) 146 [(slotG 186), (slotG 187), (slotG 188), (slotG 189), (slotG 190)]]
noncomputable def R84_41 : CT :=
  .reg [
  oP (pdT 192) (eMov (slotG 1)),
  oP (pdT 193) (eMov (slotG 20)),
  oP (pdT 194) (e2 (cBin .lss) (slotG 192) (slotG 193)),
  oP (pdT 195) (eMov (slotG 194)),
  gP (slotG 195) true (pdT 196) (eMov (slotG 20)),
  gP (slotG 195) true (pdT 197) (eMov (slotG 18)),
  gP (slotG 195) true (pdT 198) (e2 (cBin .lss) (slotG 196) (slotG 197)),
  oP (pdT 199) (ePick (slotG 195) (slotG 198) (constG (.bool false)))]
noncomputable def R84_42 : CT :=
  .reg [
  oP (pdT 200) (eMov (slotG 0)),
  oP (pdT 201) (eMov (slotG 1)),
  oP (pdT 202) (eMov (slotG 20)),
  oP (pdT 203) (eMov (slotG 18)),
  oP (pdT 204) (eMov (slotG 4)),
  cP (pdT 205) 84 [(slotG 200), (slotG 201), (slotG 202), (slotG 203), (slotG 204)]]
noncomputable def R84_43 : CT :=
  .reg [
  oP (pdT 206) (eMov (slotG 18)),
  oP (pdT 207) (eMov (slotG 24)),
  oP (pdT 208) (e2 (cBin .lss) (slotG 206) (slotG 207)),
  oP (pdT 209) (eMov (slotG 208)),
  gP (slotG 209) true (pdT 210) (eMov (slotG 24)),
  gP (slotG 209) true (pdT 211) (eMov (slotG 3)),
  gP (slotG 209) true (pdT 212) (e2 (cBin .lss) (slotG 210) (slotG 211)),
  oP (pdT 213) (ePick (slotG 209) (slotG 212) (constG (.bool false)))]
noncomputable def R84_44 : CT :=
  .reg [
  oP (pdT 214) (eMov (slotG 0)),
  oP (pdT 215) (eMov (slotG 18)),
  oP (pdT 216) (eMov (slotG 24)),
  oP (pdT 217) (eMov (slotG 3)),
  oP (pdT 218) (eMov (slotG 4)),
  cP (pdT 219) 84 [(slotG 214), (slotG 215), (slotG 216), (slotG 217), (slotG 218)]]
noncomputable def B84 : CT := (.seq (.seq R84_0 (.cond (slotG 28) (.seq R84_1 (.seq R84_2 (.seq (.block 0 (.loop L84_0)) (.seq (.seq R84_8 (.block 2 (.loop L84_1))) .ret)))) .skip)) (.seq (.seq R84_12 (.cond (slotG 80) (.seq R84_13 (.seq R84_14 (.seq (.block 4 (.loop L84_2)) (.seq (.seq R84_20 (.block 6 (.loop L84_3))) .ret)))) .skip)) (.seq R84_24 (.seq R84_25 (.seq R84_26 (.seq (.seq R84_27 (.cond (slotG 140) (.seq R84_28 R84_29) (.seq R84_30 R84_31))) (.seq R84_32 (.seq (.block 8 (.loop L84_4)) (.seq R84_38 (.seq (.seq R84_39 (.cond (slotG 185) R84_40 .skip)) (.seq (.seq R84_41 (.cond (slotG 199) R84_42 .skip)) (.seq R84_43 (.cond (slotG 213) R84_44 .skip)))))))))))))
noncomputable def A84 : CF := { res := [], code := B84, nt := 220 }
theorem c84 : ctF Tryz.prog 84 = some A84 := by kernel_rfl

/-! 85: cadastre/value.rank -/
noncomputable def R85_0 : CT :=
  .reg [
  oP (pdT 2) (eMov (constG (.int .i64 0)))]
noncomputable def R85_1 : CT :=
  .reg [
  oP (pdT 3) (eMov (constG (.int .i64 0)))]
noncomputable def R85_2 : CT :=
  .reg [
  oP (pdT 4) (eMov (slotG 0))]
noncomputable def R85_3 : CT :=
  .reg [
  oP (pdT 6) (e2 (cEq false .num) (slotG 4) (constG (.int .i64 2))),
  oP (pdT 5) (eMov (slotG 6))]
noncomputable def R85_4 : CT :=
  .reg [
  oP (pdT 8) (e2 (cEq false .num) (slotG 4) (constG (.int .i64 1))),
  oP (pdT 7) (eMov (slotG 8))]
noncomputable def R85_5 : CT :=
  .reg [
  oP (pdT 10) (e2 (cEq false .num) (slotG 4) (constG (.int .i64 3))),
  oP (pdT 9) (eMov (slotG 10))]
noncomputable def R85_6 : CT :=
  .reg [
  oP (pdT 11) (eMov (slotG 3)),
  oP (pdT 12) (e2 (cBin .add) (slotG 11) (constG (.int .i64 1))),
  oP (pdT 3) (eMov (slotG 12))]
noncomputable def R85_7 : CT :=
  .reg [
  oP (pdT 13) (eMov (slotG 3)),
  oP (pdT 14) (e2 (cBin .add) (slotG 13) (constG (.int .i64 1))),
  oP (pdT 3) (eMov (slotG 14))]
noncomputable def R85_8 : CT :=
  .reg [
  oP (pdT 15) (eMov (slotG 3)),
  oP (pdT 16) (e2 (cBin .add) (slotG 15) (constG (.int .i64 1))),
  oP (pdT 3) (eMov (slotG 16))]
noncomputable def R85_9 : CT :=
  .reg [
  oP (pdT 17) (eMov (slotG 3)),
  oP (pdT 2) (eMov (slotG 17))]
noncomputable def B85 : CT := (.seq R85_0 (.seq R85_1 (.seq (.seq R85_2 (.block 0 (.seq (.block 3 (.seq (.block 2 (.seq (.block 1 (.seq (.seq (.seq R85_3 (.cond (slotG 5) (.exit 1) .skip)) (.seq (.seq R85_4 (.cond (slotG 7) (.exit 2) .skip)) (.seq R85_5 (.cond (slotG 9) (.exit 3) .skip)))) (.exit 0))) R85_6)) R85_7)) (.seq R85_8 (.exit 0))))) (.seq R85_9 .ret))))
noncomputable def A85 : CF := { res := [rTmp 2], code := B85, nt := 18 }
theorem c85 : ctF Tryz.prog 85 = some A85 := by kernel_rfl

/-! 86: strings.Compare -/
noncomputable def R86_0 : CT :=
  .reg [
  oP (pdT 4) (eMov (constG (.int .i64 0)))]
noncomputable def R86_1 : CT :=
  .reg [
  oP (pdT 5) (eMov (slotG 0)),
  oP (pdT 6) (eMov (slotG 1)),
  cP (pdT 7) 147 [(slotG 5), (slotG 6)],
  oP (pdT 4) (eMov (slotG 7))]
noncomputable def B86 : CT := (.seq R86_0 (.seq R86_1 .ret))
noncomputable def A86 : CF := { res := [rTmp 4], code := B86, nt := 8 }
theorem c86 : ctF Tryz.prog 86 = some A86 := by kernel_rfl

/-! 87: cadastre/cadastreref03.Order -/
noncomputable def R87_0 : CT :=
  .reg [
  oP (pdT 2) (eBox (slotG 0)),
  oP (pdT 3) (eBox (slotG 1)),
  oP (pdT 4) (eMov (constG (.int .i64 0)))]
noncomputable def R87_1 : CT :=
  .drw [7, 8, 9, 10, 11, 12] [
  oI [2] (pdT 7) (e1 (cAddo 0) (slotG 2)) 1,
  oI [7] (pdT 8) (eLoad1 (slotG 7)) 1,
  cI [8] (pdT 9) 148 [(slotG 8)],
  oI [3] (pdT 10) (e1 (cAddo 0) (slotG 3)) 2,
  oI [10] (pdT 11) (eLoad1 (slotG 10)) 2,
  cI [11] (pdT 12) 148 [(slotG 11)],
  oI [9] (pdT 5) (eMov (slotG 9)) 1,
  oI [12] (pdT 6) (eMov (slotG 12)) 1]
noncomputable def R87_2 : CT :=
  .reg [
  oP (pdT 13) (eMov (slotG 5)),
  oP (pdT 14) (eMov (slotG 6)),
  oP (pdT 15) (e2 (cBin .lss) (slotG 13) (slotG 14))]
noncomputable def R87_3 : CT :=
  .reg [
  oP (pdT 4) (eMov (constG (.int .i64 (-1))))]
noncomputable def R87_4 : CT :=
  .reg [
  oP (pdT 16) (eMov (slotG 5)),
  oP (pdT 17) (eMov (slotG 6)),
  oP (pdT 18) (e2 (cBin .gtr) (slotG 16) (slotG 17))]
noncomputable def R87_5 : CT :=
  .reg [
  oP (pdT 4) (eMov (constG (.int .i64 1)))]
noncomputable def R87_6 : CT :=
  .reg [
  oP (pdT 19) (e1 (cAddo 0) (slotG 2)),
  oP (pdT 20) (eLoad1 (slotG 19)),
  oP (pdT 21) (e2 (cEq false .num) (slotG 20) (constG (.int .i64 2)))]
noncomputable def R87_7 : CT :=
  .reg [
  oP (pdT 22) (e1 (cAddo 2) (slotG 2)),
  oP (pdT 23) (eLoad1 (slotG 22)),
  oP (pdT 24) (e1 (cAddo 2) (slotG 3)),
  oP (pdT 25) (eLoad1 (slotG 24)),
  cP (pdT 26) 149 [(slotG 23), (slotG 25)],
  oP (pdT 4) (eMov (slotG 26))]
noncomputable def R87_8 : CT :=
  .reg [
  oP (pdT 27) (e1 (cAddo 1) (slotG 2)),
  oP (pdT 28) (eLoad1 (slotG 27)),
  oP (pdT 29) (e1 (cAddo 1) (slotG 3)),
  oP (pdT 30) (eLoad1 (slotG 29)),
  oP (pdT 31) (e2 (cBin .lss) (slotG 28) (slotG 30))]
noncomputable def R87_9 : CT :=
  .reg [
  oP (pdT 4) (eMov (constG (.int .i64 (-1))))]
noncomputable def R87_10 : CT :=
  .reg [
  oP (pdT 32) (e1 (cAddo 1) (slotG 2)),
  oP (pdT 33) (eLoad1 (slotG 32)),
  oP (pdT 34) (e1 (cAddo 1) (slotG 3)),
  oP (pdT 35) (eLoad1 (slotG 34)),
  oP (pdT 36) (e2 (cBin .gtr) (slotG 33) (slotG 35))]
noncomputable def R87_11 : CT :=
  .reg [
  oP (pdT 4) (eMov (constG (.int .i64 1)))]
noncomputable def R87_12 : CT :=
  .reg [
  oP (pdT 4) (eMov (constG (.int .i64 0)))]
noncomputable def B87 : CT := (.seq R87_0 (.seq R87_1 (.seq (.seq R87_2 (.cond (slotG 15) (.seq R87_3 .ret) .skip)) (.seq (.seq R87_4 (.cond (slotG 18) (.seq R87_5 .ret) .skip)) (.seq (.seq R87_6 (.cond (slotG 21) (.seq R87_7 .ret) .skip)) (.seq (.seq R87_8 (.cond (slotG 31) (.seq R87_9 .ret) .skip)) (.seq (.seq R87_10 (.cond (slotG 36) (.seq R87_11 .ret) .skip)) (.seq R87_12 .ret))))))))
noncomputable def A87 : CF := { res := [rTmp 4], code := B87, nt := 37 }
theorem c87 : ctF Tryz.prog 87 = some A87 := by kernel_rfl

/-! 88: cadastre/cadastreref04.Order -/
noncomputable def R88_0 : CT :=
  .reg [
  oP (pdT 4) (eMov (constG (.int .i64 0)))]
noncomputable def R88_1 : CT :=
  .reg [
  oP (pdT 5) (eMov (constG (.int .i64 0)))]
noncomputable def R88_2 : CT :=
  .reg [
  oP (pdT 7) (eMov (slotG 5)),
  oP (pdT 8) (eMov (slotG 0)),
  oP (pdT 9) (e1 cLenL (slotG 8)),
  oP (pdT 10) (e2 (cBin .lss) (slotG 7) (slotG 9)),
  oP (pdT 11) (eMov (slotG 10)),
  gP (slotG 11) true (pdT 12) (eMov (slotG 5)),
  gP (slotG 11) true (pdT 13) (eMov (slotG 1)),
  gP (slotG 11) true (pdT 14) (e1 cLenL (slotG 13)),
  gP (slotG 11) true (pdT 15) (e2 (cBin .lss) (slotG 12) (slotG 14)),
  oP (pdT 16) (ePick (slotG 11) (slotG 15) (constG (.bool false)))]
noncomputable def R88_3 : CT :=
  .drw [19, 20, 21, 22, 23, 24, 25, 26, 27] [
  oI [0] (pdT 19) (eMov (slotG 0)) 1,
  oI [5] (pdT 20) (eMov (slotG 5)) 1,
  oI [19, 20] (pdT 21) (e2 (cIxa 3) (slotG 19) (slotG 20)) 1,
  oI [21] (pdT 22) (eLoadN 3 (slotG 21)) 1,
  oI [1] (pdT 23) (eMov (slotG 1)) 1,
  oI [5] (pdT 24) (eMov (slotG 5)) 1,
  oI [23, 24] (pdT 25) (e2 (cIxa 3) (slotG 23) (slotG 24)) 1,
  oI [25] (pdT 26) (eLoadN 3 (slotG 25)) 1,
  cI [22, 26] (pdT 27) 87 [(slotG 22), (slotG 26)],
  oI [27] (pdT 6) (eMov (slotG 27)) 1]
noncomputable def R88_4 : CT :=
  .reg [
  oP (pdT 28) (eMov (slotG 6)),
  oP (pdT 29) (e2 (cEq true .num) (slotG 28) (constG (.int .i64 0)))]
noncomputable def R88_5 : CT :=
  .reg [
  oP (pdT 30) (eMov (slotG 6)),
  oP (pdT 4) (eMov (slotG 30))]
noncomputable def R88_6 : CT :=
  .reg [
  oP (pdT 17) (eMov (slotG 5)),
  oP (pdT 18) (e2 (cBin .add) (slotG 17) (constG (.int .i64 1))),
  oP (pdT 5) (eMov (slotG 18))]
noncomputable def L88_0 : CT := (.seq (.seq R88_2 (.cond (slotG 16) .skip (.exit 0))) (.seq (.block 1 (.seq R88_3 (.seq R88_4 (.cond (slotG 29) (.seq R88_5 .ret) .skip)))) R88_6))
noncomputable def R88_7 : CT :=
  .reg [
  oP (pdT 31) (eMov (slotG 0)),
  oP (pdT 32) (e1 cLenL (slotG 31)),
  oP (pdT 33) (eMov (slotG 1)),
  oP (pdT 34) (e1 cLenL (slotG 33)),
  oP (pdT 35) (e2 (cBin .lss) (slotG 32) (slotG 34))]
noncomputable def R88_8 : CT :=
  .reg [
  oP (pdT 4) (eMov (constG (.int .i64 (-1))))]
noncomputable def R88_9 : CT :=
  .reg [
  oP (pdT 36) (eMov (slotG 0)),
  oP (pdT 37) (e1 cLenL (slotG 36)),
  oP (pdT 38) (eMov (slotG 1)),
  oP (pdT 39) (e1 cLenL (slotG 38)),
  oP (pdT 40) (e2 (cBin .gtr) (slotG 37) (slotG 39))]
noncomputable def R88_10 : CT :=
  .reg [
  oP (pdT 4) (eMov (constG (.int .i64 1)))]
noncomputable def R88_11 : CT :=
  .reg [
  oP (pdT 4) (eMov (constG (.int .i64 0)))]
noncomputable def B88 : CT := (.seq R88_0 (.seq (.seq R88_1 (.block 0 (.loop L88_0))) (.seq (.seq R88_7 (.cond (slotG 35) (.seq R88_8 .ret) .skip)) (.seq (.seq R88_9 (.cond (slotG 40) (.seq R88_10 .ret) .skip)) (.seq R88_11 .ret)))))
noncomputable def A88 : CF := { res := [rTmp 4], code := B88, nt := 41 }
theorem c88 : ctF Tryz.prog 88 = some A88 := by kernel_rfl

/-! 146: slices.rotateCmpFunc[[]cadastre/api.Value] -/
noncomputable def R146_0 : CT :=
  .reg [
  oP (pdT 12) (eMov (slotG 2)),
  oP (pdT 13) (eMov (slotG 1)),
  oP (pdT 14) (e2 (cBin .sub) (slotG 12) (slotG 13)),
  oP (pdT 10) (eMov (slotG 14))]
noncomputable def R146_1 : CT :=
  .reg [
  oP (pdT 15) (eMov (slotG 3)),
  oP (pdT 16) (eMov (slotG 2)),
  oP (pdT 17) (e2 (cBin .sub) (slotG 15) (slotG 16)),
  oP (pdT 11) (eMov (slotG 17))]
noncomputable def R146_2 : CT :=
  .reg [
  oP (pdT 18) (eMov (slotG 10)),
  oP (pdT 19) (eMov (slotG 11)),
  oP (pdT 20) (e2 (cEq true .num) (slotG 18) (slotG 19))]
noncomputable def R146_3 : CT :=
  .reg [
  oP (pdT 21) (eMov (slotG 10)),
  oP (pdT 22) (eMov (slotG 11)),
  oP (pdT 23) (e2 (cBin .gtr) (slotG 21) (slotG 22))]
noncomputable def R146_4 : CT :=
  .reg [
  oP (pdT 24) (eMov (slotG 0)),
  oP (pdT 25) (eMov (slotG 2)),
  oP (pdT 26) (eMov (slotG 10)),
  oP (pdT 27) (e2 (cBin .sub) (slotG 25) (slotG 26)),
  oP (pdT 28) (eMov (slotG 2)),
  oP (pdT 29) (eMov (slotG 11)),
  oP (pdT 30) (eMov (slotG 4)),
  cP (pdT 31) 189 [(slotG 24), (slotG 27), (slotG 28), (slotG 29), (slotG 30)]]
noncomputable def R146_5 : CT :=
  .reg [
  oP (pdT 32) (eMov (slotG 10)),
  oP (pdT 33) (eMov (slotG 11)),
  oP (pdT 34) (e2 (cBin .sub) (slotG 32) (slotG 33)),
  oP (pdT 10) (eMov (slotG 34))]
noncomputable def R146_6 : CT :=
  .reg [
  oP (pdT 35) (eMov (slotG 0)),
  oP (pdT 36) (eMov (slotG 2)),
  oP (pdT 37) (eMov (slotG 10)),
  oP (pdT 38) (e2 (cBin .sub) (slotG 36) (slotG 37)),
  oP (pdT 39) (eMov (slotG 2)),
  oP (pdT 40) (eMov (slotG 11)),
  oP (pdT 41) (e2 (cBin .add) (slotG 39) (slotG 40)),
  oP (pdT 42) (eMov (slotG 10)),
  oP (pdT 43) (e2 (cBin .sub) (slotG 41) (slotG 42)),
  oP (pdT 44) (eMov (slotG 10)),
  oP (pdT 45) (eMov (slotG 4)),
  cP (pdT 46) 189 [(slotG 35), (slotG 38), (slotG 43), (slotG 44), (slotG 45)]]
noncomputable def R146_7 : CT :=
  .reg [
  oP (pdT 47) (eMov (slotG 11)),
  oP (pdT 48) (eMov (slotG 10)),
  oP (pdT 49) (e2 (cBin .sub) (slotG 47) (slotG 48)),
  oP (pdT 11) (eMov (slotG 49))]
noncomputable def L146_0 : CT := (.seq (.seq R146_2 (.cond (slotG 20) .skip (.exit 0))) (.block 1 (.seq R146_3 (.cond (slotG 23) (.seq R146_4 R146_5) (.seq R146_6 R146_7)))))
noncomputable def R146_8 : CT :=
  .reg [
  oP (pdT 50) (eMov (slotG 0)),
  oP (pdT 51) (eMov (slotG 2)),
  oP (pdT 52) (eMov (slotG 10)),
  oP (pdT 53) (e2 (cBin .sub) (slotG 51) (slotG 52)),
  oP (pdT 54) (eMov (slotG 2)),
  oP (pdT 55) (eMov (slotG 10)),
  oP (pdT 56) (eMov (slotG 4)),
  cP (pdT 57) 189 [(slotG 50), (slotG 53), (slotG 54), (slotG 55), (slotG 56)]]
noncomputable def B146 : CT := (.seq R146_0 (.seq R146_1 (.seq (.block 0 (.loop L146_0)) R146_8)))
noncomputable def A146 : CF := { res := [], code := B146, nt := 58 }
theorem c146 : ctF Tryz.prog 146 = some A146 := by kernel_rfl

/-! 147: internal/bytealg.CompareString -/
noncomputable def R147_0 : CT :=
  .reg [
  oP (pdT 4) (eMov (constG (.int .i64 0)))]
noncomputable def R147_1 : CT :=
  .reg [
  oP (pdT 5) (eMov (slotG 0)),
  oP (pdT 6) (eMov (slotG 1)),
  oP (pdT 7) (e2 cCmpS (slotG 5) (slotG 6)),
  oP (pdT 4) (eMov (slotG 7))]
noncomputable def B147 : CT := (.seq R147_0 (.seq R147_1 .ret))
noncomputable def A147 : CF := { res := [rTmp 4], code := B147, nt := 8 }
theorem c147 : ctF Tryz.prog 147 = some A147 := by kernel_rfl

/-! 148: cadastre/cadastreref03.place -/
noncomputable def R148_0 : CT :=
  .reg [
  oP (pdT 2) (eMov (constG (.int .i64 0)))]
noncomputable def R148_1 : CT :=
  .reg [
  oP (pdT 3) (eMov (slotG 0)),
  oP (pdT 4) (e2 (cEq false .num) (slotG 3) (constG (.int .i64 0)))]
noncomputable def R148_2 : CT :=
  .reg [
  oP (pdT 2) (eMov (constG (.int .i64 0)))]
noncomputable def R148_3 : CT :=
  .reg [
  oP (pdT 5) (eMov (slotG 0)),
  oP (pdT 6) (e2 (cEq false .num) (slotG 5) (constG (.int .i64 3)))]
noncomputable def R148_4 : CT :=
  .reg [
  oP (pdT 2) (eMov (constG (.int .i64 1)))]
noncomputable def R148_5 : CT :=
  .reg [
  oP (pdT 7) (eMov (slotG 0)),
  oP (pdT 8) (e2 (cEq false .num) (slotG 7) (constG (.int .i64 1)))]
noncomputable def R148_6 : CT :=
  .reg [
  oP (pdT 2) (eMov (constG (.int .i64 2)))]
noncomputable def R148_7 : CT :=
  .reg [
  oP (pdT 2) (eMov (constG (.int .i64 3)))]
noncomputable def B148 : CT := (.seq R148_0 (.seq (.seq R148_1 (.cond (slotG 4) (.seq R148_2 .ret) .skip)) (.seq (.seq R148_3 (.cond (slotG 6) (.seq R148_4 .ret) .skip)) (.seq (.seq R148_5 (.cond (slotG 8) (.seq R148_6 .ret) .skip)) (.seq R148_7 .ret)))))
noncomputable def A148 : CF := { res := [rTmp 2], code := B148, nt := 9 }
theorem c148 : ctF Tryz.prog 148 = some A148 := by kernel_rfl

/-! 149: cadastre/cadastreref03.Bytes -/
noncomputable def R149_0 : CT :=
  .reg [
  oP (pdT 4) (eMov (constG (.int .i64 0)))]
noncomputable def R149_1 : CT :=
  .reg [
  oP (pdT 5) (eMov (constG (.int .i64 0)))]
noncomputable def R149_2 : CT :=
  .reg [
  oP (pdT 6) (eMov (slotG 5)),
  oP (pdT 7) (eMov (slotG 0)),
  oP (pdT 8) (e1 cLenS (slotG 7)),
  oP (pdT 9) (e2 (cBin .lss) (slotG 6) (slotG 8)),
  oP (pdT 10) (eMov (slotG 9)),
  gP (slotG 10) true (pdT 11) (eMov (slotG 5)),
  gP (slotG 10) true (pdT 12) (eMov (slotG 1)),
  gP (slotG 10) true (pdT 13) (e1 cLenS (slotG 12)),
  gP (slotG 10) true (pdT 14) (e2 (cBin .lss) (slotG 11) (slotG 13)),
  oP (pdT 15) (ePick (slotG 10) (slotG 14) (constG (.bool false)))]
noncomputable def R149_3 : CT :=
  .drw [18, 19, 20, 21, 22, 23, 24] [
  oI [0] (pdT 18) (eMov (slotG 0)) 1,
  oI [5] (pdT 19) (eMov (slotG 5)) 1,
  oI [18, 19] (pdT 20) (e2 cIxs (slotG 18) (slotG 19)) 1,
  oI [1] (pdT 21) (eMov (slotG 1)) 1,
  oI [5] (pdT 22) (eMov (slotG 5)) 1,
  oI [21, 22] (pdT 23) (e2 cIxs (slotG 21) (slotG 22)) 1,
  oI [20, 23] (pdT 24) (e2 (cBin .lss) (slotG 20) (slotG 23)) 1]
noncomputable def R149_4 : CT :=
  .reg [
  oP (pdT 4) (eMov (constG (.int .i64 (-1))))]
noncomputable def R149_5 : CT :=
  .drw [25, 26, 27, 28, 29, 30, 31] [
  oI [0] (pdT 25) (eMov (slotG 0)) 1,
  oI [5] (pdT 26) (eMov (slotG 5)) 1,
  oI [25, 26] (pdT 27) (e2 cIxs (slotG 25) (slotG 26)) 1,
  oI [1] (pdT 28) (eMov (slotG 1)) 1,
  oI [5] (pdT 29) (eMov (slotG 5)) 1,
  oI [28, 29] (pdT 30) (e2 cIxs (slotG 28) (slotG 29)) 1,
  oI [27, 30] (pdT 31) (e2 (cBin .gtr) (slotG 27) (slotG 30)) 1]
noncomputable def R149_6 : CT :=
  .reg [
  oP (pdT 4) (eMov (constG (.int .i64 1)))]
noncomputable def R149_7 : CT :=
  .reg [
  oP (pdT 16) (eMov (slotG 5)),
  oP (pdT 17) (e2 (cBin .add) (slotG 16) (constG (.int .i64 1))),
  oP (pdT 5) (eMov (slotG 17))]
noncomputable def L149_0 : CT := (.seq (.seq R149_2 (.cond (slotG 15) .skip (.exit 0))) (.seq (.block 1 (.seq (.seq R149_3 (.cond (slotG 24) (.seq R149_4 .ret) .skip)) (.seq R149_5 (.cond (slotG 31) (.seq R149_6 .ret) .skip)))) R149_7))
noncomputable def R149_8 : CT :=
  .reg [
  oP (pdT 32) (eMov (slotG 0)),
  oP (pdT 33) (e1 cLenS (slotG 32)),
  oP (pdT 34) (eMov (slotG 1)),
  oP (pdT 35) (e1 cLenS (slotG 34)),
  oP (pdT 36) (e2 (cBin .lss) (slotG 33) (slotG 35))]
noncomputable def R149_9 : CT :=
  .reg [
  oP (pdT 4) (eMov (constG (.int .i64 (-1))))]
noncomputable def R149_10 : CT :=
  .reg [
  oP (pdT 37) (eMov (slotG 0)),
  oP (pdT 38) (e1 cLenS (slotG 37)),
  oP (pdT 39) (eMov (slotG 1)),
  oP (pdT 40) (e1 cLenS (slotG 39)),
  oP (pdT 41) (e2 (cBin .gtr) (slotG 38) (slotG 40))]
noncomputable def R149_11 : CT :=
  .reg [
  oP (pdT 4) (eMov (constG (.int .i64 1)))]
noncomputable def R149_12 : CT :=
  .reg [
  oP (pdT 4) (eMov (constG (.int .i64 0)))]
noncomputable def B149 : CT := (.seq R149_0 (.seq (.seq R149_1 (.block 0 (.loop L149_0))) (.seq (.seq R149_8 (.cond (slotG 36) (.seq R149_9 .ret) .skip)) (.seq (.seq R149_10 (.cond (slotG 41) (.seq R149_11 .ret) .skip)) (.seq R149_12 .ret)))))
noncomputable def A149 : CF := { res := [rTmp 4], code := B149, nt := 42 }
theorem c149 : ctF Tryz.prog 149 = some A149 := by kernel_rfl

/-! 189: slices.swapRangeCmpFunc[[]cadastre/api.Value] -/
noncomputable def R189_0 : CT :=
  .reg [
  oP (pdT 10) (eMov (constG (.int .i64 0)))]
noncomputable def R189_1 : CT :=
  .reg [
  oP (pdT 11) (eMov (slotG 10)),
  oP (pdT 12) (eMov (slotG 3)),
  oP (pdT 13) (e2 (cBin .lss) (slotG 11) (slotG 12))]
noncomputable def R189_2 : CT :=
  .drw [16, 17, 18, 19, 20, 21, 22, 23, 24, 25, 26, 27, 28, 29, 30, 31, 32, 33, 34, 35, 36, 37] [
  oI [0] (pdT 16) (eMov (slotG 0)) 1,
  oI [1] (pdT 17) (eMov (slotG 1)) 1,
  oI [10] (pdT 18) (eMov (slotG 10)) 1,
  oI [17, 18] (pdT 19) (e2 (cBin .add) (slotG 17) (slotG 18)) 1,
  oI [0] (pdT 24) (eMov (slotG 0)) 1,
  oI [2] (pdT 25) (eMov (slotG 2)) 1,
  oI [10] (pdT 26) (eMov (slotG 10)) 1,
  oI [25, 26] (pdT 27) (e2 (cBin .add) (slotG 25) (slotG 26)) 1,
  oI [24, 27] (pdT 28) (e2 (cIxa 1) (slotG 24) (slotG 27)) 1,
  oI [28] (pdT 29) (eLoad1 (slotG 28)) 1,
  oI [0] (pdT 30) (eMov (slotG 0)) 1,
  oI [1] (pdT 31) (eMov (slotG 1)) 1,
  oI [10] (pdT 32) (eMov (slotG 10)) 1,
  oI [31, 32] (pdT 33) (e2 (cBin .add) (slotG 31) (slotG 32)) 1,
  oI [30, 33] (pdT 34) (e2 (cIxa 1) (slotG 30) (slotG 33)) 1,
  oI [34] (pdT 35) (eLoad1 (slotG 34)) 1,
  oI [16, 19] (pdT 36) (e2 (cIxa 1) (slotG 16) (slotG 19)) 1,
  mI [36, 29] pdN (eStore 1 (slotG 36) (slotG 29)),
  oI [0] (pdT 20) (eMov (slotG 0)) 2,
  oI [2] (pdT 21) (eMov (slotG 2)) 2,
  oI [10] (pdT 22) (eMov (slotG 10)) 2,
  oI [21, 22] (pdT 23) (e2 (cBin .add) (slotG 21) (slotG 22)) 2,
  oI [20, 23] (pdT 37) (e2 (cIxa 1) (slotG 20) (slotG 23)) 1,
  mI [37, 35] pdN (eStore 1 (slotG 37) (slotG 35))]
noncomputable def R189_3 : CT :=
  .reg [
  oP (pdT 14) (eMov (slotG 10)),
  oP (pdT 15) (e2 (cBin .add) (slotG 14) (constG (.int .i64 1))),
  oP (pdT 10) (eMov (slotG 15))]
noncomputable def L189_0 : CT := (.seq (.seq R189_1 (.cond (slotG 13) .skip (.exit 0))) (.seq (.block 1 R189_2) R189_3))
noncomputable def B189 : CT := (.seq R189_0 (.block 0 (.loop L189_0)))
noncomputable def A189 : CF := { res := [], code := B189, nt := 38 }
theorem c189 : ctF Tryz.prog 189 = some A189 := by kernel_rfl

end Go.Abs
