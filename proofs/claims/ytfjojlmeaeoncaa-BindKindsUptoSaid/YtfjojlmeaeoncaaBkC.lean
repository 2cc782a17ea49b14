/- A part of the proof. -/
import Derived.Test.YtfjojlmeaeoncaaProg
import Derived.KernelRfl
import Derived.Test.YtfjojlmeaeoncaaAbsOw
namespace Go.Abs
open Go.Proofs
set_option maxRecDepth 100000
/-! 53: cadastre/bind.wanted -/
noncomputable def R53_0 : CT :=
  .reg [
  oP (pdT 2) (eAlloc [(.int .i64 0), (.int .i64 0), (.int .i64 0), (.bool false), (.bool false)] 5),
  oP (pdT 3) (eMov (constG (.bool false)))]
noncomputable def R53_1 : CT :=
  .reg [
  oP (pdT 4) (eMov (slotG 0))]
noncomputable def R53_2 : CT :=
  .reg [
  oP (pdT 6) (e2 (cEq false .num) (slotG 4) (constG (.int .i64 4))),
  oP (pdT 5) (eMov (slotG 6))]
noncomputable def R53_3 : CT :=
  .reg [
  oP (pdT 7) (eBuild [(.int .i64 0), (.int .i64 0), (.int .i64 0), (.bool false), (.bool false)] 5 [(0, 1, (constG (.int .i64 1))), (1, 1, (constG (.int .i64 1))), (2, 1, (constG (.int .i64 1)))]),
  oP pdN (eStore 5 (slotG 2) (slotG 7)),
  oP (pdT 3) (eMov (constG (.bool true)))]
noncomputable def R53_4 : CT :=
  .reg [
  oP (pdT 9) (e2 (cEq false .num) (slotG 4) (constG (.int .i64 5))),
  oP (pdT 8) (eMov (slotG 9))]
noncomputable def R53_5 : CT :=
  .reg [
  oP (pdT 10) (eBuild [(.int .i64 0), (.int .i64 0), (.int .i64 0), (.bool false), (.bool false)] 5 [(0, 1, (constG (.int .i64 1))), (1, 1, (constG (.int .i64 3))), (2, 1, (constG (.int .i64 3)))]),
  oP pdN (eStore 5 (slotG 2) (slotG 10)),
  oP (pdT 3) (eMov (constG (.bool true)))]
noncomputable def R53_6 : CT :=
  .reg [
  oP (pdT 12) (e2 (cEq false .num) (slotG 4) (constG (.int .i64 6))),
  oP (pdT 11) (eMov (slotG 12))]
noncomputable def R53_7 : CT :=
  .reg [
  oP (pdT 13) (e2 (cEq false .num) (slotG 4) (constG (.int .i64 7))),
  oP (pdT 11) (eMov (slotG 13))]
noncomputable def R53_8 : CT :=
  .reg [
  oP (pdT 14) (eBuild [(.int .i64 0), (.int .i64 0), (.int .i64 0), (.bool false), (.bool false)] 5 [(0, 1, (constG (.int .i64 1))), (3, 1, (constG (.bool true))), (2, 1, (constG (.int .i64 3)))]),
  oP pdN (eStore 5 (slotG 2) (slotG 14)),
  oP (pdT 3) (eMov (constG (.bool true)))]
noncomputable def R53_9 : CT :=
  .reg [
  oP (pdT 16) (e2 (cEq false .num) (slotG 4) (constG (.int .i64 8))),
  oP (pdT 15) (eMov (slotG 16))]
noncomputable def R53_10 : CT :=
  .reg [
  oP (pdT 17) (e2 (cEq false .num) (slotG 4) (constG (.int .i64 9))),
  oP (pdT 15) (eMov (slotG 17))]
noncomputable def R53_11 : CT :=
  .reg [
  oP (pdT 18) (e2 (cEq false .num) (slotG 4) (constG (.int .i64 10))),
  oP (pdT 15) (eMov (slotG 18))]
noncomputable def R53_12 : CT :=
  .reg [
  oP (pdT 19) (e2 (cEq false .num) (slotG 4) (constG (.int .i64 11))),
  oP (pdT 15) (eMov (slotG 19))]
noncomputable def R53_13 : CT :=
  .reg [
  oP (pdT 20) (e2 (cEq false .num) (slotG 4) (constG (.int .i64 12))),
  oP (pdT 15) (eMov (slotG 20))]
noncomputable def R53_14 : CT :=
  .reg [
  oP (pdT 21) (eBuild [(.int .i64 0), (.int .i64 0), (.int .i64 0), (.bool false), (.bool false)] 5 [(0, 1, (constG (.int .i64 2))), (1, 1, (constG (.int .i64 1))), (2, 1, (constG (.int .i64 1)))]),
  oP pdN (eStore 5 (slotG 2) (slotG 21)),
  oP (pdT 3) (eMov (constG (.bool true)))]
noncomputable def R53_15 : CT :=
  .reg [
  oP (pdT 23) (e2 (cEq false .num) (slotG 4) (constG (.int .i64 13))),
  oP (pdT 22) (eMov (slotG 23))]
noncomputable def R53_16 : CT :=
  .reg [
  oP (pdT 24) (eBuild [(.int .i64 0), (.int .i64 0), (.int .i64 0), (.bool false), (.bool false)] 5 [(0, 1, (constG (.int .i64 2))), (1, 1, (constG (.int .i64 2))), (2, 1, (constG (.int .i64 2)))]),
  oP pdN (eStore 5 (slotG 2) (slotG 24)),
  oP (pdT 3) (eMov (constG (.bool true)))]
noncomputable def R53_17 : CT :=
  .reg [
  oP (pdT 26) (e2 (cEq false .num) (slotG 4) (constG (.int .i64 20))),
  oP (pdT 25) (eMov (slotG 26))]
noncomputable def R53_18 : CT :=
  .reg [
  oP (pdT 27) (e2 (cEq false .num) (slotG 4) (constG (.int .i64 21))),
  oP (pdT 25) (eMov (slotG 27))]
noncomputable def R53_19 : CT :=
  .reg [
  oP (pdT 28) (eBuild [(.int .i64 0), (.int .i64 0), (.int .i64 0), (.bool false), (.bool false)] 5 [(0, 1, (constG (.int .i64 2))), (1, 1, (constG (.int .i64 3))), (2, 1, (constG (.int .i64 3)))]),
  oP pdN (eStore 5 (slotG 2) (slotG 28)),
  oP (pdT 3) (eMov (constG (.bool true)))]
noncomputable def R53_20 : CT :=
  .reg [
  oP (pdT 30) (e2 (cEq false .num) (slotG 4) (constG (.int .i64 14))),
  oP (pdT 29) (eMov (slotG 30))]
noncomputable def R53_21 : CT :=
  .reg [
  oP (pdT 31) (e2 (cEq false .num) (slotG 4) (constG (.int .i64 15))),
  oP (pdT 29) (eMov (slotG 31))]
noncomputable def R53_22 : CT :=
  .reg [
  oP (pdT 32) (e2 (cEq false .num) (slotG 4) (constG (.int .i64 16))),
  oP (pdT 29) (eMov (slotG 32))]
noncomputable def R53_23 : CT :=
  .reg [
  oP (pdT 33) (e2 (cEq false .num) (slotG 4) (constG (.int .i64 17))),
  oP (pdT 29) (eMov (slotG 33))]
noncomputable def R53_24 : CT :=
  .reg [
  oP (pdT 34) (e2 (cEq false .num) (slotG 4) (constG (.int .i64 18))),
  oP (pdT 29) (eMov (slotG 34))]
noncomputable def R53_25 : CT :=
  .reg [
  oP (pdT 35) (e2 (cEq false .num) (slotG 4) (constG (.int .i64 19))),
  oP (pdT 29) (eMov (slotG 35))]
noncomputable def R53_26 : CT :=
  .reg [
  oP (pdT 36) (eBuild [(.int .i64 0), (.int .i64 0), (.int .i64 0), (.bool false), (.bool false)] 5 [(0, 1, (constG (.int .i64 2))), (3, 1, (constG (.bool true))), (4, 1, (constG (.bool true))), (2, 1, (constG (.int .i64 3)))]),
  oP pdN (eStore 5 (slotG 2) (slotG 36)),
  oP (pdT 3) (eMov (constG (.bool true)))]
noncomputable def R53_27 : CT :=
  .reg [
  oP (pdT 37) (eBuild [(.int .i64 0), (.int .i64 0), (.int .i64 0), (.bool false), (.bool false)] 5 []),
  oP pdN (eStore 5 (slotG 2) (slotG 37)),
  oP (pdT 3) (eMov (constG (.bool false)))]
noncomputable def B53 : CT := (.seq R53_0 (.seq (.seq R53_1 (.block 0 (.seq R53_2 (.cond (slotG 5) (.seq R53_3 .ret) (.seq R53_4 (.cond (slotG 8) (.seq R53_5 .ret) (.seq (.seq R53_6 (.cond (slotG 11) .skip R53_7)) (.cond (slotG 11) (.seq R53_8 .ret) (.seq (.seq R53_9 (.cond (slotG 15) .skip (.seq R53_10 (.cond (slotG 15) .skip (.seq R53_11 (.cond (slotG 15) .skip (.seq R53_12 (.cond (slotG 15) .skip R53_13)))))))) (.cond (slotG 15) (.seq R53_14 .ret) (.seq R53_15 (.cond (slotG 22) (.seq R53_16 .ret) (.seq (.seq R53_17 (.cond (slotG 25) .skip R53_18)) (.cond (slotG 25) (.seq R53_19 .ret) (.seq (.seq R53_20 (.cond (slotG 29) .skip (.seq R53_21 (.cond (slotG 29) .skip (.seq R53_22 (.cond (slotG 29) .skip (.seq R53_23 (.cond (slotG 29) .skip (.seq R53_24 (.cond (slotG 29) .skip R53_25)))))))))) (.cond (slotG 29) (.seq R53_26 .ret) .skip)))))))))))))))) (.seq R53_27 .ret)))
noncomputable def A53 : CF := { res := [rCelN 2 5, rTmp 3], code := B53, nt := 38 }
theorem c53 : ctF Try.prog 53 = some A53 := by kernel_rfl

/-! 55: cadastre/bind.right$1 -/
noncomputable def R55_0 : CT :=
  .reg [
  oP (pdT 2) (eBox (slotG 0)),
  oP (pdT 3) (eMov (constG (.bool false)))]
noncomputable def R55_1 : CT :=
  .reg [
  oP (pdT 4) (eLoadN 8 (slotG 2)),
  oP (pdT 5) (eLoad1 (slotG 1)),
  cP (pdT 6) 22 [(slotG 4), (slotG 5)],
  oP (pdT 7) (e1 (cUn .not) (slotG 6)),
  oP (pdT 3) (eMov (slotG 7))]
noncomputable def B55 : CT := (.seq R55_0 (.seq R55_1 .ret))
noncomputable def A55 : CF := { res := [rTmp 3], code := B55, nt := 8 }
theorem c55 : ctF Try.prog 55 = some A55 := by kernel_rfl

/-! 22: cadastre/bind.right -/
noncomputable def R22_0 : CT :=
  .reg [
  oP (pdT 2) (eBox (slotG 0)),
  oP (pdT 3) (eBox (slotG 1)),
  oP (pdT 4) (eMov (constG (.bool false)))]
noncomputable def R22_1 : CT :=
  .reg [
  oP (pdT 7) (e1 (cAddo 0) (slotG 2)),
  oP (pdT 8) (eLoad1 (slotG 7))]
noncomputable def R22_2 : CT :=
  .reg [
  oP (pdT 10) (e2 (cEq false .num) (slotG 8) (constG (.int .i64 1))),
  oP (pdT 9) (eMov (slotG 10))]
noncomputable def R22_3 : CT :=
  .reg [
  oP (pdT 11) (e1 (cAddo 7) (slotG 2)),
  oP (pdT 12) (eLoad1 (slotG 11)),
  oP (pdT 13) (e1 cLenL (slotG 12)),
  oP (pdT 14) (e2 (cEq false .num) (slotG 13) (constG (.int .i64 0))),
  oP (pdT 15) (eMov (slotG 14)),
  gP (slotG 15) true (pdT 16) (e1 (cAddo 1) (slotG 2)),
  gP (slotG 15) true (pdT 17) (eLoadN 3 (slotG 16)),
  gcP (slotG 15) true (pdT 18) 52 [(slotG 17)],
  oP (pdT 19) (ePick (slotG 15) (slotG 18) (constG (.bool false))),
  oP (pdT 4) (eMov (slotG 19))]
noncomputable def R22_4 : CT :=
  .reg [
  oP (pdT 21) (e2 (cEq false .num) (slotG 8) (constG (.int .i64 3))),
  oP (pdT 20) (eMov (slotG 21))]
noncomputable def R22_5 : CT :=
  .reg [
  oP (pdT 22) (e1 (cAddo 7) (slotG 2)),
  oP (pdT 23) (eLoad1 (slotG 22)),
  oP (pdT 24) (e1 cLenL (slotG 23)),
  oP (pdT 25) (e2 (cEq false .num) (slotG 24) (constG (.int .i64 0))),
  oP (pdT 26) (eMov (slotG 25)),
  gP (slotG 26) true (pdT 27) (e1 (cAddo 6) (slotG 2)),
  gP (slotG 26) true (pdT 28) (eLoad1 (slotG 27)),
  gP (slotG 26) true (pdT 29) (e2 (cBin .geq) (slotG 28) (constG (.int .i64 0))),
  oP (pdT 30) (ePick (slotG 26) (slotG 29) (constG (.bool false))),
  oP (pdT 31) (eMov (slotG 30)),
  gP (slotG 31) true (pdT 32) (e1 (cAddo 6) (slotG 2)),
  gP (slotG 31) true (pdT 33) (eLoad1 (slotG 32)),
  gP (slotG 31) true (pdT 34) (eLoad1 (slotG 3)),
  gP (slotG 31) true (pdT 35) (e2 (cBin .lss) (slotG 33) (slotG 34)),
  oP (pdT 36) (ePick (slotG 31) (slotG 35) (constG (.bool false))),
  oP (pdT 4) (eMov (slotG 36))]
noncomputable def R22_6 : CT :=
  .reg [
  oP (pdT 38) (e1 (cAddo 0) (slotG 2)),
  oP (pdT 39) (eLoad1 (slotG 38)),
  cP (pdT 40) 53 [(slotG 39)],
  oP (pdT 37) (eMov (slotG 40)),
  oP (pdT 41) (e1 (cExt 0) (slotG 37)),
  oP (pdT 42) (e1 (cExt 1) (slotG 37)),
  oP (pdT 5) (eAlloc [(.int .i64 0), (.int .i64 0), (.int .i64 0), (.bool false), (.bool false)] 5),
  oP pdN (eStore 5 (slotG 5) (slotG 41)),
  oP (pdT 6) (eMov (slotG 42))]
noncomputable def R22_7 : CT :=
  .reg [
  oP (pdT 43) (eMov (slotG 6)),
  oP (pdT 44) (eMov (slotG 43)),
  gP (slotG 44) true (pdT 45) (e1 (cAddo 7) (slotG 2)),
  gP (slotG 44) true (pdT 46) (eLoad1 (slotG 45)),
  gP (slotG 44) true (pdT 47) (e1 cLenL (slotG 46)),
  gP (slotG 44) true (pdT 48) (e1 (cAddo 0) (slotG 5)),
  gP (slotG 44) true (pdT 49) (eLoad1 (slotG 48)),
  gP (slotG 44) true (pdT 50) (e2 (cEq false .num) (slotG 47) (slotG 49)),
  oP (pdT 51) (ePick (slotG 44) (slotG 50) (constG (.bool false))),
  oP (pdT 52) (eMov (slotG 51)),
  gP (slotG 52) true (pdT 53) (e1 (cAddo 7) (slotG 2)),
  gP (slotG 52) true (pdT 54) (eLoad1 (slotG 53)),
  gP (slotG 52) true (pdT 55) (eMkfn (.func 55) [] [(slotG 3)]),
  gcP (slotG 52) true (pdT 56) 54 [(slotG 54), (slotG 55)],
  gP (slotG 52) true (pdT 57) (e1 (cUn .not) (slotG 56)),
  oP (pdT 58) (ePick (slotG 52) (slotG 57) (constG (.bool false))),
  oP (pdT 4) (eMov (slotG 58))]
noncomputable def B22 : CT := (.seq R22_0 (.seq (.seq R22_1 (.block 0 (.seq R22_2 (.cond (slotG 9) (.seq R22_3 .ret) (.seq R22_4 (.cond (slotG 20) (.seq R22_5 .ret) .skip)))))) (.seq R22_6 (.seq R22_7 .ret))))
noncomputable def A22 : CF := { res := [rTmp 4], code := B22, nt := 59 }
theorem c22 : ctF Try.prog 22 = some A22 := by kernel_rfl

/-! 10: cadastre/bind.Conjuncts -/
noncomputable def R10_0 : CT :=
  .reg [
  oP (pdT 1) (eBox (slotG 0)),
  oP (pdT 2) (eMov (constG (.cst (.slice none 0 0))))]
noncomputable def R10_1 : CT :=
  .reg [
  oP (pdT 3) (e1 (cAddo 0) (slotG 1)),
  oP (pdT 4) (eLoad1 (slotG 3)),
  oP (pdT 5) (e2 (cEq false .num) (slotG 4) (constG (.int .i64 20))),
  oP (pdT 6) (eMov (slotG 5)),
  gP (slotG 6) true (pdT 7) (e1 (cAddo 7) (slotG 1)),
  gP (slotG 6) true (pdT 8) (eLoad1 (slotG 7)),
  gP (slotG 6) true (pdT 9) (e1 cLenL (slotG 8)),
  gP (slotG 6) true (pdT 10) (e2 (cEq false .num) (slotG 9) (constG (.int .i64 2))),
  oP (pdT 11) (ePick (slotG 6) (slotG 10) (constG (.bool false)))]
noncomputable def R10_2 : CT :=
  .drw [12, 13, 14, 15, 16, 17, 18, 19, 20, 21, 22] [
  oI [1] (pdT 12) (e1 (cAddo 7) (slotG 1)) 1,
  oI [12] (pdT 13) (eLoad1 (slotG 12)) 1,
  oI [13] (pdT 14) (e2 (cIxa 8) (slotG 13) (constG (.int .i64 0))) 1,
  oI [14] (pdT 15) (eLoadN 8 (slotG 14)) 1,
  cI [15] (pdT 16) 10 [(slotG 15)],
  oI [1] (pdT 17) (e1 (cAddo 7) (slotG 1)) 2,
  oI [17] (pdT 18) (eLoad1 (slotG 17)) 2,
  oI [18] (pdT 19) (e2 (cIxa 8) (slotG 18) (constG (.int .i64 1))) 2,
  oI [19] (pdT 20) (eLoadN 8 (slotG 19)) 2,
  cI [20] (pdT 21) 10 [(slotG 20)],
  mI [16, 21] (pdT 22) (eApp 8 104 (slotG 16) (slotG 21)),
  oI [22] (pdT 2) (eMov (slotG 22)) 1]
noncomputable def R10_3 : CT :=
  .reg [
  oP (pdT 23) (eLoadN 8 (slotG 1)),
  cP (pdT 24) 30 [(slotG 23)],
  oP (pdT 25) (eBslice [(.int .i64 0), (.int .i64 0), (.int .i64 0), (.str []), (.str []), (.str []), (.int .i64 0), (.cst (.slice none 0 0))] 1 8 [(0, 8, (slotG 24))]),
  oP (pdT 2) (eMov (slotG 25))]
noncomputable def B10 : CT := (.seq R10_0 (.seq (.seq R10_1 (.cond (slotG 11) (.seq R10_2 .ret) .skip)) (.seq R10_3 .ret)))
noncomputable def A10 : CF := { res := [rTmp 2], code := B10, nt := 26 }
theorem c10 : ctF Try.prog 10 = some A10 := by kernel_rfl

/-! 30: cadastre/bind.own -/
noncomputable def R30_0 : CT :=
  .reg [
  oP (pdT 1) (eBox (slotG 0)),
  oP (pdT 2) (eAlloc [(.int .i64 0), (.int .i64 0), (.int .i64 0), (.str []), (.str []), (.str []), (.int .i64 0), (.cst (.slice none 0 0))] 8)]
noncomputable def R30_1 : CT :=
  .reg [
  oP (pdT 3) (eMov (constG (.cst (.slice none 0 0))))]
noncomputable def R30_2 : CT :=
  .reg [
  oP (pdT 6) (e1 (cAddo 7) (slotG 1)),
  oP (pdT 7) (eLoad1 (slotG 6)),
  oP (pdT 8) (e1 cLenL (slotG 7)),
  oP (pdT 9) (eMov (constG (.int .i64 0)))]
noncomputable def R30_3 : CT :=
  .reg [
  oP (pdT 10) (e2 (cBin .lss) (slotG 9) (slotG 8))]
noncomputable def R30_4 : CT :=
  .reg [
  oP (pdT 11) (e2 (cIxa 8) (slotG 7) (slotG 9)),
  oP (pdT 12) (eLoadN 8 (slotG 11)),
  oP (pdT 5) (eAlloc [(.int .i64 0), (.int .i64 0), (.int .i64 0), (.str []), (.str []), (.str []), (.int .i64 0), (.cst (.slice none 0 0))] 8),
  oP pdN (eStore 8 (slotG 5) (slotG 12))]
noncomputable def R30_5 : CT :=
  .reg [
  oP (pdT 13) (eMov (slotG 3)),
  oP (pdT 14) (eLoadN 8 (slotG 5)),
  cP (pdT 15) 30 [(slotG 14)],
  oP (pdT 16) (eBslice [(.int .i64 0), (.int .i64 0), (.int .i64 0), (.str []), (.str []), (.str []), (.int .i64 0), (.cst (.slice none 0 0))] 1 8 [(0, 8, (slotG 15))]),
  oP (pdT 17) (eApp 8 104 (slotG 13) (slotG 16)),
  oP (pdT 3) (eMov (slotG 17))]
noncomputable def R30_6 : CT :=
  .reg [
  oP (pdT 18) (e2 (cBin .add) (slotG 9) (constG (.int .i64 1))),
  oP (pdT 9) (eMov (slotG 18))]
noncomputable def L30_0 : CT := (.seq R30_3 (.seq (.cond (slotG 10) .skip (.exit 0)) (.seq (.block 1 (.seq R30_4 R30_5)) R30_6)))
noncomputable def R30_7 : CT :=
  .reg [
  oP (pdT 19) (eMov (slotG 3)),
  oP (pdT 20) (e1 (cAddo 7) (slotG 1)),
  oP pdN (eStore 1 (slotG 20) (slotG 19))]
noncomputable def R30_8 : CT :=
  .reg [
  oP (pdT 21) (eLoadN 8 (slotG 1)),
  oP pdN (eStore 8 (slotG 2) (slotG 21))]
noncomputable def B30 : CT := (.seq R30_0 (.seq R30_1 (.seq (.seq R30_2 (.block 0 (.loop L30_0))) (.seq R30_7 (.seq R30_8 .ret)))))
noncomputable def A30 : CF := { res := [rCelN 2 8], code := B30, nt := 22 }
theorem c30 : ctF Try.prog 30 = some A30 := by kernel_rfl

/-! 23: cadastre/bind.kind -/
noncomputable def R23_0 : CT :=
  .reg [
  oP (pdT 2) (eBox (slotG 0)),
  oP (pdT 4) (eMov (constG (.int .i64 0))),
  oP (pdT 5) (eMov (constG (.int .i64 0)))]
noncomputable def R23_1 : CT :=
  .reg [
  oP (pdT 13) (e1 (cAddo 0) (slotG 2)),
  oP (pdT 14) (eLoad1 (slotG 13))]
noncomputable def R23_2 : CT :=
  .reg [
  oP (pdT 16) (e2 (cEq false .num) (slotG 14) (constG (.int .i64 1))),
  oP (pdT 15) (eMov (slotG 16))]
noncomputable def R23_3 : CT :=
  .reg [
  oP (pdT 17) (e1 (cAddo 1) (slotG 2)),
  oP (pdT 18) (e1 (cAddo 0) (slotG 17)),
  oP (pdT 19) (eLoad1 (slotG 18)),
  oP (pdT 4) (eMov (slotG 19)),
  oP (pdT 5) (eMov (constG (.int .i64 0)))]
noncomputable def R23_4 : CT :=
  .reg [
  oP (pdT 21) (e2 (cEq false .num) (slotG 14) (constG (.int .i64 3))),
  oP (pdT 20) (eMov (slotG 21))]
noncomputable def R23_5 : CT :=
  .reg [
  oP (pdT 22) (eMov (slotG 1)),
  oP (pdT 23) (e1 (cAddo 6) (slotG 2)),
  oP (pdT 24) (eLoad1 (slotG 23)),
  oP (pdT 25) (e2 (cIxa 1) (slotG 22) (slotG 24)),
  oP (pdT 26) (eLoad1 (slotG 25)),
  oP (pdT 4) (eMov (slotG 26)),
  oP (pdT 5) (eMov (constG (.int .i64 0)))]
noncomputable def R23_6 : CT :=
  .reg [
  oP (pdT 6) (eMov (constG (.cst (.slice none 0 0))))]
noncomputable def R23_7 : CT :=
  .reg [
  oP (pdT 27) (e1 (cAddo 7) (slotG 2)),
  oP (pdT 28) (eLoad1 (slotG 27)),
  oP (pdT 29) (e1 cLenL (slotG 28)),
  oP (pdT 30) (eMov (constG (.int .i64 0)))]
noncomputable def R23_8 : CT :=
  .reg [
  oP (pdT 31) (e2 (cBin .lss) (slotG 30) (slotG 29))]
noncomputable def R23_9 : CT :=
  .reg [
  oP (pdT 32) (e2 (cIxa 8) (slotG 28) (slotG 30)),
  oP (pdT 33) (eLoadN 8 (slotG 32)),
  oP (pdT 8) (eAlloc [(.int .i64 0), (.int .i64 0), (.int .i64 0), (.str []), (.str []), (.str []), (.int .i64 0), (.cst (.slice none 0 0))] 8),
  oP pdN (eStore 8 (slotG 8) (slotG 33))]
noncomputable def R23_10 : CT :=
  .reg [
  oP (pdT 35) (eLoadN 8 (slotG 8)),
  oP (pdT 36) (eMov (slotG 1)),
  cP (pdT 37) 23 [(slotG 35), (slotG 36)],
  oP (pdT 34) (eMov (slotG 37)),
  oP (pdT 38) (e1 (cExt 0) (slotG 34)),
  oP (pdT 39) (e1 (cExt 1) (slotG 34)),
  oP (pdT 9) (eMov (slotG 38)),
  oP (pdT 10) (eMov (slotG 39))]
noncomputable def R23_11 : CT :=
  .reg [
  oP (pdT 40) (eMov (slotG 10)),
  oP (pdT 41) (e2 (cEq true .num) (slotG 40) (constG (.int .i64 0)))]
noncomputable def R23_12 : CT :=
  .reg [
  oP (pdT 42) (eMov (slotG 10)),
  oP (pdT 4) (eMov (constG (.int .i64 0))),
  oP (pdT 5) (eMov (slotG 42))]
noncomputable def R23_13 : CT :=
  .reg [
  oP (pdT 43) (eMov (slotG 6)),
  oP (pdT 44) (eMov (slotG 9)),
  oP (pdT 45) (eBslice [(.int .i64 0)] 1 1 [(0, 1, (slotG 44))]),
  oP (pdT 46) (eApp 1 8 (slotG 43) (slotG 45)),
  oP (pdT 6) (eMov (slotG 46))]
noncomputable def R23_14 : CT :=
  .reg [
  oP (pdT 47) (e2 (cBin .add) (slotG 30) (constG (.int .i64 1))),
  oP (pdT 30) (eMov (slotG 47))]
noncomputable def L23_0 : CT := (.seq R23_8 (.seq (.cond (slotG 31) .skip (.exit 1)) (.seq (.block 2 (.seq R23_9 (.seq R23_10 (.seq (.seq R23_11 (.cond (slotG 41) (.seq R23_12 .ret) .skip)) R23_13)))) R23_14)))
noncomputable def R23_15 : CT :=
  .reg [
  oP (pdT 49) (e1 (cAddo 0) (slotG 2)),
  oP (pdT 50) (eLoad1 (slotG 49)),
  cP (pdT 51) 53 [(slotG 50)],
  oP (pdT 48) (eMov (slotG 51)),
  oP (pdT 52) (e1 (cExt 0) (slotG 48)),
  oP (pdT 53) (e1 (cExt 1) (slotG 48)),
  oP (pdT 11) (eAlloc [(.int .i64 0), (.int .i64 0), (.int .i64 0), (.bool false), (.bool false)] 5),
  oP pdN (eStore 5 (slotG 11) (slotG 52)),
  oP (pdT 12) (eMov (slotG 53))]
noncomputable def R23_16 : CT :=
  .reg [
  oP (pdT 54) (eLoadN 5 (slotG 11)),
  oP (pdT 55) (eMov (slotG 6)),
  cP (pdT 56) 56 [(slotG 54), (slotG 55)],
  oP (pdT 57) (e1 (cUn .not) (slotG 56))]
noncomputable def R23_17 : CT :=
  .reg [
  oP (pdT 4) (eMov (constG (.int .i64 0))),
  oP (pdT 5) (eMov (constG (.int .i64 203)))]
noncomputable def R23_18 : CT :=
  .reg [
  oP (pdT 58) (e1 (cAddo 2) (slotG 11)),
  oP (pdT 59) (eLoad1 (slotG 58)),
  oP (pdT 4) (eMov (slotG 59)),
  oP (pdT 5) (eMov (constG (.int .i64 0)))]
noncomputable def B23 : CT := (.seq R23_0 (.seq (.seq R23_1 (.block 0 (.seq R23_2 (.cond (slotG 15) (.seq R23_3 .ret) (.seq R23_4 (.cond (slotG 20) (.seq R23_5 .ret) .skip)))))) (.seq R23_6 (.seq (.seq R23_7 (.block 1 (.loop L23_0))) (.seq R23_15 (.seq (.seq R23_16 (.cond (slotG 57) (.seq R23_17 .ret) .skip)) (.seq R23_18 .ret)))))))
noncomputable def A23 : CF := { res := [rTmp 4, rTmp 5], code := B23, nt := 60 }
theorem c23 : ctF Try.prog 23 = some A23 := by kernel_rfl

/-! 56: (cadastre/bind.want).fits -/
noncomputable def R56_0 : CT :=
  .reg [
  oP (pdT 2) (eBox (slotG 0)),
  oP (pdT 4) (eMov (constG (.bool false)))]
noncomputable def R56_1 : CT :=
  .reg [
  oP (pdT 5) (e1 (cAddo 3) (slotG 2)),
  oP (pdT 6) (eLoad1 (slotG 5)),
  oP (pdT 7) (e1 (cUn .not) (slotG 6))]
noncomputable def R56_2 : CT :=
  .reg [
  oP (pdT 8) (eMov (slotG 1)),
  oP (pdT 9) (eMkfn (.func 95) [] [(slotG 2)]),
  cP (pdT 10) 94 [(slotG 8), (slotG 9)],
  oP (pdT 11) (e1 (cUn .not) (slotG 10)),
  oP (pdT 4) (eMov (slotG 11))]
noncomputable def R56_3 : CT :=
  .drw [12, 13, 14, 15, 16, 17, 18, 19, 20, 21, 22, 23, 24, 25, 26, 27, 28, 29, 30, 31, 32, 33, 34, 35] [
  oI [2] (pdT 12) (e1 (cAddo 4) (slotG 2)) 1,
  oI [12] (pdT 13) (eLoad1 (slotG 12)) 1,
  oI [13] (pdT 14) (e1 (cUn .not) (slotG 13)) 1,
  oI [14] (pdT 15) (eMov (slotG 14)) 1,
  goI [15, 1] (slotG 15) false (pdT 16) (eMov (slotG 1)) 1,
  goI [15, 16] (slotG 15) false (pdT 17) (e2 (cIxa 1) (slotG 16) (constG (.int .i64 0))) 1,
  goI [15, 17] (slotG 15) false (pdT 18) (eLoad1 (slotG 17)) 1,
  goI [15, 1] (slotG 15) false (pdT 19) (eMov (slotG 1)) 1,
  goI [15, 19] (slotG 15) false (pdT 20) (e2 (cIxa 1) (slotG 19) (constG (.int .i64 1))) 1,
  goI [15, 20] (slotG 15) false (pdT 21) (eLoad1 (slotG 20)) 1,
  goI [15, 18, 21] (slotG 15) false (pdT 22) (e2 (cEq false .num) (slotG 18) (slotG 21)) 1,
  oI [15, 22] (pdT 23) (ePick (slotG 15) (constG (.bool true)) (slotG 22)) 1,
  oI [23] (pdT 24) (eMov (slotG 23)) 1,
  goI [24, 1] (slotG 24) false (pdT 25) (eMov (slotG 1)) 1,
  goI [24, 25] (slotG 24) false (pdT 26) (e2 (cIxa 1) (slotG 25) (constG (.int .i64 0))) 1,
  goI [24, 26] (slotG 24) false (pdT 27) (eLoad1 (slotG 26)) 1,
  goI [24, 27] (slotG 24) false (pdT 28) (e2 (cEq false .num) (slotG 27) (constG (.int .i64 0))) 1,
  oI [24, 28] (pdT 29) (ePick (slotG 24) (constG (.bool true)) (slotG 28)) 1,
  oI [29] (pdT 30) (eMov (slotG 29)) 1,
  goI [30, 1] (slotG 30) false (pdT 31) (eMov (slotG 1)) 1,
  goI [30, 31] (slotG 30) false (pdT 32) (e2 (cIxa 1) (slotG 31) (constG (.int .i64 1))) 1,
  goI [30, 32] (slotG 30) false (pdT 33) (eLoad1 (slotG 32)) 1,
  goI [30, 33] (slotG 30) false (pdT 34) (e2 (cEq false .num) (slotG 33) (constG (.int .i64 0))) 1,
  oI [30, 34] (pdT 35) (ePick (slotG 30) (constG (.bool true)) (slotG 34)) 1,
  oI [35] (pdT 4) (eMov (slotG 35)) 1]
noncomputable def B56 : CT := (.seq R56_0 (.seq (.seq R56_1 (.cond (slotG 7) (.seq R56_2 .ret) .skip)) (.seq R56_3 .ret)))
noncomputable def A56 : CF := { res := [rTmp 4], code := B56, nt := 36 }
theorem c56 : ctF Try.prog 56 = some A56 := by kernel_rfl

/-! 95: (cadastre/bind.want).fits$1 -/
noncomputable def R95_0 : CT :=
  .reg [
  oP (pdT 3) (eMov (constG (.bool false)))]
noncomputable def R95_1 : CT :=
  .reg [
  oP (pdT 4) (eMov (slotG 0)),
  oP (pdT 5) (e2 (cEq true .num) (slotG 4) (constG (.int .i64 0))),
  oP (pdT 6) (eMov (slotG 5)),
  gP (slotG 6) true (pdT 7) (eMov (slotG 0)),
  gP (slotG 6) true (pdT 8) (e1 (cAddo 1) (slotG 1)),
  gP (slotG 6) true (pdT 9) (eLoad1 (slotG 8)),
  gP (slotG 6) true (pdT 10) (e2 (cEq true .num) (slotG 7) (slotG 9)),
  oP (pdT 11) (ePick (slotG 6) (slotG 10) (constG (.bool false))),
  oP (pdT 3) (eMov (slotG 11))]
noncomputable def B95 : CT := (.seq R95_0 (.seq R95_1 .ret))
noncomputable def A95 : CF := { res := [rTmp 3], code := B95, nt := 12 }
theorem c95 : ctF Try.prog 95 = some A95 := by kernel_rfl

/-! 94: slices.ContainsFunc[[]int,int] -/
noncomputable def R94_0 : CT :=
  .reg [
  oP (pdT 4) (eMov (constG (.bool false)))]
noncomputable def R94_1 : CT :=
  .reg [
  oP (pdT 5) (eMov (slotG 0)),
  oP (pdT 6) (eMov (slotG 1)),
  cP (pdT 7) 109 [(slotG 5), (slotG 6)],
  oP (pdT 8) (e2 (cBin .geq) (slotG 7) (constG (.int .i64 0))),
  oP (pdT 4) (eMov (slotG 8))]
noncomputable def B94 : CT := (.seq R94_0 (.seq R94_1 .ret))
noncomputable def A94 : CF := { res := [rTmp 4], code := B94, nt := 9 }
theorem c94 : ctF Try.prog 94 = some A94 := by kernel_rfl

/-! 109: slices.IndexFunc[[]int,int] -/
noncomputable def R109_0 : CT :=
  .reg [
  oP (pdT 4) (eMov (constG (.int .i64 0)))]
noncomputable def R109_1 : CT :=
  .reg [
  oP (pdT 6) (eMov (slotG 0)),
  oP (pdT 7) (e1 cLenL (slotG 6)),
  oP (pdT 8) (eMov (constG (.int .i64 0)))]
noncomputable def R109_2 : CT :=
  .reg [
  oP (pdT 9) (e2 (cBin .lss) (slotG 8) (slotG 7))]
noncomputable def R109_3 : CT :=
  .reg [
  oP (pdT 10) (eMov (slotG 8)),
  oP (pdT 5) (eMov (slotG 10))]
noncomputable def R109_4 : CT :=
  .reg [
  oP (pdT 11) (eMov (slotG 1)),
  oP (pdT 12) (eMov (slotG 0)),
  oP (pdT 13) (eMov (slotG 5)),
  oP (pdT 14) (e2 (cIxa 1) (slotG 12) (slotG 13)),
  oP (pdT 15) (eLoad1 (slotG 14)),
  vP (pdT 16) (slotG 11) [(slotG 15)]]
noncomputable def R109_5 : CT :=
  .reg [
  oP (pdT 17) (eMov (slotG 5)),
  oP (pdT 4) (eMov (slotG 17))]
noncomputable def R109_6 : CT :=
  .reg [
  oP (pdT 18) (e2 (cBin .add) (slotG 8) (constG (.int .i64 1))),
  oP (pdT 8) (eMov (slotG 18))]
noncomputable def L109_0 : CT := (.seq R109_2 (.seq (.cond (slotG 9) .skip (.exit 0)) (.seq (.block 1 (.seq R109_3 (.seq R109_4 (.cond (slotG 16) (.seq R109_5 .ret) .skip)))) R109_6)))
noncomputable def R109_7 : CT :=
  .reg [
  oP (pdT 4) (eMov (constG (.int .i64 (-1))))]
noncomputable def B109 : CT := (.seq R109_0 (.seq (.seq R109_1 (.block 0 (.loop L109_0))) (.seq R109_7 .ret)))
noncomputable def A109 : CF := { res := [rTmp 4], code := B109, nt := 19 }
theorem c109 : ctF Try.prog 109 = some A109 := by kernel_rfl

/-! 54: slices.ContainsFunc[[]cadastre/api.Expr,cadastre/api.Expr] -/
noncomputable def R54_0 : CT :=
  .reg [
  oP (pdT 4) (eMov (constG (.bool false)))]
noncomputable def R54_1 : CT :=
  .reg [
  oP (pdT 5) (eMov (slotG 0)),
  oP (pdT 6) (eMov (slotG 1)),
  cP (pdT 7) 93 [(slotG 5), (slotG 6)],
  oP (pdT 8) (e2 (cBin .geq) (slotG 7) (constG (.int .i64 0))),
  oP (pdT 4) (eMov (slotG 8))]
noncomputable def B54 : CT := (.seq R54_0 (.seq R54_1 .ret))
noncomputable def A54 : CF := { res := [rTmp 4], code := B54, nt := 9 }
theorem c54 : ctF Try.prog 54 = some A54 := by kernel_rfl

/-! 93: slices.IndexFunc[[]cadastre/api.Expr,cadastre/api.Expr] -/
noncomputable def R93_0 : CT :=
  .reg [
  oP (pdT 4) (eMov (constG (.int .i64 0)))]
noncomputable def R93_1 : CT :=
  .reg [
  oP (pdT 6) (eMov (slotG 0)),
  oP (pdT 7) (e1 cLenL (slotG 6)),
  oP (pdT 8) (eMov (constG (.int .i64 0)))]
noncomputable def R93_2 : CT :=
  .reg [
  oP (pdT 9) (e2 (cBin .lss) (slotG 8) (slotG 7))]
noncomputable def R93_3 : CT :=
  .reg [
  oP (pdT 10) (eMov (slotG 8)),
  oP (pdT 5) (eMov (slotG 10))]
noncomputable def R93_4 : CT :=
  .reg [
  oP (pdT 11) (eMov (slotG 1)),
  oP (pdT 12) (eMov (slotG 0)),
  oP (pdT 13) (eMov (slotG 5)),
  oP (pdT 14) (e2 (cIxa 8) (slotG 12) (slotG 13)),
  oP (pdT 15) (eLoadN 8 (slotG 14)),
  vP (pdT 16) (slotG 11) [(slotG 15)]]
noncomputable def R93_5 : CT :=
  .reg [
  oP (pdT 17) (eMov (slotG 5)),
  oP (pdT 4) (eMov (slotG 17))]
noncomputable def R93_6 : CT :=
  .reg [
  oP (pdT 18) (e2 (cBin .add) (slotG 8) (constG (.int .i64 1))),
  oP (pdT 8) (eMov (slotG 18))]
noncomputable def L93_0 : CT := (.seq R93_2 (.seq (.cond (slotG 9) .skip (.exit 0)) (.seq (.block 1 (.seq R93_3 (.seq R93_4 (.cond (slotG 16) (.seq R93_5 .ret) .skip)))) R93_6)))
noncomputable def R93_7 : CT :=
  .reg [
  oP (pdT 4) (eMov (constG (.int .i64 (-1))))]
noncomputable def B93 : CT := (.seq R93_0 (.seq (.seq R93_1 (.block 0 (.loop L93_0))) (.seq R93_7 .ret)))
noncomputable def A93 : CF := { res := [rTmp 4], code := B93, nt := 19 }
theorem c93 : ctF Try.prog 93 = some A93 := by kernel_rfl

/-! 52: cadastre/value.May -/
noncomputable def R52_0 : CT :=
  .reg [
  oP (pdT 1) (eBox (slotG 0)),
  oP (pdT 2) (eMov (constG (.bool false)))]
noncomputable def R52_1 : CT :=
  .reg [
  oP (pdT 3) (e1 (cAddo 0) (slotG 1)),
  oP (pdT 4) (eLoad1 (slotG 3))]
noncomputable def R52_2 : CT :=
  .reg [
  oP (pdT 6) (e2 (cEq false .num) (slotG 4) (constG (.int .i64 0))),
  oP (pdT 5) (eMov (slotG 6))]
noncomputable def R52_3 : CT :=
  .reg [
  oP (pdT 7) (eLoadN 3 (slotG 1)),
  oP (pdT 8) (eBuild [(.int .i64 0), (.int .i64 0), (.str [])] 3 []),
  oP (pdT 9) (e2 (cEqA false [.i, .i, .s]) (slotG 7) (slotG 8)),
  oP (pdT 2) (eMov (slotG 9))]
noncomputable def R52_4 : CT :=
  .reg [
  oP (pdT 11) (e2 (cEq false .num) (slotG 4) (constG (.int .i64 1))),
  oP (pdT 10) (eMov (slotG 11))]
noncomputable def R52_5 : CT :=
  .reg [
  oP (pdT 12) (e1 (cAddo 2) (slotG 1)),
  oP (pdT 13) (eLoad1 (slotG 12)),
  oP (pdT 14) (e2 (cEq false .num) (slotG 13) (constG (.str []))),
  oP (pdT 2) (eMov (slotG 14))]
noncomputable def R52_6 : CT :=
  .reg [
  oP (pdT 16) (e2 (cEq false .num) (slotG 4) (constG (.int .i64 2))),
  oP (pdT 15) (eMov (slotG 16))]
noncomputable def R52_7 : CT :=
  .reg [
  oP (pdT 17) (e1 (cAddo 1) (slotG 1)),
  oP (pdT 18) (eLoad1 (slotG 17)),
  oP (pdT 19) (e2 (cEq false .num) (slotG 18) (constG (.int .i64 0))),
  oP (pdT 20) (eMov (slotG 19)),
  gP (slotG 20) true (pdT 21) (e1 (cAddo 2) (slotG 1)),
  gP (slotG 20) true (pdT 22) (eLoad1 (slotG 21)),
  gP (slotG 20) true (pdT 23) (e1 cLenS (slotG 22)),
  gP (slotG 20) true (pdT 24) (e2 (cBin .leq) (slotG 23) (constG (.int .i64 64))),
  oP (pdT 25) (ePick (slotG 20) (slotG 24) (constG (.bool false))),
  oP (pdT 2) (eMov (slotG 25))]
noncomputable def R52_8 : CT :=
  .reg [
  oP (pdT 27) (e2 (cEq false .num) (slotG 4) (constG (.int .i64 3))),
  oP (pdT 26) (eMov (slotG 27))]
noncomputable def R52_9 : CT :=
  .reg [
  oP (pdT 28) (e1 (cAddo 2) (slotG 1)),
  oP (pdT 29) (eLoad1 (slotG 28)),
  oP (pdT 30) (e2 (cEq false .num) (slotG 29) (constG (.str []))),
  oP (pdT 31) (eMov (slotG 30)),
  gP (slotG 31) true (pdT 32) (e1 (cAddo 1) (slotG 1)),
  gP (slotG 31) true (pdT 33) (eLoad1 (slotG 32)),
  gP (slotG 31) true (pdT 34) (e2 (cEq false .num) (slotG 33) (constG (.int .i64 0))),
  gP (slotG 31) true (pdT 35) (eMov (slotG 34)),
  gP (slotG 35) false (pdT 36) (e1 (cAddo 1) (slotG 1)),
  gP (slotG 35) false (pdT 37) (eLoad1 (slotG 36)),
  gP (slotG 35) false (pdT 38) (e2 (cEq false .num) (slotG 37) (constG (.int .i64 1))),
  gP (slotG 31) true (pdT 39) (ePick (slotG 35) (constG (.bool true)) (slotG 38)),
  oP (pdT 40) (ePick (slotG 31) (slotG 39) (constG (.bool false))),
  oP (pdT 2) (eMov (slotG 40))]
noncomputable def R52_10 : CT :=
  .reg [
  oP (pdT 2) (eMov (constG (.bool false)))]
noncomputable def B52 : CT := (.seq R52_0 (.seq (.seq R52_1 (.block 0 (.seq R52_2 (.cond (slotG 5) (.seq R52_3 .ret) (.seq R52_4 (.cond (slotG 10) (.seq R52_5 .ret) (.seq R52_6 (.cond (slotG 15) (.seq R52_7 .ret) (.seq R52_8 (.cond (slotG 26) (.seq R52_9 .ret) .skip)))))))))) (.seq R52_10 .ret)))
noncomputable def A52 : CF := { res := [rTmp 2], code := B52, nt := 41 }
theorem c52 : ctF Try.prog 52 = some A52 := by kernel_rfl

/-! 7: cadastre/bind.Kind -/
noncomputable def R7_0 : CT :=
  .reg [
  oP (pdT 2) (eBox (slotG 0)),
  oP (pdT 4) (eMov (constG (.int .i64 0))),
  oP (pdT 5) (eMov (constG (.int .i64 0)))]
noncomputable def R7_1 : CT :=
  .reg [
  oP (pdT 6) (eLoadN 8 (slotG 2)),
  oP (pdT 7) (eMov (slotG 1)),
  oP (pdT 8) (e1 cLenL (slotG 7)),
  cP (pdT 9) 22 [(slotG 6), (slotG 8)],
  oP (pdT 10) (e1 (cUn .not) (slotG 9))]
noncomputable def R7_2 : CT :=
  .reg [
  oP (pdT 4) (eMov (constG (.int .i64 0))),
  oP (pdT 5) (eMov (constG (.int .i64 1)))]
noncomputable def R7_3 : CT :=
  .reg [
  oP (pdT 11) (eLoadN 8 (slotG 2)),
  oP (pdT 12) (eMov (slotG 1)),
  cP (pdT 13) 23 [(slotG 11), (slotG 12)],
  oP (pdT 14) (e1 (cExt 0) (slotG 13)),
  oP (pdT 15) (e1 (cExt 1) (slotG 13)),
  oP (pdT 4) (eMov (slotG 14)),
  oP (pdT 5) (eMov (slotG 15))]
noncomputable def B7 : CT := (.seq R7_0 (.seq (.seq R7_1 (.cond (slotG 10) (.seq R7_2 .ret) .skip)) (.seq R7_3 .ret)))
noncomputable def A7 : CF := { res := [rTmp 4, rTmp 5], code := B7, nt := 16 }
theorem c7 : ctF Try.prog 7 = some A7 := by kernel_rfl

/-! 8: cadastre/cadastreref20.Kind -/
noncomputable def R8_0 : CT :=
  .reg [
  oP (pdT 2) (eBox (slotG 0)),
  oP (pdT 4) (eMov (constG (.int .i64 0))),
  oP (pdT 5) (eMov (constG (.int .i64 0)))]
noncomputable def R8_1 : CT :=
  .reg [
  oP (pdT 12) (eLoadN 8 (slotG 2)),
  oP (pdT 13) (eMov (slotG 1)),
  oP (pdT 14) (e1 cLenL (slotG 13)),
  cP (pdT 15) 24 [(slotG 12), (slotG 14)],
  oP (pdT 16) (e1 (cUn .not) (slotG 15))]
noncomputable def R8_2 : CT :=
  .reg [
  oP (pdT 4) (eMov (constG (.int .i64 0))),
  oP (pdT 5) (eMov (constG (.int .i64 1)))]
noncomputable def R8_3 : CT :=
  .reg [
  oP (pdT 17) (e1 (cAddo 0) (slotG 2)),
  oP (pdT 18) (eLoad1 (slotG 17)),
  oP (pdT 19) (e2 (cEq false .num) (slotG 18) (constG (.int .i64 1)))]
noncomputable def R8_4 : CT :=
  .reg [
  oP (pdT 20) (e1 (cAddo 1) (slotG 2)),
  oP (pdT 21) (e1 (cAddo 0) (slotG 20)),
  oP (pdT 22) (eLoad1 (slotG 21)),
  oP (pdT 4) (eMov (slotG 22)),
  oP (pdT 5) (eMov (constG (.int .i64 0)))]
noncomputable def R8_5 : CT :=
  .reg [
  oP (pdT 23) (e1 (cAddo 0) (slotG 2)),
  oP (pdT 24) (eLoad1 (slotG 23)),
  oP (pdT 25) (e2 (cEq false .num) (slotG 24) (constG (.int .i64 3)))]
noncomputable def R8_6 : CT :=
  .reg [
  oP (pdT 26) (eMov (slotG 1)),
  oP (pdT 27) (e1 (cAddo 6) (slotG 2)),
  oP (pdT 28) (eLoad1 (slotG 27)),
  oP (pdT 29) (e2 (cIxa 1) (slotG 26) (slotG 28)),
  oP (pdT 30) (eLoad1 (slotG 29)),
  oP (pdT 4) (eMov (slotG 30)),
  oP (pdT 5) (eMov (constG (.int .i64 0)))]
noncomputable def R8_7 : CT :=
  .reg [
  oP (pdT 6) (eMov (constG (.cst (.slice none 0 0))))]
noncomputable def R8_8 : CT :=
  .reg [
  oP (pdT 7) (eMov (constG (.int .i64 0)))]
noncomputable def R8_9 : CT :=
  .reg [
  oP (pdT 31) (eMov (slotG 7)),
  oP (pdT 32) (e1 (cAddo 7) (slotG 2)),
  oP (pdT 33) (eLoad1 (slotG 32)),
  oP (pdT 34) (e1 cLenL (slotG 33)),
  oP (pdT 35) (e2 (cBin .lss) (slotG 31) (slotG 34))]
noncomputable def R8_10 : CT :=
  .reg [
  oP (pdT 39) (e1 (cAddo 7) (slotG 2)),
  oP (pdT 40) (eLoad1 (slotG 39)),
  oP (pdT 41) (eMov (slotG 7)),
  oP (pdT 42) (e2 (cIxa 8) (slotG 40) (slotG 41)),
  oP (pdT 43) (eLoadN 8 (slotG 42)),
  oP (pdT 44) (eMov (slotG 1)),
  cP (pdT 45) 8 [(slotG 43), (slotG 44)],
  oP (pdT 38) (eMov (slotG 45)),
  oP (pdT 46) (e1 (cExt 0) (slotG 38)),
  oP (pdT 47) (e1 (cExt 1) (slotG 38)),
  oP (pdT 8) (eMov (slotG 46)),
  oP (pdT 9) (eMov (slotG 47))]
noncomputable def R8_11 : CT :=
  .reg [
  oP (pdT 48) (eMov (slotG 9)),
  oP (pdT 49) (e2 (cEq true .num) (slotG 48) (constG (.int .i64 0)))]
noncomputable def R8_12 : CT :=
  .reg [
  oP (pdT 50) (eMov (slotG 9)),
  oP (pdT 4) (eMov (constG (.int .i64 0))),
  oP (pdT 5) (eMov (slotG 50))]
noncomputable def R8_13 : CT :=
  .reg [
  oP (pdT 51) (eMov (slotG 6)),
  oP (pdT 52) (eMov (slotG 8)),
  oP (pdT 53) (eBslice [(.int .i64 0)] 1 1 [(0, 1, (slotG 52))]),
  oP (pdT 54) (eApp 1 8 (slotG 51) (slotG 53)),
  oP (pdT 6) (eMov (slotG 54))]
noncomputable def R8_14 : CT :=
  .reg [
  oP (pdT 36) (eMov (slotG 7)),
  oP (pdT 37) (e2 (cBin .add) (slotG 36) (constG (.int .i64 1))),
  oP (pdT 7) (eMov (slotG 37))]
noncomputable def L8_0 : CT := (.seq (.seq R8_9 (.cond (slotG 35) .skip (.exit 0))) (.seq (.block 1 (.seq R8_10 (.seq (.seq R8_11 (.cond (slotG 49) (.seq R8_12 .ret) .skip)) R8_13))) R8_14))
noncomputable def R8_15 : CT :=
  .reg [
  oP (pdT 56) (e1 (cAddo 0) (slotG 2)),
  oP (pdT 57) (eLoad1 (slotG 56)),
  oP (pdT 58) (eMov (slotG 6)),
  cP (pdT 59) 25 [(slotG 57), (slotG 58)],
  oP (pdT 55) (eMov (slotG 59)),
  oP (pdT 60) (e1 (cExt 0) (slotG 55)),
  oP (pdT 61) (e1 (cExt 1) (slotG 55)),
  oP (pdT 10) (eMov (slotG 60)),
  oP (pdT 11) (eMov (slotG 61))]
noncomputable def R8_16 : CT :=
  .reg [
  oP (pdT 62) (eMov (slotG 11)),
  oP (pdT 63) (e1 (cUn .not) (slotG 62))]
noncomputable def R8_17 : CT :=
  .reg [
  oP (pdT 4) (eMov (constG (.int .i64 0))),
  oP (pdT 5) (eMov (constG (.int .i64 203)))]
noncomputable def R8_18 : CT :=
  .reg [
  oP (pdT 64) (eMov (slotG 10)),
  oP (pdT 4) (eMov (slotG 64)),
  oP (pdT 5) (eMov (constG (.int .i64 0)))]
noncomputable def B8 : CT := (.seq R8_0 (.seq (.seq R8_1 (.cond (slotG 16) (.seq R8_2 .ret) .skip)) (.seq (.seq R8_3 (.cond (slotG 19) (.seq R8_4 .ret) .skip)) (.seq (.seq R8_5 (.cond (slotG 25) (.seq R8_6 .ret) .skip)) (.seq R8_7 (.seq (.seq R8_8 (.block 0 (.loop L8_0))) (.seq R8_15 (.seq (.seq R8_16 (.cond (slotG 63) (.seq R8_17 .ret) .skip)) (.seq R8_18 .ret)))))))))
noncomputable def A8 : CF := { res := [rTmp 4, rTmp 5], code := B8, nt := 65 }
theorem c8 : ctF Try.prog 8 = some A8 := by kernel_rfl

/-! 24: cadastre/cadastreref20.Right -/
noncomputable def R24_0 : CT :=
  .reg [
  oP (pdT 2) (eBox (slotG 0)),
  oP (pdT 4) (eMov (constG (.bool false)))]
noncomputable def R24_1 : CT :=
  .reg [
  oP (pdT 7) (e1 (cAddo 0) (slotG 2)),
  oP (pdT 8) (eLoad1 (slotG 7)),
  oP (pdT 9) (e2 (cEq false .num) (slotG 8) (constG (.int .i64 1)))]
noncomputable def R24_2 : CT :=
  .reg [
  oP (pdT 10) (e1 (cAddo 7) (slotG 2)),
  oP (pdT 11) (eLoad1 (slotG 10)),
  oP (pdT 12) (e1 cLenL (slotG 11)),
  oP (pdT 13) (e2 (cEq false .num) (slotG 12) (constG (.int .i64 0))),
  oP (pdT 14) (eMov (slotG 13)),
  gP (slotG 14) true (pdT 15) (e1 (cAddo 1) (slotG 2)),
  gP (slotG 14) true (pdT 16) (eLoadN 3 (slotG 15)),
  gcP (slotG 14) true (pdT 17) 57 [(slotG 16)],
  oP (pdT 18) (ePick (slotG 14) (slotG 17) (constG (.bool false))),
  oP (pdT 4) (eMov (slotG 18))]
noncomputable def R24_3 : CT :=
  .reg [
  oP (pdT 19) (e1 (cAddo 0) (slotG 2)),
  oP (pdT 20) (eLoad1 (slotG 19)),
  oP (pdT 21) (e2 (cEq false .num) (slotG 20) (constG (.int .i64 3)))]
noncomputable def R24_4 : CT :=
  .reg [
  oP (pdT 22) (e1 (cAddo 7) (slotG 2)),
  oP (pdT 23) (eLoad1 (slotG 22)),
  oP (pdT 24) (e1 cLenL (slotG 23)),
  oP (pdT 25) (e2 (cEq false .num) (slotG 24) (constG (.int .i64 0))),
  oP (pdT 26) (eMov (slotG 25)),
  gP (slotG 26) true (pdT 27) (e1 (cAddo 6) (slotG 2)),
  gP (slotG 26) true (pdT 28) (eLoad1 (slotG 27)),
  gP (slotG 26) true (pdT 29) (e2 (cBin .geq) (slotG 28) (constG (.int .i64 0))),
  oP (pdT 30) (ePick (slotG 26) (slotG 29) (constG (.bool false))),
  oP (pdT 31) (eMov (slotG 30)),
  gP (slotG 31) true (pdT 32) (e1 (cAddo 6) (slotG 2)),
  gP (slotG 31) true (pdT 33) (eLoad1 (slotG 32)),
  gP (slotG 31) true (pdT 34) (eMov (slotG 1)),
  gP (slotG 31) true (pdT 35) (e2 (cBin .lss) (slotG 33) (slotG 34)),
  oP (pdT 36) (ePick (slotG 31) (slotG 35) (constG (.bool false))),
  oP (pdT 4) (eMov (slotG 36))]
noncomputable def R24_5 : CT :=
  .reg [
  oP (pdT 5) (eMov (constG (.int .i64 2)))]
noncomputable def R24_6 : CT :=
  .reg [
  oP (pdT 37) (e1 (cAddo 0) (slotG 2)),
  oP (pdT 38) (eLoad1 (slotG 37)),
  oP (pdT 39) (e2 (cBin .leq) (slotG 38) (constG (.int .i64 7)))]
noncomputable def R24_7 : CT :=
  .reg [
  oP (pdT 5) (eMov (constG (.int .i64 1)))]
noncomputable def R24_8 : CT :=
  .reg [
  oP (pdT 40) (e1 (cAddo 0) (slotG 2)),
  oP (pdT 41) (eLoad1 (slotG 40)),
  oP (pdT 42) (e2 (cBin .lss) (slotG 41) (constG (.int .i64 4))),
  oP (pdT 43) (eMov (slotG 42)),
  gP (slotG 43) false (pdT 44) (e1 (cAddo 0) (slotG 2)),
  gP (slotG 43) false (pdT 45) (eLoad1 (slotG 44)),
  gP (slotG 43) false (pdT 46) (e2 (cBin .gtr) (slotG 45) (constG (.int .i64 21))),
  oP (pdT 47) (ePick (slotG 43) (constG (.bool true)) (slotG 46)),
  oP (pdT 48) (eMov (slotG 47)),
  gP (slotG 48) false (pdT 49) (e1 (cAddo 7) (slotG 2)),
  gP (slotG 48) false (pdT 50) (eLoad1 (slotG 49)),
  gP (slotG 48) false (pdT 51) (e1 cLenL (slotG 50)),
  gP (slotG 48) false (pdT 52) (eMov (slotG 5)),
  gP (slotG 48) false (pdT 53) (e2 (cEq true .num) (slotG 51) (slotG 52)),
  oP (pdT 54) (ePick (slotG 48) (constG (.bool true)) (slotG 53))]
noncomputable def R24_9 : CT :=
  .reg [
  oP (pdT 4) (eMov (constG (.bool false)))]
noncomputable def R24_10 : CT :=
  .reg [
  oP (pdT 6) (eMov (constG (.int .i64 0)))]
noncomputable def R24_11 : CT :=
  .reg [
  oP (pdT 55) (eMov (slotG 6)),
  oP (pdT 56) (eMov (slotG 5)),
  oP (pdT 57) (e2 (cBin .lss) (slotG 55) (slotG 56))]
noncomputable def R24_12 : CT :=
  .reg [
  oP (pdT 60) (e1 (cAddo 7) (slotG 2)),
  oP (pdT 61) (eLoad1 (slotG 60)),
  oP (pdT 62) (eMov (slotG 6)),
  oP (pdT 63) (e2 (cIxa 8) (slotG 61) (slotG 62)),
  oP (pdT 64) (eLoadN 8 (slotG 63)),
  oP (pdT 65) (eMov (slotG 1)),
  cP (pdT 66) 24 [(slotG 64), (slotG 65)],
  oP (pdT 67) (e1 (cUn .not) (slotG 66))]
noncomputable def R24_13 : CT :=
  .reg [
  oP (pdT 4) (eMov (constG (.bool false)))]
noncomputable def R24_14 : CT :=
  .reg [
  oP (pdT 58) (eMov (slotG 6)),
  oP (pdT 59) (e2 (cBin .add) (slotG 58) (constG (.int .i64 1))),
  oP (pdT 6) (eMov (slotG 59))]
noncomputable def L24_0 : CT := (.seq (.seq R24_11 (.cond (slotG 57) .skip (.exit 0))) (.seq (.block 1 (.seq R24_12 (.cond (slotG 67) (.seq R24_13 .ret) .skip))) R24_14))
noncomputable def R24_15 : CT :=
  .reg [
  oP (pdT 4) (eMov (constG (.bool true)))]
noncomputable def B24 : CT := (.seq R24_0 (.seq (.seq R24_1 (.cond (slotG 9) (.seq R24_2 .ret) .skip)) (.seq (.seq R24_3 (.cond (slotG 21) (.seq R24_4 .ret) .skip)) (.seq R24_5 (.seq (.seq R24_6 (.cond (slotG 39) R24_7 .skip)) (.seq (.seq R24_8 (.cond (slotG 54) (.seq R24_9 .ret) .skip)) (.seq (.seq R24_10 (.block 0 (.loop L24_0))) (.seq R24_15 .ret))))))))
noncomputable def A24 : CF := { res := [rTmp 4], code := B24, nt := 68 }
theorem c24 : ctF Try.prog 24 = some A24 := by kernel_rfl

/-! 25: cadastre/cadastreref20.made -/
noncomputable def R25_0 : CT :=
  .reg [
  oP (pdT 4) (eMov (constG (.int .i64 0))),
  oP (pdT 5) (eMov (constG (.bool false)))]
noncomputable def R25_1 : CT :=
  .reg [
  oP (pdT 8) (eMov (slotG 0)),
  oP (pdT 9) (e2 (cEq false .num) (slotG 8) (constG (.int .i64 6))),
  oP (pdT 10) (eMov (slotG 9)),
  gP (slotG 10) false (pdT 11) (eMov (slotG 0)),
  gP (slotG 10) false (pdT 12) (e2 (cEq false .num) (slotG 11) (constG (.int .i64 7))),
  oP (pdT 13) (ePick (slotG 10) (constG (.bool true)) (slotG 12))]
noncomputable def R25_2 : CT :=
  .reg [
  oP (pdT 4) (eMov (constG (.int .i64 3))),
  oP (pdT 5) (eMov (constG (.bool true)))]
noncomputable def R25_3 : CT :=
  .reg [
  oP (pdT 14) (eMov (slotG 0)),
  oP (pdT 15) (e2 (cBin .geq) (slotG 14) (constG (.int .i64 14))),
  oP (pdT 16) (eMov (slotG 15)),
  gP (slotG 16) true (pdT 17) (eMov (slotG 0)),
  gP (slotG 16) true (pdT 18) (e2 (cBin .leq) (slotG 17) (constG (.int .i64 19))),
  oP (pdT 19) (ePick (slotG 16) (slotG 18) (constG (.bool false)))]
noncomputable def R25_4 : CT :=
  .drw [20, 21, 22, 23, 24, 25, 26, 27, 28, 29, 30, 31, 32, 33, 34, 35, 36, 37, 38] [
  oI [1] (pdT 20) (eMov (slotG 1)) 1,
  oI [20] (pdT 21) (e2 (cIxa 1) (slotG 20) (constG (.int .i64 0))) 1,
  oI [21] (pdT 22) (eLoad1 (slotG 21)) 1,
  oI [1] (pdT 23) (eMov (slotG 1)) 1,
  oI [23] (pdT 24) (e2 (cIxa 1) (slotG 23) (constG (.int .i64 1))) 1,
  oI [24] (pdT 25) (eLoad1 (slotG 24)) 1,
  oI [22, 25] (pdT 26) (e2 (cEq false .num) (slotG 22) (slotG 25)) 1,
  oI [26] (pdT 27) (eMov (slotG 26)) 1,
  goI [27, 1] (slotG 27) false (pdT 28) (eMov (slotG 1)) 1,
  goI [27, 28] (slotG 27) false (pdT 29) (e2 (cIxa 1) (slotG 28) (constG (.int .i64 0))) 1,
  goI [27, 29] (slotG 27) false (pdT 30) (eLoad1 (slotG 29)) 1,
  goI [27, 30] (slotG 27) false (pdT 31) (e2 (cEq false .num) (slotG 30) (constG (.int .i64 0))) 1,
  oI [27, 31] (pdT 32) (ePick (slotG 27) (constG (.bool true)) (slotG 31)) 1,
  oI [32] (pdT 33) (eMov (slotG 32)) 1,
  goI [33, 1] (slotG 33) false (pdT 34) (eMov (slotG 1)) 1,
  goI [33, 34] (slotG 33) false (pdT 35) (e2 (cIxa 1) (slotG 34) (constG (.int .i64 1))) 1,
  goI [33, 35] (slotG 33) false (pdT 36) (eLoad1 (slotG 35)) 1,
  goI [33, 36] (slotG 33) false (pdT 37) (e2 (cEq false .num) (slotG 36) (constG (.int .i64 0))) 1,
  oI [33, 37] (pdT 38) (ePick (slotG 33) (constG (.bool true)) (slotG 37)) 1,
  oI [] (pdT 4) (eMov (constG (.int .i64 3))) 1,
  oI [38] (pdT 5) (eMov (slotG 38)) 1]
noncomputable def R25_5 : CT :=
  .reg [
  oP (pdT 6) (eMov (constG (.int .i64 3)))]
noncomputable def R25_6 : CT :=
  .reg [
  oP (pdT 39) (eMov (slotG 0)),
  oP (pdT 40) (e2 (cEq false .num) (slotG 39) (constG (.int .i64 4))),
  oP (pdT 41) (eMov (slotG 40)),
  gP (slotG 41) false (pdT 42) (eMov (slotG 0)),
  gP (slotG 41) false (pdT 43) (e2 (cBin .geq) (slotG 42) (constG (.int .i64 8))),
  gP (slotG 41) false (pdT 44) (eMov (slotG 43)),
  gP (slotG 44) true (pdT 45) (eMov (slotG 0)),
  gP (slotG 44) true (pdT 46) (e2 (cBin .leq) (slotG 45) (constG (.int .i64 12))),
  gP (slotG 41) false (pdT 47) (ePick (slotG 44) (slotG 46) (constG (.bool false))),
  oP (pdT 48) (ePick (slotG 41) (constG (.bool true)) (slotG 47))]
noncomputable def R25_7 : CT :=
  .reg [
  oP (pdT 6) (eMov (constG (.int .i64 1)))]
noncomputable def R25_8 : CT :=
  .reg [
  oP (pdT 49) (eMov (slotG 0)),
  oP (pdT 50) (e2 (cEq false .num) (slotG 49) (constG (.int .i64 13)))]
noncomputable def R25_9 : CT :=
  .reg [
  oP (pdT 6) (eMov (constG (.int .i64 2)))]
noncomputable def R25_10 : CT :=
  .reg [
  oP (pdT 7) (eMov (constG (.int .i64 0)))]
noncomputable def R25_11 : CT :=
  .reg [
  oP (pdT 51) (eMov (slotG 7)),
  oP (pdT 52) (eMov (slotG 1)),
  oP (pdT 53) (e1 cLenL (slotG 52)),
  oP (pdT 54) (e2 (cBin .lss) (slotG 51) (slotG 53))]
noncomputable def R25_12 : CT :=
  .reg [
  oP (pdT 57) (eMov (slotG 1)),
  oP (pdT 58) (eMov (slotG 7)),
  oP (pdT 59) (e2 (cIxa 1) (slotG 57) (slotG 58)),
  oP (pdT 60) (eLoad1 (slotG 59)),
  oP (pdT 61) (e2 (cEq true .num) (slotG 60) (constG (.int .i64 0))),
  oP (pdT 62) (eMov (slotG 61)),
  gP (slotG 62) true (pdT 63) (eMov (slotG 1)),
  gP (slotG 62) true (pdT 64) (eMov (slotG 7)),
  gP (slotG 62) true (pdT 65) (e2 (cIxa 1) (slotG 63) (slotG 64)),
  gP (slotG 62) true (pdT 66) (eLoad1 (slotG 65)),
  gP (slotG 62) true (pdT 67) (eMov (slotG 6)),
  gP (slotG 62) true (pdT 68) (e2 (cEq true .num) (slotG 66) (slotG 67)),
  oP (pdT 69) (ePick (slotG 62) (slotG 68) (constG (.bool false)))]
noncomputable def R25_13 : CT :=
  .reg [
  oP (pdT 4) (eMov (constG (.int .i64 0))),
  oP (pdT 5) (eMov (constG (.bool false)))]
noncomputable def R25_14 : CT :=
  .reg [
  oP (pdT 55) (eMov (slotG 7)),
  oP (pdT 56) (e2 (cBin .add) (slotG 55) (constG (.int .i64 1))),
  oP (pdT 7) (eMov (slotG 56))]
noncomputable def L25_0 : CT := (.seq (.seq R25_11 (.cond (slotG 54) .skip (.exit 0))) (.seq (.block 1 (.seq R25_12 (.cond (slotG 69) (.seq R25_13 .ret) .skip))) R25_14))
noncomputable def R25_15 : CT :=
  .reg [
  oP (pdT 70) (eMov (slotG 6)),
  oP (pdT 4) (eMov (slotG 70)),
  oP (pdT 5) (eMov (constG (.bool true)))]
noncomputable def B25 : CT := (.seq R25_0 (.seq (.seq R25_1 (.cond (slotG 13) (.seq R25_2 .ret) .skip)) (.seq (.seq R25_3 (.cond (slotG 19) (.seq R25_4 .ret) .skip)) (.seq R25_5 (.seq (.seq R25_6 (.cond (slotG 48) R25_7 .skip)) (.seq (.seq R25_8 (.cond (slotG 50) R25_9 .skip)) (.seq (.seq R25_10 (.block 0 (.loop L25_0))) (.seq R25_15 .ret))))))))
noncomputable def A25 : CF := { res := [rTmp 4, rTmp 5], code := B25, nt := 71 }
theorem c25 : ctF Try.prog 25 = some A25 := by kernel_rfl

/-! 57: cadastre/cadastreref03.May -/
noncomputable def R57_0 : CT :=
  .reg [
  oP (pdT 1) (eBox (slotG 0)),
  oP (pdT 2) (eMov (constG (.bool false)))]
noncomputable def R57_1 : CT :=
  .reg [
  oP (pdT 3) (e1 (cAddo 0) (slotG 1)),
  oP (pdT 4) (eLoad1 (slotG 3)),
  oP (pdT 5) (e2 (cEq false .num) (slotG 4) (constG (.int .i64 0)))]
noncomputable def R57_2 : CT :=
  .reg [
  oP (pdT 6) (e1 (cAddo 1) (slotG 1)),
  oP (pdT 7) (eLoad1 (slotG 6)),
  oP (pdT 8) (e2 (cEq false .num) (slotG 7) (constG (.int .i64 0))),
  oP (pdT 9) (eMov (slotG 8)),
  gP (slotG 9) true (pdT 10) (e1 (cAddo 2) (slotG 1)),
  gP (slotG 9) true (pdT 11) (eLoad1 (slotG 10)),
  gP (slotG 9) true (pdT 12) (e2 (cEq false .num) (slotG 11) (constG (.str []))),
  oP (pdT 13) (ePick (slotG 9) (slotG 12) (constG (.bool false))),
  oP (pdT 2) (eMov (slotG 13))]
noncomputable def R57_3 : CT :=
  .reg [
  oP (pdT 14) (e1 (cAddo 0) (slotG 1)),
  oP (pdT 15) (eLoad1 (slotG 14)),
  oP (pdT 16) (e2 (cEq false .num) (slotG 15) (constG (.int .i64 1)))]
noncomputable def R57_4 : CT :=
  .reg [
  oP (pdT 17) (e1 (cAddo 2) (slotG 1)),
  oP (pdT 18) (eLoad1 (slotG 17)),
  oP (pdT 19) (e2 (cEq false .num) (slotG 18) (constG (.str []))),
  oP (pdT 2) (eMov (slotG 19))]
noncomputable def R57_5 : CT :=
  .reg [
  oP (pdT 20) (e1 (cAddo 0) (slotG 1)),
  oP (pdT 21) (eLoad1 (slotG 20)),
  oP (pdT 22) (e2 (cEq false .num) (slotG 21) (constG (.int .i64 2)))]
noncomputable def R57_6 : CT :=
  .reg [
  oP (pdT 23) (e1 (cAddo 1) (slotG 1)),
  oP (pdT 24) (eLoad1 (slotG 23)),
  oP (pdT 25) (e2 (cEq false .num) (slotG 24) (constG (.int .i64 0))),
  oP (pdT 26) (eMov (slotG 25)),
  gP (slotG 26) true (pdT 27) (e1 (cAddo 2) (slotG 1)),
  gP (slotG 26) true (pdT 28) (eLoad1 (slotG 27)),
  gP (slotG 26) true (pdT 29) (e1 cLenS (slotG 28)),
  gP (slotG 26) true (pdT 30) (e2 (cBin .leq) (slotG 29) (constG (.int .i64 64))),
  oP (pdT 31) (ePick (slotG 26) (slotG 30) (constG (.bool false))),
  oP (pdT 2) (eMov (slotG 31))]
noncomputable def R57_7 : CT :=
  .reg [
  oP (pdT 32) (e1 (cAddo 0) (slotG 1)),
  oP (pdT 33) (eLoad1 (slotG 32)),
  oP (pdT 34) (e2 (cEq false .num) (slotG 33) (constG (.int .i64 3))),
  oP (pdT 35) (eMov (slotG 34)),
  gP (slotG 35) true (pdT 36) (e1 (cAddo 2) (slotG 1)),
  gP (slotG 35) true (pdT 37) (eLoad1 (slotG 36)),
  gP (slotG 35) true (pdT 38) (e2 (cEq false .num) (slotG 37) (constG (.str []))),
  oP (pdT 39) (ePick (slotG 35) (slotG 38) (constG (.bool false))),
  oP (pdT 40) (eMov (slotG 39)),
  gP (slotG 40) true (pdT 41) (e1 (cAddo 1) (slotG 1)),
  gP (slotG 40) true (pdT 42) (eLoad1 (slotG 41)),
  gP (slotG 40) true (pdT 43) (e2 (cBin .geq) (slotG 42) (constG (.int .i64 0))),
  oP (pdT 44) (ePick (slotG 40) (slotG 43) (constG (.bool false))),
  oP (pdT 45) (eMov (slotG 44)),
  gP (slotG 45) true (pdT 46) (e1 (cAddo 1) (slotG 1)),
  gP (slotG 45) true (pdT 47) (eLoad1 (slotG 46)),
  gP (slotG 45) true (pdT 48) (e2 (cBin .leq) (slotG 47) (constG (.int .i64 1))),
  oP (pdT 49) (ePick (slotG 45) (slotG 48) (constG (.bool false))),
  oP (pdT 2) (eMov (slotG 49))]
noncomputable def B57 : CT := (.seq R57_0 (.seq (.seq R57_1 (.cond (slotG 5) (.seq R57_2 .ret) .skip)) (.seq (.seq R57_3 (.cond (slotG 16) (.seq R57_4 .ret) .skip)) (.seq (.seq R57_5 (.cond (slotG 22) (.seq R57_6 .ret) .skip)) (.seq R57_7 .ret)))))
noncomputable def A57 : CF := { res := [rTmp 2], code := B57, nt := 50 }
theorem c57 : ctF Try.prog 57 = some A57 := by kernel_rfl

/-! 11: cadastre/cadastreref19.SameExprs -/
noncomputable def R11_0 : CT :=
  .reg [
  oP (pdT 4) (eMov (constG (.bool false)))]
noncomputable def R11_1 : CT :=
  .reg [
  oP (pdT 6) (eMov (slotG 0)),
  oP (pdT 7) (e1 cLenL (slotG 6)),
  oP (pdT 8) (eMov (slotG 1)),
  oP (pdT 9) (e1 cLenL (slotG 8)),
  oP (pdT 10) (e2 (cEq true .num) (slotG 7) (slotG 9))]
noncomputable def R11_2 : CT :=
  .reg [
  oP (pdT 4) (eMov (constG (.bool false)))]
noncomputable def R11_3 : CT :=
  .reg [
  oP (pdT 5) (eMov (constG (.int .i64 0)))]
noncomputable def R11_4 : CT :=
  .reg [
  oP (pdT 11) (eMov (slotG 5)),
  oP (pdT 12) (eMov (slotG 0)),
  oP (pdT 13) (e1 cLenL (slotG 12)),
  oP (pdT 14) (e2 (cBin .lss) (slotG 11) (slotG 13))]
noncomputable def R11_5 : CT :=
  .drw [17, 18, 19, 20, 21, 22, 23, 24, 25, 26] [
  oI [0] (pdT 17) (eMov (slotG 0)) 1,
  oI [5] (pdT 18) (eMov (slotG 5)) 1,
  oI [17, 18] (pdT 19) (e2 (cIxa 8) (slotG 17) (slotG 18)) 1,
  oI [19] (pdT 20) (eLoadN 8 (slotG 19)) 1,
  oI [1] (pdT 21) (eMov (slotG 1)) 1,
  oI [5] (pdT 22) (eMov (slotG 5)) 1,
  oI [21, 22] (pdT 23) (e2 (cIxa 8) (slotG 21) (slotG 22)) 1,
  oI [23] (pdT 24) (eLoadN 8 (slotG 23)) 1,
  cI [20, 24] (pdT 25) 31 [(slotG 20), (slotG 24)],
  oI [25] (pdT 26) (e1 (cUn .not) (slotG 25)) 1]
noncomputable def R11_6 : CT :=
  .reg [
  oP (pdT 4) (eMov (constG (.bool false)))]
noncomputable def R11_7 : CT :=
  .reg [
  oP (pdT 15) (eMov (slotG 5)),
  oP (pdT 16) (e2 (cBin .add) (slotG 15) (constG (.int .i64 1))),
  oP (pdT 5) (eMov (slotG 16))]
noncomputable def L11_0 : CT := (.seq (.seq R11_4 (.cond (slotG 14) .skip (.exit 0))) (.seq (.block 1 (.seq R11_5 (.cond (slotG 26) (.seq R11_6 .ret) .skip))) R11_7))
noncomputable def R11_8 : CT :=
  .reg [
  oP (pdT 4) (eMov (constG (.bool true)))]
noncomputable def B11 : CT := (.seq R11_0 (.seq (.seq R11_1 (.cond (slotG 10) (.seq R11_2 .ret) .skip)) (.seq (.seq R11_3 (.block 0 (.loop L11_0))) (.seq R11_8 .ret))))
noncomputable def A11 : CF := { res := [rTmp 4], code := B11, nt := 27 }
theorem c11 : ctF Try.prog 11 = some A11 := by kernel_rfl

/-! 31: cadastre/cadastreref19.Same -/
noncomputable def R31_0 : CT :=
  .reg [
  oP (pdT 2) (eBox (slotG 0)),
  oP (pdT 3) (eBox (slotG 1)),
  oP (pdT 4) (eMov (constG (.bool false)))]
noncomputable def R31_1 : CT :=
  .reg [
  oP (pdT 6) (e1 (cAddo 0) (slotG 2)),
  oP (pdT 7) (eLoad1 (slotG 6)),
  oP (pdT 8) (e1 (cAddo 0) (slotG 3)),
  oP (pdT 9) (eLoad1 (slotG 8)),
  oP (pdT 10) (e2 (cEq true .num) (slotG 7) (slotG 9)),
  oP (pdT 11) (eMov (slotG 10)),
  gP (slotG 11) false (pdT 12) (e1 (cAddo 1) (slotG 2)),
  gP (slotG 11) false (pdT 13) (eLoadN 3 (slotG 12)),
  gP (slotG 11) false (pdT 14) (e1 (cAddo 1) (slotG 3)),
  gP (slotG 11) false (pdT 15) (eLoadN 3 (slotG 14)),
  gP (slotG 11) false (pdT 16) (e2 (cEqA true [.i, .i, .s]) (slotG 13) (slotG 15)),
  oP (pdT 17) (ePick (slotG 11) (constG (.bool true)) (slotG 16)),
  oP (pdT 18) (eMov (slotG 17)),
  gP (slotG 18) false (pdT 19) (e1 (cAddo 4) (slotG 2)),
  gP (slotG 18) false (pdT 20) (eLoad1 (slotG 19)),
  gP (slotG 18) false (pdT 21) (e1 (cAddo 4) (slotG 3)),
  gP (slotG 18) false (pdT 22) (eLoad1 (slotG 21)),
  gP (slotG 18) false (pdT 23) (e2 (cEq true .num) (slotG 20) (slotG 22)),
  oP (pdT 24) (ePick (slotG 18) (constG (.bool true)) (slotG 23)),
  oP (pdT 25) (eMov (slotG 24)),
  gP (slotG 25) false (pdT 26) (e1 (cAddo 5) (slotG 2)),
  gP (slotG 25) false (pdT 27) (eLoad1 (slotG 26)),
  gP (slotG 25) false (pdT 28) (e1 (cAddo 5) (slotG 3)),
  gP (slotG 25) false (pdT 29) (eLoad1 (slotG 28)),
  gP (slotG 25) false (pdT 30) (e2 (cEq true .num) (slotG 27) (slotG 29)),
  oP (pdT 31) (ePick (slotG 25) (constG (.bool true)) (slotG 30)),
  oP (pdT 32) (eMov (slotG 31)),
  gP (slotG 32) false (pdT 33) (e1 (cAddo 6) (slotG 2)),
  gP (slotG 32) false (pdT 34) (eLoad1 (slotG 33)),
  gP (slotG 32) false (pdT 35) (e1 (cAddo 6) (slotG 3)),
  gP (slotG 32) false (pdT 36) (eLoad1 (slotG 35)),
  gP (slotG 32) false (pdT 37) (e2 (cEq true .num) (slotG 34) (slotG 36)),
  oP (pdT 38) (ePick (slotG 32) (constG (.bool true)) (slotG 37)),
  oP (pdT 39) (eMov (slotG 38)),
  gP (slotG 39) false (pdT 40) (e1 (cAddo 7) (slotG 2)),
  gP (slotG 39) false (pdT 41) (eLoad1 (slotG 40)),
  gP (slotG 39) false (pdT 42) (e1 cLenL (slotG 41)),
  gP (slotG 39) false (pdT 43) (e1 (cAddo 7) (slotG 3)),
  gP (slotG 39) false (pdT 44) (eLoad1 (slotG 43)),
  gP (slotG 39) false (pdT 45) (e1 cLenL (slotG 44)),
  gP (slotG 39) false (pdT 46) (e2 (cEq true .num) (slotG 42) (slotG 45)),
  oP (pdT 47) (ePick (slotG 39) (constG (.bool true)) (slotG 46))]
noncomputable def R31_2 : CT :=
  .reg [
  oP (pdT 4) (eMov (constG (.bool false)))]
noncomputable def R31_3 : CT :=
  .reg [
  oP (pdT 5) (eMov (constG (.int .i64 0)))]
noncomputable def R31_4 : CT :=
  .reg [
  oP (pdT 48) (eMov (slotG 5)),
  oP (pdT 49) (e1 (cAddo 7) (slotG 2)),
  oP (pdT 50) (eLoad1 (slotG 49)),
  oP (pdT 51) (e1 cLenL (slotG 50)),
  oP (pdT 52) (e2 (cBin .lss) (slotG 48) (slotG 51))]
noncomputable def R31_5 : CT :=
  .drw [55, 56, 57, 58, 59, 60, 61, 62, 63, 64, 65, 66] [
  oI [2] (pdT 55) (e1 (cAddo 7) (slotG 2)) 1,
  oI [55] (pdT 56) (eLoad1 (slotG 55)) 1,
  oI [5] (pdT 57) (eMov (slotG 5)) 1,
  oI [56, 57] (pdT 58) (e2 (cIxa 8) (slotG 56) (slotG 57)) 1,
  oI [58] (pdT 59) (eLoadN 8 (slotG 58)) 1,
  oI [3] (pdT 60) (e1 (cAddo 7) (slotG 3)) 1,
  oI [60] (pdT 61) (eLoad1 (slotG 60)) 1,
  oI [5] (pdT 62) (eMov (slotG 5)) 1,
  oI [61, 62] (pdT 63) (e2 (cIxa 8) (slotG 61) (slotG 62)) 1,
  oI [63] (pdT 64) (eLoadN 8 (slotG 63)) 1,
  cI [59, 64] (pdT 65) 31 [(slotG 59), (slotG 64)],
  oI [65] (pdT 66) (e1 (cUn .not) (slotG 65)) 1]
noncomputable def R31_6 : CT :=
  .reg [
  oP (pdT 4) (eMov (constG (.bool false)))]
noncomputable def R31_7 : CT :=
  .reg [
  oP (pdT 53) (eMov (slotG 5)),
  oP (pdT 54) (e2 (cBin .add) (slotG 53) (constG (.int .i64 1))),
  oP (pdT 5) (eMov (slotG 54))]
noncomputable def L31_0 : CT := (.seq (.seq R31_4 (.cond (slotG 52) .skip (.exit 0))) (.seq (.block 1 (.seq R31_5 (.cond (slotG 66) (.seq R31_6 .ret) .skip))) R31_7))
noncomputable def R31_8 : CT :=
  .reg [
  oP (pdT 4) (eMov (constG (.bool true)))]
noncomputable def B31 : CT := (.seq R31_0 (.seq (.seq R31_1 (.cond (slotG 47) (.seq R31_2 .ret) .skip)) (.seq (.seq R31_3 (.block 0 (.loop L31_0))) (.seq R31_8 .ret))))
noncomputable def A31 : CF := { res := [rTmp 4], code := B31, nt := 67 }
theorem c31 : ctF Try.prog 31 = some A31 := by kernel_rfl

/-! 12: cadastre/cadastreref20.Split -/
noncomputable def R12_0 : CT :=
  .reg [
  oP (pdT 1) (eBox (slotG 0)),
  oP (pdT 2) (eMov (constG (.cst (.slice none 0 0))))]
noncomputable def R12_1 : CT :=
  .reg [
  oP (pdT 6) (e1 (cAddo 0) (slotG 1)),
  oP (pdT 7) (eLoad1 (slotG 6)),
  oP (pdT 8) (e2 (cEq true .num) (slotG 7) (constG (.int .i64 20))),
  oP (pdT 9) (eMov (slotG 8)),
  gP (slotG 9) false (pdT 10) (e1 (cAddo 7) (slotG 1)),
  gP (slotG 9) false (pdT 11) (eLoad1 (slotG 10)),
  gP (slotG 9) false (pdT 12) (e1 cLenL (slotG 11)),
  gP (slotG 9) false (pdT 13) (e2 (cEq true .num) (slotG 12) (constG (.int .i64 2))),
  oP (pdT 14) (ePick (slotG 9) (constG (.bool true)) (slotG 13))]
noncomputable def R12_2 : CT :=
  .reg [
  oP (pdT 15) (eLoadN 8 (slotG 1)),
  oP (pdT 16) (eBslice [(.int .i64 0), (.int .i64 0), (.int .i64 0), (.str []), (.str []), (.str []), (.int .i64 0), (.cst (.slice none 0 0))] 1 8 [(0, 8, (slotG 15))]),
  oP (pdT 2) (eMov (slotG 16))]
noncomputable def R12_3 : CT :=
  .reg [
  oP (pdT 17) (e1 (cAddo 7) (slotG 1)),
  oP (pdT 18) (eLoad1 (slotG 17)),
  oP (pdT 19) (e2 (cIxa 8) (slotG 18) (constG (.int .i64 0))),
  oP (pdT 20) (eLoadN 8 (slotG 19)),
  cP (pdT 21) 12 [(slotG 20)],
  oP (pdT 3) (eMov (slotG 21))]
noncomputable def R12_4 : CT :=
  .reg [
  oP (pdT 22) (e1 (cAddo 7) (slotG 1)),
  oP (pdT 23) (eLoad1 (slotG 22)),
  oP (pdT 24) (e2 (cIxa 8) (slotG 23) (constG (.int .i64 1))),
  oP (pdT 25) (eLoadN 8 (slotG 24)),
  cP (pdT 26) 12 [(slotG 25)],
  oP (pdT 4) (eMov (slotG 26))]
noncomputable def R12_5 : CT :=
  .reg [
  oP (pdT 5) (eMov (constG (.int .i64 0)))]
noncomputable def R12_6 : CT :=
  .reg [
  oP (pdT 27) (eMov (slotG 5)),
  oP (pdT 28) (eMov (slotG 4)),
  oP (pdT 29) (e1 cLenL (slotG 28)),
  oP (pdT 30) (e2 (cBin .lss) (slotG 27) (slotG 29))]
noncomputable def R12_7 : CT :=
  .reg [
  oP (pdT 33) (eMov (slotG 3)),
  oP (pdT 34) (eMov (slotG 4)),
  oP (pdT 35) (eMov (slotG 5)),
  oP (pdT 36) (e2 (cIxa 8) (slotG 34) (slotG 35)),
  oP (pdT 37) (eLoadN 8 (slotG 36)),
  oP (pdT 38) (eBslice [(.int .i64 0), (.int .i64 0), (.int .i64 0), (.str []), (.str []), (.str []), (.int .i64 0), (.cst (.slice none 0 0))] 1 8 [(0, 8, (slotG 37))]),
  oP (pdT 39) (eApp 8 104 (slotG 33) (slotG 38)),
  oP (pdT 3) (eMov (slotG 39))]
noncomputable def R12_8 : CT :=
  .reg [
  oP (pdT 31) (eMov (slotG 5)),
  oP (pdT 32) (e2 (cBin .add) (slotG 31) (constG (.int .i64 1))),
  oP (pdT 5) (eMov (slotG 32))]
noncomputable def L12_0 : CT := (.seq (.seq R12_6 (.cond (slotG 30) .skip (.exit 0))) (.seq (.block 1 R12_7) R12_8))
noncomputable def R12_9 : CT :=
  .reg [
  oP (pdT 40) (eMov (slotG 3)),
  oP (pdT 2) (eMov (slotG 40))]
noncomputable def B12 : CT := (.seq R12_0 (.seq (.seq R12_1 (.cond (slotG 14) (.seq R12_2 .ret) .skip)) (.seq R12_3 (.seq R12_4 (.seq (.seq R12_5 (.block 0 (.loop L12_0))) (.seq R12_9 .ret))))))
noncomputable def A12 : CF := { res := [rTmp 2], code := B12, nt := 41 }
theorem c12 : ctF Try.prog 12 = some A12 := by kernel_rfl

/-! 3: cadastre/cadastrelaw20.BindKinds -/
noncomputable def R3_0 : CT :=
  .reg [
  oP (pdT 2) (eBox (slotG 0)),
  oP (pdT 4) (eMov (constG (.bool false)))]
noncomputable def R3_1 : CT :=
  .reg [
  oP (pdT 11) (eBslice [(.int .i64 0)] 0 1 []),
  oP (pdT 12) (eMov (slotG 1)),
  oP (pdT 13) (eApp 1 8 (slotG 11) (slotG 12)),
  oP (pdT 5) (eMov (slotG 13))]
noncomputable def R3_2 : CT :=
  .reg [
  oP (pdT 15) (eLoadN 8 (slotG 2)),
  oP (pdT 16) (eMov (slotG 5)),
  cP (pdT 17) 7 [(slotG 15), (slotG 16)],
  oP (pdT 14) (eMov (slotG 17)),
  oP (pdT 18) (e1 (cExt 0) (slotG 14)),
  oP (pdT 19) (e1 (cExt 1) (slotG 14)),
  oP (pdT 6) (eMov (slotG 18)),
  oP (pdT 7) (eMov (slotG 19))]
noncomputable def R3_3 : CT :=
  .reg [
  oP (pdT 21) (eLoadN 8 (slotG 2)),
  oP (pdT 22) (eMov (slotG 1)),
  cP (pdT 23) 8 [(slotG 21), (slotG 22)],
  oP (pdT 20) (eMov (slotG 23)),
  oP (pdT 24) (e1 (cExt 0) (slotG 20)),
  oP (pdT 25) (e1 (cExt 1) (slotG 20)),
  oP (pdT 8) (eMov (slotG 24)),
  oP (pdT 9) (eMov (slotG 25))]
noncomputable def R3_4 : CT :=
  .reg [
  oP (pdT 10) (eMov (constG (.int .i64 0)))]
noncomputable def R3_5 : CT :=
  .reg [
  oP (pdT 26) (eMov (slotG 10)),
  oP (pdT 27) (eMov (slotG 1)),
  oP (pdT 28) (e1 cLenL (slotG 27)),
  oP (pdT 29) (e2 (cBin .lss) (slotG 26) (slotG 28))]
noncomputable def R3_6 : CT :=
  .drw [32, 33, 34, 35, 36, 37, 38, 39, 40] [
  oI [5] (pdT 32) (eMov (slotG 5)) 1,
  oI [10] (pdT 33) (eMov (slotG 10)) 1,
  oI [32, 33] (pdT 34) (e2 (cIxa 1) (slotG 32) (slotG 33)) 1,
  oI [34] (pdT 35) (eLoad1 (slotG 34)) 1,
  oI [1] (pdT 36) (eMov (slotG 1)) 1,
  oI [10] (pdT 37) (eMov (slotG 10)) 1,
  oI [36, 37] (pdT 38) (e2 (cIxa 1) (slotG 36) (slotG 37)) 1,
  oI [38] (pdT 39) (eLoad1 (slotG 38)) 1,
  oI [35, 39] (pdT 40) (e2 (cEq true .num) (slotG 35) (slotG 39)) 1]
noncomputable def R3_7 : CT :=
  .reg [
  oP (pdT 4) (eMov (constG (.bool false)))]
noncomputable def R3_8 : CT :=
  .reg [
  oP (pdT 30) (eMov (slotG 10)),
  oP (pdT 31) (e2 (cBin .add) (slotG 30) (constG (.int .i64 1))),
  oP (pdT 10) (eMov (slotG 31))]
noncomputable def L3_0 : CT := (.seq (.seq R3_5 (.cond (slotG 29) .skip (.exit 0))) (.seq (.block 1 (.seq R3_6 (.cond (slotG 40) (.seq R3_7 .ret) .skip))) R3_8))
noncomputable def R3_9 : CT :=
  .reg [
  oP (pdT 41) (eMov (slotG 6)),
  oP (pdT 42) (eMov (slotG 8)),
  oP (pdT 43) (e2 (cEq false .num) (slotG 41) (slotG 42)),
  oP (pdT 44) (eMov (slotG 43)),
  gP (slotG 44) true (pdT 45) (eMov (slotG 7)),
  gP (slotG 44) true (pdT 46) (eMov (slotG 9)),
  gP (slotG 44) true (pdT 47) (e2 (cEq false .num) (slotG 45) (slotG 46)),
  oP (pdT 48) (ePick (slotG 44) (slotG 47) (constG (.bool false))),
  oP (pdT 49) (eMov (slotG 48)),
  gcP (slotG 49) true (pdT 50) 9 [],
  oP (pdT 51) (ePick (slotG 49) (slotG 50) (constG (.bool false))),
  oP (pdT 4) (eMov (slotG 51))]
noncomputable def B3 : CT := (.seq R3_0 (.seq R3_1 (.seq R3_2 (.seq R3_3 (.seq (.seq R3_4 (.block 0 (.loop L3_0))) (.seq R3_9 .ret))))))
noncomputable def A3 : CF := { res := [rTmp 4], code := B3, nt := 52 }
theorem c3 : ctF Try.prog 3 = some A3 := by kernel_rfl

/-! 4: cadastre/cadastrelaw20.BindParts -/
noncomputable def R4_0 : CT :=
  .reg [
  oP (pdT 1) (eBox (slotG 0)),
  oP (pdT 2) (eMov (constG (.bool false)))]
noncomputable def R4_1 : CT :=
  .reg [
  oP (pdT 4) (eLoadN 8 (slotG 1)),
  cP (pdT 5) 10 [(slotG 4)],
  oP (pdT 3) (eMov (slotG 5))]
noncomputable def R4_2 : CT :=
  .reg [
  oP (pdT 6) (eMov (slotG 3)),
  oP (pdT 7) (eLoadN 8 (slotG 1)),
  cP (pdT 8) 12 [(slotG 7)],
  cP (pdT 9) 11 [(slotG 6), (slotG 8)],
  oP (pdT 10) (eMov (slotG 9)),
  gcP (slotG 10) true (pdT 11) 9 [],
  oP (pdT 12) (ePick (slotG 10) (slotG 11) (constG (.bool false))),
  oP (pdT 2) (eMov (slotG 12))]
noncomputable def B4 : CT := (.seq R4_0 (.seq R4_1 (.seq R4_2 .ret)))
noncomputable def A4 : CF := { res := [rTmp 2], code := B4, nt := 13 }
theorem c4 : ctF Try.prog 4 = some A4 := by kernel_rfl

/-! 9: cadastre/cadastrelaw20.awake -/
noncomputable def R9_0 : CT :=
  .reg [
  oP (pdT 0) (eMov (constG (.bool false)))]
noncomputable def R9_1 : CT :=
  .reg [
  cP (pdT 8) 26 [(constG (.str [97]))],
  oP (pdT 9) (eBuild [(.int .i64 0), (.int .i64 0), (.int .i64 0), (.str []), (.str []), (.str []), (.int .i64 0), (.cst (.slice none 0 0)), (.str [])] 9 [(0, 8, (slotG 8))]),
  cP (pdT 10) 26 [(constG (.str [98]))],
  oP (pdT 11) (eBuild [(.int .i64 0), (.int .i64 0), (.int .i64 0), (.str []), (.str []), (.str []), (.int .i64 0), (.cst (.slice none 0 0)), (.str [])] 9 [(0, 8, (slotG 10)), (8, 1, (constG (.str [120])))]),
  oP (pdT 12) (eBslice [(.int .i64 0), (.int .i64 0), (.int .i64 0), (.str []), (.str []), (.str []), (.int .i64 0), (.cst (.slice none 0 0)), (.str [])] 2 9 [(0, 9, (slotG 9)), (9, 9, (slotG 11))]),
  oP (pdT 13) (eBuild [(.str []), (.str []), (.int .i64 0), (.int .i64 0), (.int .i64 0), (.str []), (.str []), (.str []), (.int .i64 0), (.cst (.slice none 0 0))] 10 [(0, 1, (constG (.str [116])))]),
  oP (pdT 14) (eBslice [(.str []), (.str []), (.int .i64 0), (.int .i64 0), (.int .i64 0), (.str []), (.str []), (.str []), (.int .i64 0), (.cst (.slice none 0 0))] 1 10 [(0, 10, (slotG 13))]),
  cP (pdT 15) 26 [(constG (.str [97]))],
  cP (pdT 16) 28 [],
  cP (pdT 17) 27 [(constG (.int .i64 14)), (slotG 15), (slotG 16)],
  cP (pdT 18) 26 [(constG (.str [98]))],
  oP (pdT 19) (eBslice [(.int .i64 0), (.int .i64 0), (.int .i64 0), (.str []), (.str []), (.str []), (.int .i64 0), (.cst (.slice none 0 0))] 1 8 [(0, 8, (slotG 18))]),
  oP (pdT 20) (eBuild [(.int .i64 0), (.int .i64 0), (.int .i64 0), (.str []), (.str []), (.str []), (.int .i64 0), (.cst (.slice none 0 0))] 8 [(0, 1, (constG (.int .i64 6))), (7, 1, (slotG 19))]),
  cP (pdT 21) 27 [(constG (.int .i64 20)), (slotG 17), (slotG 20)],
  oP (pdT 22) (eBuild [(.bool false), (.bool false), (.cst (.slice none 0 0)), (.cst (.slice none 0 0)), (.int .i64 0), (.int .i64 0), (.int .i64 0), (.str []), (.str []), (.str []), (.int .i64 0), (.cst (.slice none 0 0)), (.cst (.slice none 0 0)), (.bool false), (.int .i64 0)] 15 [(2, 1, (slotG 12)), (3, 1, (slotG 14)), (4, 8, (slotG 21))]),
  oP (pdT 1) (eAlloc [(.bool false), (.bool false), (.cst (.slice none 0 0)), (.cst (.slice none 0 0)), (.int .i64 0), (.int .i64 0), (.int .i64 0), (.str []), (.str []), (.str []), (.int .i64 0), (.cst (.slice none 0 0)), (.cst (.slice none 0 0)), (.bool false), (.int .i64 0)] 15),
  oP pdN (eStore 15 (slotG 1) (slotG 22))]
noncomputable def R9_2 : CT :=
  .drw [24, 25, 26, 27, 23, 28, 29, 2] [
  cI [] (pdT 24) 29 [],
  oI [1] (pdT 25) (eLoadN 15 (slotG 1)) 2,
  oI [25] (pdT 26) (eBuild [(.int .i64 0), (.str []), (.str []), (.cst (.slice none 0 0)), (.cst (.slice none 0 0)), (.bool false), (.cst (.slice none 0 0)), (.cst (.slice none 0 0)), (.int .i64 0), (.int .i64 0), (.int .i64 0), (.str []), (.str []), (.str []), (.int .i64 0), (.cst (.slice none 0 0)), (.bool false), (.bool false), (.cst (.slice none 0 0)), (.cst (.slice none 0 0)), (.int .i64 0), (.int .i64 0), (.int .i64 0), (.str []), (.str []), (.str []), (.int .i64 0), (.cst (.slice none 0 0)), (.cst (.slice none 0 0)), (.bool false), (.int .i64 0)] 31 [(0, 1, (constG (.int .i64 8))), (16, 15, (slotG 25))]) 2,
  cI [24, 26] (pdT 27) 13 [(slotG 24), (slotG 26)],
  oI [27] (pdT 23) (eMov (slotG 27)) 1,
  oI [23] (pdT 28) (e1 (cExt 0) (slotG 23)) 1,
  oI [] (pdT 2) (eAlloc [(.int .i64 0), (.str []), (.int .u32 0), (.str []), (.cst (.slice none 0 0)), (.int .u32 0), (.int .u32 0), (.int .u32 0), (.str []), (.cst (.slice none 0 0)), (.bool false), (.int .u32 0), (.cst (.slice none 0 0)), (.cst (.slice none 0 0)), (.cst (.slice none 0 0)), (.cst (.slice none 0 0)), (.cst (.slice none 0 0)), (.cst (.slice none 0 0)), (.cst (.slice none 0 0)), (.cst (.slice none 0 0)), (.cst (.slice none 0 0)), (.cst (.slice none 0 0)), (.bool false), (.bool false), (.int .i64 0)] 25) 3,
  mI [2, 28] pdN (eStore 25 (slotG 2) (slotG 28)),
  oI [23] (pdT 29) (e1 (cExt 1) (slotG 23)) 2,
  oI [29] (pdT 3) (eMov (slotG 29)) 1]
noncomputable def R9_3 : CT :=
  .reg [
  cP (pdT 31) 29 [],
  cP (pdT 32) 26 [(constG (.str [97]))],
  oP (pdT 33) (eBuild [(.int .i64 0), (.int .i64 0), (.int .i64 0), (.str []), (.str []), (.str []), (.int .i64 0), (.cst (.slice none 0 0)), (.str [])] 9 [(0, 8, (slotG 32))]),
  oP (pdT 34) (eBslice [(.int .i64 0), (.int .i64 0), (.int .i64 0), (.str []), (.str []), (.str []), (.int .i64 0), (.cst (.slice none 0 0)), (.str [])] 1 9 [(0, 9, (slotG 33))]),
  oP (pdT 35) (eBuild [(.str []), (.str []), (.int .i64 0), (.int .i64 0), (.int .i64 0), (.str []), (.str []), (.str []), (.int .i64 0), (.cst (.slice none 0 0))] 10 [(0, 1, (constG (.str [116])))]),
  cP (pdT 36) 26 [(constG (.str [99]))],
  oP (pdT 37) (eBuild [(.str []), (.str []), (.int .i64 0), (.int .i64 0), (.int .i64 0), (.str []), (.str []), (.str []), (.int .i64 0), (.cst (.slice none 0 0))] 10 [(0, 1, (constG (.str [117]))), (2, 8, (slotG 36))]),
  oP (pdT 38) (eBslice [(.str []), (.str []), (.int .i64 0), (.int .i64 0), (.int .i64 0), (.str []), (.str []), (.str []), (.int .i64 0), (.cst (.slice none 0 0))] 2 10 [(0, 10, (slotG 35)), (10, 10, (slotG 37))]),
  oP (pdT 39) (eBuild [(.bool false), (.bool false), (.cst (.slice none 0 0)), (.cst (.slice none 0 0)), (.int .i64 0), (.int .i64 0), (.int .i64 0), (.str []), (.str []), (.str []), (.int .i64 0), (.cst (.slice none 0 0)), (.cst (.slice none 0 0)), (.bool false), (.int .i64 0)] 15 [(2, 1, (slotG 34)), (3, 1, (slotG 38))]),
  oP (pdT 40) (eBuild [(.int .i64 0), (.str []), (.str []), (.cst (.slice none 0 0)), (.cst (.slice none 0 0)), (.bool false), (.cst (.slice none 0 0)), (.cst (.slice none 0 0)), (.int .i64 0), (.int .i64 0), (.int .i64 0), (.str []), (.str []), (.str []), (.int .i64 0), (.cst (.slice none 0 0)), (.bool false), (.bool false), (.cst (.slice none 0 0)), (.cst (.slice none 0 0)), (.int .i64 0), (.int .i64 0), (.int .i64 0), (.str []), (.str []), (.str []), (.int .i64 0), (.cst (.slice none 0 0)), (.cst (.slice none 0 0)), (.bool false), (.int .i64 0)] 31 [(0, 1, (constG (.int .i64 8))), (16, 15, (slotG 39))]),
  cP (pdT 41) 13 [(slotG 31), (slotG 40)],
  oP (pdT 30) (eMov (slotG 41)),
  oP (pdT 42) (e1 (cExt 0) (slotG 30)),
  oP (pdT 43) (e1 (cExt 1) (slotG 30)),
  oP (pdT 4) (eAlloc [(.int .i64 0), (.str []), (.int .u32 0), (.str []), (.cst (.slice none 0 0)), (.int .u32 0), (.int .u32 0), (.int .u32 0), (.str []), (.cst (.slice none 0 0)), (.bool false), (.int .u32 0), (.cst (.slice none 0 0)), (.cst (.slice none 0 0)), (.cst (.slice none 0 0)), (.cst (.slice none 0 0)), (.cst (.slice none 0 0)), (.cst (.slice none 0 0)), (.cst (.slice none 0 0)), (.cst (.slice none 0 0)), (.cst (.slice none 0 0)), (.cst (.slice none 0 0)), (.bool false), (.bool false), (.int .i64 0)] 25),
  oP pdN (eStore 25 (slotG 4) (slotG 42)),
  oP (pdT 5) (eMov (slotG 43))]
noncomputable def R9_4 : CT :=
  .reg [
  cP (pdT 45) 28 [],
  cP (pdT 46) 28 [],
  cP (pdT 47) 27 [(constG (.int .i64 8)), (slotG 45), (slotG 46)],
  cP (pdT 48) 7 [(slotG 47), (constG (.cst (.slice none 0 0)))],
  oP (pdT 44) (eMov (slotG 48)),
  oP (pdT 49) (e1 (cExt 0) (slotG 44)),
  oP (pdT 50) (e1 (cExt 1) (slotG 44)),
  oP (pdT 6) (eMov (slotG 49)),
  oP (pdT 7) (eMov (slotG 50))]
noncomputable def R9_5 : CT :=
  .reg [
  oP (pdT 51) (eMov (slotG 3)),
  oP (pdT 52) (e2 (cEq false .num) (slotG 51) (constG (.int .i64 0))),
  oP (pdT 53) (eMov (slotG 52)),
  gP (slotG 53) true (pdT 54) (e1 (cAddo 18) (slotG 2)),
  gP (slotG 53) true (pdT 55) (eLoad1 (slotG 54)),
  gP (slotG 53) true (pdT 56) (e1 cLenL (slotG 55)),
  gP (slotG 53) true (pdT 57) (e2 (cEq false .num) (slotG 56) (constG (.int .i64 2))),
  oP (pdT 58) (ePick (slotG 53) (slotG 57) (constG (.bool false))),
  oP (pdT 59) (eMov (slotG 58)),
  gP (slotG 59) true (pdT 60) (e1 (cAddo 18) (slotG 2)),
  gP (slotG 59) true (pdT 61) (eLoad1 (slotG 60)),
  gP (slotG 59) true (pdT 62) (e2 (cIxa 8) (slotG 61) (constG (.int .i64 1))),
  gP (slotG 59) true (pdT 63) (e1 (cAddo 0) (slotG 62)),
  gP (slotG 59) true (pdT 64) (eLoad1 (slotG 63)),
  gP (slotG 59) true (pdT 65) (e2 (cEq false .num) (slotG 64) (constG (.int .i64 3))),
  oP (pdT 66) (ePick (slotG 59) (slotG 65) (constG (.bool false))),
  oP (pdT 67) (eMov (slotG 66)),
  gP (slotG 67) true (pdT 68) (e1 (cAddo 18) (slotG 2)),
  gP (slotG 67) true (pdT 69) (eLoad1 (slotG 68)),
  gP (slotG 67) true (pdT 70) (e2 (cIxa 8) (slotG 69) (constG (.int .i64 1))),
  gP (slotG 67) true (pdT 71) (e1 (cAddo 6) (slotG 70)),
  gP (slotG 67) true (pdT 72) (eLoad1 (slotG 71)),
  gP (slotG 67) true (pdT 73) (e2 (cEq false .num) (slotG 72) (constG (.int .i64 1))),
  oP (pdT 74) (ePick (slotG 67) (slotG 73) (constG (.bool false))),
  oP (pdT 75) (eMov (slotG 74)),
  gP (slotG 75) true (pdT 76) (e1 (cAddo 19) (slotG 2)),
  gP (slotG 75) true (pdT 77) (eLoad1 (slotG 76)),
  gP (slotG 75) true (pdT 78) (e2 (cIxa 1) (slotG 77) (constG (.int .i64 1))),
  gP (slotG 75) true (pdT 79) (eLoad1 (slotG 78)),
  gP (slotG 75) true (pdT 80) (e2 (cEq false .num) (slotG 79) (constG (.str [120]))),
  oP (pdT 81) (ePick (slotG 75) (slotG 80) (constG (.bool false))),
  oP (pdT 82) (eMov (slotG 81)),
  gP (slotG 82) true (pdT 83) (e1 (cAddo 17) (slotG 2)),
  gP (slotG 82) true (pdT 84) (eLoad1 (slotG 83)),
  gP (slotG 82) true (pdT 85) (e1 cLenL (slotG 84)),
  gP (slotG 82) true (pdT 86) (e2 (cEq false .num) (slotG 85) (constG (.int .i64 2))),
  oP (pdT 87) (ePick (slotG 82) (slotG 86) (constG (.bool false))),
  oP (pdT 88) (eMov (slotG 87)),
  gP (slotG 88) true (pdT 89) (eMov (slotG 5)),
  gP (slotG 88) true (pdT 90) (e2 (cEq false .num) (slotG 89) (constG (.int .i64 205))),
  oP (pdT 91) (ePick (slotG 88) (slotG 90) (constG (.bool false))),
  oP (pdT 92) (eMov (slotG 91)),
  gP (slotG 92) true (pdT 93) (eMov (slotG 6)),
  gP (slotG 92) true (pdT 94) (e2 (cEq false .num) (slotG 93) (constG (.int .i64 1))),
  oP (pdT 95) (ePick (slotG 92) (slotG 94) (constG (.bool false))),
  oP (pdT 96) (eMov (slotG 95)),
  gP (slotG 96) true (pdT 97) (eMov (slotG 7)),
  gP (slotG 96) true (pdT 98) (e2 (cEq false .num) (slotG 97) (constG (.int .i64 0))),
  oP (pdT 99) (ePick (slotG 96) (slotG 98) (constG (.bool false))),
  oP (pdT 0) (eMov (slotG 99))]
noncomputable def B9 : CT := (.seq R9_0 (.seq R9_1 (.seq R9_2 (.seq R9_3 (.seq R9_4 (.seq R9_5 .ret))))))
noncomputable def A9 : CF := { res := [rTmp 0], code := B9, nt := 100 }
theorem c9 : ctF Try.prog 9 = some A9 := by kernel_rfl

end Go.Abs
