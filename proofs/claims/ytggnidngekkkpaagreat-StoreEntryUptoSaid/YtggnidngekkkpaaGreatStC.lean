/- A part of the proof. -/
import Derived.Test.YtggnidngekkkpaaGreatProg
import Derived.KernelRfl
import Derived.Test.YtggnidngekkkpaaGreatAbs5
namespace Go.Abs
open Go.Proofs
set_option maxRecDepth 100000
/-! 4: cadastre/cadastrelaw26.StoreEntry -/
noncomputable def R4_0 : CT :=
  .reg [
  oP (pdT 3) (eBox (slotG 0)),
  oP (pdT 5) (eBox (slotG 2)),
  oP (pdT 6) (eMov (constG (.bool false)))]
noncomputable def R4_1 : CT :=
  .reg [
  oP (pdT 11) (e1 (cAddo 1) (slotG 5)),
  oP (pdT 12) (eLoad1 (slotG 11)),
  oP (pdT 13) (e2 (cBin .lss) (slotG 12) (constG (.int .i64 0))),
  oP (pdT 14) (eMov (slotG 13)),
  gP (slotG 14) false (pdT 15) (e1 (cAddo 1) (slotG 5)),
  gP (slotG 14) false (pdT 16) (eLoad1 (slotG 15)),
  gP (slotG 14) false (pdT 17) (e2 (cBin .gtr) (slotG 16) (constG (.int .i64 65535))),
  oP (pdT 18) (ePick (slotG 14) (constG (.bool true)) (slotG 17))]
noncomputable def R4_2 : CT :=
  .reg [
  cP (pdT 19) 22 [],
  oP (pdT 6) (eMov (slotG 19))]
noncomputable def R4_3 : CT :=
  .reg [
  oP (pdT 21) (eLoadN 6 (slotG 3)),
  oP (pdT 22) (eMov (slotG 1)),
  oP (pdT 23) (eLoadN 2 (slotG 5)),
  cP (pdT 24) 19 [(slotG 21), (slotG 22), (slotG 23)],
  oP (pdT 20) (eMov (slotG 24)),
  oP (pdT 25) (e1 (cExt 0) (slotG 20)),
  oP (pdT 26) (e1 (cExt 1) (slotG 20)),
  oP (pdT 7) (eMov (slotG 25)),
  oP (pdT 8) (eMov (slotG 26))]
noncomputable def R4_4 : CT :=
  .reg [
  oP (pdT 28) (eLoadN 6 (slotG 3)),
  oP (pdT 29) (eMov (slotG 1)),
  oP (pdT 30) (eLoadN 2 (slotG 5)),
  cP (pdT 31) 23 [(slotG 28), (slotG 29), (slotG 30)],
  oP (pdT 27) (eMov (slotG 31)),
  oP (pdT 32) (e1 (cExt 0) (slotG 27)),
  oP (pdT 33) (e1 (cExt 1) (slotG 27)),
  oP (pdT 9) (eMov (slotG 32)),
  oP (pdT 10) (eMov (slotG 33))]
noncomputable def R4_5 : CT :=
  .reg [
  oP (pdT 34) (eMov (slotG 7)),
  oP (pdT 35) (eMov (slotG 9)),
  oP (pdT 36) (e2 (cEq false .num) (slotG 34) (slotG 35)),
  oP (pdT 37) (eMov (slotG 36)),
  gP (slotG 37) true (pdT 38) (eMov (slotG 8)),
  gP (slotG 37) true (pdT 39) (eMov (slotG 10)),
  gP (slotG 37) true (pdT 40) (e2 (cEq false .num) (slotG 38) (slotG 39)),
  oP (pdT 41) (ePick (slotG 37) (slotG 40) (constG (.bool false))),
  oP (pdT 42) (eMov (slotG 41)),
  gcP (slotG 42) true (pdT 43) 22 [],
  oP (pdT 44) (ePick (slotG 42) (slotG 43) (constG (.bool false))),
  oP (pdT 6) (eMov (slotG 44))]
noncomputable def B4 : CT := (.seq R4_0 (.seq (.seq R4_1 (.cond (slotG 18) (.seq R4_2 .ret) .skip)) (.seq R4_3 (.seq R4_4 (.seq R4_5 .ret)))))
noncomputable def A4 : CF := { res := [rTmp 6], code := B4, nt := 45 }
theorem c4 : ctF Tryz.prog 4 = some A4 := by kernel_rfl

/-! 19: cadastre/store.Entry -/
noncomputable def R19_0 : CT :=
  .reg [
  oP (pdT 3) (eBox (slotG 0)),
  oP (pdT 5) (eBox (slotG 2)),
  oP (pdT 6) (eMov (constG (.str []))),
  oP (pdT 7) (eMov (constG (.int .i64 0)))]
noncomputable def R19_1 : CT :=
  .reg [
  oP (pdT 8) (eMov (constG (.cst (.slice none 0 0))))]
noncomputable def R19_2 : CT :=
  .reg [
  oP (pdT 15) (e1 (cAddo 3) (slotG 3)),
  oP (pdT 16) (eLoad1 (slotG 15)),
  oP (pdT 17) (e1 cLenL (slotG 16)),
  oP (pdT 18) (eMov (constG (.int .i64 0)))]
noncomputable def R19_3 : CT :=
  .reg [
  oP (pdT 19) (e2 (cBin .lss) (slotG 18) (slotG 17))]
noncomputable def R19_4 : CT :=
  .reg [
  oP (pdT 20) (e2 (cIxa 1) (slotG 16) (slotG 18)),
  oP (pdT 21) (eLoad1 (slotG 20)),
  oP (pdT 10) (eMov (slotG 21))]
noncomputable def R19_5 : CT :=
  .reg [
  oP (pdT 22) (eMov (slotG 10)),
  oP (pdT 23) (e2 (cBin .lss) (slotG 22) (constG (.int .i64 0))),
  oP (pdT 24) (eMov (slotG 23)),
  gP (slotG 24) false (pdT 25) (eMov (slotG 10)),
  gP (slotG 24) false (pdT 26) (eMov (slotG 1)),
  gP (slotG 24) false (pdT 27) (e1 cLenL (slotG 26)),
  gP (slotG 24) false (pdT 28) (e2 (cBin .geq) (slotG 25) (slotG 27)),
  oP (pdT 29) (ePick (slotG 24) (constG (.bool true)) (slotG 28))]
noncomputable def R19_6 : CT :=
  .reg [
  oP (pdT 6) (eMov (constG (.str []))),
  oP (pdT 7) (eMov (constG (.int .i64 1)))]
noncomputable def R19_7 : CT :=
  .reg [
  oP (pdT 30) (eMov (slotG 8)),
  oP (pdT 31) (eMov (slotG 1)),
  oP (pdT 32) (eMov (slotG 10)),
  oP (pdT 33) (e2 (cIxa 3) (slotG 31) (slotG 32)),
  oP (pdT 34) (eLoadN 3 (slotG 33)),
  oP (pdT 35) (eBslice [(.int .i64 0), (.int .i64 0), (.str [])] 1 3 [(0, 3, (slotG 34))]),
  oP (pdT 36) (eApp 3 32 (slotG 30) (slotG 35)),
  oP (pdT 8) (eMov (slotG 36))]
noncomputable def R19_8 : CT :=
  .reg [
  oP (pdT 37) (e2 (cBin .add) (slotG 18) (constG (.int .i64 1))),
  oP (pdT 18) (eMov (slotG 37))]
noncomputable def L19_0 : CT := (.seq R19_3 (.seq (.cond (slotG 19) .skip (.exit 0)) (.seq (.block 1 (.seq R19_4 (.seq (.seq R19_5 (.cond (slotG 29) (.seq R19_6 .ret) .skip)) R19_7))) R19_8)))
noncomputable def R19_9 : CT :=
  .reg [
  oP (pdT 39) (eMov (slotG 8)),
  cP (pdT 40) 60 [(slotG 39)],
  oP (pdT 38) (eMov (slotG 40)),
  oP (pdT 41) (e1 (cExt 0) (slotG 38)),
  oP (pdT 42) (e1 (cExt 1) (slotG 38)),
  oP (pdT 11) (eMov (slotG 41)),
  oP (pdT 12) (eMov (slotG 42))]
noncomputable def R19_10 : CT :=
  .reg [
  oP (pdT 43) (eMov (slotG 12)),
  oP (pdT 44) (e2 (cEq true .num) (slotG 43) (constG (.int .i64 0)))]
noncomputable def R19_11 : CT :=
  .reg [
  oP (pdT 45) (eMov (slotG 12)),
  oP (pdT 6) (eMov (constG (.str []))),
  oP (pdT 7) (eMov (slotG 45))]
noncomputable def R19_12 : CT :=
  .reg [
  oP (pdT 46) (eMov (slotG 11)),
  oP (pdT 47) (eS2b (slotG 46)),
  oP (pdT 13) (eMov (slotG 47))]
noncomputable def R19_13 : CT :=
  .reg [
  oP (pdT 14) (eMov (constG (.int .i64 24)))]
noncomputable def R19_14 : CT :=
  .reg [
  oP (pdT 48) (eMov (slotG 14)),
  oP (pdT 49) (e2 (cBin .geq) (slotG 48) (constG (.int .i64 0)))]
noncomputable def R19_15 : CT :=
  .reg [
  oP (pdT 52) (eMov (slotG 13)),
  oP (pdT 53) (e1 (cAddo 0) (slotG 5)),
  oP (pdT 54) (eLoad1 (slotG 53)),
  oP (pdT 55) (eMov (slotG 14)),
  oP (pdT 56) (e2 (cBin .shr) (slotG 54) (slotG 55)),
  oP (pdT 57) (e1 (cToInt .u8) (slotG 56)),
  oP (pdT 58) (eBslice [(.int .u8 0)] 1 1 [(0, 1, (slotG 57))]),
  oP (pdT 59) (eApp 1 1 (slotG 52) (slotG 58)),
  oP (pdT 13) (eMov (slotG 59))]
noncomputable def R19_16 : CT :=
  .reg [
  oP (pdT 50) (eMov (slotG 14)),
  oP (pdT 51) (e2 (cBin .sub) (slotG 50) (constG (.int .i64 8))),
  oP (pdT 14) (eMov (slotG 51))]
noncomputable def L19_1 : CT := (.seq (.seq R19_14 (.cond (slotG 49) .skip (.exit 2))) (.seq (.block 3 R19_15) R19_16))
noncomputable def R19_17 : CT :=
  .reg [
  oP (pdT 60) (eMov (slotG 13)),
  oP (pdT 61) (e1 (cAddo 1) (slotG 5)),
  oP (pdT 62) (eLoad1 (slotG 61)),
  oP (pdT 63) (e2 (cBin .shr) (slotG 62) (constG (.int .u64 8))),
  oP (pdT 64) (e1 (cToInt .u8) (slotG 63)),
  oP (pdT 65) (e1 (cAddo 1) (slotG 5)),
  oP (pdT 66) (eLoad1 (slotG 65)),
  oP (pdT 67) (e1 (cToInt .u8) (slotG 66)),
  oP (pdT 68) (eBslice [(.int .u8 0)] 2 1 [(0, 1, (slotG 64)), (1, 1, (slotG 67))]),
  oP (pdT 69) (eApp 1 1 (slotG 60) (slotG 68)),
  oP (pdT 70) (eB2s (slotG 69)),
  oP (pdT 6) (eMov (slotG 70)),
  oP (pdT 7) (eMov (constG (.int .i64 0)))]
noncomputable def B19 : CT := (.seq R19_0 (.seq R19_1 (.seq (.seq R19_2 (.block 0 (.loop L19_0))) (.seq R19_9 (.seq (.seq R19_10 (.cond (slotG 44) (.seq R19_11 .ret) .skip)) (.seq R19_12 (.seq (.seq R19_13 (.block 2 (.loop L19_1))) (.seq R19_17 .ret))))))))
noncomputable def A19 : CF := { res := [rTmp 6, rTmp 7], code := B19, nt := 71 }
theorem c19 : ctF Tryz.prog 19 = some A19 := by kernel_rfl

/-! 60: cadastre/keys.Encode -/
noncomputable def R60_0 : CT :=
  .reg [
  oP (pdT 2) (eMov (constG (.str []))),
  oP (pdT 3) (eMov (constG (.int .i64 0)))]
noncomputable def R60_1 : CT :=
  .reg [
  oP (pdT 7) (eMov (slotG 0)),
  oP (pdT 8) (e1 cLenL (slotG 7)),
  oP (pdT 9) (e2 (cBin .gtr) (slotG 8) (constG (.int .i64 16)))]
noncomputable def R60_2 : CT :=
  .reg [
  oP (pdT 2) (eMov (constG (.str []))),
  oP (pdT 3) (eMov (constG (.int .i64 1)))]
noncomputable def R60_3 : CT :=
  .reg [
  oP (pdT 4) (eMov (constG (.cst (.slice none 0 0))))]
noncomputable def R60_4 : CT :=
  .reg [
  oP (pdT 10) (eMov (slotG 0)),
  oP (pdT 11) (e1 cLenL (slotG 10)),
  oP (pdT 12) (eMov (constG (.int .i64 0)))]
noncomputable def R60_5 : CT :=
  .reg [
  oP (pdT 13) (e2 (cBin .lss) (slotG 12) (slotG 11))]
noncomputable def R60_6 : CT :=
  .reg [
  oP (pdT 14) (e2 (cIxa 3) (slotG 10) (slotG 12)),
  oP (pdT 15) (eLoadN 3 (slotG 14)),
  oP (pdT 6) (eAlloc [(.int .i64 0), (.int .i64 0), (.str [])] 3),
  oP pdN (eStore 3 (slotG 6) (slotG 15))]
noncomputable def R60_7 : CT :=
  .reg [
  oP (pdT 16) (eLoadN 3 (slotG 6)),
  cP (pdT 17) 145 [(slotG 16)],
  oP (pdT 18) (e1 (cUn .not) (slotG 17))]
noncomputable def R60_8 : CT :=
  .reg [
  oP (pdT 2) (eMov (constG (.str []))),
  oP (pdT 3) (eMov (constG (.int .i64 5)))]
noncomputable def R60_9 : CT :=
  .reg [
  oP (pdT 19) (eMov (slotG 4)),
  oP (pdT 20) (eLoadN 3 (slotG 6)),
  cP (pdT 21) 146 [(slotG 19), (slotG 20)],
  oP (pdT 4) (eMov (slotG 21))]
noncomputable def R60_10 : CT :=
  .reg [
  oP (pdT 22) (e2 (cBin .add) (slotG 12) (constG (.int .i64 1))),
  oP (pdT 12) (eMov (slotG 22))]
noncomputable def L60_0 : CT := (.seq R60_5 (.seq (.cond (slotG 13) .skip (.exit 0)) (.seq (.block 1 (.seq R60_6 (.seq (.seq R60_7 (.cond (slotG 18) (.seq R60_8 .ret) .skip)) R60_9))) R60_10)))
noncomputable def R60_11 : CT :=
  .reg [
  oP (pdT 23) (eMov (slotG 4)),
  oP (pdT 24) (e1 cLenL (slotG 23)),
  oP (pdT 25) (e2 (cBin .gtr) (slotG 24) (constG (.int .i64 140)))]
noncomputable def R60_12 : CT :=
  .reg [
  oP (pdT 2) (eMov (constG (.str []))),
  oP (pdT 3) (eMov (constG (.int .i64 51)))]
noncomputable def R60_13 : CT :=
  .reg [
  oP (pdT 26) (eMov (slotG 4)),
  oP (pdT 27) (eB2s (slotG 26)),
  oP (pdT 2) (eMov (slotG 27)),
  oP (pdT 3) (eMov (constG (.int .i64 0)))]
noncomputable def B60 : CT := (.seq R60_0 (.seq (.seq R60_1 (.cond (slotG 9) (.seq R60_2 .ret) .skip)) (.seq R60_3 (.seq (.seq R60_4 (.block 0 (.loop L60_0))) (.seq (.seq R60_11 (.cond (slotG 25) (.seq R60_12 .ret) .skip)) (.seq R60_13 .ret))))))
noncomputable def A60 : CF := { res := [rTmp 2, rTmp 3], code := B60, nt := 28 }
theorem c60 : ctF Tryz.prog 60 = some A60 := by kernel_rfl

/-! 146: cadastre/keys.put -/
noncomputable def R146_0 : CT :=
  .reg [
  oP (pdT 3) (eBox (slotG 1)),
  oP (pdT 4) (eMov (constG (.cst (.slice none 0 0))))]
noncomputable def R146_1 : CT :=
  .reg [
  oP (pdT 8) (e1 (cAddo 0) (slotG 3)),
  oP (pdT 9) (eLoad1 (slotG 8))]
noncomputable def R146_2 : CT :=
  .reg [
  oP (pdT 11) (e2 (cEq false .num) (slotG 9) (constG (.int .i64 3))),
  oP (pdT 10) (eMov (slotG 11))]
noncomputable def R146_3 : CT :=
  .reg [
  oP (pdT 12) (eMov (slotG 0)),
  oP (pdT 13) (e1 (cAddo 1) (slotG 3)),
  oP (pdT 14) (eLoad1 (slotG 13)),
  oP (pdT 15) (e2 (cBin .add) (constG (.int .i64 2)) (slotG 14)),
  oP (pdT 16) (e1 (cToInt .u8) (slotG 15)),
  oP (pdT 17) (eBslice [(.int .u8 0)] 1 1 [(0, 1, (slotG 16))]),
  oP (pdT 18) (eApp 1 1 (slotG 12) (slotG 17)),
  oP (pdT 4) (eMov (slotG 18))]
noncomputable def R146_4 : CT :=
  .reg [
  oP (pdT 20) (e2 (cEq false .num) (slotG 9) (constG (.int .i64 1))),
  oP (pdT 19) (eMov (slotG 20))]
noncomputable def R146_5 : CT :=
  .reg [
  oP (pdT 21) (eMov (slotG 0)),
  oP (pdT 22) (eBslice [(.int .u8 0)] 1 1 [(0, 1, (constG (.int .u8 4)))]),
  oP (pdT 23) (eApp 1 1 (slotG 21) (slotG 22)),
  oP (pdT 0) (eMov (slotG 23))]
noncomputable def R146_6 : CT :=
  .reg [
  oP (pdT 24) (e1 (cAddo 1) (slotG 3)),
  oP (pdT 25) (eLoad1 (slotG 24)),
  oP (pdT 26) (e1 (cToInt .u64) (slotG 25)),
  oP (pdT 27) (e2 (cBin .xor) (slotG 26) (constG (.int .u64 9223372036854775808))),
  oP (pdT 5) (eMov (slotG 27))]
noncomputable def R146_7 : CT :=
  .reg [
  oP (pdT 6) (eMov (constG (.int .i64 56)))]
noncomputable def R146_8 : CT :=
  .reg [
  oP (pdT 28) (eMov (slotG 6)),
  oP (pdT 29) (e2 (cBin .geq) (slotG 28) (constG (.int .i64 0)))]
noncomputable def R146_9 : CT :=
  .reg [
  oP (pdT 32) (eMov (slotG 0)),
  oP (pdT 33) (eMov (slotG 5)),
  oP (pdT 34) (eMov (slotG 6)),
  oP (pdT 35) (e2 (cBin .shr) (slotG 33) (slotG 34)),
  oP (pdT 36) (e1 (cToInt .u8) (slotG 35)),
  oP (pdT 37) (eBslice [(.int .u8 0)] 1 1 [(0, 1, (slotG 36))]),
  oP (pdT 38) (eApp 1 1 (slotG 32) (slotG 37)),
  oP (pdT 0) (eMov (slotG 38))]
noncomputable def R146_10 : CT :=
  .reg [
  oP (pdT 30) (eMov (slotG 6)),
  oP (pdT 31) (e2 (cBin .sub) (slotG 30) (constG (.int .i64 8))),
  oP (pdT 6) (eMov (slotG 31))]
noncomputable def L146_0 : CT := (.seq (.seq R146_8 (.cond (slotG 29) .skip (.exit 1))) (.seq (.block 2 R146_9) R146_10))
noncomputable def R146_11 : CT :=
  .reg [
  oP (pdT 39) (eMov (slotG 0)),
  oP (pdT 4) (eMov (slotG 39))]
noncomputable def R146_12 : CT :=
  .reg [
  oP (pdT 41) (e2 (cEq false .num) (slotG 9) (constG (.int .i64 2))),
  oP (pdT 40) (eMov (slotG 41))]
noncomputable def R146_13 : CT :=
  .reg [
  oP (pdT 42) (eMov (slotG 0)),
  oP (pdT 43) (eBslice [(.int .u8 0)] 1 1 [(0, 1, (constG (.int .u8 5)))]),
  oP (pdT 44) (eApp 1 1 (slotG 42) (slotG 43)),
  oP (pdT 0) (eMov (slotG 44))]
noncomputable def R146_14 : CT :=
  .reg [
  oP (pdT 45) (e1 (cAddo 2) (slotG 3)),
  oP (pdT 46) (eLoad1 (slotG 45)),
  oP (pdT 47) (e1 cLenS (slotG 46)),
  oP (pdT 48) (eMov (constG (.int .i64 0)))]
noncomputable def R146_15 : CT :=
  .reg [
  oP (pdT 49) (e2 (cBin .lss) (slotG 48) (slotG 47))]
noncomputable def R146_16 : CT :=
  .reg [
  oP (pdT 50) (eMov (slotG 48)),
  oP (pdT 7) (eMov (slotG 50))]
noncomputable def R146_17 : CT :=
  .reg [
  oP (pdT 51) (eMov (slotG 0)),
  oP (pdT 52) (e1 (cAddo 2) (slotG 3)),
  oP (pdT 53) (eLoad1 (slotG 52)),
  oP (pdT 54) (eMov (slotG 7)),
  oP (pdT 55) (e2 cIxs (slotG 53) (slotG 54)),
  oP (pdT 56) (eBslice [(.int .u8 0)] 1 1 [(0, 1, (slotG 55))]),
  oP (pdT 57) (eApp 1 1 (slotG 51) (slotG 56)),
  oP (pdT 0) (eMov (slotG 57))]
noncomputable def R146_18 : CT :=
  .reg [
  oP (pdT 58) (e1 (cAddo 2) (slotG 3)),
  oP (pdT 59) (eLoad1 (slotG 58)),
  oP (pdT 60) (eMov (slotG 7)),
  oP (pdT 61) (e2 cIxs (slotG 59) (slotG 60)),
  oP (pdT 62) (e2 (cEq false .num) (slotG 61) (constG (.int .u8 0)))]
noncomputable def R146_19 : CT :=
  .reg [
  oP (pdT 63) (eMov (slotG 0)),
  oP (pdT 64) (eBslice [(.int .u8 0)] 1 1 [(0, 1, (constG (.int .u8 255)))]),
  oP (pdT 65) (eApp 1 1 (slotG 63) (slotG 64)),
  oP (pdT 0) (eMov (slotG 65))]
noncomputable def R146_20 : CT :=
  .reg [
  oP (pdT 66) (e2 (cBin .add) (slotG 48) (constG (.int .i64 1))),
  oP (pdT 48) (eMov (slotG 66))]
noncomputable def L146_1 : CT := (.seq R146_15 (.seq (.cond (slotG 49) .skip (.exit 3)) (.seq (.block 4 (.seq R146_16 (.seq R146_17 (.seq R146_18 (.cond (slotG 62) R146_19 .skip))))) R146_20)))
noncomputable def R146_21 : CT :=
  .reg [
  oP (pdT 67) (eMov (slotG 0)),
  oP (pdT 68) (eBslice [(.int .u8 0)] 2 1 [(0, 1, (constG (.int .u8 0))), (1, 1, (constG (.int .u8 1)))]),
  oP (pdT 69) (eApp 1 1 (slotG 67) (slotG 68)),
  oP (pdT 4) (eMov (slotG 69))]
noncomputable def R146_22 : CT :=
  .reg [
  oP (pdT 70) (eMov (slotG 0)),
  oP (pdT 71) (eBslice [(.int .u8 0)] 1 1 [(0, 1, (constG (.int .u8 1)))]),
  oP (pdT 72) (eApp 1 1 (slotG 70) (slotG 71)),
  oP (pdT 4) (eMov (slotG 72))]
noncomputable def B146 : CT := (.seq R146_0 (.seq (.seq R146_1 (.block 0 (.seq R146_2 (.cond (slotG 10) (.seq R146_3 .ret) (.seq R146_4 (.cond (slotG 19) (.seq R146_5 (.seq R146_6 (.seq (.seq R146_7 (.block 1 (.loop L146_0))) (.seq R146_11 .ret)))) (.seq R146_12 (.cond (slotG 40) (.seq R146_13 (.seq (.seq R146_14 (.block 3 (.loop L146_1))) (.seq R146_21 .ret))) .skip)))))))) (.seq R146_22 .ret)))
noncomputable def A146 : CF := { res := [rTmp 4], code := B146, nt := 73 }
theorem c146 : ctF Tryz.prog 146 = some A146 := by kernel_rfl

/-! 145: cadastre/value.May -/
noncomputable def R145_0 : CT :=
  .reg [
  oP (pdT 1) (eBox (slotG 0)),
  oP (pdT 2) (eMov (constG (.bool false)))]
noncomputable def R145_1 : CT :=
  .reg [
  oP (pdT 3) (e1 (cAddo 0) (slotG 1)),
  oP (pdT 4) (eLoad1 (slotG 3))]
noncomputable def R145_2 : CT :=
  .reg [
  oP (pdT 6) (e2 (cEq false .num) (slotG 4) (constG (.int .i64 0))),
  oP (pdT 5) (eMov (slotG 6))]
noncomputable def R145_3 : CT :=
  .reg [
  oP (pdT 7) (eLoadN 3 (slotG 1)),
  oP (pdT 8) (eBuild [(.int .i64 0), (.int .i64 0), (.str [])] 3 []),
  oP (pdT 9) (e2 (cEqA false [.i, .i, .s]) (slotG 7) (slotG 8)),
  oP (pdT 2) (eMov (slotG 9))]
noncomputable def R145_4 : CT :=
  .reg [
  oP (pdT 11) (e2 (cEq false .num) (slotG 4) (constG (.int .i64 1))),
  oP (pdT 10) (eMov (slotG 11))]
noncomputable def R145_5 : CT :=
  .reg [
  oP (pdT 12) (e1 (cAddo 2) (slotG 1)),
  oP (pdT 13) (eLoad1 (slotG 12)),
  oP (pdT 14) (e2 (cEq false .num) (slotG 13) (constG (.str []))),
  oP (pdT 2) (eMov (slotG 14))]
noncomputable def R145_6 : CT :=
  .reg [
  oP (pdT 16) (e2 (cEq false .num) (slotG 4) (constG (.int .i64 2))),
  oP (pdT 15) (eMov (slotG 16))]
noncomputable def R145_7 : CT :=
  .reg [
  oP (pdT 17) (e1 (cAddo 1) (slotG 1)),
  oP (pdT 18) (eLoad1 (slotG 17)),
  oP (pdT 19) (e2 (cEq false .num) (slotG 18) (constG (.int .i64 0))),
  oP (pdT 20) (eMov (slotG 19)),
  gP (slotG 20) true (pdT 21) (e1 (cAddo 2) (slotG 1)),
  gP (slotG 20) true (pdT 22) (eLoad1 (slotG 21)),
  gP (slotG 20) true (pdT 23) (e1 cLenS (slotG 22)),
  gP (slotG 20) true (pdT 24) (e2 (cBin .leq) (slotG 23) (constG (.int .i64 64))),
  oP (pdT 25) (ePick (slotG 20) (slotG 24) (constG (.bool false))),
  oP (pdT 2) (eMov (slotG 25))]
noncomputable def R145_8 : CT :=
  .reg [
  oP (pdT 27) (e2 (cEq false .num) (slotG 4) (constG (.int .i64 3))),
  oP (pdT 26) (eMov (slotG 27))]
noncomputable def R145_9 : CT :=
  .reg [
  oP (pdT 28) (e1 (cAddo 2) (slotG 1)),
  oP (pdT 29) (eLoad1 (slotG 28)),
  oP (pdT 30) (e2 (cEq false .num) (slotG 29) (constG (.str []))),
  oP (pdT 31) (eMov (slotG 30)),
  gP (slotG 31) true (pdT 32) (e1 (cAddo 1) (slotG 1)),
  gP (slotG 31) true (pdT 33) (eLoad1 (slotG 32)),
  gP (slotG 31) true (pdT 34) (e2 (cEq false .num) (slotG 33) (constG (.int .i64 0))),
  gP (slotG 31) true (pdT 35) (eMov (slotG 34)),
  gP (slotG 35) false (pdT 36) (e1 (cAddo 1) (slotG 1)),
  gP (slotG 35) false (pdT 37) (eLoad1 (slotG 36)),
  gP (slotG 35) false (pdT 38) (e2 (cEq false .num) (slotG 37) (constG (.int .i64 1))),
  gP (slotG 31) true (pdT 39) (ePick (slotG 35) (constG (.bool true)) (slotG 38)),
  oP (pdT 40) (ePick (slotG 31) (slotG 39) (constG (.bool false))),
  oP (pdT 2) (eMov (slotG 40))]
noncomputable def R145_10 : CT :=
  .reg [
  oP (pdT 2) (eMov (constG (.bool false)))]
noncomputable def B145 : CT := (.seq R145_0 (.seq (.seq R145_1 (.block 0 (.seq R145_2 (.cond (slotG 5) (.seq R145_3 .ret) (.seq R145_4 (.cond (slotG 10) (.seq R145_5 .ret) (.seq R145_6 (.cond (slotG 15) (.seq R145_7 .ret) (.seq R145_8 (.cond (slotG 26) (.seq R145_9 .ret) .skip)))))))))) (.seq R145_10 .ret)))
noncomputable def A145 : CF := { res := [rTmp 2], code := B145, nt := 41 }
theorem c145 : ctF Tryz.prog 145 = some A145 := by kernel_rfl

/-! 23: cadastre/cadastreref26.Entry -/
noncomputable def R23_0 : CT :=
  .reg [
  oP (pdT 3) (eBox (slotG 0)),
  oP (pdT 5) (eBox (slotG 2)),
  oP (pdT 6) (eMov (constG (.str []))),
  oP (pdT 7) (eMov (constG (.int .i64 0)))]
noncomputable def R23_1 : CT :=
  .reg [
  oP (pdT 8) (eMov (constG (.cst (.slice none 0 0))))]
noncomputable def R23_2 : CT :=
  .reg [
  oP (pdT 9) (eMov (constG (.int .i64 0)))]
noncomputable def R23_3 : CT :=
  .reg [
  oP (pdT 15) (eMov (slotG 9)),
  oP (pdT 16) (e1 (cAddo 3) (slotG 3)),
  oP (pdT 17) (eLoad1 (slotG 16)),
  oP (pdT 18) (e1 cLenL (slotG 17)),
  oP (pdT 19) (e2 (cBin .lss) (slotG 15) (slotG 18))]
noncomputable def R23_4 : CT :=
  .reg [
  oP (pdT 22) (e1 (cAddo 3) (slotG 3)),
  oP (pdT 23) (eLoad1 (slotG 22)),
  oP (pdT 24) (eMov (slotG 9)),
  oP (pdT 25) (e2 (cIxa 1) (slotG 23) (slotG 24)),
  oP (pdT 26) (eLoad1 (slotG 25)),
  oP (pdT 10) (eMov (slotG 26))]
noncomputable def R23_5 : CT :=
  .reg [
  oP (pdT 27) (eMov (slotG 10)),
  oP (pdT 28) (e2 (cBin .lss) (slotG 27) (constG (.int .i64 0))),
  oP (pdT 29) (eMov (slotG 28)),
  gP (slotG 29) false (pdT 30) (eMov (slotG 10)),
  gP (slotG 29) false (pdT 31) (eMov (slotG 1)),
  gP (slotG 29) false (pdT 32) (e1 cLenL (slotG 31)),
  gP (slotG 29) false (pdT 33) (e2 (cBin .geq) (slotG 30) (slotG 32)),
  oP (pdT 34) (ePick (slotG 29) (constG (.bool true)) (slotG 33))]
noncomputable def R23_6 : CT :=
  .reg [
  oP (pdT 6) (eMov (constG (.str []))),
  oP (pdT 7) (eMov (constG (.int .i64 1)))]
noncomputable def R23_7 : CT :=
  .reg [
  oP (pdT 35) (eMov (slotG 8)),
  oP (pdT 36) (eMov (slotG 1)),
  oP (pdT 37) (eMov (slotG 10)),
  oP (pdT 38) (e2 (cIxa 3) (slotG 36) (slotG 37)),
  oP (pdT 39) (eLoadN 3 (slotG 38)),
  oP (pdT 40) (eBslice [(.int .i64 0), (.int .i64 0), (.str [])] 1 3 [(0, 3, (slotG 39))]),
  oP (pdT 41) (eApp 3 32 (slotG 35) (slotG 40)),
  oP (pdT 8) (eMov (slotG 41))]
noncomputable def R23_8 : CT :=
  .reg [
  oP (pdT 20) (eMov (slotG 9)),
  oP (pdT 21) (e2 (cBin .add) (slotG 20) (constG (.int .i64 1))),
  oP (pdT 9) (eMov (slotG 21))]
noncomputable def L23_0 : CT := (.seq (.seq R23_3 (.cond (slotG 19) .skip (.exit 0))) (.seq (.block 1 (.seq R23_4 (.seq (.seq R23_5 (.cond (slotG 34) (.seq R23_6 .ret) .skip)) R23_7))) R23_8))
noncomputable def R23_9 : CT :=
  .reg [
  oP (pdT 43) (eMov (slotG 8)),
  cP (pdT 44) 65 [(slotG 43)],
  oP (pdT 42) (eMov (slotG 44)),
  oP (pdT 45) (e1 (cExt 0) (slotG 42)),
  oP (pdT 46) (e1 (cExt 1) (slotG 42)),
  oP (pdT 11) (eMov (slotG 45)),
  oP (pdT 12) (eMov (slotG 46))]
noncomputable def R23_10 : CT :=
  .reg [
  oP (pdT 47) (eMov (slotG 12)),
  oP (pdT 48) (e2 (cEq true .num) (slotG 47) (constG (.int .i64 0)))]
noncomputable def R23_11 : CT :=
  .reg [
  oP (pdT 49) (eMov (slotG 12)),
  oP (pdT 6) (eMov (constG (.str []))),
  oP (pdT 7) (eMov (slotG 49))]
noncomputable def R23_12 : CT :=
  .reg [
  oP (pdT 50) (e1 (cAddo 0) (slotG 5)),
  oP (pdT 51) (eLoad1 (slotG 50)),
  oP (pdT 13) (eMov (slotG 51))]
noncomputable def R23_13 : CT :=
  .reg [
  oP (pdT 52) (e1 (cAddo 1) (slotG 5)),
  oP (pdT 53) (eLoad1 (slotG 52)),
  oP (pdT 54) (e1 (cToInt .u16) (slotG 53)),
  oP (pdT 14) (eMov (slotG 54))]
noncomputable def R23_14 : CT :=
  .reg [
  oP (pdT 55) (eMov (slotG 11)),
  oP (pdT 56) (eMov (slotG 13)),
  oP (pdT 57) (e2 (cBin .quo) (slotG 56) (constG (.int .u32 16777216))),
  oP (pdT 58) (e1 (cToInt .u8) (slotG 57)),
  oP (pdT 59) (eMov (slotG 13)),
  oP (pdT 60) (e2 (cBin .quo) (slotG 59) (constG (.int .u32 65536))),
  oP (pdT 61) (e2 (cBin .rem) (slotG 60) (constG (.int .u32 256))),
  oP (pdT 62) (e1 (cToInt .u8) (slotG 61)),
  oP (pdT 63) (eMov (slotG 13)),
  oP (pdT 64) (e2 (cBin .quo) (slotG 63) (constG (.int .u32 256))),
  oP (pdT 65) (e2 (cBin .rem) (slotG 64) (constG (.int .u32 256))),
  oP (pdT 66) (e1 (cToInt .u8) (slotG 65)),
  oP (pdT 67) (eMov (slotG 13)),
  oP (pdT 68) (e2 (cBin .rem) (slotG 67) (constG (.int .u32 256))),
  oP (pdT 69) (e1 (cToInt .u8) (slotG 68)),
  oP (pdT 70) (eMov (slotG 14)),
  oP (pdT 71) (e2 (cBin .quo) (slotG 70) (constG (.int .u16 256))),
  oP (pdT 72) (e1 (cToInt .u8) (slotG 71)),
  oP (pdT 73) (eMov (slotG 14)),
  oP (pdT 74) (e2 (cBin .rem) (slotG 73) (constG (.int .u16 256))),
  oP (pdT 75) (e1 (cToInt .u8) (slotG 74)),
  oP (pdT 76) (eBslice [(.int .u8 0)] 6 1 [(0, 1, (slotG 58)), (1, 1, (slotG 62)), (2, 1, (slotG 66)), (3, 1, (slotG 69)), (4, 1, (slotG 72)), (5, 1, (slotG 75))]),
  oP (pdT 77) (eB2s (slotG 76)),
  oP (pdT 78) (e2 (cBin .add) (slotG 55) (slotG 77)),
  oP (pdT 6) (eMov (slotG 78)),
  oP (pdT 7) (eMov (constG (.int .i64 0)))]
noncomputable def B23 : CT := (.seq R23_0 (.seq R23_1 (.seq (.seq R23_2 (.block 0 (.loop L23_0))) (.seq R23_9 (.seq (.seq R23_10 (.cond (slotG 48) (.seq R23_11 .ret) .skip)) (.seq R23_12 (.seq R23_13 (.seq R23_14 .ret))))))))
noncomputable def A23 : CF := { res := [rTmp 6, rTmp 7], code := B23, nt := 79 }
theorem c23 : ctF Tryz.prog 23 = some A23 := by kernel_rfl

/-! 65: cadastre/cadastreref04.Encode -/
noncomputable def R65_0 : CT :=
  .reg [
  oP (pdT 2) (eMov (constG (.str []))),
  oP (pdT 3) (eMov (constG (.int .i64 0)))]
noncomputable def R65_1 : CT :=
  .reg [
  oP (pdT 6) (eMov (slotG 0)),
  oP (pdT 7) (e1 cLenL (slotG 6)),
  oP (pdT 8) (e2 (cBin .gtr) (slotG 7) (constG (.int .i64 16)))]
noncomputable def R65_2 : CT :=
  .reg [
  oP (pdT 2) (eMov (constG (.str []))),
  oP (pdT 3) (eMov (constG (.int .i64 1)))]
noncomputable def R65_3 : CT :=
  .reg [
  oP (pdT 4) (eMov (constG (.str [])))]
noncomputable def R65_4 : CT :=
  .reg [
  oP (pdT 5) (eMov (constG (.int .i64 0)))]
noncomputable def R65_5 : CT :=
  .reg [
  oP (pdT 9) (eMov (slotG 5)),
  oP (pdT 10) (eMov (slotG 0)),
  oP (pdT 11) (e1 cLenL (slotG 10)),
  oP (pdT 12) (e2 (cBin .lss) (slotG 9) (slotG 11))]
noncomputable def R65_6 : CT :=
  .reg [
  oP (pdT 15) (eMov (slotG 0)),
  oP (pdT 16) (eMov (slotG 5)),
  oP (pdT 17) (e2 (cIxa 3) (slotG 15) (slotG 16)),
  oP (pdT 18) (eLoadN 3 (slotG 17)),
  cP (pdT 19) 154 [(slotG 18)],
  oP (pdT 20) (e1 (cUn .not) (slotG 19))]
noncomputable def R65_7 : CT :=
  .reg [
  oP (pdT 2) (eMov (constG (.str []))),
  oP (pdT 3) (eMov (constG (.int .i64 5)))]
noncomputable def R65_8 : CT :=
  .reg [
  oP (pdT 21) (eMov (slotG 4)),
  oP (pdT 22) (eMov (slotG 0)),
  oP (pdT 23) (eMov (slotG 5)),
  oP (pdT 24) (e2 (cIxa 3) (slotG 22) (slotG 23)),
  oP (pdT 25) (eLoadN 3 (slotG 24)),
  cP (pdT 26) 155 [(slotG 25)],
  oP (pdT 27) (e2 (cBin .add) (slotG 21) (slotG 26)),
  oP (pdT 4) (eMov (slotG 27))]
noncomputable def R65_9 : CT :=
  .reg [
  oP (pdT 13) (eMov (slotG 5)),
  oP (pdT 14) (e2 (cBin .add) (slotG 13) (constG (.int .i64 1))),
  oP (pdT 5) (eMov (slotG 14))]
noncomputable def L65_0 : CT := (.seq (.seq R65_5 (.cond (slotG 12) .skip (.exit 0))) (.seq (.block 1 (.seq (.seq R65_6 (.cond (slotG 20) (.seq R65_7 .ret) .skip)) R65_8)) R65_9))
noncomputable def R65_10 : CT :=
  .reg [
  oP (pdT 28) (eMov (slotG 4)),
  oP (pdT 29) (e1 cLenS (slotG 28)),
  oP (pdT 30) (e2 (cBin .gtr) (slotG 29) (constG (.int .i64 140)))]
noncomputable def R65_11 : CT :=
  .reg [
  oP (pdT 2) (eMov (constG (.str []))),
  oP (pdT 3) (eMov (constG (.int .i64 51)))]
noncomputable def R65_12 : CT :=
  .reg [
  oP (pdT 31) (eMov (slotG 4)),
  oP (pdT 2) (eMov (slotG 31)),
  oP (pdT 3) (eMov (constG (.int .i64 0)))]
noncomputable def B65 : CT := (.seq R65_0 (.seq (.seq R65_1 (.cond (slotG 8) (.seq R65_2 .ret) .skip)) (.seq R65_3 (.seq (.seq R65_4 (.block 0 (.loop L65_0))) (.seq (.seq R65_10 (.cond (slotG 30) (.seq R65_11 .ret) .skip)) (.seq R65_12 .ret))))))
noncomputable def A65 : CF := { res := [rTmp 2, rTmp 3], code := B65, nt := 32 }
theorem c65 : ctF Tryz.prog 65 = some A65 := by kernel_rfl

/-! 155: cadastre/cadastreref04.One -/
noncomputable def R155_0 : CT :=
  .reg [
  oP (pdT 1) (eBox (slotG 0)),
  oP (pdT 2) (eMov (constG (.str [])))]
noncomputable def R155_1 : CT :=
  .reg [
  oP (pdT 8) (e1 (cAddo 0) (slotG 1)),
  oP (pdT 9) (eLoad1 (slotG 8)),
  oP (pdT 10) (e2 (cEq false .num) (slotG 9) (constG (.int .i64 0)))]
noncomputable def R155_2 : CT :=
  .reg [
  oP (pdT 2) (eMov (constG (.str [1])))]
noncomputable def R155_3 : CT :=
  .reg [
  oP (pdT 11) (e1 (cAddo 0) (slotG 1)),
  oP (pdT 12) (eLoad1 (slotG 11)),
  oP (pdT 13) (e2 (cEq false .num) (slotG 12) (constG (.int .i64 3))),
  oP (pdT 14) (eMov (slotG 13)),
  gP (slotG 14) true (pdT 15) (e1 (cAddo 1) (slotG 1)),
  gP (slotG 14) true (pdT 16) (eLoad1 (slotG 15)),
  gP (slotG 14) true (pdT 17) (e2 (cEq false .num) (slotG 16) (constG (.int .i64 0))),
  oP (pdT 18) (ePick (slotG 14) (slotG 17) (constG (.bool false)))]
noncomputable def R155_4 : CT :=
  .reg [
  oP (pdT 2) (eMov (constG (.str [2])))]
noncomputable def R155_5 : CT :=
  .reg [
  oP (pdT 19) (e1 (cAddo 0) (slotG 1)),
  oP (pdT 20) (eLoad1 (slotG 19)),
  oP (pdT 21) (e2 (cEq false .num) (slotG 20) (constG (.int .i64 3)))]
noncomputable def R155_6 : CT :=
  .reg [
  oP (pdT 2) (eMov (constG (.str [3])))]
noncomputable def R155_7 : CT :=
  .reg [
  oP (pdT 22) (e1 (cAddo 0) (slotG 1)),
  oP (pdT 23) (eLoad1 (slotG 22)),
  oP (pdT 24) (e2 (cEq false .num) (slotG 23) (constG (.int .i64 1)))]
noncomputable def R155_8 : CT :=
  .reg [
  oP (pdT 25) (e1 (cAddo 1) (slotG 1)),
  oP (pdT 26) (eLoad1 (slotG 25)),
  oP (pdT 27) (e1 (cToInt .u64) (slotG 26)),
  oP (pdT 28) (e2 (cBin .add) (slotG 27) (constG (.int .u64 9223372036854775808))),
  oP (pdT 3) (eMov (slotG 28))]
noncomputable def R155_9 : CT :=
  .reg [
  oP (pdT 29) (eBslice [(.int .u8 0)] 9 1 [(0, 1, (constG (.int .u8 4))), (1, 1, (constG (.int .u8 0))), (2, 1, (constG (.int .u8 0))), (3, 1, (constG (.int .u8 0))), (4, 1, (constG (.int .u8 0))), (5, 1, (constG (.int .u8 0))), (6, 1, (constG (.int .u8 0))), (7, 1, (constG (.int .u8 0))), (8, 1, (constG (.int .u8 0)))]),
  oP (pdT 4) (eMov (slotG 29))]
noncomputable def R155_10 : CT :=
  .reg [
  oP (pdT 5) (eMov (constG (.int .i64 8)))]
noncomputable def R155_11 : CT :=
  .reg [
  oP (pdT 30) (eMov (slotG 5)),
  oP (pdT 31) (e2 (cBin .gtr) (slotG 30) (constG (.int .i64 0)))]
noncomputable def R155_12 : CT :=
  .reg [
  oP (pdT 34) (eMov (slotG 4)),
  oP (pdT 35) (eMov (slotG 5)),
  oP (pdT 36) (eMov (slotG 3)),
  oP (pdT 37) (e2 (cBin .rem) (slotG 36) (constG (.int .u64 256))),
  oP (pdT 38) (e1 (cToInt .u8) (slotG 37)),
  oP (pdT 39) (e2 (cIxa 1) (slotG 34) (slotG 35)),
  oP pdN (eStore 1 (slotG 39) (slotG 38))]
noncomputable def R155_13 : CT :=
  .reg [
  oP (pdT 40) (eMov (slotG 3)),
  oP (pdT 41) (e2 (cBin .quo) (slotG 40) (constG (.int .u64 256))),
  oP (pdT 3) (eMov (slotG 41))]
noncomputable def R155_14 : CT :=
  .reg [
  oP (pdT 32) (eMov (slotG 5)),
  oP (pdT 33) (e2 (cBin .sub) (slotG 32) (constG (.int .i64 1))),
  oP (pdT 5) (eMov (slotG 33))]
noncomputable def L155_0 : CT := (.seq (.seq R155_11 (.cond (slotG 31) .skip (.exit 0))) (.seq (.block 1 (.seq R155_12 R155_13)) R155_14))
noncomputable def R155_15 : CT :=
  .reg [
  oP (pdT 42) (eMov (slotG 4)),
  oP (pdT 43) (eB2s (slotG 42)),
  oP (pdT 2) (eMov (slotG 43))]
noncomputable def R155_16 : CT :=
  .reg [
  oP (pdT 44) (eBslice [(.int .u8 0)] 1 1 [(0, 1, (constG (.int .u8 5)))]),
  oP (pdT 6) (eMov (slotG 44))]
noncomputable def R155_17 : CT :=
  .reg [
  oP (pdT 7) (eMov (constG (.int .i64 0)))]
noncomputable def R155_18 : CT :=
  .reg [
  oP (pdT 45) (eMov (slotG 7)),
  oP (pdT 46) (e1 (cAddo 2) (slotG 1)),
  oP (pdT 47) (eLoad1 (slotG 46)),
  oP (pdT 48) (e1 cLenS (slotG 47)),
  oP (pdT 49) (e2 (cBin .lss) (slotG 45) (slotG 48))]
noncomputable def R155_19 : CT :=
  .reg [
  oP (pdT 52) (eMov (slotG 6)),
  oP (pdT 53) (e1 (cAddo 2) (slotG 1)),
  oP (pdT 54) (eLoad1 (slotG 53)),
  oP (pdT 55) (eMov (slotG 7)),
  oP (pdT 56) (e2 cIxs (slotG 54) (slotG 55)),
  oP (pdT 57) (eBslice [(.int .u8 0)] 1 1 [(0, 1, (slotG 56))]),
  oP (pdT 58) (eApp 1 1 (slotG 52) (slotG 57)),
  oP (pdT 6) (eMov (slotG 58))]
noncomputable def R155_20 : CT :=
  .reg [
  oP (pdT 59) (e1 (cAddo 2) (slotG 1)),
  oP (pdT 60) (eLoad1 (slotG 59)),
  oP (pdT 61) (eMov (slotG 7)),
  oP (pdT 62) (e2 cIxs (slotG 60) (slotG 61)),
  oP (pdT 63) (e2 (cEq false .num) (slotG 62) (constG (.int .u8 0)))]
noncomputable def R155_21 : CT :=
  .reg [
  oP (pdT 64) (eMov (slotG 6)),
  oP (pdT 65) (eBslice [(.int .u8 0)] 1 1 [(0, 1, (constG (.int .u8 255)))]),
  oP (pdT 66) (eApp 1 1 (slotG 64) (slotG 65)),
  oP (pdT 6) (eMov (slotG 66))]
noncomputable def R155_22 : CT :=
  .reg [
  oP (pdT 50) (eMov (slotG 7)),
  oP (pdT 51) (e2 (cBin .add) (slotG 50) (constG (.int .i64 1))),
  oP (pdT 7) (eMov (slotG 51))]
noncomputable def L155_1 : CT := (.seq (.seq R155_18 (.cond (slotG 49) .skip (.exit 2))) (.seq (.block 3 (.seq R155_19 (.seq R155_20 (.cond (slotG 63) R155_21 .skip)))) R155_22))
noncomputable def R155_23 : CT :=
  .reg [
  oP (pdT 67) (eMov (slotG 6)),
  oP (pdT 68) (eBslice [(.int .u8 0)] 2 1 [(0, 1, (constG (.int .u8 0))), (1, 1, (constG (.int .u8 1)))]),
  oP (pdT 69) (eApp 1 1 (slotG 67) (slotG 68)),
  oP (pdT 70) (eB2s (slotG 69)),
  oP (pdT 2) (eMov (slotG 70))]
noncomputable def B155 : CT := (.seq R155_0 (.seq (.seq R155_1 (.cond (slotG 10) (.seq R155_2 .ret) .skip)) (.seq (.seq R155_3 (.cond (slotG 18) (.seq R155_4 .ret) .skip)) (.seq (.seq R155_5 (.cond (slotG 21) (.seq R155_6 .ret) .skip)) (.seq (.seq R155_7 (.cond (slotG 24) (.seq R155_8 (.seq R155_9 (.seq (.seq R155_10 (.block 0 (.loop L155_0))) (.seq R155_15 .ret)))) .skip)) (.seq R155_16 (.seq (.seq R155_17 (.block 2 (.loop L155_1))) (.seq R155_23 .ret))))))))
noncomputable def A155 : CF := { res := [rTmp 2], code := B155, nt := 71 }
theorem c155 : ctF Tryz.prog 155 = some A155 := by kernel_rfl

/-! 154: cadastre/cadastreref03.May -/
noncomputable def R154_0 : CT :=
  .reg [
  oP (pdT 1) (eBox (slotG 0)),
  oP (pdT 2) (eMov (constG (.bool false)))]
noncomputable def R154_1 : CT :=
  .reg [
  oP (pdT 3) (e1 (cAddo 0) (slotG 1)),
  oP (pdT 4) (eLoad1 (slotG 3)),
  oP (pdT 5) (e2 (cEq false .num) (slotG 4) (constG (.int .i64 0)))]
noncomputable def R154_2 : CT :=
  .reg [
  oP (pdT 6) (e1 (cAddo 1) (slotG 1)),
  oP (pdT 7) (eLoad1 (slotG 6)),
  oP (pdT 8) (e2 (cEq false .num) (slotG 7) (constG (.int .i64 0))),
  oP (pdT 9) (eMov (slotG 8)),
  gP (slotG 9) true (pdT 10) (e1 (cAddo 2) (slotG 1)),
  gP (slotG 9) true (pdT 11) (eLoad1 (slotG 10)),
  gP (slotG 9) true (pdT 12) (e2 (cEq false .num) (slotG 11) (constG (.str []))),
  oP (pdT 13) (ePick (slotG 9) (slotG 12) (constG (.bool false))),
  oP (pdT 2) (eMov (slotG 13))]
noncomputable def R154_3 : CT :=
  .reg [
  oP (pdT 14) (e1 (cAddo 0) (slotG 1)),
  oP (pdT 15) (eLoad1 (slotG 14)),
  oP (pdT 16) (e2 (cEq false .num) (slotG 15) (constG (.int .i64 1)))]
noncomputable def R154_4 : CT :=
  .reg [
  oP (pdT 17) (e1 (cAddo 2) (slotG 1)),
  oP (pdT 18) (eLoad1 (slotG 17)),
  oP (pdT 19) (e2 (cEq false .num) (slotG 18) (constG (.str []))),
  oP (pdT 2) (eMov (slotG 19))]
noncomputable def R154_5 : CT :=
  .reg [
  oP (pdT 20) (e1 (cAddo 0) (slotG 1)),
  oP (pdT 21) (eLoad1 (slotG 20)),
  oP (pdT 22) (e2 (cEq false .num) (slotG 21) (constG (.int .i64 2)))]
noncomputable def R154_6 : CT :=
  .reg [
  oP (pdT 23) (e1 (cAddo 1) (slotG 1)),
  oP (pdT 24) (eLoad1 (slotG 23)),
  oP (pdT 25) (e2 (cEq false .num) (slotG 24) (constG (.int .i64 0))),
  oP (pdT 26) (eMov (slotG 25)),
  gP (slotG 26) true (pdT 27) (e1 (cAddo 2) (slotG 1)),
  gP (slotG 26) true (pdT 28) (eLoad1 (slotG 27)),
  gP (slotG 26) true (pdT 29) (e1 cLenS (slotG 28)),
  gP (slotG 26) true (pdT 30) (e2 (cBin .leq) (slotG 29) (constG (.int .i64 64))),
  oP (pdT 31) (ePick (slotG 26) (slotG 30) (constG (.bool false))),
  oP (pdT 2) (eMov (slotG 31))]
noncomputable def R154_7 : CT :=
  .reg [
  oP (pdT 32) (e1 (cAddo 0) (slotG 1)),
  oP (pdT 33) (eLoad1 (slotG 32)),
  oP (pdT 34) (e2 (cEq false .num) (slotG 33) (constG (.int .i64 3))),
  oP (pdT 35) (eMov (slotG 34)),
  gP (slotG 35) true (pdT 36) (e1 (cAddo 2) (slotG 1)),
  gP (slotG 35) true (pdT 37) (eLoad1 (slotG 36)),
  gP (slotG 35) true (pdT 38) (e2 (cEq false .num) (slotG 37) (constG (.str []))),
  oP (pdT 39) (ePick (slotG 35) (slotG 38) (constG (.bool false))),
  oP (pdT 40) (eMov (slotG 39)),
  gP (slotG 40) true (pdT 41) (e1 (cAddo 1) (slotG 1)),
  gP (slotG 40) true (pdT 42) (eLoad1 (slotG 41)),
  gP (slotG 40) true (pdT 43) (e2 (cBin .geq) (slotG 42) (constG (.int .i64 0))),
  oP (pdT 44) (ePick (slotG 40) (slotG 43) (constG (.bool false))),
  oP (pdT 45) (eMov (slotG 44)),
  gP (slotG 45) true (pdT 46) (e1 (cAddo 1) (slotG 1)),
  gP (slotG 45) true (pdT 47) (eLoad1 (slotG 46)),
  gP (slotG 45) true (pdT 48) (e2 (cBin .leq) (slotG 47) (constG (.int .i64 1))),
  oP (pdT 49) (ePick (slotG 45) (slotG 48) (constG (.bool false))),
  oP (pdT 2) (eMov (slotG 49))]
noncomputable def B154 : CT := (.seq R154_0 (.seq (.seq R154_1 (.cond (slotG 5) (.seq R154_2 .ret) .skip)) (.seq (.seq R154_3 (.cond (slotG 16) (.seq R154_4 .ret) .skip)) (.seq (.seq R154_5 (.cond (slotG 22) (.seq R154_6 .ret) .skip)) (.seq R154_7 .ret)))))
noncomputable def A154 : CF := { res := [rTmp 2], code := B154, nt := 50 }
theorem c154 : ctF Tryz.prog 154 = some A154 := by kernel_rfl

end Go.Abs
