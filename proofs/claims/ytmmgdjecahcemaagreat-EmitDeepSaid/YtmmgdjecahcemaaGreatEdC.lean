/- A part of the proof. -/
import Derived.Test.YtmmgdjecahcemaaGreatProg
import Derived.KernelRfl
import Derived.Test.YtmmgdjecahcemaaGreatAbs5
import Derived.Test.YtmmgdjecahcemaaGreatAbs6
namespace Go.Abs
open Go.Proofs
set_option maxRecDepth 100000
/-! 3: cadastre/cadastrelaw24.EmitDeep -/
noncomputable def R3_0 : CT :=
  .reg [
  oP (pdT 4) (eMov (constG (.bool false)))]
noncomputable def R3_1 : CT :=
  .reg [
  oP (pdT 13) (eMov (slotG 0)),
  oP (pdT 14) (e2 (cBin .lss) (slotG 13) (constG (.int .i64 0))),
  oP (pdT 15) (eMov (slotG 14)),
  gP (slotG 15) false (pdT 16) (eMov (slotG 0)),
  gP (slotG 15) false (pdT 17) (e2 (cBin .gtr) (slotG 16) (constG (.int .i64 5000))),
  oP (pdT 18) (ePick (slotG 15) (constG (.bool true)) (slotG 17)),
  oP (pdT 19) (eMov (slotG 18)),
  gP (slotG 19) false (pdT 20) (eMov (slotG 1)),
  gP (slotG 19) false (pdT 21) (e2 (cBin .lss) (slotG 20) (constG (.int .i64 0))),
  oP (pdT 22) (ePick (slotG 19) (constG (.bool true)) (slotG 21)),
  oP (pdT 23) (eMov (slotG 22)),
  gP (slotG 23) false (pdT 24) (eMov (slotG 1)),
  gP (slotG 23) false (pdT 25) (e2 (cBin .gtr) (slotG 24) (constG (.int .i64 500))),
  oP (pdT 26) (ePick (slotG 23) (constG (.bool true)) (slotG 25))]
noncomputable def R3_2 : CT :=
  .reg [
  cP (pdT 27) 4 [],
  oP (pdT 4) (eMov (slotG 27))]
noncomputable def R3_3 : CT :=
  .reg [
  oP (pdT 28) (eBuild [(.int .i64 0), (.int .i64 0), (.str [])] 3 [(0, 1, (constG (.int .i64 1))), (1, 1, (constG (.int .i64 1)))]),
  oP (pdT 29) (eBuild [(.int .i64 0), (.int .i64 0), (.int .i64 0), (.str []), (.str []), (.str []), (.int .i64 0), (.cst (.slice none 0 0))] 8 [(0, 1, (constG (.int .i64 1))), (1, 3, (slotG 28))]),
  oP (pdT 5) (eAlloc [(.int .i64 0), (.int .i64 0), (.int .i64 0), (.str []), (.str []), (.str []), (.int .i64 0), (.cst (.slice none 0 0))] 8),
  oP pdN (eStore 8 (slotG 5) (slotG 29))]
noncomputable def R3_4 : CT :=
  .reg [
  oP (pdT 30) (eLoadN 8 (slotG 5)),
  oP (pdT 6) (eAlloc [(.int .i64 0), (.int .i64 0), (.int .i64 0), (.str []), (.str []), (.str []), (.int .i64 0), (.cst (.slice none 0 0))] 8),
  oP pdN (eStore 8 (slotG 6) (slotG 30))]
noncomputable def R3_5 : CT :=
  .reg [
  oP (pdT 7) (eMov (constG (.int .i64 0)))]
noncomputable def R3_6 : CT :=
  .reg [
  oP (pdT 31) (eMov (slotG 7)),
  oP (pdT 32) (eMov (slotG 1)),
  oP (pdT 33) (e2 (cBin .lss) (slotG 31) (slotG 32))]
noncomputable def R3_7 : CT :=
  .reg [
  oP (pdT 36) (eLoadN 8 (slotG 5)),
  oP (pdT 37) (eLoadN 8 (slotG 6)),
  oP (pdT 38) (eBslice [(.int .i64 0), (.int .i64 0), (.int .i64 0), (.str []), (.str []), (.str []), (.int .i64 0), (.cst (.slice none 0 0))] 2 8 [(0, 8, (slotG 36)), (8, 8, (slotG 37))]),
  oP (pdT 39) (eBuild [(.int .i64 0), (.int .i64 0), (.int .i64 0), (.str []), (.str []), (.str []), (.int .i64 0), (.cst (.slice none 0 0))] 8 [(0, 1, (constG (.int .i64 8))), (7, 1, (slotG 38))]),
  oP pdN (eStore 8 (slotG 6) (slotG 39))]
noncomputable def R3_8 : CT :=
  .reg [
  oP (pdT 34) (eMov (slotG 7)),
  oP (pdT 35) (e2 (cBin .add) (slotG 34) (constG (.int .i64 1))),
  oP (pdT 7) (eMov (slotG 35))]
noncomputable def L3_0 : CT := (.seq (.seq R3_6 (.cond (slotG 33) .skip (.exit 0))) (.seq (.block 1 R3_7) R3_8))
noncomputable def R3_9 : CT :=
  .reg [
  oP (pdT 8) (eMov (constG (.int .i64 0)))]
noncomputable def R3_10 : CT :=
  .reg [
  oP (pdT 40) (eMov (slotG 8)),
  oP (pdT 41) (eMov (slotG 0)),
  oP (pdT 42) (e2 (cBin .lss) (slotG 40) (slotG 41))]
noncomputable def R3_11 : CT :=
  .reg [
  oP (pdT 45) (eLoadN 8 (slotG 6)),
  oP (pdT 46) (eLoadN 8 (slotG 5)),
  oP (pdT 47) (eBslice [(.int .i64 0), (.int .i64 0), (.int .i64 0), (.str []), (.str []), (.str []), (.int .i64 0), (.cst (.slice none 0 0))] 2 8 [(0, 8, (slotG 45)), (8, 8, (slotG 46))]),
  oP (pdT 48) (eBuild [(.int .i64 0), (.int .i64 0), (.int .i64 0), (.str []), (.str []), (.str []), (.int .i64 0), (.cst (.slice none 0 0))] 8 [(0, 1, (constG (.int .i64 8))), (7, 1, (slotG 47))]),
  oP pdN (eStore 8 (slotG 6) (slotG 48))]
noncomputable def R3_12 : CT :=
  .reg [
  oP (pdT 43) (eMov (slotG 8)),
  oP (pdT 44) (e2 (cBin .add) (slotG 43) (constG (.int .i64 1))),
  oP (pdT 8) (eMov (slotG 44))]
noncomputable def L3_1 : CT := (.seq (.seq R3_10 (.cond (slotG 42) .skip (.exit 2))) (.seq (.block 3 R3_11) R3_12))
noncomputable def R3_13 : CT :=
  .reg [
  oP (pdT 49) (eLoadN 8 (slotG 6)),
  oP (pdT 50) (eBuild [(.int .i64 0), (.int .i64 0), (.int .i64 0), (.str []), (.str []), (.str []), (.int .i64 0), (.cst (.slice none 0 0)), (.str [])] 9 [(0, 8, (slotG 49))]),
  oP (pdT 51) (eBslice [(.int .i64 0), (.int .i64 0), (.int .i64 0), (.str []), (.str []), (.str []), (.int .i64 0), (.cst (.slice none 0 0)), (.str [])] 1 9 [(0, 9, (slotG 50))]),
  oP (pdT 52) (eBuild [(.bool false), (.bool false), (.cst (.slice none 0 0)), (.cst (.slice none 0 0)), (.int .i64 0), (.int .i64 0), (.int .i64 0), (.str []), (.str []), (.str []), (.int .i64 0), (.cst (.slice none 0 0)), (.cst (.slice none 0 0)), (.bool false), (.int .i64 0)] 15 [(2, 1, (slotG 51))]),
  oP (pdT 53) (eBuild [(.int .i64 0), (.str []), (.str []), (.cst (.slice none 0 0)), (.cst (.slice none 0 0)), (.bool false), (.cst (.slice none 0 0)), (.cst (.slice none 0 0)), (.int .i64 0), (.int .i64 0), (.int .i64 0), (.str []), (.str []), (.str []), (.int .i64 0), (.cst (.slice none 0 0)), (.bool false), (.bool false), (.cst (.slice none 0 0)), (.cst (.slice none 0 0)), (.int .i64 0), (.int .i64 0), (.int .i64 0), (.str []), (.str []), (.str []), (.int .i64 0), (.cst (.slice none 0 0)), (.cst (.slice none 0 0)), (.bool false), (.int .i64 0)] 31 [(0, 1, (constG (.int .i64 8))), (16, 15, (slotG 52))]),
  oP (pdT 9) (eAlloc [(.int .i64 0), (.str []), (.str []), (.cst (.slice none 0 0)), (.cst (.slice none 0 0)), (.bool false), (.cst (.slice none 0 0)), (.cst (.slice none 0 0)), (.int .i64 0), (.int .i64 0), (.int .i64 0), (.str []), (.str []), (.str []), (.int .i64 0), (.cst (.slice none 0 0)), (.bool false), (.bool false), (.cst (.slice none 0 0)), (.cst (.slice none 0 0)), (.int .i64 0), (.int .i64 0), (.int .i64 0), (.str []), (.str []), (.str []), (.int .i64 0), (.cst (.slice none 0 0)), (.cst (.slice none 0 0)), (.bool false), (.int .i64 0)] 31),
  oP pdN (eStore 31 (slotG 9) (slotG 53))]
noncomputable def R3_14 : CT :=
  .reg [
  oP (pdT 55) (eBuild [(.cst (.slice none 0 0)), (.cst (.slice none 0 0))] 2 []),
  oP (pdT 56) (eLoadN 31 (slotG 9)),
  cP (pdT 57) 5 [(slotG 55), (slotG 56), (constG (.cst (.slice none 0 0)))],
  oP (pdT 54) (eMov (slotG 57)),
  oP (pdT 58) (e1 (cExt 0) (slotG 54)),
  oP (pdT 59) (e1 (cExt 1) (slotG 54)),
  oP (pdT 10) (eAlloc [(.int .i64 0), (.int .i64 0), (.cst (.slice none 0 0))] 3),
  oP pdN (eStore 3 (slotG 10) (slotG 58)),
  oP (pdT 11) (eMov (slotG 59))]
noncomputable def R3_15 : CT :=
  .reg [
  oP (pdT 60) (eMov (slotG 0)),
  oP (pdT 61) (eMov (slotG 1)),
  oP (pdT 62) (e2 (cBin .add) (slotG 60) (slotG 61)),
  oP (pdT 63) (e2 (cBin .mul) (constG (.int .i64 2)) (slotG 62)),
  oP (pdT 64) (e2 (cBin .add) (constG (.int .i64 9)) (slotG 63)),
  oP (pdT 65) (e2 (cBin .add) (slotG 64) (constG (.int .i64 1))),
  oP (pdT 66) (e2 (cBin .leq) (slotG 65) (constG (.int .i64 8192))),
  oP (pdT 67) (eMov (slotG 66)),
  gP (slotG 67) true (pdT 68) (eMov (slotG 1)),
  gP (slotG 67) true (pdT 69) (e2 (cBin .add) (constG (.int .i64 18)) (slotG 68)),
  gP (slotG 67) true (pdT 70) (e2 (cBin .add) (slotG 69) (constG (.int .i64 1))),
  gP (slotG 67) true (pdT 71) (e2 (cBin .leq) (slotG 70) (constG (.int .i64 256))),
  oP (pdT 72) (ePick (slotG 67) (slotG 71) (constG (.bool false))),
  oP (pdT 12) (eMov (slotG 72))]
noncomputable def R3_16 : CT :=
  .reg [
  oP (pdT 73) (eMov (slotG 12)),
  oP (pdT 74) (e1 (cUn .not) (slotG 73))]
noncomputable def R3_17 : CT :=
  .reg [
  oP (pdT 75) (eMov (slotG 11)),
  oP (pdT 76) (e2 (cEq false .num) (slotG 75) (constG (.int .i64 3))),
  oP (pdT 77) (eMov (slotG 76)),
  gP (slotG 77) true (pdT 78) (e1 (cAddo 2) (slotG 10)),
  gP (slotG 77) true (pdT 79) (eLoad1 (slotG 78)),
  gP (slotG 77) true (pdT 80) (e1 cLenL (slotG 79)),
  gP (slotG 77) true (pdT 81) (e2 (cEq false .num) (slotG 80) (constG (.int .i64 0))),
  oP (pdT 82) (ePick (slotG 77) (slotG 81) (constG (.bool false))),
  oP (pdT 83) (eMov (slotG 82)),
  gcP (slotG 83) true (pdT 84) 4 [],
  oP (pdT 85) (ePick (slotG 83) (slotG 84) (constG (.bool false))),
  oP (pdT 4) (eMov (slotG 85))]
noncomputable def R3_18 : CT :=
  .reg [
  oP (pdT 86) (eMov (slotG 11)),
  oP (pdT 87) (e2 (cEq false .num) (slotG 86) (constG (.int .i64 0))),
  oP (pdT 88) (eMov (slotG 87)),
  gP (slotG 88) true (pdT 89) (eLoadN 3 (slotG 10)),
  gcP (slotG 88) true (pdT 90) 6 [(slotG 89)],
  gP (slotG 88) true (pdT 91) (e2 (cEq false .num) (slotG 90) (constG (.int .i64 0))),
  oP (pdT 92) (ePick (slotG 88) (slotG 91) (constG (.bool false))),
  oP (pdT 93) (eMov (slotG 92)),
  gcP (slotG 93) true (pdT 94) 4 [],
  oP (pdT 95) (ePick (slotG 93) (slotG 94) (constG (.bool false))),
  oP (pdT 4) (eMov (slotG 95))]
noncomputable def B3 : CT := (.seq R3_0 (.seq (.seq R3_1 (.cond (slotG 26) (.seq R3_2 .ret) .skip)) (.seq R3_3 (.seq R3_4 (.seq (.seq R3_5 (.block 0 (.loop L3_0))) (.seq (.seq R3_9 (.block 2 (.loop L3_1))) (.seq R3_13 (.seq R3_14 (.seq R3_15 (.seq (.seq R3_16 (.cond (slotG 74) (.seq R3_17 .ret) .skip)) (.seq R3_18 .ret)))))))))))
noncomputable def A3 : CF := { res := [rTmp 4], code := B3, nt := 96 }
theorem c3 : ctF Tryz.prog 3 = some A3 := by kernel_rfl

/-! 5: cadastre/emit.Emit -/
noncomputable def R5_0 : CT :=
  .reg [
  oP (pdT 3) (eBox (slotG 0)),
  oP (pdT 4) (eBox (slotG 1)),
  oP (pdT 6) (eAlloc [(.int .i64 0), (.int .i64 0), (.cst (.slice none 0 0))] 3),
  oP (pdT 7) (eMov (constG (.int .i64 0)))]
noncomputable def R5_1 : CT :=
  .reg [
  oP (pdT 24) (eLoadN 2 (slotG 3)),
  oP (pdT 25) (eLoadN 31 (slotG 4)),
  oP (pdT 26) (eMov (slotG 2)),
  cP (pdT 27) 9 [(slotG 24), (slotG 25), (slotG 26)],
  oP (pdT 8) (eMov (slotG 27))]
noncomputable def R5_2 : CT :=
  .reg [
  oP (pdT 28) (eMov (slotG 8)),
  oP (pdT 29) (e2 (cEq true .num) (slotG 28) (constG (.int .i64 0)))]
noncomputable def R5_3 : CT :=
  .reg [
  oP (pdT 30) (eBuild [(.int .i64 0), (.int .i64 0), (.cst (.slice none 0 0))] 3 []),
  oP (pdT 31) (eMov (slotG 8)),
  oP pdN (eStore 3 (slotG 6) (slotG 30)),
  oP (pdT 7) (eMov (slotG 31))]
noncomputable def R5_4 : CT :=
  .reg [
  oP (pdT 33) (eLoadN 2 (slotG 3)),
  oP (pdT 34) (eLoadN 31 (slotG 4)),
  cP (pdT 35) 10 [(slotG 33), (slotG 34)],
  oP (pdT 32) (eMov (slotG 35)),
  oP (pdT 36) (e1 (cExt 0) (slotG 32)),
  oP (pdT 37) (e1 (cExt 1) (slotG 32)),
  oP (pdT 9) (eAlloc [(.int .i64 0), (.str []), (.int .u32 0), (.str []), (.cst (.slice none 0 0)), (.int .u32 0), (.int .u32 0), (.int .u32 0), (.str []), (.cst (.slice none 0 0)), (.bool false), (.int .u32 0), (.cst (.slice none 0 0)), (.cst (.slice none 0 0)), (.cst (.slice none 0 0)), (.cst (.slice none 0 0)), (.cst (.slice none 0 0)), (.cst (.slice none 0 0)), (.cst (.slice none 0 0)), (.cst (.slice none 0 0)), (.cst (.slice none 0 0)), (.cst (.slice none 0 0)), (.bool false), (.bool false), (.int .i64 0)] 25),
  oP pdN (eStore 25 (slotG 9) (slotG 36)),
  oP (pdT 10) (eMov (slotG 37))]
noncomputable def R5_5 : CT :=
  .reg [
  oP (pdT 39) (eLoadN 25 (slotG 9)),
  oP (pdT 40) (eMov (slotG 2)),
  cP (pdT 41) 11 [(slotG 39), (slotG 40)],
  oP (pdT 38) (eMov (slotG 41)),
  oP (pdT 42) (e1 (cExt 0) (slotG 38)),
  oP (pdT 43) (e1 (cExt 1) (slotG 38)),
  oP (pdT 11) (eMov (slotG 42)),
  oP (pdT 12) (eMov (slotG 43))]
noncomputable def R5_6 : CT :=
  .reg [
  oP (pdT 44) (eMov (slotG 11)),
  oP (pdT 45) (e2 (cBin .gtr) (slotG 44) (constG (.int .i64 8192))),
  oP (pdT 46) (eMov (slotG 45)),
  gP (slotG 46) false (pdT 47) (eMov (slotG 12)),
  gP (slotG 46) false (pdT 48) (e2 (cBin .gtr) (slotG 47) (constG (.int .i64 256))),
  oP (pdT 49) (ePick (slotG 46) (constG (.bool true)) (slotG 48))]
noncomputable def R5_7 : CT :=
  .reg [
  oP (pdT 50) (eBuild [(.int .i64 0), (.int .i64 0), (.cst (.slice none 0 0))] 3 []),
  oP pdN (eStore 3 (slotG 6) (slotG 50)),
  oP (pdT 7) (eMov (constG (.int .i64 3)))]
noncomputable def R5_8 : CT :=
  .reg [
  oP (pdT 51) (e1 (cAddo 15) (slotG 9)),
  oP (pdT 52) (eLoad1 (slotG 51)),
  oP (pdT 53) (eBuild [(.int .i64 0), (.int .i64 0), (.cst (.slice none 0 0)), (.cst (.slice none 0 0))] 4 [(3, 1, (slotG 52))]),
  oP (pdT 54) (eBox (slotG 53)),
  oP (pdT 13) (eMov (slotG 54))]
noncomputable def R5_9 : CT :=
  .reg [
  oP (pdT 55) (e1 (cAddo 0) (slotG 4)),
  oP (pdT 56) (eLoad1 (slotG 55)),
  oP (pdT 57) (e2 (cEq true .num) (slotG 56) (constG (.int .i64 8)))]
noncomputable def R5_10 : CT :=
  .reg [
  oP (pdT 58) (eMov (slotG 13)),
  oP (pdT 59) (e1 (cAddo 2) (slotG 9)),
  oP (pdT 60) (eLoadN 4 (slotG 59)),
  oP (pdT 61) (eBslice [(.int .u32 0), (.str []), (.cst (.slice none 0 0)), (.int .u32 0)] 1 4 [(0, 4, (slotG 60))]),
  oP (pdT 62) (eNilc (slotG 58)),
  oP (pdT 63) (e1 (cAddo 3) (slotG 62)),
  oP pdN (eStore 1 (slotG 63) (slotG 61))]
noncomputable def R5_11 : CT :=
  .reg [
  oP (pdT 64) (eMov (slotG 13)),
  oP (pdT 65) (eMov (slotG 13)),
  oP (pdT 66) (eNilc (slotG 65)),
  oP (pdT 67) (e1 (cAddo 3) (slotG 66)),
  oP (pdT 68) (eLoad1 (slotG 67)),
  oP (pdT 69) (e1 cLenL (slotG 68)),
  oP (pdT 70) (eNilc (slotG 64)),
  oP (pdT 71) (e1 (cAddo 0) (slotG 70)),
  oP (pdT 72) (e1 (cAddo 1) (slotG 71)),
  oP pdN (eStore 1 (slotG 72) (slotG 69))]
noncomputable def R5_12 : CT :=
  .reg [
  oP (pdT 73) (eBuild [(.cst (.slice none 0 0))] 1 []),
  oP (pdT 74) (eBox (slotG 73)),
  oP (pdT 14) (eMov (slotG 74))]
noncomputable def R5_13 : CT :=
  .reg [
  oP (pdT 75) (eMov (slotG 14)),
  oP (pdT 15) (eMov (slotG 75))]
noncomputable def R5_14 : CT :=
  .reg [
  oP (pdT 16) (eMov (constG (.cst (.slice none 0 0))))]
noncomputable def R5_15 : CT :=
  .reg [
  oP (pdT 17) (eMov (constG (.cst (.slice none 0 0))))]
noncomputable def R5_16 : CT :=
  .reg [
  oP (pdT 76) (eMov (slotG 2)),
  oP (pdT 77) (e1 cLenL (slotG 76)),
  oP (pdT 78) (eMov (constG (.int .i64 0)))]
noncomputable def R5_17 : CT :=
  .reg [
  oP (pdT 79) (e2 (cBin .lss) (slotG 78) (slotG 77))]
noncomputable def R5_18 : CT :=
  .reg [
  oP (pdT 80) (eMov (slotG 78)),
  oP (pdT 81) (e2 (cIxa 21) (slotG 76) (slotG 78)),
  oP (pdT 82) (eLoadN 21 (slotG 81)),
  oP (pdT 19) (eAlloc [(.int .u32 0), (.int .u32 0), (.cst (.slice none 0 0)), (.int .i64 0), (.int .i64 0), (.int .i64 0), (.str []), (.str []), (.str []), (.int .i64 0), (.cst (.slice none 0 0)), (.bool false), (.int .i64 0), (.int .i64 0), (.int .i64 0), (.str []), (.str []), (.str []), (.int .i64 0), (.cst (.slice none 0 0)), (.bool false)] 21),
  oP (pdT 18) (eMov (slotG 80)),
  oP pdN (eStore 21 (slotG 19) (slotG 82))]
noncomputable def R5_19 : CT :=
  .reg [
  oP (pdT 83) (eBuild [(.cst (.slice none 0 0))] 1 []),
  oP (pdT 84) (eBox (slotG 83)),
  oP (pdT 20) (eMov (slotG 84))]
noncomputable def R5_20 : CT :=
  .reg [
  oP (pdT 85) (eMov (slotG 18)),
  oP (pdT 86) (e2 (cEq false .num) (slotG 85) (constG (.int .i64 0)))]
noncomputable def R5_21 : CT :=
  .reg [
  oP (pdT 87) (eMov (slotG 14)),
  oP (pdT 20) (eMov (slotG 87))]
noncomputable def R5_22 : CT :=
  .reg [
  oP (pdT 89) (eMov (slotG 13)),
  oP (pdT 90) (eMov (slotG 18)),
  oP (pdT 91) (eLoadN 21 (slotG 19)),
  oP (pdT 92) (eMov (slotG 20)),
  cP (pdT 93) 12 [(slotG 89), (slotG 90), (slotG 91), (slotG 92)],
  oP (pdT 88) (eMov (slotG 93)),
  oP (pdT 94) (e1 (cExt 0) (slotG 88)),
  oP (pdT 95) (e1 (cExt 1) (slotG 88)),
  oP (pdT 21) (eMov (slotG 94)),
  oP (pdT 22) (eMov (slotG 95))]
noncomputable def R5_23 : CT :=
  .reg [
  oP (pdT 96) (eMov (slotG 18)),
  oP (pdT 97) (e2 (cBin .gtr) (slotG 96) (constG (.int .i64 0)))]
noncomputable def R5_24 : CT :=
  .reg [
  oP (pdT 98) (eMov (slotG 17)),
  oP (pdT 99) (eMov (slotG 20)),
  oP (pdT 100) (eBslice [(.cst (.pointer none))] 1 1 [(0, 1, (slotG 99))]),
  oP (pdT 101) (eApp 1 8 (slotG 98) (slotG 100)),
  oP (pdT 17) (eMov (slotG 101))]
noncomputable def R5_25 : CT :=
  .reg [
  oP (pdT 102) (eMov (slotG 16)),
  oP (pdT 103) (eMov (slotG 22)),
  oP (pdT 104) (eBslice [(.cst .nilFunc)] 1 1 [(0, 1, (slotG 103))]),
  oP (pdT 105) (eApp 1 8 (slotG 102) (slotG 104)),
  oP (pdT 16) (eMov (slotG 105))]
noncomputable def R5_26 : CT :=
  .reg [
  oP (pdT 106) (e1 (cAddo 0) (slotG 4)),
  oP (pdT 107) (eLoad1 (slotG 106)),
  oP (pdT 108) (e2 (cEq false .num) (slotG 107) (constG (.int .i64 8)))]
noncomputable def R5_27 : CT :=
  .reg [
  oP (pdT 109) (eMov (slotG 13)),
  oP (pdT 110) (e1 (cAddo 16) (slotG 9)),
  oP (pdT 111) (eLoad1 (slotG 110)),
  oP (pdT 112) (eMov (slotG 18)),
  oP (pdT 113) (e2 (cIxa 1) (slotG 111) (slotG 112)),
  oP (pdT 114) (eLoad1 (slotG 113)),
  oP (pdT 115) (eMov (slotG 21)),
  cP (pdT 116) 13 [(slotG 109), (slotG 114), (slotG 115)]]
noncomputable def R5_28 : CT :=
  .reg [
  oP (pdT 117) (eMov (slotG 21)),
  oP (pdT 15) (eMov (slotG 117))]
noncomputable def R5_29 : CT :=
  .reg [
  oP (pdT 118) (e2 (cBin .add) (slotG 78) (constG (.int .i64 1))),
  oP (pdT 78) (eMov (slotG 118))]
noncomputable def L5_0 : CT := (.seq R5_17 (.seq (.cond (slotG 79) .skip (.exit 0)) (.seq (.block 1 (.seq R5_18 (.seq R5_19 (.seq (.seq R5_20 (.cond (slotG 86) R5_21 .skip)) (.seq R5_22 (.seq (.seq R5_23 (.cond (slotG 97) R5_24 .skip)) (.seq R5_25 (.seq (.seq R5_26 (.cond (slotG 108) R5_27 .skip)) R5_28)))))))) R5_29)))
noncomputable def R5_30 : CT :=
  .reg [
  oP (pdT 119) (eMov (slotG 13)),
  oP (pdT 120) (e1 (cAddo 17) (slotG 9)),
  oP (pdT 121) (eLoad1 (slotG 120)),
  oP (pdT 122) (eMov (slotG 15)),
  cP (pdT 123) 13 [(slotG 119), (slotG 121), (slotG 122)]]
noncomputable def R5_31 : CT :=
  .reg [
  oP (pdT 124) (e1 (cAddo 0) (slotG 4)),
  oP (pdT 125) (eLoad1 (slotG 124))]
noncomputable def R5_32 : CT :=
  .reg [
  oP (pdT 137) (e2 (cEq false .num) (slotG 125) (constG (.int .i64 8))),
  oP (pdT 136) (eMov (slotG 137))]
noncomputable def R5_33 : CT :=
  .reg [
  oP (pdT 138) (eMov (slotG 13)),
  oP (pdT 139) (e1 (cAddo 18) (slotG 9)),
  oP (pdT 140) (eLoad1 (slotG 139)),
  cP (pdT 141) 14 [(slotG 138), (slotG 140)]]
noncomputable def R5_34 : CT :=
  .reg [
  oP (pdT 142) (eMov (slotG 13)),
  oP (pdT 143) (e1 (cAddo 18) (slotG 9)),
  oP (pdT 144) (eLoad1 (slotG 143)),
  oP (pdT 145) (e1 cLenL (slotG 144)),
  oP (pdT 146) (eBuild [(.int .i64 0), (.int .i64 0), (.int .i64 0), (.int .i64 0), (.int .i64 0), (.int .i64 0), (.int .i64 0), (.int .u32 0), (.int .i64 0), (.int .i64 0), (.bool false), (.bool false), (.int .i64 0), (.int .i64 0), (.str [])] 15 [(0, 1, (constG (.int .i64 8))), (4, 1, (slotG 145))]),
  cP (pdT 147) 15 [(slotG 142), (slotG 146)]]
noncomputable def R5_35 : CT :=
  .reg [
  oP (pdT 126) (eMov (slotG 13)),
  oP (pdT 127) (e1 (cAddo 14) (slotG 9)),
  oP (pdT 128) (eLoad1 (slotG 127)),
  cP (pdT 129) 14 [(slotG 126), (slotG 128)]]
noncomputable def R5_36 : CT :=
  .reg [
  oP (pdT 130) (eMov (slotG 13)),
  oP (pdT 131) (e1 (cAddo 14) (slotG 9)),
  oP (pdT 132) (eLoad1 (slotG 131)),
  oP (pdT 133) (e1 cLenL (slotG 132)),
  oP (pdT 134) (eBuild [(.int .i64 0), (.int .i64 0), (.int .i64 0), (.int .i64 0), (.int .i64 0), (.int .i64 0), (.int .i64 0), (.int .u32 0), (.int .i64 0), (.int .i64 0), (.bool false), (.bool false), (.int .i64 0), (.int .i64 0), (.str [])] 15 [(0, 1, (constG (.int .i64 9))), (4, 1, (slotG 133))]),
  cP (pdT 135) 15 [(slotG 130), (slotG 134)]]
noncomputable def R5_37 : CT :=
  .reg [
  oP (pdT 148) (eMov (slotG 2)),
  oP (pdT 149) (e1 cLenL (slotG 148)),
  oP (pdT 150) (e2 (cBin .sub) (slotG 149) (constG (.int .i64 1))),
  oP (pdT 23) (eMov (slotG 150))]
noncomputable def R5_38 : CT :=
  .reg [
  oP (pdT 151) (eMov (slotG 23)),
  oP (pdT 152) (e2 (cBin .geq) (slotG 151) (constG (.int .i64 0)))]
noncomputable def R5_39 : CT :=
  .reg [
  oP (pdT 155) (eMov (slotG 16)),
  oP (pdT 156) (eMov (slotG 23)),
  oP (pdT 157) (e2 (cIxa 1) (slotG 155) (slotG 156)),
  oP (pdT 158) (eLoad1 (slotG 157)),
  vP (pdT 159) (slotG 158) []]
noncomputable def R5_40 : CT :=
  .reg [
  oP (pdT 160) (eMov (slotG 23)),
  oP (pdT 161) (e2 (cBin .gtr) (slotG 160) (constG (.int .i64 0)))]
noncomputable def R5_41 : CT :=
  .reg [
  oP (pdT 162) (eMov (slotG 13)),
  oP (pdT 163) (eMov (slotG 17)),
  oP (pdT 164) (eMov (slotG 23)),
  oP (pdT 165) (e2 (cBin .sub) (slotG 164) (constG (.int .i64 1))),
  oP (pdT 166) (e2 (cIxa 1) (slotG 163) (slotG 165)),
  oP (pdT 167) (eLoad1 (slotG 166)),
  cP (pdT 168) 16 [(slotG 162), (slotG 167)]]
noncomputable def R5_42 : CT :=
  .reg [
  oP (pdT 153) (eMov (slotG 23)),
  oP (pdT 154) (e2 (cBin .sub) (slotG 153) (constG (.int .i64 1))),
  oP (pdT 23) (eMov (slotG 154))]
noncomputable def L5_1 : CT := (.seq (.seq R5_38 (.cond (slotG 152) .skip (.exit 3))) (.seq (.block 4 (.seq R5_39 (.seq R5_40 (.cond (slotG 161) R5_41 .skip)))) R5_42))
noncomputable def R5_43 : CT :=
  .reg [
  oP (pdT 169) (eMov (slotG 13)),
  oP (pdT 170) (eMov (slotG 14)),
  cP (pdT 171) 16 [(slotG 169), (slotG 170)]]
noncomputable def R5_44 : CT :=
  .reg [
  oP (pdT 172) (eMov (slotG 13)),
  oP (pdT 173) (eBuild [(.int .i64 0), (.int .i64 0), (.int .i64 0), (.int .i64 0), (.int .i64 0), (.int .i64 0), (.int .i64 0), (.int .u32 0), (.int .i64 0), (.int .i64 0), (.bool false), (.bool false), (.int .i64 0), (.int .i64 0), (.str [])] 15 [(0, 1, (constG (.int .i64 11)))]),
  cP (pdT 174) 15 [(slotG 172), (slotG 173)]]
noncomputable def R5_45 : CT :=
  .reg [
  oP (pdT 175) (eMov (slotG 13)),
  oP (pdT 176) (eNilc (slotG 175)),
  oP (pdT 177) (e1 (cAddo 0) (slotG 176)),
  oP (pdT 178) (eLoadN 3 (slotG 177)),
  oP pdN (eStore 3 (slotG 6) (slotG 178)),
  oP (pdT 7) (eMov (constG (.int .i64 0)))]
noncomputable def B5 : CT := (.seq R5_0 (.seq (.seq R5_1 (.seq R5_2 (.cond (slotG 29) (.seq R5_3 .ret) .skip))) (.seq R5_4 (.seq (.seq R5_5 (.seq R5_6 (.cond (slotG 49) (.seq R5_7 .ret) .skip))) (.seq R5_8 (.seq (.seq R5_9 (.cond (slotG 57) R5_10 .skip)) (.seq R5_11 (.seq R5_12 (.seq R5_13 (.seq R5_14 (.seq R5_15 (.seq (.seq R5_16 (.block 0 (.loop L5_0))) (.seq R5_30 (.seq (.seq R5_31 (.block 2 (.seq R5_32 (.cond (slotG 136) (.seq R5_33 R5_34) (.seq R5_35 R5_36))))) (.seq (.seq R5_37 (.block 3 (.loop L5_1))) (.seq R5_43 (.seq R5_44 (.seq R5_45 .ret))))))))))))))))))
noncomputable def A5 : CF := { res := [rCelN 6 3, rTmp 7], code := B5, nt := 179 }
theorem c5 : ctF Tryz.prog 5 = some A5 := by kernel_rfl

/-! 6: cadastre/cadastreref24.Check -/
noncomputable def R6_0 : CT :=
  .reg [
  oP (pdT 1) (eBox (slotG 0)),
  oP (pdT 2) (eMov (constG (.int .i64 0)))]
noncomputable def R6_1 : CT :=
  .reg [
  oP (pdT 4) (e1 (cAddo 0) (slotG 1)),
  oP (pdT 5) (eLoad1 (slotG 4)),
  oP (pdT 6) (e2 (cBin .lss) (slotG 5) (constG (.int .i64 0))),
  oP (pdT 7) (eMov (slotG 6)),
  gP (slotG 7) false (pdT 8) (e1 (cAddo 0) (slotG 1)),
  gP (slotG 7) false (pdT 9) (eLoad1 (slotG 8)),
  gP (slotG 7) false (pdT 10) (e2 (cBin .gtr) (slotG 9) (constG (.int .i64 256))),
  oP (pdT 11) (ePick (slotG 7) (constG (.bool true)) (slotG 10)),
  oP (pdT 12) (eMov (slotG 11)),
  gP (slotG 12) false (pdT 13) (e1 (cAddo 1) (slotG 1)),
  gP (slotG 12) false (pdT 14) (eLoad1 (slotG 13)),
  gP (slotG 12) false (pdT 15) (e2 (cBin .lss) (slotG 14) (constG (.int .i64 0))),
  oP (pdT 16) (ePick (slotG 12) (constG (.bool true)) (slotG 15)),
  oP (pdT 17) (eMov (slotG 16)),
  gP (slotG 17) false (pdT 18) (e1 (cAddo 1) (slotG 1)),
  gP (slotG 17) false (pdT 19) (eLoad1 (slotG 18)),
  gP (slotG 17) false (pdT 20) (e2 (cBin .gtr) (slotG 19) (constG (.int .i64 4))),
  oP (pdT 21) (ePick (slotG 17) (constG (.bool true)) (slotG 20)),
  oP (pdT 22) (eMov (slotG 21)),
  gP (slotG 22) false (pdT 23) (e1 (cAddo 2) (slotG 1)),
  gP (slotG 22) false (pdT 24) (eLoad1 (slotG 23)),
  gP (slotG 22) false (pdT 25) (e1 cLenL (slotG 24)),
  gP (slotG 22) false (pdT 26) (e2 (cBin .gtr) (slotG 25) (constG (.int .i64 8192))),
  oP (pdT 27) (ePick (slotG 22) (constG (.bool true)) (slotG 26))]
noncomputable def R6_2 : CT :=
  .reg [
  oP (pdT 2) (eMov (constG (.int .i64 1)))]
noncomputable def R6_3 : CT :=
  .reg [
  oP (pdT 3) (eMov (constG (.int .i64 0)))]
noncomputable def R6_4 : CT :=
  .reg [
  oP (pdT 28) (eMov (slotG 3)),
  oP (pdT 29) (e1 (cAddo 2) (slotG 1)),
  oP (pdT 30) (eLoad1 (slotG 29)),
  oP (pdT 31) (e1 cLenL (slotG 30)),
  oP (pdT 32) (e2 (cBin .lss) (slotG 28) (slotG 31))]
noncomputable def R6_5 : CT :=
  .drw [35, 36, 37, 38, 39, 40, 41, 42] [
  oI [1] (pdT 35) (eLoadN 3 (slotG 1)) 1,
  oI [1] (pdT 36) (e1 (cAddo 2) (slotG 1)) 1,
  oI [36] (pdT 37) (eLoad1 (slotG 36)) 1,
  oI [3] (pdT 38) (eMov (slotG 3)) 1,
  oI [37, 38] (pdT 39) (e2 (cIxa 15) (slotG 37) (slotG 38)) 1,
  oI [39] (pdT 40) (eLoadN 15 (slotG 39)) 1,
  cI [35, 40] (pdT 41) 17 [(slotG 35), (slotG 40)],
  oI [41] (pdT 42) (e1 (cUn .not) (slotG 41)) 1]
noncomputable def R6_6 : CT :=
  .reg [
  oP (pdT 2) (eMov (constG (.int .i64 1)))]
noncomputable def R6_7 : CT :=
  .reg [
  oP (pdT 33) (eMov (slotG 3)),
  oP (pdT 34) (e2 (cBin .add) (slotG 33) (constG (.int .i64 1))),
  oP (pdT 3) (eMov (slotG 34))]
noncomputable def L6_0 : CT := (.seq (.seq R6_4 (.cond (slotG 32) .skip (.exit 0))) (.seq (.block 1 (.seq R6_5 (.cond (slotG 42) (.seq R6_6 .ret) .skip))) R6_7))
noncomputable def R6_8 : CT :=
  .reg [
  oP (pdT 2) (eMov (constG (.int .i64 0)))]
noncomputable def B6 : CT := (.seq R6_0 (.seq (.seq R6_1 (.cond (slotG 27) (.seq R6_2 .ret) .skip)) (.seq (.seq R6_3 (.block 0 (.loop L6_0))) (.seq R6_8 .ret))))
noncomputable def A6 : CF := { res := [rTmp 2], code := B6, nt := 43 }
theorem c6 : ctF Tryz.prog 6 = some A6 := by kernel_rfl

/-! 9: cadastre/plan.Right -/
noncomputable def R9_0 : CT :=
  .reg [
  oP (pdT 3) (eBox (slotG 0)),
  oP (pdT 4) (eBox (slotG 1)),
  oP (pdT 6) (eMov (constG (.int .i64 0)))]
noncomputable def R9_1 : CT :=
  .reg [
  oP (pdT 14) (eLoadN 2 (slotG 3)),
  oP (pdT 15) (eLoadN 31 (slotG 4)),
  cP (pdT 16) 19 [(slotG 14), (slotG 15)],
  oP (pdT 13) (eMov (slotG 16)),
  oP (pdT 17) (e1 (cExt 0) (slotG 13)),
  oP (pdT 18) (e1 (cExt 1) (slotG 13)),
  oP (pdT 7) (eAlloc [(.int .i64 0), (.str []), (.int .u32 0), (.str []), (.cst (.slice none 0 0)), (.int .u32 0), (.int .u32 0), (.int .u32 0), (.str []), (.cst (.slice none 0 0)), (.bool false), (.int .u32 0), (.cst (.slice none 0 0)), (.cst (.slice none 0 0)), (.cst (.slice none 0 0)), (.cst (.slice none 0 0)), (.cst (.slice none 0 0)), (.cst (.slice none 0 0)), (.cst (.slice none 0 0)), (.cst (.slice none 0 0)), (.cst (.slice none 0 0)), (.cst (.slice none 0 0)), (.bool false), (.bool false), (.int .i64 0)] 25),
  oP pdN (eStore 25 (slotG 7) (slotG 17)),
  oP (pdT 8) (eMov (slotG 18))]
noncomputable def R9_2 : CT :=
  .reg [
  oP (pdT 19) (eMov (slotG 8)),
  oP (pdT 20) (e2 (cEq true .num) (slotG 19) (constG (.int .i64 0)))]
noncomputable def R9_3 : CT :=
  .reg [
  oP (pdT 21) (eMov (slotG 8)),
  oP (pdT 6) (eMov (slotG 21))]
noncomputable def R9_4 : CT :=
  .reg [
  oP (pdT 23) (eLoadN 25 (slotG 7)),
  cP (pdT 24) 20 [(slotG 23)],
  oP (pdT 22) (eMov (slotG 24)),
  oP (pdT 25) (e1 (cExt 0) (slotG 22)),
  oP (pdT 26) (e1 (cExt 1) (slotG 22)),
  oP (pdT 9) (eMov (slotG 25)),
  oP (pdT 10) (eMov (slotG 26))]
noncomputable def R9_5 : CT :=
  .reg [
  oP (pdT 27) (eMov (slotG 2)),
  oP (pdT 28) (e1 cLenL (slotG 27)),
  oP (pdT 29) (eMov (slotG 9)),
  oP (pdT 30) (e1 cLenL (slotG 29)),
  oP (pdT 31) (e2 (cEq true .num) (slotG 28) (slotG 30))]
noncomputable def R9_6 : CT :=
  .reg [
  oP (pdT 6) (eMov (constG (.int .i64 1)))]
noncomputable def R9_7 : CT :=
  .reg [
  oP (pdT 32) (eMov (slotG 2)),
  oP (pdT 33) (e1 cLenL (slotG 32)),
  oP (pdT 34) (eMov (constG (.int .i64 0)))]
noncomputable def R9_8 : CT :=
  .reg [
  oP (pdT 35) (e2 (cBin .lss) (slotG 34) (slotG 33))]
noncomputable def R9_9 : CT :=
  .reg [
  oP (pdT 36) (eMov (slotG 34)),
  oP (pdT 37) (e2 (cIxa 21) (slotG 32) (slotG 34)),
  oP (pdT 38) (eLoadN 21 (slotG 37)),
  oP (pdT 12) (eAlloc [(.int .u32 0), (.int .u32 0), (.cst (.slice none 0 0)), (.int .i64 0), (.int .i64 0), (.int .i64 0), (.str []), (.str []), (.str []), (.int .i64 0), (.cst (.slice none 0 0)), (.bool false), (.int .i64 0), (.int .i64 0), (.int .i64 0), (.str []), (.str []), (.str []), (.int .i64 0), (.cst (.slice none 0 0)), (.bool false)] 21),
  oP (pdT 11) (eMov (slotG 36)),
  oP pdN (eStore 21 (slotG 12) (slotG 38))]
noncomputable def R9_10 : CT :=
  .drw [39, 40, 41, 42, 43, 44, 45, 46, 47, 48, 49, 50] [
  oI [9] (pdT 45) (eMov (slotG 9)) 1,
  oI [11] (pdT 46) (eMov (slotG 11)) 1,
  oI [45, 46] (pdT 47) (eSl (cSlc 4) (slotG 45) none (some (slotG 46)) none) 1,
  cI [47] (pdT 48) 22 [(slotG 47)],
  oI [3] (pdT 39) (eLoadN 2 (slotG 3)) 2,
  oI [9] (pdT 40) (eMov (slotG 9)) 2,
  oI [11] (pdT 41) (eMov (slotG 11)) 2,
  oI [40, 41] (pdT 42) (e2 (cIxa 4) (slotG 40) (slotG 41)) 2,
  oI [42] (pdT 43) (eLoadN 4 (slotG 42)) 2,
  oI [12] (pdT 44) (eLoadN 21 (slotG 12)) 2,
  cI [39, 43, 44, 48] (pdT 49) 21 [(slotG 39), (slotG 43), (slotG 44), (slotG 48)],
  oI [49] (pdT 50) (e1 (cUn .not) (slotG 49)) 1]
noncomputable def R9_11 : CT :=
  .reg [
  oP (pdT 6) (eMov (constG (.int .i64 1)))]
noncomputable def R9_12 : CT :=
  .reg [
  oP (pdT 51) (e2 (cBin .add) (slotG 34) (constG (.int .i64 1))),
  oP (pdT 34) (eMov (slotG 51))]
noncomputable def L9_0 : CT := (.seq R9_8 (.seq (.cond (slotG 35) .skip (.exit 0)) (.seq (.block 1 (.seq R9_9 (.seq R9_10 (.cond (slotG 50) (.seq R9_11 .ret) .skip)))) R9_12)))
noncomputable def R9_13 : CT :=
  .reg [
  oP (pdT 6) (eMov (constG (.int .i64 0)))]
noncomputable def B9 : CT := (.seq R9_0 (.seq R9_1 (.seq (.seq R9_2 (.cond (slotG 20) (.seq R9_3 .ret) .skip)) (.seq R9_4 (.seq (.seq R9_5 (.cond (slotG 31) (.seq R9_6 .ret) .skip)) (.seq (.seq R9_7 (.block 0 (.loop L9_0))) (.seq R9_13 .ret)))))))
noncomputable def A9 : CF := { res := [rTmp 6], code := B9, nt := 52 }
theorem c9 : ctF Tryz.prog 9 = some A9 := by kernel_rfl

/-! 10: cadastre/bind.Bind -/
noncomputable def R10_0 : CT :=
  .reg [
  oP (pdT 2) (eBox (slotG 0)),
  oP (pdT 3) (eBox (slotG 1)),
  oP (pdT 4) (eAlloc [(.int .i64 0), (.str []), (.int .u32 0), (.str []), (.cst (.slice none 0 0)), (.int .u32 0), (.int .u32 0), (.int .u32 0), (.str []), (.cst (.slice none 0 0)), (.bool false), (.int .u32 0), (.cst (.slice none 0 0)), (.cst (.slice none 0 0)), (.cst (.slice none 0 0)), (.cst (.slice none 0 0)), (.cst (.slice none 0 0)), (.cst (.slice none 0 0)), (.cst (.slice none 0 0)), (.cst (.slice none 0 0)), (.cst (.slice none 0 0)), (.cst (.slice none 0 0)), (.bool false), (.bool false), (.int .i64 0)] 25),
  oP (pdT 5) (eMov (constG (.int .i64 0)))]
noncomputable def R10_1 : CT :=
  .reg [
  oP (pdT 10) (eLoadN 2 (slotG 2)),
  cP (pdT 11) 23 [(slotG 10)],
  oP (pdT 12) (e1 (cUn .not) (slotG 11)),
  oP (pdT 13) (eMov (slotG 12)),
  gP (slotG 13) false (pdT 14) (eLoadN 31 (slotG 3)),
  gcP (slotG 13) false (pdT 15) 24 [(slotG 14)],
  gP (slotG 13) false (pdT 16) (e1 (cUn .not) (slotG 15)),
  oP (pdT 17) (ePick (slotG 13) (constG (.bool true)) (slotG 16))]
noncomputable def R10_2 : CT :=
  .reg [
  oP (pdT 18) (eBuild [(.int .i64 0), (.str []), (.int .u32 0), (.str []), (.cst (.slice none 0 0)), (.int .u32 0), (.int .u32 0), (.int .u32 0), (.str []), (.cst (.slice none 0 0)), (.bool false), (.int .u32 0), (.cst (.slice none 0 0)), (.cst (.slice none 0 0)), (.cst (.slice none 0 0)), (.cst (.slice none 0 0)), (.cst (.slice none 0 0)), (.cst (.slice none 0 0)), (.cst (.slice none 0 0)), (.cst (.slice none 0 0)), (.cst (.slice none 0 0)), (.cst (.slice none 0 0)), (.bool false), (.bool false), (.int .i64 0)] 25 []),
  oP pdN (eStore 25 (slotG 4) (slotG 18)),
  oP (pdT 5) (eMov (constG (.int .i64 1)))]
noncomputable def R10_3 : CT :=
  .reg [
  oP (pdT 19) (eLoadN 2 (slotG 2)),
  oP (pdT 20) (eBuild [(.cst (.slice none 0 0)), (.cst (.slice none 0 0)), (.int .i64 0)] 3 [(0, 2, (slotG 19))]),
  oP (pdT 21) (eBox (slotG 20)),
  oP (pdT 6) (eMov (slotG 21))]
noncomputable def R10_4 : CT :=
  .reg [
  oP (pdT 22) (e1 (cAddo 0) (slotG 3)),
  oP (pdT 23) (eLoad1 (slotG 22)),
  oP (pdT 24) (eBuild [(.int .i64 0), (.str []), (.int .u32 0), (.str []), (.cst (.slice none 0 0)), (.int .u32 0), (.int .u32 0), (.int .u32 0), (.str []), (.cst (.slice none 0 0)), (.bool false), (.int .u32 0), (.cst (.slice none 0 0)), (.cst (.slice none 0 0)), (.cst (.slice none 0 0)), (.cst (.slice none 0 0)), (.cst (.slice none 0 0)), (.cst (.slice none 0 0)), (.cst (.slice none 0 0)), (.cst (.slice none 0 0)), (.cst (.slice none 0 0)), (.cst (.slice none 0 0)), (.bool false), (.bool false), (.int .i64 0)] 25 [(0, 1, (slotG 23))]),
  oP (pdT 7) (eAlloc [(.int .i64 0), (.str []), (.int .u32 0), (.str []), (.cst (.slice none 0 0)), (.int .u32 0), (.int .u32 0), (.int .u32 0), (.str []), (.cst (.slice none 0 0)), (.bool false), (.int .u32 0), (.cst (.slice none 0 0)), (.cst (.slice none 0 0)), (.cst (.slice none 0 0)), (.cst (.slice none 0 0)), (.cst (.slice none 0 0)), (.cst (.slice none 0 0)), (.cst (.slice none 0 0)), (.cst (.slice none 0 0)), (.cst (.slice none 0 0)), (.cst (.slice none 0 0)), (.bool false), (.bool false), (.int .i64 0)] 25),
  oP pdN (eStore 25 (slotG 7) (slotG 24))]
noncomputable def R10_5 : CT :=
  .reg [
  oP (pdT 25) (e1 (cAddo 0) (slotG 3)),
  oP (pdT 26) (eLoad1 (slotG 25))]
noncomputable def R10_6 : CT :=
  .reg [
  oP (pdT 28) (e2 (cEq false .num) (slotG 26) (constG (.int .i64 1))),
  oP (pdT 27) (eMov (slotG 28))]
noncomputable def R10_7 : CT :=
  .reg [
  oP (pdT 29) (eMov (slotG 6)),
  oP (pdT 30) (eLoadN 31 (slotG 3)),
  cP (pdT 31) 25 [(slotG 29), (slotG 30), (slotG 7)]]
noncomputable def R10_8 : CT :=
  .reg [
  oP (pdT 33) (e2 (cEq false .num) (slotG 26) (constG (.int .i64 2))),
  oP (pdT 32) (eMov (slotG 33))]
noncomputable def R10_9 : CT :=
  .reg [
  oP (pdT 34) (eMov (slotG 6)),
  oP (pdT 35) (e1 (cAddo 1) (slotG 3)),
  oP (pdT 36) (eLoad1 (slotG 35)),
  cP (pdT 37) 26 [(slotG 34), (slotG 36)],
  oP (pdT 38) (e1 (cAddo 2) (slotG 7)),
  oP pdN (eStore 4 (slotG 38) (slotG 37))]
noncomputable def R10_10 : CT :=
  .reg [
  oP (pdT 40) (e2 (cEq false .num) (slotG 26) (constG (.int .i64 3))),
  oP (pdT 39) (eMov (slotG 40))]
noncomputable def R10_11 : CT :=
  .reg [
  oP (pdT 41) (eMov (slotG 6)),
  oP (pdT 42) (eLoadN 31 (slotG 3)),
  cP (pdT 43) 27 [(slotG 41), (slotG 42), (slotG 7)]]
noncomputable def R10_12 : CT :=
  .reg [
  oP (pdT 45) (e2 (cEq false .num) (slotG 26) (constG (.int .i64 4))),
  oP (pdT 44) (eMov (slotG 45))]
noncomputable def R10_13 : CT :=
  .reg [
  oP (pdT 47) (eLoadN 2 (slotG 2)),
  oP (pdT 48) (e1 (cAddo 2) (slotG 3)),
  oP (pdT 49) (eLoad1 (slotG 48)),
  cP (pdT 50) 28 [(slotG 47), (slotG 49)],
  oP (pdT 46) (eMov (slotG 50)),
  oP (pdT 51) (e1 (cExt 0) (slotG 46)),
  oP (pdT 52) (e1 (cExt 1) (slotG 46)),
  oP (pdT 8) (eAlloc [(.int .u32 0), (.int .u32 0), (.str []), (.cst (.slice none 0 0)), (.bool false), (.int .u32 0)] 6),
  oP pdN (eStore 6 (slotG 8) (slotG 51)),
  oP (pdT 9) (eMov (slotG 52))]
noncomputable def R10_14 : CT :=
  .reg [
  oP (pdT 53) (eMov (slotG 6)),
  oP (pdT 54) (eMov (slotG 9)),
  oP (pdT 55) (e1 (cUn .not) (slotG 54)),
  cP (pdT 56) 29 [(slotG 53), (constG (.int .i64 202)), (slotG 55)]]
noncomputable def R10_15 : CT :=
  .reg [
  oP (pdT 57) (eLoadN 6 (slotG 8)),
  oP (pdT 58) (e1 (cAddo 6) (slotG 7)),
  oP pdN (eStore 6 (slotG 58) (slotG 57))]
noncomputable def R10_16 : CT :=
  .reg [
  oP (pdT 60) (eLoadN 2 (slotG 2)),
  oP (pdT 61) (e1 (cAddo 1) (slotG 8)),
  oP (pdT 62) (eLoad1 (slotG 61)),
  cP (pdT 63) 30 [(slotG 60), (slotG 62)],
  oP (pdT 59) (eMov (slotG 63)),
  oP (pdT 64) (e1 (cExt 0) (slotG 59)),
  oP (pdT 65) (e1 (cExt 1) (slotG 59)),
  oP (pdT 66) (e1 (cAddo 2) (slotG 7)),
  oP pdN (eStore 4 (slotG 66) (slotG 64))]
noncomputable def R10_17 : CT :=
  .reg [
  oP (pdT 68) (e2 (cEq false .num) (slotG 26) (constG (.int .i64 5))),
  oP (pdT 67) (eMov (slotG 68))]
noncomputable def R10_18 : CT :=
  .reg [
  oP (pdT 69) (eMov (slotG 6)),
  oP (pdT 70) (eLoadN 31 (slotG 3)),
  cP (pdT 71) 31 [(slotG 69), (slotG 70), (slotG 7)]]
noncomputable def R10_19 : CT :=
  .reg [
  oP (pdT 73) (e2 (cEq false .num) (slotG 26) (constG (.int .i64 6))),
  oP (pdT 72) (eMov (slotG 73))]
noncomputable def R10_20 : CT :=
  .reg [
  oP (pdT 74) (eMov (slotG 6)),
  oP (pdT 75) (e1 (cAddo 1) (slotG 3)),
  oP (pdT 76) (eLoad1 (slotG 75)),
  cP (pdT 77) 26 [(slotG 74), (slotG 76)],
  oP (pdT 78) (e1 (cAddo 2) (slotG 7)),
  oP pdN (eStore 4 (slotG 78) (slotG 77))]
noncomputable def R10_21 : CT :=
  .reg [
  oP (pdT 79) (eMov (slotG 6)),
  oP (pdT 80) (eNilc (slotG 79)),
  oP (pdT 81) (e1 (cAddo 2) (slotG 80)),
  oP (pdT 82) (eLoad1 (slotG 81)),
  oP (pdT 83) (e2 (cEq false .num) (slotG 82) (constG (.int .i64 0)))]
noncomputable def R10_22 : CT :=
  .drw [84, 85, 86, 87, 88, 89, 90, 91] [
  oI [7] (pdT 85) (e1 (cAddo 2) (slotG 7)) 1,
  oI [85] (pdT 86) (eLoadN 4 (slotG 85)) 1,
  cI [86] (pdT 87) 33 [(slotG 86)],
  oI [6] (pdT 84) (eMov (slotG 6)) 2,
  oI [3] (pdT 88) (e1 (cAddo 8) (slotG 3)) 2,
  oI [88] (pdT 89) (eLoadN 8 (slotG 88)) 2,
  cI [84, 87, 89] (pdT 90) 32 [(slotG 84), (slotG 87), (slotG 89)],
  oI [7] (pdT 91) (e1 (cAddo 17) (slotG 7)) 1,
  mI [91, 90] pdN (eStore 1 (slotG 91) (slotG 90))]
noncomputable def R10_23 : CT :=
  .reg [
  oP (pdT 93) (e2 (cEq false .num) (slotG 26) (constG (.int .i64 7))),
  oP (pdT 92) (eMov (slotG 93))]
noncomputable def R10_24 : CT :=
  .reg [
  oP (pdT 94) (eMov (slotG 6)),
  oP (pdT 95) (eLoadN 31 (slotG 3)),
  cP (pdT 96) 34 [(slotG 94), (slotG 95), (slotG 7)]]
noncomputable def R10_25 : CT :=
  .reg [
  oP (pdT 98) (e2 (cEq false .num) (slotG 26) (constG (.int .i64 8))),
  oP (pdT 97) (eMov (slotG 98))]
noncomputable def R10_26 : CT :=
  .reg [
  oP (pdT 99) (eMov (slotG 6)),
  oP (pdT 100) (e1 (cAddo 16) (slotG 3)),
  oP (pdT 101) (eLoadN 15 (slotG 100)),
  cP (pdT 102) 35 [(slotG 99), (slotG 101), (slotG 7)]]
noncomputable def R10_27 : CT :=
  .reg [
  oP (pdT 103) (eMov (slotG 6)),
  oP (pdT 104) (eNilc (slotG 103)),
  oP (pdT 105) (e1 (cAddo 2) (slotG 104)),
  oP (pdT 106) (eLoad1 (slotG 105)),
  oP (pdT 107) (e2 (cEq true .num) (slotG 106) (constG (.int .i64 0)))]
noncomputable def R10_28 : CT :=
  .drw [108, 109, 110, 111, 112] [
  oI [] (pdT 108) (eBuild [(.int .i64 0), (.str []), (.int .u32 0), (.str []), (.cst (.slice none 0 0)), (.int .u32 0), (.int .u32 0), (.int .u32 0), (.str []), (.cst (.slice none 0 0)), (.bool false), (.int .u32 0), (.cst (.slice none 0 0)), (.cst (.slice none 0 0)), (.cst (.slice none 0 0)), (.cst (.slice none 0 0)), (.cst (.slice none 0 0)), (.cst (.slice none 0 0)), (.cst (.slice none 0 0)), (.cst (.slice none 0 0)), (.cst (.slice none 0 0)), (.cst (.slice none 0 0)), (.bool false), (.bool false), (.int .i64 0)] 25 []) 1,
  mI [4, 108] pdN (eStore 25 (slotG 4) (slotG 108)),
  oI [6] (pdT 109) (eMov (slotG 6)) 2,
  oI [109] (pdT 110) (eNilc (slotG 109)) 2,
  oI [110] (pdT 111) (e1 (cAddo 2) (slotG 110)) 2,
  oI [111] (pdT 112) (eLoad1 (slotG 111)) 2,
  oI [112] (pdT 5) (eMov (slotG 112)) 1]
noncomputable def R10_29 : CT :=
  .reg [
  oP (pdT 113) (eLoadN 25 (slotG 7)),
  oP pdN (eStore 25 (slotG 4) (slotG 113)),
  oP (pdT 5) (eMov (constG (.int .i64 0)))]
noncomputable def B10 : CT := (.seq R10_0 (.seq (.seq R10_1 (.cond (slotG 17) (.seq R10_2 .ret) .skip)) (.seq R10_3 (.seq R10_4 (.seq (.seq R10_5 (.block 0 (.seq R10_6 (.cond (slotG 27) R10_7 (.seq R10_8 (.cond (slotG 32) R10_9 (.seq R10_10 (.cond (slotG 39) R10_11 (.seq R10_12 (.cond (slotG 44) (.seq R10_13 (.seq R10_14 (.seq R10_15 R10_16))) (.seq R10_17 (.cond (slotG 67) R10_18 (.seq R10_19 (.cond (slotG 72) (.seq R10_20 (.seq R10_21 (.cond (slotG 83) R10_22 .skip))) (.seq R10_23 (.cond (slotG 92) R10_24 (.seq R10_25 (.cond (slotG 97) R10_26 .skip)))))))))))))))))) (.seq (.seq R10_27 (.cond (slotG 107) (.seq R10_28 .ret) .skip)) (.seq R10_29 .ret)))))))
noncomputable def A10 : CF := { res := [rCelN 4 25, rTmp 5], code := B10, nt := 114 }
theorem c10 : ctF Tryz.prog 10 = some A10 := by kernel_rfl

/-! 11: cadastre/emit.counted -/
noncomputable def R11_0 : CT :=
  .reg [
  oP (pdT 2) (eBox (slotG 0)),
  oP (pdT 4) (eAlloc [(.int .i64 0)] 1),
  oP (pdT 5) (eMov (constG (.int .i64 0)))]
noncomputable def R11_1 : CT :=
  .reg [
  oP (pdT 6) (eAlloc [(.int .i64 0)] 1),
  oP pdN (eStore 1 (slotG 6) (constG (.int .i64 0)))]
noncomputable def R11_2 : CT :=
  .reg [
  oP (pdT 14) (eMov (slotG 1)),
  oP (pdT 15) (e1 cLenL (slotG 14)),
  oP (pdT 16) (e2 (cBin .mul) (constG (.int .i64 4)) (slotG 15)),
  oP (pdT 17) (e2 (cBin .add) (constG (.int .i64 8)) (slotG 16)),
  oP pdN (eStore 1 (slotG 4) (slotG 17))]
noncomputable def R11_3 : CT :=
  .reg [
  oP (pdT 18) (eMkfn (.func 36) [] [(slotG 4), (slotG 6)]),
  oP (pdT 7) (eMov (slotG 18))]
noncomputable def R11_4 : CT :=
  .reg [
  oP (pdT 19) (e1 (cAddo 16) (slotG 2)),
  oP (pdT 20) (eLoad1 (slotG 19)),
  oP (pdT 21) (e1 cLenL (slotG 20)),
  oP (pdT 22) (eMov (constG (.int .i64 0)))]
noncomputable def R11_5 : CT :=
  .reg [
  oP (pdT 23) (e2 (cBin .lss) (slotG 22) (slotG 21))]
noncomputable def R11_6 : CT :=
  .reg [
  oP (pdT 24) (e2 (cIxa 1) (slotG 20) (slotG 22)),
  oP (pdT 25) (eLoad1 (slotG 24)),
  oP (pdT 9) (eMov (slotG 25))]
noncomputable def R11_7 : CT :=
  .reg [
  oP (pdT 26) (eMov (slotG 7)),
  oP (pdT 27) (eMov (slotG 9)),
  vP (pdT 28) (slotG 26) [(slotG 27)]]
noncomputable def R11_8 : CT :=
  .reg [
  oP (pdT 29) (e2 (cBin .add) (slotG 22) (constG (.int .i64 1))),
  oP (pdT 22) (eMov (slotG 29))]
noncomputable def L11_0 : CT := (.seq R11_5 (.seq (.cond (slotG 23) .skip (.exit 0)) (.seq (.block 1 (.seq R11_6 R11_7)) R11_8)))
noncomputable def R11_9 : CT :=
  .reg [
  oP (pdT 30) (eMov (slotG 7)),
  oP (pdT 31) (e1 (cAddo 17) (slotG 2)),
  oP (pdT 32) (eLoad1 (slotG 31)),
  vP (pdT 33) (slotG 30) [(slotG 32)]]
noncomputable def R11_10 : CT :=
  .reg [
  oP (pdT 34) (eMov (slotG 7)),
  oP (pdT 35) (e1 (cAddo 18) (slotG 2)),
  oP (pdT 36) (eLoad1 (slotG 35)),
  vP (pdT 37) (slotG 34) [(slotG 36)]]
noncomputable def R11_11 : CT :=
  .reg [
  oP (pdT 38) (eMov (slotG 7)),
  oP (pdT 39) (e1 (cAddo 14) (slotG 2)),
  oP (pdT 40) (eLoad1 (slotG 39)),
  vP (pdT 41) (slotG 38) [(slotG 40)]]
noncomputable def R11_12 : CT :=
  .reg [
  oP (pdT 42) (eMov (slotG 1)),
  oP (pdT 43) (e1 cLenL (slotG 42)),
  oP (pdT 44) (eMov (constG (.int .i64 0)))]
noncomputable def R11_13 : CT :=
  .reg [
  oP (pdT 45) (e2 (cBin .lss) (slotG 44) (slotG 43))]
noncomputable def R11_14 : CT :=
  .reg [
  oP (pdT 46) (e2 (cIxa 21) (slotG 42) (slotG 44)),
  oP (pdT 47) (eLoadN 21 (slotG 46)),
  oP (pdT 11) (eAlloc [(.int .u32 0), (.int .u32 0), (.cst (.slice none 0 0)), (.int .i64 0), (.int .i64 0), (.int .i64 0), (.str []), (.str []), (.str []), (.int .i64 0), (.cst (.slice none 0 0)), (.bool false), (.int .i64 0), (.int .i64 0), (.int .i64 0), (.str []), (.str []), (.str []), (.int .i64 0), (.cst (.slice none 0 0)), (.bool false)] 21),
  oP pdN (eStore 21 (slotG 11) (slotG 47))]
noncomputable def R11_15 : CT :=
  .reg [
  oP (pdT 48) (eMov (slotG 7)),
  oP (pdT 49) (e1 (cAddo 2) (slotG 11)),
  oP (pdT 50) (eLoad1 (slotG 49)),
  vP (pdT 51) (slotG 48) [(slotG 50)]]
noncomputable def R11_16 : CT :=
  .reg [
  oP (pdT 52) (e1 (cAddo 3) (slotG 11)),
  oP (pdT 53) (eLoadN 8 (slotG 52)),
  oP (pdT 54) (e1 (cAddo 12) (slotG 11)),
  oP (pdT 55) (eLoadN 8 (slotG 54)),
  oP (pdT 56) (eBslice [(.int .i64 0), (.int .i64 0), (.int .i64 0), (.str []), (.str []), (.str []), (.int .i64 0), (.cst (.slice none 0 0))] 2 8 [(0, 8, (slotG 53)), (8, 8, (slotG 55))]),
  oP (pdT 57) (e1 cLenL (slotG 56)),
  oP (pdT 58) (eMov (constG (.int .i64 0)))]
noncomputable def R11_17 : CT :=
  .reg [
  oP (pdT 59) (e2 (cBin .lss) (slotG 58) (slotG 57))]
noncomputable def R11_18 : CT :=
  .reg [
  oP (pdT 60) (e2 (cIxa 8) (slotG 56) (slotG 58)),
  oP (pdT 61) (eLoadN 8 (slotG 60)),
  oP (pdT 13) (eAlloc [(.int .i64 0), (.int .i64 0), (.int .i64 0), (.str []), (.str []), (.str []), (.int .i64 0), (.cst (.slice none 0 0))] 8),
  oP pdN (eStore 8 (slotG 13) (slotG 61))]
noncomputable def R11_19 : CT :=
  .reg [
  oP (pdT 62) (e1 (cAddo 0) (slotG 13)),
  oP (pdT 63) (eLoad1 (slotG 62)),
  oP (pdT 64) (e2 (cEq true .num) (slotG 63) (constG (.int .i64 0)))]
noncomputable def R11_20 : CT :=
  .reg [
  oP (pdT 65) (eMov (slotG 7)),
  oP (pdT 66) (eLoadN 8 (slotG 13)),
  oP (pdT 67) (eBslice [(.int .i64 0), (.int .i64 0), (.int .i64 0), (.str []), (.str []), (.str []), (.int .i64 0), (.cst (.slice none 0 0))] 1 8 [(0, 8, (slotG 66))]),
  vP (pdT 68) (slotG 65) [(slotG 67)]]
noncomputable def R11_21 : CT :=
  .reg [
  oP (pdT 69) (e2 (cBin .add) (slotG 58) (constG (.int .i64 1))),
  oP (pdT 58) (eMov (slotG 69))]
noncomputable def L11_1 : CT := (.seq R11_17 (.seq (.cond (slotG 59) .skip (.exit 4)) (.seq (.block 5 (.seq R11_18 (.seq R11_19 (.cond (slotG 64) R11_20 .skip)))) R11_21)))
noncomputable def R11_22 : CT :=
  .reg [
  oP (pdT 70) (e2 (cBin .add) (slotG 44) (constG (.int .i64 1))),
  oP (pdT 44) (eMov (slotG 70))]
noncomputable def L11_2 : CT := (.seq R11_13 (.seq (.cond (slotG 45) .skip (.exit 2)) (.seq (.block 3 (.seq R11_14 (.seq R11_15 (.seq R11_16 (.block 4 (.loop L11_1)))))) R11_22)))
noncomputable def R11_23 : CT :=
  .drw [71, 72, 73] [
  oI [4] (pdT 71) (eLoad1 (slotG 4)) 1,
  mI [4, 71] pdN (eStore 1 (slotG 4) (slotG 71)),
  oI [6] (pdT 72) (eLoad1 (slotG 6)) 2,
  oI [72] (pdT 73) (e2 (cBin .add) (constG (.int .i64 18)) (slotG 72)) 2,
  oI [73] (pdT 5) (eMov (slotG 73)) 1]
noncomputable def B11 : CT := (.seq R11_0 (.seq R11_1 (.seq R11_2 (.seq R11_3 (.seq (.seq R11_4 (.block 0 (.loop L11_0))) (.seq R11_9 (.seq R11_10 (.seq R11_11 (.seq (.seq R11_12 (.block 2 (.loop L11_2))) (.seq R11_23 .ret))))))))))
noncomputable def A11 : CF := { res := [rCel1 4, rTmp 5], code := B11, nt := 74 }
theorem c11 : ctF Tryz.prog 11 = some A11 := by kernel_rfl

/-! 12: (*cadastre/emit.emitter).open -/
noncomputable def R12_0 : CT :=
  .reg [
  oP (pdT 4) (eBox (slotG 0)),
  oP (pdT 6) (eBox (slotG 2)),
  oP (pdT 8) (eAlloc [(.cst (.pointer none))] 1),
  oP (pdT 9) (eMov (constG (.cst .nilFunc)))]
noncomputable def R12_1 : CT :=
  .reg [
  oP (pdT 15) (e1 (cAddo 1) (slotG 6)),
  oP (pdT 16) (eLoad1 (slotG 15)),
  oP (pdT 17) (e2 (cEq false .num) (slotG 16) (constG (.int .u32 0)))]
noncomputable def R12_2 : CT :=
  .reg [
  oP (pdT 18) (eLoad1 (slotG 4)),
  oP (pdT 19) (eMov (slotG 1)),
  oP (pdT 20) (e1 (cAddo 0) (slotG 6)),
  oP (pdT 21) (eLoad1 (slotG 20)),
  oP (pdT 22) (eBuild [(.int .i64 0), (.int .i64 0), (.int .i64 0), (.int .i64 0), (.int .i64 0), (.int .i64 0), (.int .i64 0), (.int .u32 0), (.int .i64 0), (.int .i64 0), (.bool false), (.bool false), (.int .i64 0), (.int .i64 0), (.str [])] 15 [(0, 1, (constG (.int .i64 1))), (1, 1, (slotG 19)), (7, 1, (slotG 21))]),
  cP (pdT 23) 15 [(slotG 18), (slotG 22)]]
noncomputable def R12_3 : CT :=
  .reg [
  oP (pdT 24) (eMov (slotG 1)),
  oP (pdT 25) (e1 (cAddo 1) (slotG 6)),
  oP (pdT 26) (eLoad1 (slotG 25)),
  oP (pdT 27) (e1 (cAddo 2) (slotG 6)),
  oP (pdT 28) (eLoad1 (slotG 27)),
  oP (pdT 29) (e1 cLenL (slotG 28)),
  oP (pdT 30) (e1 (cAddo 11) (slotG 6)),
  oP (pdT 31) (eLoad1 (slotG 30)),
  oP (pdT 32) (e1 (cAddo 20) (slotG 6)),
  oP (pdT 33) (eLoad1 (slotG 32)),
  oP (pdT 34) (eBuild [(.int .i64 0), (.int .i64 0), (.int .i64 0), (.int .i64 0), (.int .i64 0), (.int .i64 0), (.int .i64 0), (.int .u32 0), (.int .i64 0), (.int .i64 0), (.bool false), (.bool false), (.int .i64 0), (.int .i64 0), (.str [])] 15 [(0, 1, (constG (.int .i64 2))), (1, 1, (slotG 24)), (7, 1, (slotG 26)), (4, 1, (slotG 29)), (8, 1, (constG (.int .i64 (-1)))), (9, 1, (constG (.int .i64 (-1)))), (10, 1, (slotG 31)), (11, 1, (slotG 33))]),
  oP (pdT 10) (eAlloc [(.int .i64 0), (.int .i64 0), (.int .i64 0), (.int .i64 0), (.int .i64 0), (.int .i64 0), (.int .i64 0), (.int .u32 0), (.int .i64 0), (.int .i64 0), (.bool false), (.bool false), (.int .i64 0), (.int .i64 0), (.str [])] 15),
  oP pdN (eStore 15 (slotG 10) (slotG 34))]
noncomputable def R12_4 : CT :=
  .reg [
  oP (pdT 11) (eMov (constG (.int .i64 0)))]
noncomputable def R12_5 : CT :=
  .reg [
  oP (pdT 35) (e1 (cAddo 2) (slotG 6)),
  oP (pdT 36) (eLoad1 (slotG 35)),
  oP (pdT 37) (e1 cLenL (slotG 36)),
  oP (pdT 38) (eMov (constG (.int .i64 0)))]
noncomputable def R12_6 : CT :=
  .reg [
  oP (pdT 39) (e2 (cBin .lss) (slotG 38) (slotG 37))]
noncomputable def R12_7 : CT :=
  .reg [
  oP (pdT 40) (e2 (cIxa 8) (slotG 36) (slotG 38)),
  oP (pdT 41) (eLoadN 8 (slotG 40)),
  oP (pdT 13) (eAlloc [(.int .i64 0), (.int .i64 0), (.int .i64 0), (.str []), (.str []), (.str []), (.int .i64 0), (.cst (.slice none 0 0))] 8),
  oP pdN (eStore 8 (slotG 13) (slotG 41))]
noncomputable def R12_8 : CT :=
  .reg [
  oP (pdT 42) (eLoad1 (slotG 4)),
  oP (pdT 43) (eLoadN 8 (slotG 13)),
  oP (pdT 44) (eMov (slotG 11)),
  oP (pdT 45) (eMov (slotG 3)),
  cP (pdT 46) 38 [(slotG 42), (slotG 43), (slotG 44), (slotG 45)]]
noncomputable def R12_9 : CT :=
  .reg [
  oP (pdT 47) (eMov (slotG 11)),
  oP (pdT 48) (e2 (cBin .add) (slotG 47) (constG (.int .i64 1))),
  oP (pdT 11) (eMov (slotG 48))]
noncomputable def R12_10 : CT :=
  .reg [
  oP (pdT 49) (e2 (cBin .add) (slotG 38) (constG (.int .i64 1))),
  oP (pdT 38) (eMov (slotG 49))]
noncomputable def L12_0 : CT := (.seq R12_6 (.seq (.cond (slotG 39) .skip (.exit 0)) (.seq (.block 1 (.seq R12_7 (.seq R12_8 R12_9))) R12_10)))
noncomputable def R12_11 : CT :=
  .reg [
  oP (pdT 50) (e1 (cAddo 3) (slotG 6)),
  oP (pdT 51) (e1 (cAddo 0) (slotG 50)),
  oP (pdT 52) (eLoad1 (slotG 51)),
  oP (pdT 53) (e2 (cEq true .num) (slotG 52) (constG (.int .i64 0)))]
noncomputable def R12_12 : CT :=
  .reg [
  oP (pdT 54) (eLoad1 (slotG 4)),
  oP (pdT 55) (e1 (cAddo 3) (slotG 6)),
  oP (pdT 56) (eLoadN 8 (slotG 55)),
  oP (pdT 57) (eMov (slotG 11)),
  oP (pdT 58) (eMov (slotG 3)),
  cP (pdT 59) 38 [(slotG 54), (slotG 56), (slotG 57), (slotG 58)]]
noncomputable def R12_13 : CT :=
  .reg [
  oP (pdT 60) (eMov (slotG 11)),
  oP (pdT 61) (e1 (cAddo 8) (slotG 10)),
  oP pdN (eStore 1 (slotG 61) (slotG 60))]
noncomputable def R12_14 : CT :=
  .reg [
  oP (pdT 62) (eMov (slotG 11)),
  oP (pdT 63) (e2 (cBin .add) (slotG 62) (constG (.int .i64 1))),
  oP (pdT 11) (eMov (slotG 63))]
noncomputable def R12_15 : CT :=
  .reg [
  oP (pdT 64) (e1 (cAddo 12) (slotG 6)),
  oP (pdT 65) (e1 (cAddo 0) (slotG 64)),
  oP (pdT 66) (eLoad1 (slotG 65)),
  oP (pdT 67) (e2 (cEq true .num) (slotG 66) (constG (.int .i64 0)))]
noncomputable def R12_16 : CT :=
  .reg [
  oP (pdT 68) (eLoad1 (slotG 4)),
  oP (pdT 69) (e1 (cAddo 12) (slotG 6)),
  oP (pdT 70) (eLoadN 8 (slotG 69)),
  oP (pdT 71) (eMov (slotG 11)),
  oP (pdT 72) (eMov (slotG 3)),
  cP (pdT 73) 38 [(slotG 68), (slotG 70), (slotG 71), (slotG 72)]]
noncomputable def R12_17 : CT :=
  .reg [
  oP (pdT 74) (eMov (slotG 11)),
  oP (pdT 75) (e1 (cAddo 9) (slotG 10)),
  oP pdN (eStore 1 (slotG 75) (slotG 74))]
noncomputable def R12_18 : CT :=
  .reg [
  oP (pdT 76) (eLoad1 (slotG 4)),
  oP (pdT 77) (eLoadN 15 (slotG 10)),
  cP (pdT 78) 15 [(slotG 76), (slotG 77)]]
noncomputable def R12_19 : CT :=
  .reg [
  oP (pdT 79) (eLoad1 (slotG 4)),
  oP (pdT 80) (eNilc (slotG 79)),
  oP (pdT 81) (e1 (cAddo 0) (slotG 80)),
  oP (pdT 82) (e1 (cAddo 2) (slotG 81)),
  oP (pdT 83) (eLoad1 (slotG 82)),
  oP (pdT 84) (e1 cLenL (slotG 83)),
  oP (pdT 14) (eAlloc [(.int .i64 0)] 1),
  oP pdN (eStore 1 (slotG 14) (slotG 84))]
noncomputable def R12_20 : CT :=
  .reg [
  oP (pdT 85) (eLoad1 (slotG 4)),
  oP (pdT 86) (eMov (slotG 1)),
  oP (pdT 87) (eBuild [(.int .i64 0), (.int .i64 0), (.int .i64 0), (.int .i64 0), (.int .i64 0), (.int .i64 0), (.int .i64 0), (.int .u32 0), (.int .i64 0), (.int .i64 0), (.bool false), (.bool false), (.int .i64 0), (.int .i64 0), (.str [])] 15 [(0, 1, (constG (.int .i64 3))), (1, 1, (slotG 86))]),
  oP (pdT 88) (eMov (slotG 3)),
  cP (pdT 89) 39 [(slotG 85), (slotG 87), (slotG 88)]]
noncomputable def R12_21 : CT :=
  .reg [
  oP (pdT 90) (eBuild [(.cst (.slice none 0 0))] 1 []),
  oP (pdT 91) (eBox (slotG 90)),
  oP pdN (eStore 1 (slotG 8) (slotG 91))]
noncomputable def R12_22 : CT :=
  .reg [
  oP (pdT 92) (eLoad1 (slotG 8)),
  oP (pdT 93) (eMkfn (.func 40) [] [(slotG 4), (slotG 8), (slotG 14)]),
  oP pdN (eStore 1 (slotG 8) (slotG 92)),
  oP (pdT 9) (eMov (slotG 93))]
noncomputable def B12 : CT := (.seq R12_0 (.seq (.seq R12_1 (.cond (slotG 17) R12_2 (.seq R12_3 (.seq R12_4 (.seq (.seq R12_5 (.block 0 (.loop L12_0))) (.seq (.seq R12_11 (.cond (slotG 53) (.seq R12_12 (.seq R12_13 R12_14)) .skip)) (.seq (.seq R12_15 (.cond (slotG 67) (.seq R12_16 R12_17) .skip)) R12_18))))))) (.seq R12_19 (.seq R12_20 (.seq R12_21 (.seq R12_22 .ret))))))
noncomputable def A12 : CF := { res := [rCel1 8, rTmp 9], code := B12, nt := 94 }
theorem c12 : ctF Tryz.prog 12 = some A12 := by kernel_rfl

/-! 13: (*cadastre/emit.emitter).conditions -/
noncomputable def R13_0 : CT :=
  .reg [
  oP (pdT 8) (eMov (slotG 1)),
  oP (pdT 9) (e1 cLenL (slotG 8)),
  oP (pdT 10) (eMov (constG (.int .i64 0)))]
noncomputable def R13_1 : CT :=
  .reg [
  oP (pdT 11) (e2 (cBin .lss) (slotG 10) (slotG 9))]
noncomputable def R13_2 : CT :=
  .reg [
  oP (pdT 12) (e2 (cIxa 8) (slotG 8) (slotG 10)),
  oP (pdT 13) (eLoadN 8 (slotG 12)),
  oP (pdT 7) (eAlloc [(.int .i64 0), (.int .i64 0), (.int .i64 0), (.str []), (.str []), (.str []), (.int .i64 0), (.cst (.slice none 0 0))] 8),
  oP pdN (eStore 8 (slotG 7) (slotG 13))]
noncomputable def R13_3 : CT :=
  .reg [
  oP (pdT 14) (eMov (slotG 0)),
  oP (pdT 15) (eLoadN 8 (slotG 7)),
  oP (pdT 16) (eMov (slotG 2)),
  cP (pdT 17) 38 [(slotG 14), (slotG 15), (constG (.int .i64 0)), (slotG 16)]]
noncomputable def R13_4 : CT :=
  .reg [
  oP (pdT 18) (eMov (slotG 0)),
  oP (pdT 19) (eBuild [(.int .i64 0), (.int .i64 0), (.int .i64 0), (.int .i64 0), (.int .i64 0), (.int .i64 0), (.int .i64 0), (.int .u32 0), (.int .i64 0), (.int .i64 0), (.bool false), (.bool false), (.int .i64 0), (.int .i64 0), (.str [])] 15 [(0, 1, (constG (.int .i64 7))), (1, 1, (constG (.int .i64 0)))]),
  oP (pdT 20) (eMov (slotG 2)),
  cP (pdT 21) 39 [(slotG 18), (slotG 19), (slotG 20)]]
noncomputable def R13_5 : CT :=
  .reg [
  oP (pdT 22) (e2 (cBin .add) (slotG 10) (constG (.int .i64 1))),
  oP (pdT 10) (eMov (slotG 22))]
noncomputable def L13_0 : CT := (.seq R13_1 (.seq (.cond (slotG 11) .skip (.exit 0)) (.seq (.block 1 (.seq R13_2 (.seq R13_3 R13_4))) R13_5)))
noncomputable def B13 : CT := (.seq R13_0 (.block 0 (.loop L13_0)))
noncomputable def A13 : CF := { res := [], code := B13, nt := 23 }
theorem c13 : ctF Tryz.prog 13 = some A13 := by kernel_rfl

/-! 14: (*cadastre/emit.emitter).values -/
noncomputable def R14_0 : CT :=
  .reg [
  oP (pdT 7) (eMov (slotG 1)),
  oP (pdT 8) (e1 cLenL (slotG 7)),
  oP (pdT 9) (eMov (constG (.int .i64 0)))]
noncomputable def R14_1 : CT :=
  .reg [
  oP (pdT 10) (e2 (cBin .lss) (slotG 9) (slotG 8))]
noncomputable def R14_2 : CT :=
  .reg [
  oP (pdT 11) (eMov (slotG 9)),
  oP (pdT 12) (e2 (cIxa 8) (slotG 7) (slotG 9)),
  oP (pdT 13) (eLoadN 8 (slotG 12)),
  oP (pdT 5) (eAlloc [(.int .i64 0), (.int .i64 0), (.int .i64 0), (.str []), (.str []), (.str []), (.int .i64 0), (.cst (.slice none 0 0))] 8),
  oP (pdT 4) (eMov (slotG 11)),
  oP pdN (eStore 8 (slotG 5) (slotG 13))]
noncomputable def R14_3 : CT :=
  .reg [
  oP (pdT 14) (eBuild [(.cst (.slice none 0 0))] 1 []),
  oP (pdT 15) (eBox (slotG 14)),
  oP (pdT 6) (eMov (slotG 15))]
noncomputable def R14_4 : CT :=
  .reg [
  oP (pdT 16) (eMov (slotG 0)),
  oP (pdT 17) (eLoadN 8 (slotG 5)),
  oP (pdT 18) (eMov (slotG 4)),
  oP (pdT 19) (eMov (slotG 6)),
  cP (pdT 20) 38 [(slotG 16), (slotG 17), (slotG 18), (slotG 19)]]
noncomputable def R14_5 : CT :=
  .reg [
  oP (pdT 21) (eMov (slotG 0)),
  oP (pdT 22) (eMov (slotG 6)),
  cP (pdT 23) 16 [(slotG 21), (slotG 22)]]
noncomputable def R14_6 : CT :=
  .reg [
  oP (pdT 24) (e2 (cBin .add) (slotG 9) (constG (.int .i64 1))),
  oP (pdT 9) (eMov (slotG 24))]
noncomputable def L14_0 : CT := (.seq R14_1 (.seq (.cond (slotG 10) .skip (.exit 0)) (.seq (.block 1 (.seq R14_2 (.seq R14_3 (.seq R14_4 R14_5)))) R14_6)))
noncomputable def B14 : CT := (.seq R14_0 (.block 0 (.loop L14_0)))
noncomputable def A14 : CF := { res := [], code := B14, nt := 25 }
theorem c14 : ctF Tryz.prog 14 = some A14 := by kernel_rfl

/-! 15: (*cadastre/emit.emitter).put -/
noncomputable def R15_0 : CT :=
  .reg [
  oP (pdT 3) (eBox (slotG 1)),
  oP (pdT 4) (eMov (constG (.int .i64 0)))]
noncomputable def R15_1 : CT :=
  .drw [5, 6, 7, 8, 9, 10, 11, 12, 13, 14, 15, 16] [
  oI [0] (pdT 6) (eMov (slotG 0)) 1,
  oI [6] (pdT 7) (eNilc (slotG 6)) 1,
  oI [7] (pdT 8) (e1 (cAddo 0) (slotG 7)) 1,
  oI [8] (pdT 9) (e1 (cAddo 2) (slotG 8)) 1,
  oI [9] (pdT 10) (eLoad1 (slotG 9)) 1,
  oI [3] (pdT 11) (eLoadN 15 (slotG 3)) 1,
  oI [11] (pdT 12) (eBslice [(.int .i64 0), (.int .i64 0), (.int .i64 0), (.int .i64 0), (.int .i64 0), (.int .i64 0), (.int .i64 0), (.int .u32 0), (.int .i64 0), (.int .i64 0), (.bool false), (.bool false), (.int .i64 0), (.int .i64 0), (.str [])] 1 15 [(0, 15, (slotG 11))]) 1,
  mI [10, 12] (pdT 13) (eApp 15 120 (slotG 10) (slotG 12)),
  oI [0] (pdT 5) (eMov (slotG 0)) 2,
  oI [5] (pdT 14) (eNilc (slotG 5)) 1,
  oI [14] (pdT 15) (e1 (cAddo 0) (slotG 14)) 1,
  oI [15] (pdT 16) (e1 (cAddo 2) (slotG 15)) 1,
  mI [16, 13] pdN (eStore 1 (slotG 16) (slotG 13))]
noncomputable def R15_2 : CT :=
  .reg [
  oP (pdT 17) (eMov (slotG 0)),
  oP (pdT 18) (eNilc (slotG 17)),
  oP (pdT 19) (e1 (cAddo 0) (slotG 18)),
  oP (pdT 20) (e1 (cAddo 2) (slotG 19)),
  oP (pdT 21) (eLoad1 (slotG 20)),
  oP (pdT 22) (e1 cLenL (slotG 21)),
  oP (pdT 23) (e2 (cBin .sub) (slotG 22) (constG (.int .i64 1))),
  oP (pdT 4) (eMov (slotG 23))]
noncomputable def B15 : CT := (.seq R15_0 (.seq R15_1 (.seq R15_2 .ret)))
noncomputable def A15 : CF := { res := [rTmp 4], code := B15, nt := 24 }
theorem c15 : ctF Tryz.prog 15 = some A15 := by kernel_rfl

/-! 16: (*cadastre/emit.emitter).here -/
noncomputable def R16_0 : CT :=
  .reg [
  oP (pdT 6) (eMov (slotG 1)),
  oP (pdT 7) (eNilc (slotG 6)),
  oP (pdT 8) (e1 (cAddo 0) (slotG 7)),
  oP (pdT 9) (eLoad1 (slotG 8)),
  oP (pdT 10) (e1 cLenL (slotG 9)),
  oP (pdT 11) (eMov (constG (.int .i64 0)))]
noncomputable def R16_1 : CT :=
  .reg [
  oP (pdT 12) (e2 (cBin .lss) (slotG 11) (slotG 10))]
noncomputable def R16_2 : CT :=
  .reg [
  oP (pdT 13) (e2 (cIxa 1) (slotG 9) (slotG 11)),
  oP (pdT 14) (eLoad1 (slotG 13)),
  oP (pdT 5) (eMov (slotG 14))]
noncomputable def R16_3 : CT :=
  .drw [15, 16, 17, 18, 19, 20, 21, 22, 23, 24, 25, 26, 27, 28] [
  oI [0] (pdT 15) (eMov (slotG 0)) 1,
  oI [15] (pdT 16) (eNilc (slotG 15)) 1,
  oI [16] (pdT 17) (e1 (cAddo 0) (slotG 16)) 1,
  oI [17] (pdT 18) (e1 (cAddo 2) (slotG 17)) 1,
  oI [18] (pdT 19) (eLoad1 (slotG 18)) 1,
  oI [5] (pdT 20) (eMov (slotG 5)) 1,
  oI [0] (pdT 21) (eMov (slotG 0)) 1,
  oI [21] (pdT 22) (eNilc (slotG 21)) 1,
  oI [22] (pdT 23) (e1 (cAddo 0) (slotG 22)) 1,
  oI [23] (pdT 24) (e1 (cAddo 2) (slotG 23)) 1,
  oI [24] (pdT 25) (eLoad1 (slotG 24)) 1,
  oI [25] (pdT 26) (e1 cLenL (slotG 25)) 1,
  oI [19, 20] (pdT 27) (e2 (cIxa 15) (slotG 19) (slotG 20)) 1,
  oI [27] (pdT 28) (e1 (cAddo 5) (slotG 27)) 1,
  mI [28, 26] pdN (eStore 1 (slotG 28) (slotG 26))]
noncomputable def R16_4 : CT :=
  .reg [
  oP (pdT 29) (e2 (cBin .add) (slotG 11) (constG (.int .i64 1))),
  oP (pdT 11) (eMov (slotG 29))]
noncomputable def L16_0 : CT := (.seq R16_1 (.seq (.cond (slotG 12) .skip (.exit 0)) (.seq (.block 1 (.seq R16_2 R16_3)) R16_4)))
noncomputable def R16_5 : CT :=
  .reg [
  oP (pdT 30) (eMov (slotG 1)),
  oP (pdT 31) (eNilc (slotG 30)),
  oP (pdT 32) (e1 (cAddo 0) (slotG 31)),
  oP pdN (eStore 1 (slotG 32) (constG (.cst (.slice none 0 0))))]
noncomputable def B16 : CT := (.seq (.seq R16_0 (.block 0 (.loop L16_0))) R16_5)
noncomputable def A16 : CF := { res := [], code := B16, nt := 33 }
theorem c16 : ctF Tryz.prog 16 = some A16 := by kernel_rfl

/-! 17: cadastre/cadastreref24.Instr -/
noncomputable def R17_0 : CT :=
  .reg [
  oP (pdT 2) (eBox (slotG 0)),
  oP (pdT 3) (eBox (slotG 1)),
  oP (pdT 4) (eMov (constG (.bool false)))]
noncomputable def R17_1 : CT :=
  .reg [
  oP (pdT 7) (e1 (cAddo 0) (slotG 3)),
  oP (pdT 8) (eLoad1 (slotG 7)),
  oP (pdT 9) (e2 (cEq false .num) (slotG 8) (constG (.int .i64 1)))]
noncomputable def R17_2 : CT :=
  .reg [
  oP (pdT 10) (eLoadN 3 (slotG 2)),
  oP (pdT 11) (e1 (cAddo 1) (slotG 3)),
  oP (pdT 12) (eLoad1 (slotG 11)),
  cP (pdT 13) 41 [(slotG 10), (slotG 12)],
  oP (pdT 4) (eMov (slotG 13))]
noncomputable def R17_3 : CT :=
  .reg [
  oP (pdT 14) (e1 (cAddo 0) (slotG 3)),
  oP (pdT 15) (eLoad1 (slotG 14)),
  oP (pdT 16) (e2 (cEq false .num) (slotG 15) (constG (.int .i64 2)))]
noncomputable def R17_4 : CT :=
  .reg [
  oP (pdT 17) (eLoadN 3 (slotG 2)),
  oP (pdT 18) (e1 (cAddo 1) (slotG 3)),
  oP (pdT 19) (eLoad1 (slotG 18)),
  cP (pdT 20) 41 [(slotG 17), (slotG 19)],
  oP (pdT 21) (eMov (slotG 20)),
  gP (slotG 21) true (pdT 22) (eLoadN 3 (slotG 2)),
  gP (slotG 21) true (pdT 23) (e1 (cAddo 2) (slotG 3)),
  gP (slotG 21) true (pdT 24) (eLoad1 (slotG 23)),
  gP (slotG 21) true (pdT 25) (e1 (cAddo 4) (slotG 3)),
  gP (slotG 21) true (pdT 26) (eLoad1 (slotG 25)),
  gcP (slotG 21) true (pdT 27) 42 [(slotG 22), (slotG 24), (slotG 26)],
  oP (pdT 28) (ePick (slotG 21) (slotG 27) (constG (.bool false))),
  oP (pdT 29) (eMov (slotG 28)),
  gP (slotG 29) true (pdT 30) (e1 (cAddo 8) (slotG 3)),
  gP (slotG 29) true (pdT 31) (eLoad1 (slotG 30)),
  gP (slotG 29) true (pdT 32) (e2 (cEq false .num) (slotG 31) (constG (.int .i64 (-1)))),
  gP (slotG 29) true (pdT 33) (eMov (slotG 32)),
  gP (slotG 33) false (pdT 34) (eLoadN 3 (slotG 2)),
  gP (slotG 33) false (pdT 35) (e1 (cAddo 8) (slotG 3)),
  gP (slotG 33) false (pdT 36) (eLoad1 (slotG 35)),
  gcP (slotG 33) false (pdT 37) 43 [(slotG 34), (slotG 36)],
  gP (slotG 29) true (pdT 38) (ePick (slotG 33) (constG (.bool true)) (slotG 37)),
  oP (pdT 39) (ePick (slotG 29) (slotG 38) (constG (.bool false))),
  oP (pdT 40) (eMov (slotG 39)),
  gP (slotG 40) true (pdT 41) (e1 (cAddo 9) (slotG 3)),
  gP (slotG 40) true (pdT 42) (eLoad1 (slotG 41)),
  gP (slotG 40) true (pdT 43) (e2 (cEq false .num) (slotG 42) (constG (.int .i64 (-1)))),
  gP (slotG 40) true (pdT 44) (eMov (slotG 43)),
  gP (slotG 44) false (pdT 45) (eLoadN 3 (slotG 2)),
  gP (slotG 44) false (pdT 46) (e1 (cAddo 9) (slotG 3)),
  gP (slotG 44) false (pdT 47) (eLoad1 (slotG 46)),
  gcP (slotG 44) false (pdT 48) 43 [(slotG 45), (slotG 47)],
  gP (slotG 40) true (pdT 49) (ePick (slotG 44) (constG (.bool true)) (slotG 48)),
  oP (pdT 50) (ePick (slotG 40) (slotG 49) (constG (.bool false))),
  oP (pdT 4) (eMov (slotG 50))]
noncomputable def R17_5 : CT :=
  .reg [
  oP (pdT 51) (e1 (cAddo 0) (slotG 3)),
  oP (pdT 52) (eLoad1 (slotG 51)),
  oP (pdT 53) (e2 (cEq false .num) (slotG 52) (constG (.int .i64 3)))]
noncomputable def R17_6 : CT :=
  .reg [
  oP (pdT 54) (eLoadN 3 (slotG 2)),
  oP (pdT 55) (e1 (cAddo 1) (slotG 3)),
  oP (pdT 56) (eLoad1 (slotG 55)),
  cP (pdT 57) 41 [(slotG 54), (slotG 56)],
  oP (pdT 58) (eMov (slotG 57)),
  gP (slotG 58) true (pdT 59) (eLoadN 3 (slotG 2)),
  gP (slotG 58) true (pdT 60) (e1 (cAddo 5) (slotG 3)),
  gP (slotG 58) true (pdT 61) (eLoad1 (slotG 60)),
  gcP (slotG 58) true (pdT 62) 44 [(slotG 59), (slotG 61)],
  oP (pdT 63) (ePick (slotG 58) (slotG 62) (constG (.bool false))),
  oP (pdT 4) (eMov (slotG 63))]
noncomputable def R17_7 : CT :=
  .reg [
  oP (pdT 64) (e1 (cAddo 0) (slotG 3)),
  oP (pdT 65) (eLoad1 (slotG 64)),
  oP (pdT 66) (e2 (cEq false .num) (slotG 65) (constG (.int .i64 4)))]
noncomputable def R17_8 : CT :=
  .reg [
  oP (pdT 67) (eLoadN 3 (slotG 2)),
  oP (pdT 68) (e1 (cAddo 1) (slotG 3)),
  oP (pdT 69) (eLoad1 (slotG 68)),
  cP (pdT 70) 43 [(slotG 67), (slotG 69)],
  oP (pdT 71) (eMov (slotG 70)),
  gP (slotG 71) true (pdT 72) (eLoadN 3 (slotG 2)),
  gP (slotG 71) true (pdT 73) (e1 (cAddo 2) (slotG 3)),
  gP (slotG 71) true (pdT 74) (eLoad1 (slotG 73)),
  gcP (slotG 71) true (pdT 75) 41 [(slotG 72), (slotG 74)],
  oP (pdT 76) (ePick (slotG 71) (slotG 75) (constG (.bool false))),
  oP (pdT 77) (eMov (slotG 76)),
  gP (slotG 77) true (pdT 78) (e1 (cAddo 3) (slotG 3)),
  gP (slotG 77) true (pdT 79) (eLoad1 (slotG 78)),
  gP (slotG 77) true (pdT 80) (e2 (cBin .geq) (slotG 79) (constG (.int .i64 0))),
  oP (pdT 81) (ePick (slotG 77) (slotG 80) (constG (.bool false))),
  oP (pdT 82) (eMov (slotG 81)),
  gP (slotG 82) true (pdT 83) (e1 (cAddo 3) (slotG 3)),
  gP (slotG 82) true (pdT 84) (eLoad1 (slotG 83)),
  gP (slotG 82) true (pdT 85) (e2 (cBin .lss) (slotG 84) (constG (.int .i64 16))),
  oP (pdT 86) (ePick (slotG 82) (slotG 85) (constG (.bool false))),
  oP (pdT 4) (eMov (slotG 86))]
noncomputable def R17_9 : CT :=
  .reg [
  oP (pdT 87) (e1 (cAddo 0) (slotG 3)),
  oP (pdT 88) (eLoad1 (slotG 87)),
  oP (pdT 89) (e2 (cEq false .num) (slotG 88) (constG (.int .i64 5)))]
noncomputable def R17_10 : CT :=
  .reg [
  oP (pdT 90) (eLoadN 3 (slotG 2)),
  oP (pdT 91) (e1 (cAddo 1) (slotG 3)),
  oP (pdT 92) (eLoad1 (slotG 91)),
  cP (pdT 93) 43 [(slotG 90), (slotG 92)],
  oP (pdT 94) (eMov (slotG 93)),
  gP (slotG 94) true (pdT 95) (e1 (cAddo 12) (slotG 3)),
  gP (slotG 94) true (pdT 96) (eLoadN 3 (slotG 95)),
  gcP (slotG 94) true (pdT 97) 45 [(slotG 96)],
  oP (pdT 98) (ePick (slotG 94) (slotG 97) (constG (.bool false))),
  oP (pdT 4) (eMov (slotG 98))]
noncomputable def R17_11 : CT :=
  .reg [
  oP (pdT 99) (e1 (cAddo 0) (slotG 3)),
  oP (pdT 100) (eLoad1 (slotG 99)),
  oP (pdT 101) (e2 (cEq false .num) (slotG 100) (constG (.int .i64 6)))]
noncomputable def R17_12 : CT :=
  .reg [
  oP (pdT 102) (e1 (cAddo 6) (slotG 3)),
  oP (pdT 103) (eLoad1 (slotG 102)),
  oP (pdT 104) (e2 (cBin .geq) (slotG 103) (constG (.int .i64 8))),
  oP (pdT 105) (eMov (slotG 104)),
  gP (slotG 105) true (pdT 106) (e1 (cAddo 6) (slotG 3)),
  gP (slotG 105) true (pdT 107) (eLoad1 (slotG 106)),
  gP (slotG 105) true (pdT 108) (e2 (cBin .leq) (slotG 107) (constG (.int .i64 21))),
  oP (pdT 109) (ePick (slotG 105) (slotG 108) (constG (.bool false))),
  oP (pdT 5) (eMov (slotG 109))]
noncomputable def R17_13 : CT :=
  .reg [
  oP (pdT 110) (e1 (cAddo 6) (slotG 3)),
  oP (pdT 111) (eLoad1 (slotG 110)),
  oP (pdT 112) (e2 (cEq false .num) (slotG 111) (constG (.int .i64 4))),
  oP (pdT 113) (eMov (slotG 112)),
  gP (slotG 113) false (pdT 114) (e1 (cAddo 6) (slotG 3)),
  gP (slotG 113) false (pdT 115) (eLoad1 (slotG 114)),
  gP (slotG 113) false (pdT 116) (e2 (cEq false .num) (slotG 115) (constG (.int .i64 5))),
  oP (pdT 117) (ePick (slotG 113) (constG (.bool true)) (slotG 116)),
  oP (pdT 118) (eMov (slotG 117)),
  gP (slotG 118) false (pdT 119) (e1 (cAddo 6) (slotG 3)),
  gP (slotG 118) false (pdT 120) (eLoad1 (slotG 119)),
  gP (slotG 118) false (pdT 121) (e2 (cEq false .num) (slotG 120) (constG (.int .i64 6))),
  oP (pdT 122) (ePick (slotG 118) (constG (.bool true)) (slotG 121)),
  oP (pdT 123) (eMov (slotG 122)),
  gP (slotG 123) false (pdT 124) (e1 (cAddo 6) (slotG 3)),
  gP (slotG 123) false (pdT 125) (eLoad1 (slotG 124)),
  gP (slotG 123) false (pdT 126) (e2 (cEq false .num) (slotG 125) (constG (.int .i64 7))),
  oP (pdT 127) (ePick (slotG 123) (constG (.bool true)) (slotG 126)),
  oP (pdT 6) (eMov (slotG 127))]
noncomputable def R17_14 : CT :=
  .reg [
  oP (pdT 128) (eLoadN 3 (slotG 2)),
  oP (pdT 129) (e1 (cAddo 1) (slotG 3)),
  oP (pdT 130) (eLoad1 (slotG 129)),
  cP (pdT 131) 43 [(slotG 128), (slotG 130)],
  oP (pdT 132) (eMov (slotG 131)),
  gP (slotG 132) true (pdT 133) (eLoadN 3 (slotG 2)),
  gP (slotG 132) true (pdT 134) (e1 (cAddo 2) (slotG 3)),
  gP (slotG 132) true (pdT 135) (eLoad1 (slotG 134)),
  gcP (slotG 132) true (pdT 136) 43 [(slotG 133), (slotG 135)],
  oP (pdT 137) (ePick (slotG 132) (slotG 136) (constG (.bool false))),
  oP (pdT 138) (eMov (slotG 137)),
  gP (slotG 138) true (pdT 139) (eMov (slotG 6)),
  gP (slotG 138) true (pdT 140) (eMov (slotG 139)),
  gP (slotG 140) false (pdT 141) (eMov (slotG 5)),
  gP (slotG 140) false (pdT 142) (eMov (slotG 141)),
  gP (slotG 142) true (pdT 143) (eLoadN 3 (slotG 2)),
  gP (slotG 142) true (pdT 144) (e1 (cAddo 3) (slotG 3)),
  gP (slotG 142) true (pdT 145) (eLoad1 (slotG 144)),
  gcP (slotG 142) true (pdT 146) 43 [(slotG 143), (slotG 145)],
  gP (slotG 140) false (pdT 147) (ePick (slotG 142) (slotG 146) (constG (.bool false))),
  gP (slotG 138) true (pdT 148) (ePick (slotG 140) (constG (.bool true)) (slotG 147)),
  oP (pdT 149) (ePick (slotG 138) (slotG 148) (constG (.bool false))),
  oP (pdT 150) (eMov (slotG 149)),
  gP (slotG 150) true (pdT 151) (eLoadN 3 (slotG 2)),
  gP (slotG 150) true (pdT 152) (e1 (cAddo 5) (slotG 3)),
  gP (slotG 150) true (pdT 153) (eLoad1 (slotG 152)),
  gcP (slotG 150) true (pdT 154) 44 [(slotG 151), (slotG 153)],
  oP (pdT 155) (ePick (slotG 150) (slotG 154) (constG (.bool false))),
  oP (pdT 4) (eMov (slotG 155))]
noncomputable def R17_15 : CT :=
  .reg [
  oP (pdT 156) (e1 (cAddo 0) (slotG 3)),
  oP (pdT 157) (eLoad1 (slotG 156)),
  oP (pdT 158) (e2 (cEq false .num) (slotG 157) (constG (.int .i64 7)))]
noncomputable def R17_16 : CT :=
  .reg [
  oP (pdT 159) (eLoadN 3 (slotG 2)),
  oP (pdT 160) (e1 (cAddo 1) (slotG 3)),
  oP (pdT 161) (eLoad1 (slotG 160)),
  cP (pdT 162) 43 [(slotG 159), (slotG 161)],
  oP (pdT 163) (eMov (slotG 162)),
  gP (slotG 163) true (pdT 164) (eLoadN 3 (slotG 2)),
  gP (slotG 163) true (pdT 165) (e1 (cAddo 5) (slotG 3)),
  gP (slotG 163) true (pdT 166) (eLoad1 (slotG 165)),
  gcP (slotG 163) true (pdT 167) 44 [(slotG 164), (slotG 166)],
  oP (pdT 168) (ePick (slotG 163) (slotG 167) (constG (.bool false))),
  oP (pdT 4) (eMov (slotG 168))]
noncomputable def R17_17 : CT :=
  .reg [
  oP (pdT 169) (e1 (cAddo 0) (slotG 3)),
  oP (pdT 170) (eLoad1 (slotG 169)),
  oP (pdT 171) (e2 (cEq false .num) (slotG 170) (constG (.int .i64 8)))]
noncomputable def R17_18 : CT :=
  .reg [
  oP (pdT 172) (eLoadN 3 (slotG 2)),
  oP (pdT 173) (e1 (cAddo 1) (slotG 3)),
  oP (pdT 174) (eLoad1 (slotG 173)),
  oP (pdT 175) (e1 (cAddo 4) (slotG 3)),
  oP (pdT 176) (eLoad1 (slotG 175)),
  cP (pdT 177) 42 [(slotG 172), (slotG 174), (slotG 176)],
  oP (pdT 4) (eMov (slotG 177))]
noncomputable def R17_19 : CT :=
  .reg [
  oP (pdT 178) (e1 (cAddo 0) (slotG 3)),
  oP (pdT 179) (eLoad1 (slotG 178)),
  oP (pdT 180) (e2 (cEq false .num) (slotG 179) (constG (.int .i64 9)))]
noncomputable def R17_20 : CT :=
  .reg [
  oP (pdT 181) (eLoadN 3 (slotG 2)),
  oP (pdT 182) (e1 (cAddo 1) (slotG 3)),
  oP (pdT 183) (eLoad1 (slotG 182)),
  cP (pdT 184) 41 [(slotG 181), (slotG 183)],
  oP (pdT 185) (eMov (slotG 184)),
  gP (slotG 185) true (pdT 186) (eLoadN 3 (slotG 2)),
  gP (slotG 185) true (pdT 187) (e1 (cAddo 2) (slotG 3)),
  gP (slotG 185) true (pdT 188) (eLoad1 (slotG 187)),
  gP (slotG 185) true (pdT 189) (e1 (cAddo 4) (slotG 3)),
  gP (slotG 185) true (pdT 190) (eLoad1 (slotG 189)),
  gcP (slotG 185) true (pdT 191) 42 [(slotG 186), (slotG 188), (slotG 190)],
  oP (pdT 192) (ePick (slotG 185) (slotG 191) (constG (.bool false))),
  oP (pdT 4) (eMov (slotG 192))]
noncomputable def R17_21 : CT :=
  .reg [
  oP (pdT 193) (e1 (cAddo 0) (slotG 3)),
  oP (pdT 194) (eLoad1 (slotG 193)),
  oP (pdT 195) (e2 (cEq false .num) (slotG 194) (constG (.int .i64 10)))]
noncomputable def R17_22 : CT :=
  .reg [
  oP (pdT 196) (eLoadN 3 (slotG 2)),
  oP (pdT 197) (e1 (cAddo 5) (slotG 3)),
  oP (pdT 198) (eLoad1 (slotG 197)),
  cP (pdT 199) 44 [(slotG 196), (slotG 198)],
  oP (pdT 4) (eMov (slotG 199))]
noncomputable def R17_23 : CT :=
  .reg [
  oP (pdT 200) (e1 (cAddo 0) (slotG 3)),
  oP (pdT 201) (eLoad1 (slotG 200)),
  oP (pdT 202) (e2 (cEq false .num) (slotG 201) (constG (.int .i64 11))),
  oP (pdT 4) (eMov (slotG 202))]
noncomputable def B17 : CT := (.seq R17_0 (.seq (.seq R17_1 (.cond (slotG 9) (.seq R17_2 .ret) .skip)) (.seq (.seq R17_3 (.cond (slotG 16) (.seq R17_4 .ret) .skip)) (.seq (.seq R17_5 (.cond (slotG 53) (.seq R17_6 .ret) .skip)) (.seq (.seq R17_7 (.cond (slotG 66) (.seq R17_8 .ret) .skip)) (.seq (.seq R17_9 (.cond (slotG 89) (.seq R17_10 .ret) .skip)) (.seq (.seq R17_11 (.cond (slotG 101) (.seq R17_12 (.seq R17_13 (.seq R17_14 .ret))) .skip)) (.seq (.seq R17_15 (.cond (slotG 158) (.seq R17_16 .ret) .skip)) (.seq (.seq R17_17 (.cond (slotG 171) (.seq R17_18 .ret) .skip)) (.seq (.seq R17_19 (.cond (slotG 180) (.seq R17_20 .ret) .skip)) (.seq (.seq R17_21 (.cond (slotG 195) (.seq R17_22 .ret) .skip)) (.seq R17_23 .ret))))))))))))
noncomputable def A17 : CF := { res := [rTmp 4], code := B17, nt := 203 }
theorem c17 : ctF Tryz.prog 17 = some A17 := by kernel_rfl

/-! 19: cadastre/plan.planned -/
noncomputable def R19_0 : CT :=
  .reg [
  oP (pdT 2) (eBox (slotG 0)),
  oP (pdT 3) (eBox (slotG 1)),
  oP (pdT 4) (eAlloc [(.int .i64 0), (.str []), (.int .u32 0), (.str []), (.cst (.slice none 0 0)), (.int .u32 0), (.int .u32 0), (.int .u32 0), (.str []), (.cst (.slice none 0 0)), (.bool false), (.int .u32 0), (.cst (.slice none 0 0)), (.cst (.slice none 0 0)), (.cst (.slice none 0 0)), (.cst (.slice none 0 0)), (.cst (.slice none 0 0)), (.cst (.slice none 0 0)), (.cst (.slice none 0 0)), (.cst (.slice none 0 0)), (.cst (.slice none 0 0)), (.cst (.slice none 0 0)), (.bool false), (.bool false), (.int .i64 0)] 25),
  oP (pdT 5) (eMov (constG (.int .i64 0)))]
noncomputable def R19_1 : CT :=
  .reg [
  oP (pdT 9) (eLoadN 2 (slotG 2)),
  oP (pdT 10) (eLoadN 31 (slotG 3)),
  cP (pdT 11) 10 [(slotG 9), (slotG 10)],
  oP (pdT 8) (eMov (slotG 11)),
  oP (pdT 12) (e1 (cExt 0) (slotG 8)),
  oP (pdT 13) (e1 (cExt 1) (slotG 8)),
  oP (pdT 6) (eAlloc [(.int .i64 0), (.str []), (.int .u32 0), (.str []), (.cst (.slice none 0 0)), (.int .u32 0), (.int .u32 0), (.int .u32 0), (.str []), (.cst (.slice none 0 0)), (.bool false), (.int .u32 0), (.cst (.slice none 0 0)), (.cst (.slice none 0 0)), (.cst (.slice none 0 0)), (.cst (.slice none 0 0)), (.cst (.slice none 0 0)), (.cst (.slice none 0 0)), (.cst (.slice none 0 0)), (.cst (.slice none 0 0)), (.cst (.slice none 0 0)), (.cst (.slice none 0 0)), (.bool false), (.bool false), (.int .i64 0)] 25),
  oP pdN (eStore 25 (slotG 6) (slotG 12)),
  oP (pdT 7) (eMov (slotG 13))]
noncomputable def R19_2 : CT :=
  .reg [
  oP (pdT 14) (eMov (slotG 7)),
  oP (pdT 15) (e2 (cEq false .num) (slotG 14) (constG (.int .i64 0))),
  oP (pdT 16) (eMov (slotG 15)),
  gP (slotG 16) true (pdT 17) (e1 (cAddo 0) (slotG 3)),
  gP (slotG 16) true (pdT 18) (eLoad1 (slotG 17)),
  gP (slotG 16) true (pdT 19) (e2 (cEq true .num) (slotG 18) (constG (.int .i64 8))),
  oP (pdT 20) (ePick (slotG 16) (slotG 19) (constG (.bool false))),
  oP (pdT 21) (eMov (slotG 20)),
  gP (slotG 21) true (pdT 22) (e1 (cAddo 0) (slotG 3)),
  gP (slotG 21) true (pdT 23) (eLoad1 (slotG 22)),
  gP (slotG 21) true (pdT 24) (e2 (cEq true .num) (slotG 23) (constG (.int .i64 6))),
  oP (pdT 25) (ePick (slotG 21) (slotG 24) (constG (.bool false))),
  oP (pdT 26) (eMov (slotG 25)),
  gP (slotG 26) true (pdT 27) (e1 (cAddo 0) (slotG 3)),
  gP (slotG 26) true (pdT 28) (eLoad1 (slotG 27)),
  gP (slotG 26) true (pdT 29) (e2 (cEq true .num) (slotG 28) (constG (.int .i64 7))),
  oP (pdT 30) (ePick (slotG 26) (slotG 29) (constG (.bool false)))]
noncomputable def R19_3 : CT :=
  .reg [
  oP (pdT 7) (eMov (constG (.int .i64 1)))]
noncomputable def R19_4 : CT :=
  .reg [
  oP (pdT 31) (eLoadN 25 (slotG 6)),
  oP (pdT 32) (eMov (slotG 7)),
  oP pdN (eStore 25 (slotG 4) (slotG 31)),
  oP (pdT 5) (eMov (slotG 32))]
noncomputable def B19 : CT := (.seq R19_0 (.seq R19_1 (.seq (.seq R19_2 (.cond (slotG 30) R19_3 .skip)) (.seq R19_4 .ret))))
noncomputable def A19 : CF := { res := [rCelN 4 25, rTmp 5], code := B19, nt := 33 }
theorem c19 : ctF Tryz.prog 19 = some A19 := by kernel_rfl

/-! 20: cadastre/plan.sources -/
noncomputable def R20_0 : CT :=
  .reg [
  oP (pdT 1) (eBox (slotG 0)),
  oP (pdT 2) (eMov (constG (.cst (.slice none 0 0)))),
  oP (pdT 3) (eMov (constG (.cst (.slice none 0 0))))]
noncomputable def R20_1 : CT :=
  .reg [
  oP (pdT 4) (e1 (cAddo 0) (slotG 1)),
  oP (pdT 5) (eLoad1 (slotG 4)),
  oP (pdT 6) (e2 (cEq false .num) (slotG 5) (constG (.int .i64 8)))]
noncomputable def R20_2 : CT :=
  .drw [7, 8, 9, 10] [
  oI [1] (pdT 7) (e1 (cAddo 15) (slotG 1)) 1,
  oI [7] (pdT 8) (eLoad1 (slotG 7)) 1,
  oI [1] (pdT 9) (e1 (cAddo 16) (slotG 1)) 1,
  oI [9] (pdT 10) (eLoad1 (slotG 9)) 1,
  oI [8] (pdT 2) (eMov (slotG 8)) 1,
  oI [10] (pdT 3) (eMov (slotG 10)) 1]
noncomputable def R20_3 : CT :=
  .reg [
  oP (pdT 11) (e1 (cAddo 2) (slotG 1)),
  oP (pdT 12) (eLoadN 4 (slotG 11)),
  oP (pdT 13) (eBslice [(.int .u32 0), (.str []), (.cst (.slice none 0 0)), (.int .u32 0)] 1 4 [(0, 4, (slotG 12))]),
  oP (pdT 14) (eBslice [(.cst (.slice none 0 0))] 1 1 [(0, 1, (constG (.cst (.slice none 0 0))))]),
  oP (pdT 2) (eMov (slotG 13)),
  oP (pdT 3) (eMov (slotG 14))]
noncomputable def B20 : CT := (.seq R20_0 (.seq (.seq R20_1 (.cond (slotG 6) (.seq R20_2 .ret) .skip)) (.seq R20_3 .ret)))
noncomputable def A20 : CF := { res := [rTmp 2, rTmp 3], code := B20, nt := 15 }
theorem c20 : ctF Tryz.prog 20 = some A20 := by kernel_rfl

/-! 22: cadastre/plan.kinds -/
noncomputable def R22_0 : CT :=
  .reg [
  oP (pdT 2) (eMov (constG (.cst (.slice none 0 0))))]
noncomputable def R22_1 : CT :=
  .reg [
  oP (pdT 3) (eMov (constG (.cst (.slice none 0 0))))]
noncomputable def R22_2 : CT :=
  .reg [
  oP (pdT 8) (eMov (slotG 0)),
  oP (pdT 9) (e1 cLenL (slotG 8)),
  oP (pdT 10) (eMov (constG (.int .i64 0)))]
noncomputable def R22_3 : CT :=
  .reg [
  oP (pdT 11) (e2 (cBin .lss) (slotG 10) (slotG 9))]
noncomputable def R22_4 : CT :=
  .reg [
  oP (pdT 12) (e2 (cIxa 4) (slotG 8) (slotG 10)),
  oP (pdT 13) (eLoadN 4 (slotG 12)),
  oP (pdT 5) (eAlloc [(.int .u32 0), (.str []), (.cst (.slice none 0 0)), (.int .u32 0)] 4),
  oP pdN (eStore 4 (slotG 5) (slotG 13))]
noncomputable def R22_5 : CT :=
  .reg [
  oP (pdT 14) (e1 (cAddo 2) (slotG 5)),
  oP (pdT 15) (eLoad1 (slotG 14)),
  oP (pdT 16) (e1 cLenL (slotG 15)),
  oP (pdT 17) (eMov (constG (.int .i64 0)))]
noncomputable def R22_6 : CT :=
  .reg [
  oP (pdT 18) (e2 (cBin .lss) (slotG 17) (slotG 16))]
noncomputable def R22_7 : CT :=
  .reg [
  oP (pdT 19) (e2 (cIxa 3) (slotG 15) (slotG 17)),
  oP (pdT 20) (eLoadN 3 (slotG 19)),
  oP (pdT 7) (eAlloc [(.str []), (.int .i64 0), (.bool false)] 3),
  oP pdN (eStore 3 (slotG 7) (slotG 20))]
noncomputable def R22_8 : CT :=
  .reg [
  oP (pdT 21) (eMov (slotG 3)),
  oP (pdT 22) (e1 (cAddo 1) (slotG 7)),
  oP (pdT 23) (eLoad1 (slotG 22)),
  oP (pdT 24) (eBslice [(.int .i64 0)] 1 1 [(0, 1, (slotG 23))]),
  oP (pdT 25) (eApp 1 8 (slotG 21) (slotG 24)),
  oP (pdT 3) (eMov (slotG 25))]
noncomputable def R22_9 : CT :=
  .reg [
  oP (pdT 26) (e2 (cBin .add) (slotG 17) (constG (.int .i64 1))),
  oP (pdT 17) (eMov (slotG 26))]
noncomputable def L22_0 : CT := (.seq R22_6 (.seq (.cond (slotG 18) .skip (.exit 2)) (.seq (.block 3 (.seq R22_7 R22_8)) R22_9)))
noncomputable def R22_10 : CT :=
  .reg [
  oP (pdT 27) (e2 (cBin .add) (slotG 10) (constG (.int .i64 1))),
  oP (pdT 10) (eMov (slotG 27))]
noncomputable def L22_1 : CT := (.seq R22_3 (.seq (.cond (slotG 11) .skip (.exit 0)) (.seq (.block 1 (.seq R22_4 (.seq R22_5 (.block 2 (.loop L22_0))))) R22_10)))
noncomputable def R22_11 : CT :=
  .reg [
  oP (pdT 28) (eMov (slotG 3)),
  oP (pdT 2) (eMov (slotG 28))]
noncomputable def B22 : CT := (.seq R22_0 (.seq R22_1 (.seq (.seq R22_2 (.block 0 (.loop L22_1))) (.seq R22_11 .ret))))
noncomputable def A22 : CF := { res := [rTmp 2], code := B22, nt := 29 }
theorem c22 : ctF Tryz.prog 22 = some A22 := by kernel_rfl

/-! 29: (*cadastre/bind.binder).fail -/
noncomputable def R29_0 : CT :=
  .reg [
  oP (pdT 6) (eMov (slotG 2)),
  oP (pdT 7) (eMov (slotG 6)),
  gP (slotG 7) true (pdT 8) (eMov (slotG 0)),
  gP (slotG 7) true (pdT 9) (eNilc (slotG 8)),
  gP (slotG 7) true (pdT 10) (e1 (cAddo 2) (slotG 9)),
  gP (slotG 7) true (pdT 11) (eLoad1 (slotG 10)),
  gP (slotG 7) true (pdT 12) (e2 (cEq false .num) (slotG 11) (constG (.int .i64 0))),
  oP (pdT 13) (ePick (slotG 7) (slotG 12) (constG (.bool false)))]
noncomputable def R29_1 : CT :=
  .reg [
  oP (pdT 14) (eMov (slotG 0)),
  oP (pdT 15) (eMov (slotG 1)),
  oP (pdT 16) (eNilc (slotG 14)),
  oP (pdT 17) (e1 (cAddo 2) (slotG 16)),
  oP pdN (eStore 1 (slotG 17) (slotG 15))]
noncomputable def B29 : CT := (.seq R29_0 (.cond (slotG 13) R29_1 .skip))
noncomputable def A29 : CF := { res := [], code := B29, nt := 18 }
theorem c29 : ctF Tryz.prog 29 = some A29 := by kernel_rfl

/-! 32: (*cadastre/bind.binder).condition -/
noncomputable def R32_0 : CT :=
  .reg [
  oP (pdT 4) (eBox (slotG 1)),
  oP (pdT 5) (eBox (slotG 2)),
  oP (pdT 6) (eMov (constG (.cst (.slice none 0 0))))]
noncomputable def R32_1 : CT :=
  .reg [
  oP (pdT 9) (e1 (cAddo 0) (slotG 5)),
  oP (pdT 10) (eLoad1 (slotG 9)),
  oP (pdT 11) (e2 (cEq false .num) (slotG 10) (constG (.int .i64 0)))]
noncomputable def R32_2 : CT :=
  .reg [
  oP (pdT 6) (eMov (constG (.cst (.slice none 0 0))))]
noncomputable def R32_3 : CT :=
  .reg [
  oP (pdT 13) (eMov (slotG 0)),
  oP (pdT 14) (eLoadN 2 (slotG 4)),
  oP (pdT 15) (eLoadN 8 (slotG 5)),
  cP (pdT 16) 81 [(slotG 13), (slotG 14), (slotG 15)],
  oP (pdT 12) (eMov (slotG 16)),
  oP (pdT 17) (e1 (cExt 0) (slotG 12)),
  oP (pdT 18) (e1 (cExt 1) (slotG 12)),
  oP (pdT 7) (eAlloc [(.int .i64 0), (.int .i64 0), (.int .i64 0), (.str []), (.str []), (.str []), (.int .i64 0), (.cst (.slice none 0 0))] 8),
  oP pdN (eStore 8 (slotG 7) (slotG 17)),
  oP (pdT 8) (eMov (slotG 18))]
noncomputable def R32_4 : CT :=
  .reg [
  oP (pdT 19) (eMov (slotG 0)),
  oP (pdT 20) (eMov (slotG 8)),
  oP (pdT 21) (e2 (cEq true .num) (slotG 20) (constG (.int .i64 3))),
  oP (pdT 22) (eMov (slotG 21)),
  gP (slotG 22) true (pdT 23) (eMov (slotG 8)),
  gP (slotG 22) true (pdT 24) (e2 (cEq true .num) (slotG 23) (constG (.int .i64 0))),
  oP (pdT 25) (ePick (slotG 22) (slotG 24) (constG (.bool false))),
  cP (pdT 26) 29 [(slotG 19), (constG (.int .i64 203)), (slotG 25)]]
noncomputable def R32_5 : CT :=
  .reg [
  oP (pdT 27) (eLoadN 8 (slotG 7)),
  cP (pdT 28) 82 [(slotG 27)],
  oP (pdT 6) (eMov (slotG 28))]
noncomputable def B32 : CT := (.seq R32_0 (.seq (.seq R32_1 (.cond (slotG 11) (.seq R32_2 .ret) .skip)) (.seq R32_3 (.seq R32_4 (.seq R32_5 .ret)))))
noncomputable def A32 : CF := { res := [rTmp 6], code := B32, nt := 29 }
theorem c32 : ctF Tryz.prog 32 = some A32 := by kernel_rfl

/-! 35: (*cadastre/bind.binder).query -/
noncomputable def R35_0 : CT :=
  .reg [
  oP (pdT 4) (eBox (slotG 1))]
noncomputable def R35_1 : CT :=
  .reg [
  oP (pdT 6) (eAlloc [(.cst (.slice none 0 0)), (.cst (.slice none 0 0))] 2)]
noncomputable def R35_2 : CT :=
  .reg [
  oP (pdT 16) (e1 (cAddo 3) (slotG 4)),
  oP (pdT 17) (eLoad1 (slotG 16)),
  oP (pdT 18) (e1 cLenL (slotG 17)),
  oP (pdT 19) (eMov (constG (.int .i64 0)))]
noncomputable def R35_3 : CT :=
  .reg [
  oP (pdT 20) (e2 (cBin .lss) (slotG 19) (slotG 18))]
noncomputable def R35_4 : CT :=
  .reg [
  oP (pdT 21) (e2 (cIxa 10) (slotG 17) (slotG 19)),
  oP (pdT 22) (eLoadN 10 (slotG 21)),
  oP (pdT 8) (eAlloc [(.str []), (.str []), (.int .i64 0), (.int .i64 0), (.int .i64 0), (.str []), (.str []), (.str []), (.int .i64 0), (.cst (.slice none 0 0))] 10),
  oP pdN (eStore 10 (slotG 8) (slotG 22))]
noncomputable def R35_5 : CT :=
  .reg [
  oP (pdT 23) (eMov (slotG 0)),
  oP (pdT 24) (e1 (cAddo 0) (slotG 8)),
  oP (pdT 25) (eLoad1 (slotG 24)),
  cP (pdT 26) 26 [(slotG 23), (slotG 25)],
  oP (pdT 9) (eAlloc [(.int .u32 0), (.str []), (.cst (.slice none 0 0)), (.int .u32 0)] 4),
  oP pdN (eStore 4 (slotG 9) (slotG 26))]
noncomputable def R35_6 : CT :=
  .reg [
  oP (pdT 27) (e1 (cAddo 0) (slotG 8)),
  oP (pdT 28) (eLoad1 (slotG 27)),
  oP (pdT 10) (eMov (slotG 28))]
noncomputable def R35_7 : CT :=
  .reg [
  oP (pdT 29) (e1 (cAddo 1) (slotG 8)),
  oP (pdT 30) (eLoad1 (slotG 29)),
  oP (pdT 31) (e2 (cEq true .num) (slotG 30) (constG (.str [])))]
noncomputable def R35_8 : CT :=
  .reg [
  oP (pdT 32) (e1 (cAddo 1) (slotG 8)),
  oP (pdT 33) (eLoad1 (slotG 32)),
  oP (pdT 10) (eMov (slotG 33))]
noncomputable def R35_9 : CT :=
  .reg [
  oP (pdT 34) (eMov (slotG 0)),
  oP (pdT 35) (e1 (cAddo 0) (slotG 6)),
  oP (pdT 36) (eLoad1 (slotG 35)),
  oP (pdT 37) (eMov (slotG 10)),
  cP (pdT 38) 73 [(slotG 36), (slotG 37)],
  cP (pdT 39) 29 [(slotG 34), (constG (.int .i64 205)), (slotG 38)]]
noncomputable def R35_10 : CT :=
  .drw [40, 41, 42, 43, 44, 45, 46, 47, 48, 49, 50, 51] [
  oI [6] (pdT 40) (e1 (cAddo 0) (slotG 6)) 1,
  oI [40] (pdT 41) (eLoad1 (slotG 40)) 1,
  oI [10] (pdT 42) (eMov (slotG 10)) 1,
  oI [42] (pdT 43) (eBslice [(.str [])] 1 1 [(0, 1, (slotG 42))]) 1,
  mI [41, 43] (pdT 44) (eApp 1 16 (slotG 41) (slotG 43)),
  oI [6] (pdT 45) (e1 (cAddo 1) (slotG 6)) 2,
  oI [45] (pdT 46) (eLoad1 (slotG 45)) 2,
  oI [9] (pdT 47) (eLoadN 4 (slotG 9)) 2,
  oI [47] (pdT 48) (eBslice [(.int .u32 0), (.str []), (.cst (.slice none 0 0)), (.int .u32 0)] 1 4 [(0, 4, (slotG 47))]) 2,
  mI [46, 48] (pdT 49) (eApp 4 56 (slotG 46) (slotG 48)),
  oI [6] (pdT 50) (e1 (cAddo 0) (slotG 6)) 2,
  mI [50, 44] pdN (eStore 1 (slotG 50) (slotG 44)),
  oI [6] (pdT 51) (e1 (cAddo 1) (slotG 6)) 1,
  mI [51, 49] pdN (eStore 1 (slotG 51) (slotG 49))]
noncomputable def R35_11 : CT :=
  .reg [
  oP (pdT 52) (e2 (cBin .add) (slotG 19) (constG (.int .i64 1))),
  oP (pdT 19) (eMov (slotG 52))]
noncomputable def L35_0 : CT := (.seq R35_3 (.seq (.cond (slotG 20) .skip (.exit 0)) (.seq (.block 1 (.seq R35_4 (.seq R35_5 (.seq R35_6 (.seq (.seq R35_7 (.cond (slotG 31) R35_8 .skip)) (.seq R35_9 R35_10)))))) R35_11)))
noncomputable def R35_12 : CT :=
  .reg [
  oP (pdT 53) (eMov (slotG 0)),
  oP (pdT 54) (eNilc (slotG 53)),
  oP (pdT 55) (e1 (cAddo 2) (slotG 54)),
  oP (pdT 56) (eLoad1 (slotG 55)),
  oP (pdT 57) (e2 (cEq true .num) (slotG 56) (constG (.int .i64 0)))]
noncomputable def R35_13 : CT :=
  .reg [
  oP (pdT 58) (eMov (slotG 2)),
  oP (pdT 59) (e1 (cAddo 1) (slotG 6)),
  oP (pdT 60) (eLoad1 (slotG 59)),
  oP (pdT 61) (eNilc (slotG 58)),
  oP (pdT 62) (e1 (cAddo 15) (slotG 61)),
  oP pdN (eStore 1 (slotG 62) (slotG 60))]
noncomputable def R35_14 : CT :=
  .reg [
  oP (pdT 63) (e1 (cAddo 3) (slotG 4)),
  oP (pdT 64) (eLoad1 (slotG 63)),
  oP (pdT 65) (e1 cLenL (slotG 64)),
  oP (pdT 66) (eMov (constG (.int .i64 0)))]
noncomputable def R35_15 : CT :=
  .reg [
  oP (pdT 67) (e2 (cBin .lss) (slotG 66) (slotG 65))]
noncomputable def R35_16 : CT :=
  .reg [
  oP (pdT 68) (eMov (slotG 66)),
  oP (pdT 69) (e2 (cIxa 10) (slotG 64) (slotG 66)),
  oP (pdT 70) (eLoadN 10 (slotG 69)),
  oP (pdT 12) (eAlloc [(.str []), (.str []), (.int .i64 0), (.int .i64 0), (.int .i64 0), (.str []), (.str []), (.str []), (.int .i64 0), (.cst (.slice none 0 0))] 10),
  oP (pdT 11) (eMov (slotG 68)),
  oP pdN (eStore 10 (slotG 12) (slotG 70))]
noncomputable def R35_17 : CT :=
  .drw [71, 72, 73, 74, 75, 76, 77, 78, 79, 80, 81, 82, 83, 84, 85, 86, 87, 88, 89, 90, 91, 92, 93, 94] [
  oI [0] (pdT 76) (eMov (slotG 0)) 1,
  oI [6] (pdT 77) (e1 (cAddo 0) (slotG 6)) 1,
  oI [77] (pdT 78) (eLoad1 (slotG 77)) 1,
  oI [11] (pdT 79) (eMov (slotG 11)) 1,
  oI [79] (pdT 80) (e2 (cBin .add) (slotG 79) (constG (.int .i64 1))) 1,
  oI [78, 80] (pdT 81) (eSl (cSlc 1) (slotG 78) none (some (slotG 80)) none) 1,
  oI [6] (pdT 82) (e1 (cAddo 1) (slotG 6)) 1,
  oI [82] (pdT 83) (eLoad1 (slotG 82)) 1,
  oI [11] (pdT 84) (eMov (slotG 11)) 1,
  oI [84] (pdT 85) (e2 (cBin .add) (slotG 84) (constG (.int .i64 1))) 1,
  oI [83, 85] (pdT 86) (eSl (cSlc 4) (slotG 83) none (some (slotG 85)) none) 1,
  oI [81, 86] (pdT 87) (eBuild [(.cst (.slice none 0 0)), (.cst (.slice none 0 0))] 2 [(0, 1, (slotG 81)), (1, 1, (slotG 86))]) 1,
  oI [12] (pdT 88) (e1 (cAddo 2) (slotG 12)) 1,
  oI [88] (pdT 89) (eLoadN 8 (slotG 88)) 1,
  cI [76, 87, 89] (pdT 90) 32 [(slotG 76), (slotG 87), (slotG 89)],
  oI [2] (pdT 72) (eMov (slotG 2)) 2,
  oI [72] (pdT 73) (eNilc (slotG 72)) 2,
  oI [73] (pdT 74) (e1 (cAddo 16) (slotG 73)) 2,
  oI [74] (pdT 75) (eLoad1 (slotG 74)) 2,
  oI [90] (pdT 91) (eBslice [(.cst (.slice none 0 0))] 1 1 [(0, 1, (slotG 90))]) 1,
  mI [75, 91] (pdT 92) (eApp 1 24 (slotG 75) (slotG 91)),
  oI [2] (pdT 71) (eMov (slotG 2)) 3,
  oI [71] (pdT 93) (eNilc (slotG 71)) 1,
  oI [93] (pdT 94) (e1 (cAddo 16) (slotG 93)) 1,
  mI [94, 92] pdN (eStore 1 (slotG 94) (slotG 92))]
noncomputable def R35_18 : CT :=
  .reg [
  oP (pdT 95) (e2 (cBin .add) (slotG 66) (constG (.int .i64 1))),
  oP (pdT 66) (eMov (slotG 95))]
noncomputable def L35_1 : CT := (.seq R35_15 (.seq (.cond (slotG 67) .skip (.exit 2)) (.seq (.block 3 (.seq R35_16 R35_17)) R35_18)))
noncomputable def R35_19 : CT :=
  .reg [
  oP (pdT 96) (eMov (slotG 0)),
  oP (pdT 97) (eLoadN 2 (slotG 6)),
  oP (pdT 98) (eLoadN 15 (slotG 4)),
  oP (pdT 99) (eMov (slotG 2)),
  cP (pdT 100) 86 [(slotG 96), (slotG 97), (slotG 98), (slotG 99)]]
noncomputable def R35_20 : CT :=
  .reg [
  oP (pdT 101) (eMov (slotG 2)),
  oP (pdT 102) (eMov (slotG 0)),
  oP (pdT 103) (eLoadN 2 (slotG 6)),
  oP (pdT 104) (e1 (cAddo 4) (slotG 4)),
  oP (pdT 105) (eLoadN 8 (slotG 104)),
  cP (pdT 106) 32 [(slotG 102), (slotG 103), (slotG 105)],
  oP (pdT 107) (eNilc (slotG 101)),
  oP (pdT 108) (e1 (cAddo 17) (slotG 107)),
  oP pdN (eStore 1 (slotG 108) (slotG 106))]
noncomputable def R35_21 : CT :=
  .reg [
  oP (pdT 109) (e1 (cAddo 12) (slotG 4)),
  oP (pdT 110) (eLoad1 (slotG 109)),
  oP (pdT 111) (e1 cLenL (slotG 110)),
  oP (pdT 112) (eMov (constG (.int .i64 0)))]
noncomputable def R35_22 : CT :=
  .reg [
  oP (pdT 113) (e2 (cBin .lss) (slotG 112) (slotG 111))]
noncomputable def R35_23 : CT :=
  .reg [
  oP (pdT 114) (e2 (cIxa 2) (slotG 110) (slotG 112)),
  oP (pdT 115) (eLoadN 2 (slotG 114)),
  oP (pdT 14) (eAlloc [(.str []), (.bool false)] 2),
  oP pdN (eStore 2 (slotG 14) (slotG 115))]
noncomputable def R35_24 : CT :=
  .drw [116, 117, 118, 119, 120, 121, 122] [
  oI [2] (pdT 116) (eMov (slotG 2)) 1,
  oI [116] (pdT 117) (eNilc (slotG 116)) 1,
  oI [117] (pdT 118) (e1 (cAddo 19) (slotG 117)) 1,
  oI [118] (pdT 119) (eLoad1 (slotG 118)) 1,
  oI [14] (pdT 120) (e1 (cAddo 0) (slotG 14)) 1,
  oI [120] (pdT 121) (eLoad1 (slotG 120)) 1,
  cI [119, 121] (pdT 122) 87 [(slotG 119), (slotG 121)],
  oI [122] (pdT 15) (eMov (slotG 122)) 1]
noncomputable def R35_25 : CT :=
  .reg [
  oP (pdT 123) (eMov (slotG 0)),
  oP (pdT 124) (eMov (slotG 15)),
  oP (pdT 125) (e2 (cBin .lss) (slotG 124) (constG (.int .i64 0))),
  cP (pdT 126) 29 [(slotG 123), (constG (.int .i64 201)), (slotG 125)]]
noncomputable def R35_26 : CT :=
  .drw [127, 128, 129, 130, 131, 132, 133, 134, 135, 136, 137, 138, 139, 140, 141, 142] [
  oI [15] (pdT 128) (eMov (slotG 15)) 1,
  oI [128] (pdT 129) (e2 (cBin .geq) (slotG 128) (constG (.int .i64 0))) 1,
  oI [129] (pdT 130) (eMov (slotG 129)) 1,
  goI [130, 2] (slotG 130) true (pdT 131) (eMov (slotG 2)) 1,
  goI [130, 131] (slotG 130) true (pdT 132) (eNilc (slotG 131)) 1,
  goI [130, 132] (slotG 130) true (pdT 133) (e1 (cAddo 19) (slotG 132)) 1,
  goI [130, 133] (slotG 130) true (pdT 134) (eLoad1 (slotG 133)) 1,
  goI [130, 15] (slotG 130) true (pdT 135) (eMov (slotG 15)) 1,
  goI [130, 135] (slotG 130) true (pdT 136) (e2 (cBin .add) (slotG 135) (constG (.int .i64 1))) 1,
  goI [130, 134, 136] (slotG 130) true (pdT 137) (eSl (cSlc 1) (slotG 134) (some (slotG 136)) none none) 1,
  goI [130, 14] (slotG 130) true (pdT 138) (e1 (cAddo 0) (slotG 14)) 1,
  goI [130, 138] (slotG 130) true (pdT 139) (eLoad1 (slotG 138)) 1,
  gcI [130, 137, 139] (slotG 130) true (pdT 140) 73 [(slotG 137), (slotG 139)],
  oI [0] (pdT 127) (eMov (slotG 0)) 2,
  oI [130, 140] (pdT 141) (ePick (slotG 130) (slotG 140) (constG (.bool false))) 1,
  cI [127, 141] (pdT 142) 29 [(slotG 127), (constG (.int .i64 205)), (slotG 141)]]
noncomputable def R35_27 : CT :=
  .drw [143, 144, 145, 146, 147, 148, 149, 150, 151, 152, 153, 154, 155] [
  oI [2] (pdT 144) (eMov (slotG 2)) 1,
  oI [144] (pdT 145) (eNilc (slotG 144)) 1,
  oI [145] (pdT 146) (e1 (cAddo 21) (slotG 145)) 1,
  oI [146] (pdT 147) (eLoad1 (slotG 146)) 1,
  oI [15] (pdT 148) (eMov (slotG 15)) 1,
  oI [14] (pdT 149) (e1 (cAddo 1) (slotG 14)) 1,
  oI [149] (pdT 150) (eLoad1 (slotG 149)) 1,
  oI [148, 150] (pdT 151) (eBuild [(.int .i64 0), (.bool false)] 2 [(0, 1, (slotG 148)), (1, 1, (slotG 150))]) 1,
  oI [151] (pdT 152) (eBslice [(.int .i64 0), (.bool false)] 1 2 [(0, 2, (slotG 151))]) 1,
  mI [147, 152] (pdT 153) (eApp 2 16 (slotG 147) (slotG 152)),
  oI [2] (pdT 143) (eMov (slotG 2)) 2,
  oI [143] (pdT 154) (eNilc (slotG 143)) 1,
  oI [154] (pdT 155) (e1 (cAddo 21) (slotG 154)) 1,
  mI [155, 153] pdN (eStore 1 (slotG 155) (slotG 153))]
noncomputable def R35_28 : CT :=
  .reg [
  oP (pdT 156) (e2 (cBin .add) (slotG 112) (constG (.int .i64 1))),
  oP (pdT 112) (eMov (slotG 156))]
noncomputable def L35_2 : CT := (.seq R35_22 (.seq (.cond (slotG 113) .skip (.exit 4)) (.seq (.block 5 (.seq R35_23 (.seq R35_24 (.seq R35_25 (.seq R35_26 R35_27))))) R35_28)))
noncomputable def R35_29 : CT :=
  .drw [157, 158, 159, 160, 161, 162, 163, 164, 165, 166, 167, 168, 169, 170, 171] [
  oI [2] (pdT 157) (eMov (slotG 2)) 1,
  oI [4] (pdT 160) (e1 (cAddo 0) (slotG 4)) 1,
  oI [160] (pdT 161) (eLoad1 (slotG 160)) 1,
  oI [157] (pdT 166) (eNilc (slotG 157)) 1,
  oI [166] (pdT 167) (e1 (cAddo 22) (slotG 166)) 1,
  mI [167, 161] pdN (eStore 1 (slotG 167) (slotG 161)),
  oI [2] (pdT 158) (eMov (slotG 2)) 2,
  oI [4] (pdT 162) (e1 (cAddo 13) (slotG 4)) 2,
  oI [162] (pdT 163) (eLoad1 (slotG 162)) 2,
  oI [158] (pdT 168) (eNilc (slotG 158)) 1,
  oI [168] (pdT 169) (e1 (cAddo 23) (slotG 168)) 1,
  mI [169, 163] pdN (eStore 1 (slotG 169) (slotG 163)),
  oI [2] (pdT 159) (eMov (slotG 2)) 3,
  oI [4] (pdT 164) (e1 (cAddo 14) (slotG 4)) 3,
  oI [164] (pdT 165) (eLoad1 (slotG 164)) 3,
  oI [159] (pdT 170) (eNilc (slotG 159)) 1,
  oI [170] (pdT 171) (e1 (cAddo 24) (slotG 170)) 1,
  mI [171, 165] pdN (eStore 1 (slotG 171) (slotG 165))]
noncomputable def B35 : CT := (.seq R35_0 (.seq R35_1 (.seq (.seq R35_2 (.block 0 (.loop L35_0))) (.seq (.seq R35_12 (.cond (slotG 57) .ret .skip)) (.seq R35_13 (.seq (.seq R35_14 (.block 2 (.loop L35_1))) (.seq R35_19 (.seq R35_20 (.seq (.seq R35_21 (.block 4 (.loop L35_2))) R35_29)))))))))
noncomputable def A35 : CF := { res := [], code := B35, nt := 172 }
theorem c35 : ctF Tryz.prog 35 = some A35 := by kernel_rfl

/-! 36: cadastre/emit.counted$1 -/
noncomputable def R36_0 : CT :=
  .reg [
  oP (pdT 8) (eMov (slotG 0)),
  oP (pdT 9) (e1 cLenL (slotG 8)),
  oP (pdT 10) (eMov (constG (.int .i64 0)))]
noncomputable def R36_1 : CT :=
  .reg [
  oP (pdT 11) (e2 (cBin .lss) (slotG 10) (slotG 9))]
noncomputable def R36_2 : CT :=
  .reg [
  oP (pdT 12) (e2 (cIxa 8) (slotG 8) (slotG 10)),
  oP (pdT 13) (eLoadN 8 (slotG 12)),
  oP (pdT 5) (eAlloc [(.int .i64 0), (.int .i64 0), (.int .i64 0), (.str []), (.str []), (.str []), (.int .i64 0), (.cst (.slice none 0 0))] 8),
  oP pdN (eStore 8 (slotG 5) (slotG 13))]
noncomputable def R36_3 : CT :=
  .reg [
  oP (pdT 15) (eLoadN 8 (slotG 5)),
  cP (pdT 16) 37 [(slotG 15)],
  oP (pdT 14) (eMov (slotG 16)),
  oP (pdT 17) (e1 (cExt 0) (slotG 14)),
  oP (pdT 18) (e1 (cExt 1) (slotG 14)),
  oP (pdT 6) (eMov (slotG 17)),
  oP (pdT 7) (eMov (slotG 18))]
noncomputable def R36_4 : CT :=
  .reg [
  oP (pdT 19) (eLoad1 (slotG 1)),
  oP (pdT 20) (eMov (slotG 6)),
  oP (pdT 21) (e2 (cBin .add) (slotG 20) (constG (.int .i64 1))),
  oP (pdT 22) (e2 (cBin .add) (slotG 19) (slotG 21)),
  oP pdN (eStore 1 (slotG 1) (slotG 22))]
noncomputable def R36_5 : CT :=
  .reg [
  oP (pdT 23) (eLoad1 (slotG 2)),
  oP (pdT 24) (eMov (slotG 7)),
  oP (pdT 25) (eMnx maxI [(slotG 23), (slotG 24)]),
  oP pdN (eStore 1 (slotG 2) (slotG 25))]
noncomputable def R36_6 : CT :=
  .reg [
  oP (pdT 26) (e2 (cBin .add) (slotG 10) (constG (.int .i64 1))),
  oP (pdT 10) (eMov (slotG 26))]
noncomputable def L36_0 : CT := (.seq R36_1 (.seq (.cond (slotG 11) .skip (.exit 0)) (.seq (.block 1 (.seq R36_2 (.seq R36_3 (.seq R36_4 R36_5)))) R36_6)))
noncomputable def B36 : CT := (.seq R36_0 (.block 0 (.loop L36_0)))
noncomputable def A36 : CF := { res := [], code := B36, nt := 27 }
theorem c36 : ctF Tryz.prog 36 = some A36 := by kernel_rfl

/-! 37: cadastre/emit.size -/
noncomputable def R37_0 : CT :=
  .reg [
  oP (pdT 1) (eBox (slotG 0)),
  oP (pdT 2) (eMov (constG (.int .i64 0))),
  oP (pdT 3) (eMov (constG (.int .i64 0)))]
noncomputable def R37_1 : CT :=
  .reg [
  oP (pdT 3) (eMov (constG (.int .i64 1)))]
noncomputable def R37_2 : CT :=
  .reg [
  oP (pdT 8) (e1 (cAddo 7) (slotG 1)),
  oP (pdT 9) (eLoad1 (slotG 8)),
  oP (pdT 10) (e1 cLenL (slotG 9)),
  oP (pdT 11) (eMov (constG (.int .i64 0)))]
noncomputable def R37_3 : CT :=
  .reg [
  oP (pdT 12) (e2 (cBin .lss) (slotG 11) (slotG 10))]
noncomputable def R37_4 : CT :=
  .reg [
  oP (pdT 13) (eMov (slotG 11)),
  oP (pdT 14) (e2 (cIxa 8) (slotG 9) (slotG 11)),
  oP (pdT 15) (eLoadN 8 (slotG 14)),
  oP (pdT 5) (eAlloc [(.int .i64 0), (.int .i64 0), (.int .i64 0), (.str []), (.str []), (.str []), (.int .i64 0), (.cst (.slice none 0 0))] 8),
  oP (pdT 4) (eMov (slotG 13)),
  oP pdN (eStore 8 (slotG 5) (slotG 15))]
noncomputable def R37_5 : CT :=
  .reg [
  oP (pdT 17) (eLoadN 8 (slotG 5)),
  cP (pdT 18) 37 [(slotG 17)],
  oP (pdT 16) (eMov (slotG 18)),
  oP (pdT 19) (e1 (cExt 0) (slotG 16)),
  oP (pdT 20) (e1 (cExt 1) (slotG 16)),
  oP (pdT 6) (eMov (slotG 19)),
  oP (pdT 7) (eMov (slotG 20))]
noncomputable def R37_6 : CT :=
  .reg [
  oP (pdT 21) (eMov (slotG 2)),
  oP (pdT 22) (eMov (slotG 6)),
  oP (pdT 23) (e2 (cBin .add) (slotG 21) (slotG 22)),
  oP (pdT 2) (eMov (slotG 23))]
noncomputable def R37_7 : CT :=
  .reg [
  oP (pdT 24) (eMov (slotG 3)),
  oP (pdT 25) (eMov (slotG 7)),
  oP (pdT 26) (eMov (slotG 4)),
  oP (pdT 27) (e2 (cBin .add) (slotG 25) (slotG 26)),
  oP (pdT 28) (eMnx maxI [(slotG 24), (slotG 27)]),
  oP (pdT 3) (eMov (slotG 28))]
noncomputable def R37_8 : CT :=
  .reg [
  oP (pdT 29) (e2 (cBin .add) (slotG 11) (constG (.int .i64 1))),
  oP (pdT 11) (eMov (slotG 29))]
noncomputable def L37_0 : CT := (.seq R37_3 (.seq (.cond (slotG 12) .skip (.exit 0)) (.seq (.block 1 (.seq R37_4 (.seq R37_5 (.seq R37_6 R37_7)))) R37_8)))
noncomputable def R37_9 : CT :=
  .reg [
  oP (pdT 30) (eMov (slotG 2)),
  oP (pdT 31) (e2 (cBin .add) (slotG 30) (constG (.int .i64 1))),
  oP (pdT 32) (eMov (slotG 3)),
  oP (pdT 2) (eMov (slotG 31)),
  oP (pdT 3) (eMov (slotG 32))]
noncomputable def B37 : CT := (.seq R37_0 (.seq R37_1 (.seq (.seq R37_2 (.block 0 (.loop L37_0))) (.seq R37_9 .ret))))
noncomputable def A37 : CF := { res := [rTmp 2, rTmp 3], code := B37, nt := 33 }
theorem c37 : ctF Tryz.prog 37 = some A37 := by kernel_rfl

/-! 38: (*cadastre/emit.emitter).expr -/
noncomputable def R38_0 : CT :=
  .reg [
  oP (pdT 5) (eBox (slotG 1))]
noncomputable def R38_1 : CT :=
  .reg [
  oP (pdT 13) (eMov (slotG 0)),
  oP (pdT 14) (eMov (slotG 0)),
  oP (pdT 15) (eNilc (slotG 14)),
  oP (pdT 16) (e1 (cAddo 0) (slotG 15)),
  oP (pdT 17) (e1 (cAddo 0) (slotG 16)),
  oP (pdT 18) (eLoad1 (slotG 17)),
  oP (pdT 19) (eMov (slotG 2)),
  oP (pdT 20) (e2 (cBin .add) (slotG 19) (constG (.int .i64 1))),
  oP (pdT 21) (eMnx maxI [(slotG 18), (slotG 20)]),
  oP (pdT 22) (eNilc (slotG 13)),
  oP (pdT 23) (e1 (cAddo 0) (slotG 22)),
  oP (pdT 24) (e1 (cAddo 0) (slotG 23)),
  oP pdN (eStore 1 (slotG 24) (slotG 21))]
noncomputable def R38_2 : CT :=
  .reg [
  oP (pdT 25) (e1 (cAddo 0) (slotG 5)),
  oP (pdT 26) (eLoad1 (slotG 25))]
noncomputable def R38_3 : CT :=
  .reg [
  oP (pdT 28) (e2 (cEq false .num) (slotG 26) (constG (.int .i64 1))),
  oP (pdT 27) (eMov (slotG 28))]
noncomputable def R38_4 : CT :=
  .reg [
  oP (pdT 29) (eMov (slotG 0)),
  oP (pdT 30) (eMov (slotG 2)),
  oP (pdT 31) (e1 (cAddo 1) (slotG 5)),
  oP (pdT 32) (eLoadN 3 (slotG 31)),
  oP (pdT 33) (eBuild [(.int .i64 0), (.int .i64 0), (.int .i64 0), (.int .i64 0), (.int .i64 0), (.int .i64 0), (.int .i64 0), (.int .u32 0), (.int .i64 0), (.int .i64 0), (.bool false), (.bool false), (.int .i64 0), (.int .i64 0), (.str [])] 15 [(0, 1, (constG (.int .i64 5))), (1, 1, (slotG 30)), (12, 3, (slotG 32))]),
  cP (pdT 34) 15 [(slotG 29), (slotG 33)]]
noncomputable def R38_5 : CT :=
  .reg [
  oP (pdT 36) (e2 (cEq false .num) (slotG 26) (constG (.int .i64 3))),
  oP (pdT 35) (eMov (slotG 36))]
noncomputable def R38_6 : CT :=
  .reg [
  oP (pdT 37) (e1 (cAddo 6) (slotG 5)),
  oP (pdT 38) (eLoad1 (slotG 37)),
  oP (pdT 8) (eMov (slotG 38)),
  oP (pdT 9) (eMov (constG (.int .i64 0)))]
noncomputable def R38_7 : CT :=
  .reg [
  oP (pdT 39) (eMov (slotG 8)),
  oP (pdT 40) (eMov (slotG 0)),
  oP (pdT 41) (eNilc (slotG 40)),
  oP (pdT 42) (e1 (cAddo 3) (slotG 41)),
  oP (pdT 43) (eLoad1 (slotG 42)),
  oP (pdT 44) (eMov (slotG 9)),
  oP (pdT 45) (e2 (cIxa 4) (slotG 43) (slotG 44)),
  oP (pdT 46) (e1 (cAddo 2) (slotG 45)),
  oP (pdT 47) (eLoad1 (slotG 46)),
  oP (pdT 48) (e1 cLenL (slotG 47)),
  oP (pdT 49) (e2 (cBin .geq) (slotG 39) (slotG 48))]
noncomputable def R38_8 : CT :=
  .reg [
  oP (pdT 50) (eMov (slotG 8)),
  oP (pdT 51) (eMov (slotG 0)),
  oP (pdT 52) (eNilc (slotG 51)),
  oP (pdT 53) (e1 (cAddo 3) (slotG 52)),
  oP (pdT 54) (eLoad1 (slotG 53)),
  oP (pdT 55) (eMov (slotG 9)),
  oP (pdT 56) (e2 (cIxa 4) (slotG 54) (slotG 55)),
  oP (pdT 57) (e1 (cAddo 2) (slotG 56)),
  oP (pdT 58) (eLoad1 (slotG 57)),
  oP (pdT 59) (e1 cLenL (slotG 58)),
  oP (pdT 60) (e2 (cBin .sub) (slotG 50) (slotG 59)),
  oP (pdT 8) (eMov (slotG 60))]
noncomputable def R38_9 : CT :=
  .reg [
  oP (pdT 61) (eMov (slotG 9)),
  oP (pdT 62) (e2 (cBin .add) (slotG 61) (constG (.int .i64 1))),
  oP (pdT 9) (eMov (slotG 62))]
noncomputable def L38_0 : CT := (.seq (.seq R38_7 (.cond (slotG 49) .skip (.exit 1))) (.block 2 (.seq R38_8 R38_9)))
noncomputable def R38_10 : CT :=
  .reg [
  oP (pdT 63) (eMov (slotG 0)),
  oP (pdT 64) (eMov (slotG 2)),
  oP (pdT 65) (eMov (slotG 9)),
  oP (pdT 66) (eMov (slotG 8)),
  oP (pdT 67) (eBuild [(.int .i64 0), (.int .i64 0), (.int .i64 0), (.int .i64 0), (.int .i64 0), (.int .i64 0), (.int .i64 0), (.int .u32 0), (.int .i64 0), (.int .i64 0), (.bool false), (.bool false), (.int .i64 0), (.int .i64 0), (.str [])] 15 [(0, 1, (constG (.int .i64 4))), (1, 1, (slotG 64)), (2, 1, (slotG 65)), (3, 1, (slotG 66))]),
  cP (pdT 68) 15 [(slotG 63), (slotG 67)]]
noncomputable def R38_11 : CT :=
  .reg [
  oP (pdT 69) (e1 (cAddo 0) (slotG 5)),
  oP (pdT 70) (eLoad1 (slotG 69)),
  oP (pdT 71) (eMov (slotG 2)),
  oP (pdT 72) (eMov (slotG 2)),
  oP (pdT 73) (eBuild [(.int .i64 0), (.int .i64 0), (.int .i64 0), (.int .i64 0), (.int .i64 0), (.int .i64 0), (.int .i64 0), (.int .u32 0), (.int .i64 0), (.int .i64 0), (.bool false), (.bool false), (.int .i64 0), (.int .i64 0), (.str [])] 15 [(0, 1, (constG (.int .i64 6))), (6, 1, (slotG 70)), (1, 1, (slotG 71)), (2, 1, (slotG 72))]),
  oP (pdT 10) (eAlloc [(.int .i64 0), (.int .i64 0), (.int .i64 0), (.int .i64 0), (.int .i64 0), (.int .i64 0), (.int .i64 0), (.int .u32 0), (.int .i64 0), (.int .i64 0), (.bool false), (.bool false), (.int .i64 0), (.int .i64 0), (.str [])] 15),
  oP pdN (eStore 15 (slotG 10) (slotG 73))]
noncomputable def R38_12 : CT :=
  .reg [
  oP (pdT 74) (e1 (cAddo 7) (slotG 5)),
  oP (pdT 75) (eLoad1 (slotG 74)),
  oP (pdT 76) (e1 cLenL (slotG 75)),
  oP (pdT 77) (eMov (constG (.int .i64 0)))]
noncomputable def R38_13 : CT :=
  .reg [
  oP (pdT 78) (e2 (cBin .lss) (slotG 77) (slotG 76))]
noncomputable def R38_14 : CT :=
  .reg [
  oP (pdT 79) (eMov (slotG 77)),
  oP (pdT 80) (e2 (cIxa 8) (slotG 75) (slotG 77)),
  oP (pdT 81) (eLoadN 8 (slotG 80)),
  oP (pdT 12) (eAlloc [(.int .i64 0), (.int .i64 0), (.int .i64 0), (.str []), (.str []), (.str []), (.int .i64 0), (.cst (.slice none 0 0))] 8),
  oP (pdT 11) (eMov (slotG 79)),
  oP pdN (eStore 8 (slotG 12) (slotG 81))]
noncomputable def R38_15 : CT :=
  .reg [
  oP (pdT 82) (eMov (slotG 0)),
  oP (pdT 83) (eLoadN 8 (slotG 12)),
  oP (pdT 84) (eMov (slotG 2)),
  oP (pdT 85) (eMov (slotG 11)),
  oP (pdT 86) (e2 (cBin .add) (slotG 84) (slotG 85)),
  oP (pdT 87) (eMov (slotG 3)),
  cP (pdT 88) 38 [(slotG 82), (slotG 83), (slotG 86), (slotG 87)]]
noncomputable def R38_16 : CT :=
  .reg [
  oP (pdT 89) (e2 (cBin .add) (slotG 77) (constG (.int .i64 1))),
  oP (pdT 77) (eMov (slotG 89))]
noncomputable def L38_1 : CT := (.seq R38_13 (.seq (.cond (slotG 78) .skip (.exit 3)) (.seq (.block 4 (.seq R38_14 R38_15)) R38_16)))
noncomputable def R38_17 : CT :=
  .reg [
  oP (pdT 90) (e1 (cAddo 7) (slotG 5)),
  oP (pdT 91) (eLoad1 (slotG 90)),
  oP (pdT 92) (e1 cLenL (slotG 91)),
  oP (pdT 93) (e2 (cBin .gtr) (slotG 92) (constG (.int .i64 1)))]
noncomputable def R38_18 : CT :=
  .reg [
  oP (pdT 94) (eMov (slotG 2)),
  oP (pdT 95) (e2 (cBin .add) (slotG 94) (constG (.int .i64 1))),
  oP (pdT 96) (e1 (cAddo 3) (slotG 10)),
  oP pdN (eStore 1 (slotG 96) (slotG 95))]
noncomputable def R38_19 : CT :=
  .reg [
  oP (pdT 97) (eMov (slotG 0)),
  oP (pdT 98) (eLoadN 15 (slotG 10)),
  oP (pdT 99) (eMov (slotG 3)),
  cP (pdT 100) 39 [(slotG 97), (slotG 98), (slotG 99)]]
noncomputable def B38 : CT := (.seq R38_0 (.seq R38_1 (.seq (.seq R38_2 (.block 0 (.seq R38_3 (.cond (slotG 27) (.seq R38_4 .ret) (.seq R38_5 (.cond (slotG 35) (.seq R38_6 (.seq (.block 1 (.loop L38_0)) (.seq R38_10 .ret))) .skip)))))) (.seq R38_11 (.seq (.seq R38_12 (.block 3 (.loop L38_1))) (.seq (.seq R38_17 (.cond (slotG 93) R38_18 .skip)) R38_19))))))
noncomputable def A38 : CF := { res := [], code := B38, nt := 101 }
theorem c38 : ctF Tryz.prog 38 = some A38 := by kernel_rfl

/-! 39: (*cadastre/emit.emitter).jump -/
noncomputable def R39_0 : CT :=
  .reg [
  oP (pdT 4) (eBox (slotG 1))]
noncomputable def R39_1 : CT :=
  .drw [6, 7, 8, 9, 10, 11, 12, 13, 14, 15, 16, 17] [
  oI [0] (pdT 11) (eMov (slotG 0)) 1,
  oI [4] (pdT 12) (eLoadN 15 (slotG 4)) 1,
  cI [11, 12] (pdT 13) 15 [(slotG 11), (slotG 12)],
  oI [2] (pdT 7) (eMov (slotG 2)) 2,
  oI [7] (pdT 8) (eNilc (slotG 7)) 2,
  oI [8] (pdT 9) (e1 (cAddo 0) (slotG 8)) 2,
  oI [9] (pdT 10) (eLoad1 (slotG 9)) 2,
  oI [13] (pdT 14) (eBslice [(.int .i64 0)] 1 1 [(0, 1, (slotG 13))]) 1,
  mI [10, 14] (pdT 15) (eApp 1 8 (slotG 10) (slotG 14)),
  oI [2] (pdT 6) (eMov (slotG 2)) 3,
  oI [6] (pdT 16) (eNilc (slotG 6)) 1,
  oI [16] (pdT 17) (e1 (cAddo 0) (slotG 16)) 1,
  mI [17, 15] pdN (eStore 1 (slotG 17) (slotG 15))]
noncomputable def B39 : CT := (.seq R39_0 R39_1)
noncomputable def A39 : CF := { res := [], code := B39, nt := 18 }
theorem c39 : ctF Tryz.prog 39 = some A39 := by kernel_rfl

/-! 41: cadastre/cadastreref24.cursor -/
noncomputable def R41_0 : CT :=
  .reg [
  oP (pdT 2) (eBox (slotG 0)),
  oP (pdT 4) (eMov (constG (.bool false)))]
noncomputable def R41_1 : CT :=
  .reg [
  oP (pdT 5) (eMov (slotG 1)),
  oP (pdT 6) (e2 (cBin .geq) (slotG 5) (constG (.int .i64 0))),
  oP (pdT 7) (eMov (slotG 6)),
  gP (slotG 7) true (pdT 8) (eMov (slotG 1)),
  gP (slotG 7) true (pdT 9) (e1 (cAddo 1) (slotG 2)),
  gP (slotG 7) true (pdT 10) (eLoad1 (slotG 9)),
  gP (slotG 7) true (pdT 11) (e2 (cBin .lss) (slotG 8) (slotG 10)),
  oP (pdT 12) (ePick (slotG 7) (slotG 11) (constG (.bool false))),
  oP (pdT 4) (eMov (slotG 12))]
noncomputable def B41 : CT := (.seq R41_0 (.seq R41_1 .ret))
noncomputable def A41 : CF := { res := [rTmp 4], code := B41, nt := 13 }
theorem c41 : ctF Tryz.prog 41 = some A41 := by kernel_rfl

/-! 42: cadastre/cadastreref24.regs -/
noncomputable def R42_0 : CT :=
  .reg [
  oP (pdT 3) (eBox (slotG 0)),
  oP (pdT 6) (eMov (constG (.bool false)))]
noncomputable def R42_1 : CT :=
  .reg [
  oP (pdT 7) (eMov (slotG 2)),
  oP (pdT 8) (e2 (cBin .geq) (slotG 7) (constG (.int .i64 0))),
  oP (pdT 9) (eMov (slotG 8)),
  gP (slotG 9) true (pdT 10) (eMov (slotG 2)),
  gP (slotG 9) true (pdT 11) (e2 (cBin .leq) (slotG 10) (constG (.int .i64 16))),
  oP (pdT 12) (ePick (slotG 9) (slotG 11) (constG (.bool false))),
  oP (pdT 13) (eMov (slotG 12)),
  gP (slotG 13) true (pdT 14) (eMov (slotG 1)),
  gP (slotG 13) true (pdT 15) (e2 (cBin .geq) (slotG 14) (constG (.int .i64 0))),
  oP (pdT 16) (ePick (slotG 13) (slotG 15) (constG (.bool false))),
  oP (pdT 17) (eMov (slotG 16)),
  gP (slotG 17) true (pdT 18) (eMov (slotG 1)),
  gP (slotG 17) true (pdT 19) (e1 (cAddo 0) (slotG 3)),
  gP (slotG 17) true (pdT 20) (eLoad1 (slotG 19)),
  gP (slotG 17) true (pdT 21) (e2 (cBin .leq) (slotG 18) (slotG 20)),
  oP (pdT 22) (ePick (slotG 17) (slotG 21) (constG (.bool false))),
  oP (pdT 23) (eMov (slotG 22)),
  gP (slotG 23) true (pdT 24) (eMov (slotG 2)),
  gP (slotG 23) true (pdT 25) (e1 (cAddo 0) (slotG 3)),
  gP (slotG 23) true (pdT 26) (eLoad1 (slotG 25)),
  gP (slotG 23) true (pdT 27) (eMov (slotG 1)),
  gP (slotG 23) true (pdT 28) (e2 (cBin .sub) (slotG 26) (slotG 27)),
  gP (slotG 23) true (pdT 29) (e2 (cBin .leq) (slotG 24) (slotG 28)),
  oP (pdT 30) (ePick (slotG 23) (slotG 29) (constG (.bool false))),
  oP (pdT 6) (eMov (slotG 30))]
noncomputable def B42 : CT := (.seq R42_0 (.seq R42_1 .ret))
noncomputable def A42 : CF := { res := [rTmp 6], code := B42, nt := 31 }
theorem c42 : ctF Tryz.prog 42 = some A42 := by kernel_rfl

/-! 43: cadastre/cadastreref24.reg -/
noncomputable def R43_0 : CT :=
  .reg [
  oP (pdT 2) (eBox (slotG 0)),
  oP (pdT 4) (eMov (constG (.bool false)))]
noncomputable def R43_1 : CT :=
  .reg [
  oP (pdT 5) (eMov (slotG 1)),
  oP (pdT 6) (e2 (cBin .geq) (slotG 5) (constG (.int .i64 0))),
  oP (pdT 7) (eMov (slotG 6)),
  gP (slotG 7) true (pdT 8) (eMov (slotG 1)),
  gP (slotG 7) true (pdT 9) (e1 (cAddo 0) (slotG 2)),
  gP (slotG 7) true (pdT 10) (eLoad1 (slotG 9)),
  gP (slotG 7) true (pdT 11) (e2 (cBin .lss) (slotG 8) (slotG 10)),
  oP (pdT 12) (ePick (slotG 7) (slotG 11) (constG (.bool false))),
  oP (pdT 4) (eMov (slotG 12))]
noncomputable def B43 : CT := (.seq R43_0 (.seq R43_1 .ret))
noncomputable def A43 : CF := { res := [rTmp 4], code := B43, nt := 13 }
theorem c43 : ctF Tryz.prog 43 = some A43 := by kernel_rfl

/-! 44: cadastre/cadastreref24.target -/
noncomputable def R44_0 : CT :=
  .reg [
  oP (pdT 2) (eBox (slotG 0)),
  oP (pdT 4) (eMov (constG (.bool false)))]
noncomputable def R44_1 : CT :=
  .reg [
  oP (pdT 5) (eMov (slotG 1)),
  oP (pdT 6) (e2 (cBin .geq) (slotG 5) (constG (.int .i64 0))),
  oP (pdT 7) (eMov (slotG 6)),
  gP (slotG 7) true (pdT 8) (eMov (slotG 1)),
  gP (slotG 7) true (pdT 9) (e1 (cAddo 2) (slotG 2)),
  gP (slotG 7) true (pdT 10) (eLoad1 (slotG 9)),
  gP (slotG 7) true (pdT 11) (e1 cLenL (slotG 10)),
  gP (slotG 7) true (pdT 12) (e2 (cBin .leq) (slotG 8) (slotG 11)),
  oP (pdT 13) (ePick (slotG 7) (slotG 12) (constG (.bool false))),
  oP (pdT 4) (eMov (slotG 13))]
noncomputable def B44 : CT := (.seq R44_0 (.seq R44_1 .ret))
noncomputable def A44 : CF := { res := [rTmp 4], code := B44, nt := 14 }
theorem c44 : ctF Tryz.prog 44 = some A44 := by kernel_rfl

/-! 45: cadastre/cadastreref03.May -/
noncomputable def R45_0 : CT :=
  .reg [
  oP (pdT 1) (eBox (slotG 0)),
  oP (pdT 2) (eMov (constG (.bool false)))]
noncomputable def R45_1 : CT :=
  .reg [
  oP (pdT 3) (e1 (cAddo 0) (slotG 1)),
  oP (pdT 4) (eLoad1 (slotG 3)),
  oP (pdT 5) (e2 (cEq false .num) (slotG 4) (constG (.int .i64 0)))]
noncomputable def R45_2 : CT :=
  .reg [
  oP (pdT 6) (e1 (cAddo 1) (slotG 1)),
  oP (pdT 7) (eLoad1 (slotG 6)),
  oP (pdT 8) (e2 (cEq false .num) (slotG 7) (constG (.int .i64 0))),
  oP (pdT 9) (eMov (slotG 8)),
  gP (slotG 9) true (pdT 10) (e1 (cAddo 2) (slotG 1)),
  gP (slotG 9) true (pdT 11) (eLoad1 (slotG 10)),
  gP (slotG 9) true (pdT 12) (e2 (cEq false .num) (slotG 11) (constG (.str []))),
  oP (pdT 13) (ePick (slotG 9) (slotG 12) (constG (.bool false))),
  oP (pdT 2) (eMov (slotG 13))]
noncomputable def R45_3 : CT :=
  .reg [
  oP (pdT 14) (e1 (cAddo 0) (slotG 1)),
  oP (pdT 15) (eLoad1 (slotG 14)),
  oP (pdT 16) (e2 (cEq false .num) (slotG 15) (constG (.int .i64 1)))]
noncomputable def R45_4 : CT :=
  .reg [
  oP (pdT 17) (e1 (cAddo 2) (slotG 1)),
  oP (pdT 18) (eLoad1 (slotG 17)),
  oP (pdT 19) (e2 (cEq false .num) (slotG 18) (constG (.str []))),
  oP (pdT 2) (eMov (slotG 19))]
noncomputable def R45_5 : CT :=
  .reg [
  oP (pdT 20) (e1 (cAddo 0) (slotG 1)),
  oP (pdT 21) (eLoad1 (slotG 20)),
  oP (pdT 22) (e2 (cEq false .num) (slotG 21) (constG (.int .i64 2)))]
noncomputable def R45_6 : CT :=
  .reg [
  oP (pdT 23) (e1 (cAddo 1) (slotG 1)),
  oP (pdT 24) (eLoad1 (slotG 23)),
  oP (pdT 25) (e2 (cEq false .num) (slotG 24) (constG (.int .i64 0))),
  oP (pdT 26) (eMov (slotG 25)),
  gP (slotG 26) true (pdT 27) (e1 (cAddo 2) (slotG 1)),
  gP (slotG 26) true (pdT 28) (eLoad1 (slotG 27)),
  gP (slotG 26) true (pdT 29) (e1 cLenS (slotG 28)),
  gP (slotG 26) true (pdT 30) (e2 (cBin .leq) (slotG 29) (constG (.int .i64 64))),
  oP (pdT 31) (ePick (slotG 26) (slotG 30) (constG (.bool false))),
  oP (pdT 2) (eMov (slotG 31))]
noncomputable def R45_7 : CT :=
  .reg [
  oP (pdT 32) (e1 (cAddo 0) (slotG 1)),
  oP (pdT 33) (eLoad1 (slotG 32)),
  oP (pdT 34) (e2 (cEq false .num) (slotG 33) (constG (.int .i64 3))),
  oP (pdT 35) (eMov (slotG 34)),
  gP (slotG 35) true (pdT 36) (e1 (cAddo 2) (slotG 1)),
  gP (slotG 35) true (pdT 37) (eLoad1 (slotG 36)),
  gP (slotG 35) true (pdT 38) (e2 (cEq false .num) (slotG 37) (constG (.str []))),
  oP (pdT 39) (ePick (slotG 35) (slotG 38) (constG (.bool false))),
  oP (pdT 40) (eMov (slotG 39)),
  gP (slotG 40) true (pdT 41) (e1 (cAddo 1) (slotG 1)),
  gP (slotG 40) true (pdT 42) (eLoad1 (slotG 41)),
  gP (slotG 40) true (pdT 43) (e2 (cBin .geq) (slotG 42) (constG (.int .i64 0))),
  oP (pdT 44) (ePick (slotG 40) (slotG 43) (constG (.bool false))),
  oP (pdT 45) (eMov (slotG 44)),
  gP (slotG 45) true (pdT 46) (e1 (cAddo 1) (slotG 1)),
  gP (slotG 45) true (pdT 47) (eLoad1 (slotG 46)),
  gP (slotG 45) true (pdT 48) (e2 (cBin .leq) (slotG 47) (constG (.int .i64 1))),
  oP (pdT 49) (ePick (slotG 45) (slotG 48) (constG (.bool false))),
  oP (pdT 2) (eMov (slotG 49))]
noncomputable def B45 : CT := (.seq R45_0 (.seq (.seq R45_1 (.cond (slotG 5) (.seq R45_2 .ret) .skip)) (.seq (.seq R45_3 (.cond (slotG 16) (.seq R45_4 .ret) .skip)) (.seq (.seq R45_5 (.cond (slotG 22) (.seq R45_6 .ret) .skip)) (.seq R45_7 .ret)))))
noncomputable def A45 : CF := { res := [rTmp 2], code := B45, nt := 50 }
theorem c45 : ctF Tryz.prog 45 = some A45 := by kernel_rfl

/-! 48: cadastre/value.May -/
noncomputable def R48_0 : CT :=
  .reg [
  oP (pdT 1) (eBox (slotG 0)),
  oP (pdT 2) (eMov (constG (.bool false)))]
noncomputable def R48_1 : CT :=
  .reg [
  oP (pdT 3) (e1 (cAddo 0) (slotG 1)),
  oP (pdT 4) (eLoad1 (slotG 3))]
noncomputable def R48_2 : CT :=
  .reg [
  oP (pdT 6) (e2 (cEq false .num) (slotG 4) (constG (.int .i64 0))),
  oP (pdT 5) (eMov (slotG 6))]
noncomputable def R48_3 : CT :=
  .reg [
  oP (pdT 7) (eLoadN 3 (slotG 1)),
  oP (pdT 8) (eBuild [(.int .i64 0), (.int .i64 0), (.str [])] 3 []),
  oP (pdT 9) (e2 (cEqA false [.i, .i, .s]) (slotG 7) (slotG 8)),
  oP (pdT 2) (eMov (slotG 9))]
noncomputable def R48_4 : CT :=
  .reg [
  oP (pdT 11) (e2 (cEq false .num) (slotG 4) (constG (.int .i64 1))),
  oP (pdT 10) (eMov (slotG 11))]
noncomputable def R48_5 : CT :=
  .reg [
  oP (pdT 12) (e1 (cAddo 2) (slotG 1)),
  oP (pdT 13) (eLoad1 (slotG 12)),
  oP (pdT 14) (e2 (cEq false .num) (slotG 13) (constG (.str []))),
  oP (pdT 2) (eMov (slotG 14))]
noncomputable def R48_6 : CT :=
  .reg [
  oP (pdT 16) (e2 (cEq false .num) (slotG 4) (constG (.int .i64 2))),
  oP (pdT 15) (eMov (slotG 16))]
noncomputable def R48_7 : CT :=
  .reg [
  oP (pdT 17) (e1 (cAddo 1) (slotG 1)),
  oP (pdT 18) (eLoad1 (slotG 17)),
  oP (pdT 19) (e2 (cEq false .num) (slotG 18) (constG (.int .i64 0))),
  oP (pdT 20) (eMov (slotG 19)),
  gP (slotG 20) true (pdT 21) (e1 (cAddo 2) (slotG 1)),
  gP (slotG 20) true (pdT 22) (eLoad1 (slotG 21)),
  gP (slotG 20) true (pdT 23) (e1 cLenS (slotG 22)),
  gP (slotG 20) true (pdT 24) (e2 (cBin .leq) (slotG 23) (constG (.int .i64 64))),
  oP (pdT 25) (ePick (slotG 20) (slotG 24) (constG (.bool false))),
  oP (pdT 2) (eMov (slotG 25))]
noncomputable def R48_8 : CT :=
  .reg [
  oP (pdT 27) (e2 (cEq false .num) (slotG 4) (constG (.int .i64 3))),
  oP (pdT 26) (eMov (slotG 27))]
noncomputable def R48_9 : CT :=
  .reg [
  oP (pdT 28) (e1 (cAddo 2) (slotG 1)),
  oP (pdT 29) (eLoad1 (slotG 28)),
  oP (pdT 30) (e2 (cEq false .num) (slotG 29) (constG (.str []))),
  oP (pdT 31) (eMov (slotG 30)),
  gP (slotG 31) true (pdT 32) (e1 (cAddo 1) (slotG 1)),
  gP (slotG 31) true (pdT 33) (eLoad1 (slotG 32)),
  gP (slotG 31) true (pdT 34) (e2 (cEq false .num) (slotG 33) (constG (.int .i64 0))),
  gP (slotG 31) true (pdT 35) (eMov (slotG 34)),
  gP (slotG 35) false (pdT 36) (e1 (cAddo 1) (slotG 1)),
  gP (slotG 35) false (pdT 37) (eLoad1 (slotG 36)),
  gP (slotG 35) false (pdT 38) (e2 (cEq false .num) (slotG 37) (constG (.int .i64 1))),
  gP (slotG 31) true (pdT 39) (ePick (slotG 35) (constG (.bool true)) (slotG 38)),
  oP (pdT 40) (ePick (slotG 31) (slotG 39) (constG (.bool false))),
  oP (pdT 2) (eMov (slotG 40))]
noncomputable def R48_10 : CT :=
  .reg [
  oP (pdT 2) (eMov (constG (.bool false)))]
noncomputable def B48 : CT := (.seq R48_0 (.seq (.seq R48_1 (.block 0 (.seq R48_2 (.cond (slotG 5) (.seq R48_3 .ret) (.seq R48_4 (.cond (slotG 10) (.seq R48_5 .ret) (.seq R48_6 (.cond (slotG 15) (.seq R48_7 .ret) (.seq R48_8 (.cond (slotG 26) (.seq R48_9 .ret) .skip)))))))))) (.seq R48_10 .ret)))
noncomputable def A48 : CF := { res := [rTmp 2], code := B48, nt := 41 }
theorem c48 : ctF Tryz.prog 48 = some A48 := by kernel_rfl

/-! 54: cadastre/rows.Name -/
noncomputable def R54_0 : CT :=
  .reg [
  oP (pdT 2) (eMov (constG (.bool false)))]
noncomputable def R54_1 : CT :=
  .reg [
  oP (pdT 5) (eMov (slotG 0)),
  oP (pdT 6) (e2 (cEq false .num) (slotG 5) (constG (.str []))),
  oP (pdT 7) (eMov (slotG 6)),
  gP (slotG 7) false (pdT 8) (eMov (slotG 0)),
  gP (slotG 7) false (pdT 9) (e1 cLenS (slotG 8)),
  gP (slotG 7) false (pdT 10) (e2 (cBin .gtr) (slotG 9) (constG (.int .i64 24))),
  oP (pdT 11) (ePick (slotG 7) (constG (.bool true)) (slotG 10))]
noncomputable def R54_2 : CT :=
  .reg [
  oP (pdT 2) (eMov (constG (.bool false)))]
noncomputable def R54_3 : CT :=
  .reg [
  oP (pdT 12) (eMov (slotG 0)),
  oP (pdT 13) (e1 cLenS (slotG 12)),
  oP (pdT 14) (eMov (constG (.int .i64 0)))]
noncomputable def R54_4 : CT :=
  .reg [
  oP (pdT 15) (e2 (cBin .lss) (slotG 14) (slotG 13))]
noncomputable def R54_5 : CT :=
  .reg [
  oP (pdT 16) (eMov (slotG 14)),
  oP (pdT 3) (eMov (slotG 16))]
noncomputable def R54_6 : CT :=
  .reg [
  oP (pdT 17) (eMov (slotG 0)),
  oP (pdT 18) (eMov (slotG 3)),
  oP (pdT 19) (e2 cIxs (slotG 17) (slotG 18)),
  oP (pdT 4) (eMov (slotG 19))]
noncomputable def R54_7 : CT :=
  .reg [
  oP (pdT 21) (eMov (slotG 4)),
  oP (pdT 22) (e2 (cBin .geq) (slotG 21) (constG (.int .u8 97))),
  oP (pdT 23) (eMov (slotG 22)),
  gP (slotG 23) true (pdT 24) (eMov (slotG 4)),
  gP (slotG 23) true (pdT 25) (e2 (cBin .leq) (slotG 24) (constG (.int .u8 122))),
  oP (pdT 26) (ePick (slotG 23) (slotG 25) (constG (.bool false))),
  oP (pdT 20) (eMov (slotG 26))]
noncomputable def R54_8 : CT :=
  .reg [
  oP (pdT 28) (eMov (slotG 3)),
  oP (pdT 29) (e2 (cBin .gtr) (slotG 28) (constG (.int .i64 0))),
  oP (pdT 30) (eMov (slotG 29)),
  gP (slotG 30) true (pdT 31) (eMov (slotG 4)),
  gP (slotG 30) true (pdT 32) (e2 (cBin .geq) (slotG 31) (constG (.int .u8 48))),
  gP (slotG 30) true (pdT 33) (eMov (slotG 32)),
  gP (slotG 33) true (pdT 34) (eMov (slotG 4)),
  gP (slotG 33) true (pdT 35) (e2 (cBin .leq) (slotG 34) (constG (.int .u8 57))),
  gP (slotG 30) true (pdT 36) (ePick (slotG 33) (slotG 35) (constG (.bool false))),
  gP (slotG 30) true (pdT 37) (eMov (slotG 36)),
  gP (slotG 37) false (pdT 38) (eMov (slotG 4)),
  gP (slotG 37) false (pdT 39) (e2 (cEq false .num) (slotG 38) (constG (.int .u8 95))),
  gP (slotG 30) true (pdT 40) (ePick (slotG 37) (constG (.bool true)) (slotG 39)),
  oP (pdT 41) (ePick (slotG 30) (slotG 40) (constG (.bool false))),
  oP (pdT 27) (eMov (slotG 41))]
noncomputable def R54_9 : CT :=
  .reg [
  oP (pdT 2) (eMov (constG (.bool false)))]
noncomputable def R54_10 : CT :=
  .reg [
  oP (pdT 42) (e2 (cBin .add) (slotG 14) (constG (.int .i64 1))),
  oP (pdT 14) (eMov (slotG 42))]
noncomputable def L54_0 : CT := (.seq R54_4 (.seq (.cond (slotG 15) .skip (.exit 0)) (.seq (.block 1 (.seq R54_5 (.seq R54_6 (.block 2 (.seq R54_7 (.cond (slotG 20) .skip (.seq R54_8 (.cond (slotG 27) .skip (.seq R54_9 .ret))))))))) R54_10)))
noncomputable def R54_11 : CT :=
  .reg [
  oP (pdT 2) (eMov (constG (.bool true)))]
noncomputable def B54 : CT := (.seq R54_0 (.seq (.seq R54_1 (.cond (slotG 11) (.seq R54_2 .ret) .skip)) (.seq (.seq R54_3 (.block 0 (.loop L54_0))) (.seq R54_11 .ret))))
noncomputable def A54 : CF := { res := [rTmp 2], code := B54, nt := 43 }
theorem c54 : ctF Tryz.prog 54 = some A54 := by kernel_rfl

/-! 61: cadastre/parse.named -/
noncomputable def R61_0 : CT :=
  .reg [
  oP (pdT 2) (eMov (constG (.bool false)))]
noncomputable def R61_1 : CT :=
  .reg [
  oP (pdT 3) (eMov (slotG 0)),
  cP (pdT 4) 54 [(slotG 3)],
  oP (pdT 5) (eMov (slotG 4)),
  gP (slotG 5) true (pdT 6) (eMov (slotG 0)),
  gcP (slotG 5) true (pdT 7) 93 [(slotG 6)],
  gP (slotG 5) true (pdT 8) (e1 (cUn .not) (slotG 7)),
  oP (pdT 9) (ePick (slotG 5) (slotG 8) (constG (.bool false))),
  oP (pdT 2) (eMov (slotG 9))]
noncomputable def B61 : CT := (.seq R61_0 (.seq R61_1 .ret))
noncomputable def A61 : CF := { res := [rTmp 2], code := B61, nt := 10 }
theorem c61 : ctF Tryz.prog 61 = some A61 := by kernel_rfl

/-! 62: cadastre/parse.upTo -/
noncomputable def R62_0 : CT :=
  .reg [
  oP (pdT 4) (eMov (constG (.bool false)))]
noncomputable def R62_1 : CT :=
  .reg [
  oP (pdT 5) (eMov (slotG 0)),
  oP (pdT 6) (e2 (cBin .geq) (slotG 5) (constG (.int .i64 1))),
  oP (pdT 7) (eMov (slotG 6)),
  gP (slotG 7) true (pdT 8) (eMov (slotG 0)),
  gP (slotG 7) true (pdT 9) (eMov (slotG 1)),
  gP (slotG 7) true (pdT 10) (e2 (cBin .leq) (slotG 8) (slotG 9)),
  oP (pdT 11) (ePick (slotG 7) (slotG 10) (constG (.bool false))),
  oP (pdT 4) (eMov (slotG 11))]
noncomputable def B62 : CT := (.seq R62_0 (.seq R62_1 .ret))
noncomputable def A62 : CF := { res := [rTmp 4], code := B62, nt := 12 }
theorem c62 : ctF Tryz.prog 62 = some A62 := by kernel_rfl

/-! 63: cadastre/parse.may -/
noncomputable def R63_0 : CT :=
  .reg [
  oP (pdT 1) (eBox (slotG 0)),
  oP (pdT 2) (eMov (constG (.bool false)))]
noncomputable def R63_1 : CT :=
  .reg [
  oP (pdT 3) (eMov (constG (.int .i64 2)))]
noncomputable def R63_2 : CT :=
  .reg [
  oP (pdT 9) (e1 (cAddo 0) (slotG 1)),
  oP (pdT 10) (eLoad1 (slotG 9)),
  oP (pdT 11) (e2 (cEq false .num) (slotG 10) (constG (.int .i64 1))),
  oP (pdT 8) (eMov (slotG 11))]
noncomputable def R63_3 : CT :=
  .reg [
  oP (pdT 12) (e1 (cAddo 1) (slotG 1)),
  oP (pdT 13) (eLoadN 3 (slotG 12)),
  oP (pdT 4) (eAlloc [(.int .i64 0), (.int .i64 0), (.str [])] 3),
  oP pdN (eStore 3 (slotG 4) (slotG 13))]
noncomputable def R63_4 : CT :=
  .reg [
  oP (pdT 14) (eBuild [(.int .i64 0), (.int .i64 0), (.str [])] 3 []),
  oP (pdT 15) (e1 (cAddo 1) (slotG 1)),
  oP pdN (eStore 3 (slotG 15) (slotG 14))]
noncomputable def R63_5 : CT :=
  .reg [
  oP (pdT 16) (eLoadN 8 (slotG 1)),
  cP (pdT 17) 94 [(slotG 16), (constG (.int .i64 1))],
  oP (pdT 18) (eMov (slotG 17)),
  gP (slotG 18) true (pdT 19) (eLoadN 3 (slotG 4)),
  gcP (slotG 18) true (pdT 20) 48 [(slotG 19)],
  oP (pdT 21) (ePick (slotG 18) (slotG 20) (constG (.bool false))),
  oP (pdT 22) (eMov (slotG 21)),
  gP (slotG 22) true (pdT 23) (e1 (cAddo 0) (slotG 4)),
  gP (slotG 22) true (pdT 24) (eLoad1 (slotG 23)),
  gP (slotG 22) true (pdT 25) (e2 (cEq true .num) (slotG 24) (constG (.int .i64 1))),
  gP (slotG 22) true (pdT 26) (eMov (slotG 25)),
  gP (slotG 26) false (pdT 27) (e1 (cAddo 1) (slotG 4)),
  gP (slotG 26) false (pdT 28) (eLoad1 (slotG 27)),
  gP (slotG 26) false (pdT 29) (e2 (cBin .geq) (slotG 28) (constG (.int .i64 0))),
  gP (slotG 22) true (pdT 30) (ePick (slotG 26) (constG (.bool true)) (slotG 29)),
  oP (pdT 31) (ePick (slotG 22) (slotG 30) (constG (.bool false))),
  oP (pdT 2) (eMov (slotG 31))]
noncomputable def R63_6 : CT :=
  .reg [
  oP (pdT 33) (e1 (cAddo 0) (slotG 1)),
  oP (pdT 34) (eLoad1 (slotG 33)),
  oP (pdT 35) (e2 (cEq false .num) (slotG 34) (constG (.int .i64 2))),
  oP (pdT 32) (eMov (slotG 35))]
noncomputable def R63_7 : CT :=
  .reg [
  oP (pdT 36) (e1 (cAddo 5) (slotG 1)),
  oP (pdT 37) (eLoad1 (slotG 36)),
  cP (pdT 38) 61 [(slotG 37)],
  oP (pdT 39) (eMov (slotG 38)),
  gP (slotG 39) true (pdT 40) (e1 (cAddo 4) (slotG 1)),
  gP (slotG 39) true (pdT 41) (eLoad1 (slotG 40)),
  gP (slotG 39) true (pdT 42) (e2 (cEq false .num) (slotG 41) (constG (.str []))),
  gP (slotG 39) true (pdT 43) (eMov (slotG 42)),
  gP (slotG 43) false (pdT 44) (e1 (cAddo 4) (slotG 1)),
  gP (slotG 43) false (pdT 45) (eLoad1 (slotG 44)),
  gcP (slotG 43) false (pdT 46) 61 [(slotG 45)],
  gP (slotG 39) true (pdT 47) (ePick (slotG 43) (constG (.bool true)) (slotG 46)),
  oP (pdT 48) (ePick (slotG 39) (slotG 47) (constG (.bool false))),
  oP (pdT 5) (eMov (slotG 48))]
noncomputable def R63_8 : CT :=
  .reg [
  oP (pdT 49) (e1 (cAddo 5) (slotG 1)),
  oP pdN (eStore 1 (slotG 49) (constG (.str []))),
  oP (pdT 50) (e1 (cAddo 4) (slotG 1)),
  oP pdN (eStore 1 (slotG 50) (constG (.str [])))]
noncomputable def R63_9 : CT :=
  .reg [
  oP (pdT 51) (eMov (slotG 5)),
  oP (pdT 52) (eMov (slotG 51)),
  gP (slotG 52) true (pdT 53) (eLoadN 8 (slotG 1)),
  gcP (slotG 52) true (pdT 54) 94 [(slotG 53), (constG (.int .i64 2))],
  oP (pdT 55) (ePick (slotG 52) (slotG 54) (constG (.bool false))),
  oP (pdT 2) (eMov (slotG 55))]
noncomputable def R63_10 : CT :=
  .reg [
  oP (pdT 57) (e1 (cAddo 0) (slotG 1)),
  oP (pdT 58) (eLoad1 (slotG 57)),
  oP (pdT 59) (e2 (cEq false .num) (slotG 58) (constG (.int .i64 4))),
  oP (pdT 60) (eMov (slotG 59)),
  gP (slotG 60) false (pdT 61) (e1 (cAddo 0) (slotG 1)),
  gP (slotG 60) false (pdT 62) (eLoad1 (slotG 61)),
  gP (slotG 60) false (pdT 63) (e2 (cEq false .num) (slotG 62) (constG (.int .i64 5))),
  oP (pdT 64) (ePick (slotG 60) (constG (.bool true)) (slotG 63)),
  oP (pdT 65) (eMov (slotG 64)),
  gP (slotG 65) false (pdT 66) (e1 (cAddo 0) (slotG 1)),
  gP (slotG 65) false (pdT 67) (eLoad1 (slotG 66)),
  gP (slotG 65) false (pdT 68) (e2 (cEq false .num) (slotG 67) (constG (.int .i64 6))),
  oP (pdT 69) (ePick (slotG 65) (constG (.bool true)) (slotG 68)),
  oP (pdT 70) (eMov (slotG 69)),
  gP (slotG 70) false (pdT 71) (e1 (cAddo 0) (slotG 1)),
  gP (slotG 70) false (pdT 72) (eLoad1 (slotG 71)),
  gP (slotG 70) false (pdT 73) (e2 (cEq false .num) (slotG 72) (constG (.int .i64 7))),
  oP (pdT 74) (ePick (slotG 70) (constG (.bool true)) (slotG 73)),
  oP (pdT 56) (eMov (slotG 74))]
noncomputable def R63_11 : CT :=
  .reg [
  oP (pdT 3) (eMov (constG (.int .i64 1)))]
noncomputable def R63_12 : CT :=
  .reg [
  oP (pdT 76) (e1 (cAddo 0) (slotG 1)),
  oP (pdT 77) (eLoad1 (slotG 76)),
  oP (pdT 78) (e2 (cBin .lss) (slotG 77) (constG (.int .i64 8))),
  oP (pdT 79) (eMov (slotG 78)),
  gP (slotG 79) false (pdT 80) (e1 (cAddo 0) (slotG 1)),
  gP (slotG 79) false (pdT 81) (eLoad1 (slotG 80)),
  gP (slotG 79) false (pdT 82) (e2 (cBin .gtr) (slotG 81) (constG (.int .i64 21))),
  oP (pdT 83) (ePick (slotG 79) (constG (.bool true)) (slotG 82)),
  oP (pdT 75) (eMov (slotG 83))]
noncomputable def R63_13 : CT :=
  .reg [
  oP (pdT 2) (eMov (constG (.bool false)))]
noncomputable def R63_14 : CT :=
  .reg [
  oP (pdT 84) (e1 (cAddo 7) (slotG 1)),
  oP (pdT 85) (eLoad1 (slotG 84)),
  oP (pdT 86) (e1 cLenL (slotG 85)),
  oP (pdT 87) (eMov (slotG 3)),
  oP (pdT 88) (e2 (cEq true .num) (slotG 86) (slotG 87)),
  oP (pdT 89) (eMov (slotG 88)),
  gP (slotG 89) false (pdT 90) (e1 (cAddo 1) (slotG 1)),
  gP (slotG 89) false (pdT 91) (eLoadN 3 (slotG 90)),
  gP (slotG 89) false (pdT 92) (eBuild [(.int .i64 0), (.int .i64 0), (.str [])] 3 []),
  gP (slotG 89) false (pdT 93) (e2 (cEqA true [.i, .i, .s]) (slotG 91) (slotG 92)),
  oP (pdT 94) (ePick (slotG 89) (constG (.bool true)) (slotG 93)),
  oP (pdT 95) (eMov (slotG 94)),
  gP (slotG 95) false (pdT 96) (e1 (cAddo 4) (slotG 1)),
  gP (slotG 95) false (pdT 97) (eLoad1 (slotG 96)),
  gP (slotG 95) false (pdT 98) (e2 (cEq true .num) (slotG 97) (constG (.str []))),
  oP (pdT 99) (ePick (slotG 95) (constG (.bool true)) (slotG 98)),
  oP (pdT 100) (eMov (slotG 99)),
  gP (slotG 100) false (pdT 101) (e1 (cAddo 5) (slotG 1)),
  gP (slotG 100) false (pdT 102) (eLoad1 (slotG 101)),
  gP (slotG 100) false (pdT 103) (e2 (cEq true .num) (slotG 102) (constG (.str []))),
  oP (pdT 104) (ePick (slotG 100) (constG (.bool true)) (slotG 103)),
  oP (pdT 105) (eMov (slotG 104)),
  gP (slotG 105) false (pdT 106) (e1 (cAddo 6) (slotG 1)),
  gP (slotG 105) false (pdT 107) (eLoad1 (slotG 106)),
  gP (slotG 105) false (pdT 108) (e2 (cEq true .num) (slotG 107) (constG (.int .i64 0))),
  oP (pdT 109) (ePick (slotG 105) (constG (.bool true)) (slotG 108))]
noncomputable def R63_15 : CT :=
  .reg [
  oP (pdT 2) (eMov (constG (.bool false)))]
noncomputable def R63_16 : CT :=
  .reg [
  oP (pdT 110) (e1 (cAddo 7) (slotG 1)),
  oP (pdT 111) (eLoad1 (slotG 110)),
  oP (pdT 112) (e1 cLenL (slotG 111)),
  oP (pdT 113) (eMov (constG (.int .i64 0)))]
noncomputable def R63_17 : CT :=
  .reg [
  oP (pdT 114) (e2 (cBin .lss) (slotG 113) (slotG 112))]
noncomputable def R63_18 : CT :=
  .reg [
  oP (pdT 115) (e2 (cIxa 8) (slotG 111) (slotG 113)),
  oP (pdT 116) (eLoadN 8 (slotG 115)),
  oP (pdT 7) (eAlloc [(.int .i64 0), (.int .i64 0), (.int .i64 0), (.str []), (.str []), (.str []), (.int .i64 0), (.cst (.slice none 0 0))] 8),
  oP pdN (eStore 8 (slotG 7) (slotG 116))]
noncomputable def R63_19 : CT :=
  .reg [
  oP (pdT 117) (eLoadN 8 (slotG 7)),
  cP (pdT 118) 63 [(slotG 117)],
  oP (pdT 119) (e1 (cUn .not) (slotG 118))]
noncomputable def R63_20 : CT :=
  .reg [
  oP (pdT 2) (eMov (constG (.bool false)))]
noncomputable def R63_21 : CT :=
  .reg [
  oP (pdT 120) (e2 (cBin .add) (slotG 113) (constG (.int .i64 1))),
  oP (pdT 113) (eMov (slotG 120))]
noncomputable def L63_0 : CT := (.seq R63_17 (.seq (.cond (slotG 114) .skip (.exit 1)) (.seq (.block 2 (.seq R63_18 (.seq R63_19 (.cond (slotG 119) (.seq R63_20 .ret) .skip)))) R63_21)))
noncomputable def R63_22 : CT :=
  .reg [
  oP (pdT 2) (eMov (constG (.bool true)))]
noncomputable def B63 : CT := (.seq R63_0 (.seq R63_1 (.seq (.block 0 (.seq R63_2 (.cond (slotG 8) (.seq R63_3 (.seq R63_4 (.seq R63_5 .ret))) (.seq R63_6 (.cond (slotG 32) (.seq R63_7 (.seq R63_8 (.seq R63_9 .ret))) (.seq R63_10 (.cond (slotG 56) R63_11 (.seq R63_12 (.cond (slotG 75) (.seq R63_13 .ret) .skip))))))))) (.seq (.seq R63_14 (.cond (slotG 109) (.seq R63_15 .ret) .skip)) (.seq (.seq R63_16 (.block 1 (.loop L63_0))) (.seq R63_22 .ret))))))
noncomputable def A63 : CF := { res := [rTmp 2], code := B63, nt := 121 }
theorem c63 : ctF Tryz.prog 63 = some A63 := by kernel_rfl

/-! 64: cadastre/parse.maybe -/
noncomputable def R64_0 : CT :=
  .reg [
  oP (pdT 1) (eBox (slotG 0)),
  oP (pdT 2) (eMov (constG (.bool false)))]
noncomputable def R64_1 : CT :=
  .reg [
  oP (pdT 3) (eLoadN 8 (slotG 1)),
  cP (pdT 4) 95 [(slotG 3)],
  oP (pdT 5) (eMov (slotG 4)),
  gP (slotG 5) false (pdT 6) (eLoadN 8 (slotG 1)),
  gcP (slotG 5) false (pdT 7) 63 [(slotG 6)],
  oP (pdT 8) (ePick (slotG 5) (constG (.bool true)) (slotG 7)),
  oP (pdT 2) (eMov (slotG 8))]
noncomputable def B64 : CT := (.seq R64_0 (.seq R64_1 .ret))
noncomputable def A64 : CF := { res := [rTmp 2], code := B64, nt := 9 }
theorem c64 : ctF Tryz.prog 64 = some A64 := by kernel_rfl

/-! 65: cadastre/parse.mayQuery -/
noncomputable def R65_0 : CT :=
  .reg [
  oP (pdT 1) (eBox (slotG 0)),
  oP (pdT 2) (eMov (constG (.bool false)))]
noncomputable def R65_1 : CT :=
  .reg [
  oP (pdT 10) (e1 (cAddo 4) (slotG 1)),
  oP (pdT 11) (eLoadN 8 (slotG 10)),
  cP (pdT 12) 64 [(slotG 11)],
  oP (pdT 13) (eMov (slotG 12)),
  gP (slotG 13) true (pdT 14) (e1 (cAddo 3) (slotG 1)),
  gP (slotG 13) true (pdT 15) (eLoad1 (slotG 14)),
  gP (slotG 13) true (pdT 16) (e1 cLenL (slotG 15)),
  gP (slotG 13) true (pdT 17) (e2 (cBin .leq) (slotG 16) (constG (.int .i64 4))),
  oP (pdT 18) (ePick (slotG 13) (slotG 17) (constG (.bool false))),
  oP (pdT 19) (eMov (slotG 18)),
  gP (slotG 19) true (pdT 20) (e1 (cAddo 12) (slotG 1)),
  gP (slotG 19) true (pdT 21) (eLoad1 (slotG 20)),
  gP (slotG 19) true (pdT 22) (e1 cLenL (slotG 21)),
  gP (slotG 19) true (pdT 23) (e2 (cBin .leq) (slotG 22) (constG (.int .i64 16))),
  oP (pdT 24) (ePick (slotG 19) (slotG 23) (constG (.bool false))),
  oP (pdT 25) (eMov (slotG 24)),
  gP (slotG 25) true (pdT 26) (e1 (cAddo 14) (slotG 1)),
  gP (slotG 25) true (pdT 27) (eLoad1 (slotG 26)),
  gP (slotG 25) true (pdT 28) (e2 (cBin .geq) (slotG 27) (constG (.int .i64 0))),
  oP (pdT 29) (ePick (slotG 25) (slotG 28) (constG (.bool false))),
  oP (pdT 30) (eMov (slotG 29)),
  gP (slotG 30) true (pdT 31) (e1 (cAddo 13) (slotG 1)),
  gP (slotG 30) true (pdT 32) (eLoad1 (slotG 31)),
  gP (slotG 30) true (pdT 33) (eMov (slotG 32)),
  gP (slotG 33) false (pdT 34) (e1 (cAddo 14) (slotG 1)),
  gP (slotG 33) false (pdT 35) (eLoad1 (slotG 34)),
  gP (slotG 33) false (pdT 36) (e2 (cEq false .num) (slotG 35) (constG (.int .i64 0))),
  gP (slotG 30) true (pdT 37) (ePick (slotG 33) (constG (.bool true)) (slotG 36)),
  oP (pdT 38) (ePick (slotG 30) (slotG 37) (constG (.bool false))),
  oP (pdT 3) (eMov (slotG 38))]
noncomputable def R65_2 : CT :=
  .reg [
  oP (pdT 39) (e1 (cAddo 1) (slotG 1)),
  oP (pdT 40) (eLoad1 (slotG 39))]
noncomputable def R65_3 : CT :=
  .reg [
  oP (pdT 41) (eMov (slotG 3)),
  oP (pdT 42) (eMov (slotG 41)),
  gP (slotG 42) true (pdT 43) (e1 (cAddo 2) (slotG 1)),
  gP (slotG 42) true (pdT 44) (eLoad1 (slotG 43)),
  gP (slotG 42) true (pdT 45) (e1 cLenL (slotG 44)),
  gP (slotG 42) true (pdT 46) (e2 (cEq false .num) (slotG 45) (constG (.int .i64 0))),
  oP (pdT 47) (ePick (slotG 42) (slotG 46) (constG (.bool false))),
  oP (pdT 3) (eMov (slotG 47))]
noncomputable def R65_4 : CT :=
  .reg [
  oP (pdT 48) (eMov (slotG 3)),
  oP (pdT 49) (eMov (slotG 48)),
  gP (slotG 49) true (pdT 50) (e1 (cAddo 2) (slotG 1)),
  gP (slotG 49) true (pdT 51) (eLoad1 (slotG 50)),
  gP (slotG 49) true (pdT 52) (e1 cLenL (slotG 51)),
  gcP (slotG 49) true (pdT 53) 62 [(slotG 52), (constG (.int .i64 16))],
  oP (pdT 54) (ePick (slotG 49) (slotG 53) (constG (.bool false))),
  oP (pdT 3) (eMov (slotG 54))]
noncomputable def R65_5 : CT :=
  .reg [
  oP (pdT 55) (e1 (cAddo 2) (slotG 1)),
  oP (pdT 56) (eLoad1 (slotG 55)),
  oP (pdT 57) (e1 cLenL (slotG 56)),
  oP (pdT 58) (eMov (constG (.int .i64 0)))]
noncomputable def R65_6 : CT :=
  .reg [
  oP (pdT 59) (e2 (cBin .lss) (slotG 58) (slotG 57))]
noncomputable def R65_7 : CT :=
  .reg [
  oP (pdT 60) (e2 (cIxa 9) (slotG 56) (slotG 58)),
  oP (pdT 61) (eLoadN 9 (slotG 60)),
  oP (pdT 5) (eAlloc [(.int .i64 0), (.int .i64 0), (.int .i64 0), (.str []), (.str []), (.str []), (.int .i64 0), (.cst (.slice none 0 0)), (.str [])] 9),
  oP pdN (eStore 9 (slotG 5) (slotG 61))]
noncomputable def R65_8 : CT :=
  .reg [
  oP (pdT 62) (eMov (slotG 3)),
  oP (pdT 63) (eMov (slotG 62)),
  gP (slotG 63) true (pdT 64) (e1 (cAddo 0) (slotG 5)),
  gP (slotG 63) true (pdT 65) (eLoadN 8 (slotG 64)),
  gcP (slotG 63) true (pdT 66) 63 [(slotG 65)],
  oP (pdT 67) (ePick (slotG 63) (slotG 66) (constG (.bool false))),
  oP (pdT 68) (eMov (slotG 67)),
  gP (slotG 68) true (pdT 69) (e1 (cAddo 8) (slotG 5)),
  gP (slotG 68) true (pdT 70) (eLoad1 (slotG 69)),
  gP (slotG 68) true (pdT 71) (e2 (cEq false .num) (slotG 70) (constG (.str []))),
  gP (slotG 68) true (pdT 72) (eMov (slotG 71)),
  gP (slotG 72) false (pdT 73) (e1 (cAddo 8) (slotG 5)),
  gP (slotG 72) false (pdT 74) (eLoad1 (slotG 73)),
  gcP (slotG 72) false (pdT 75) 61 [(slotG 74)],
  gP (slotG 68) true (pdT 76) (ePick (slotG 72) (constG (.bool true)) (slotG 75)),
  oP (pdT 77) (ePick (slotG 68) (slotG 76) (constG (.bool false))),
  oP (pdT 3) (eMov (slotG 77))]
noncomputable def R65_9 : CT :=
  .reg [
  oP (pdT 78) (e2 (cBin .add) (slotG 58) (constG (.int .i64 1))),
  oP (pdT 58) (eMov (slotG 78))]
noncomputable def L65_0 : CT := (.seq R65_6 (.seq (.cond (slotG 59) .skip (.exit 0)) (.seq (.block 1 (.seq R65_7 R65_8)) R65_9)))
noncomputable def R65_10 : CT :=
  .reg [
  oP (pdT 79) (e1 (cAddo 3) (slotG 1)),
  oP (pdT 80) (eLoad1 (slotG 79)),
  oP (pdT 81) (e1 cLenL (slotG 80)),
  oP (pdT 82) (eMov (constG (.int .i64 0)))]
noncomputable def R65_11 : CT :=
  .reg [
  oP (pdT 83) (e2 (cBin .lss) (slotG 82) (slotG 81))]
noncomputable def R65_12 : CT :=
  .reg [
  oP (pdT 84) (eMov (slotG 82)),
  oP (pdT 85) (e2 (cIxa 10) (slotG 80) (slotG 82)),
  oP (pdT 86) (eLoadN 10 (slotG 85)),
  oP (pdT 7) (eAlloc [(.str []), (.str []), (.int .i64 0), (.int .i64 0), (.int .i64 0), (.str []), (.str []), (.str []), (.int .i64 0), (.cst (.slice none 0 0))] 10),
  oP (pdT 6) (eMov (slotG 84)),
  oP pdN (eStore 10 (slotG 7) (slotG 86))]
noncomputable def R65_13 : CT :=
  .reg [
  oP (pdT 87) (eMov (slotG 3)),
  oP (pdT 88) (eMov (slotG 87)),
  gP (slotG 88) true (pdT 89) (e1 (cAddo 0) (slotG 7)),
  gP (slotG 88) true (pdT 90) (eLoad1 (slotG 89)),
  gcP (slotG 88) true (pdT 91) 61 [(slotG 90)],
  oP (pdT 92) (ePick (slotG 88) (slotG 91) (constG (.bool false))),
  oP (pdT 93) (eMov (slotG 92)),
  gP (slotG 93) true (pdT 94) (e1 (cAddo 1) (slotG 7)),
  gP (slotG 93) true (pdT 95) (eLoad1 (slotG 94)),
  gP (slotG 93) true (pdT 96) (e2 (cEq false .num) (slotG 95) (constG (.str []))),
  gP (slotG 93) true (pdT 97) (eMov (slotG 96)),
  gP (slotG 97) false (pdT 98) (e1 (cAddo 1) (slotG 7)),
  gP (slotG 97) false (pdT 99) (eLoad1 (slotG 98)),
  gcP (slotG 97) false (pdT 100) 61 [(slotG 99)],
  gP (slotG 93) true (pdT 101) (ePick (slotG 97) (constG (.bool true)) (slotG 100)),
  oP (pdT 102) (ePick (slotG 93) (slotG 101) (constG (.bool false))),
  oP (pdT 103) (eMov (slotG 102)),
  gP (slotG 103) true (pdT 104) (eMov (slotG 6)),
  gP (slotG 103) true (pdT 105) (e2 (cEq false .num) (slotG 104) (constG (.int .i64 0))),
  gP (slotG 103) true (pdT 106) (eMov (slotG 105)),
  gP (slotG 106) true (pdT 107) (e1 (cAddo 2) (slotG 7)),
  gP (slotG 106) true (pdT 108) (eLoadN 8 (slotG 107)),
  gcP (slotG 106) true (pdT 109) 95 [(slotG 108)],
  gP (slotG 103) true (pdT 110) (ePick (slotG 106) (slotG 109) (constG (.bool false))),
  gP (slotG 103) true (pdT 111) (eMov (slotG 110)),
  gP (slotG 111) false (pdT 112) (eMov (slotG 6)),
  gP (slotG 111) false (pdT 113) (e2 (cBin .gtr) (slotG 112) (constG (.int .i64 0))),
  gP (slotG 111) false (pdT 114) (eMov (slotG 113)),
  gP (slotG 114) true (pdT 115) (e1 (cAddo 2) (slotG 7)),
  gP (slotG 114) true (pdT 116) (eLoadN 8 (slotG 115)),
  gcP (slotG 114) true (pdT 117) 63 [(slotG 116)],
  gP (slotG 111) false (pdT 118) (ePick (slotG 114) (slotG 117) (constG (.bool false))),
  gP (slotG 103) true (pdT 119) (ePick (slotG 111) (constG (.bool true)) (slotG 118)),
  oP (pdT 120) (ePick (slotG 103) (slotG 119) (constG (.bool false))),
  oP (pdT 3) (eMov (slotG 120))]
noncomputable def R65_14 : CT :=
  .reg [
  oP (pdT 121) (e2 (cBin .add) (slotG 82) (constG (.int .i64 1))),
  oP (pdT 82) (eMov (slotG 121))]
noncomputable def L65_1 : CT := (.seq R65_11 (.seq (.cond (slotG 83) .skip (.exit 2)) (.seq (.block 3 (.seq R65_12 R65_13)) R65_14)))
noncomputable def R65_15 : CT :=
  .reg [
  oP (pdT 122) (e1 (cAddo 12) (slotG 1)),
  oP (pdT 123) (eLoad1 (slotG 122)),
  oP (pdT 124) (e1 cLenL (slotG 123)),
  oP (pdT 125) (eMov (constG (.int .i64 0)))]
noncomputable def R65_16 : CT :=
  .reg [
  oP (pdT 126) (e2 (cBin .lss) (slotG 125) (slotG 124))]
noncomputable def R65_17 : CT :=
  .reg [
  oP (pdT 127) (e2 (cIxa 2) (slotG 123) (slotG 125)),
  oP (pdT 128) (eLoadN 2 (slotG 127)),
  oP (pdT 9) (eAlloc [(.str []), (.bool false)] 2),
  oP pdN (eStore 2 (slotG 9) (slotG 128))]
noncomputable def R65_18 : CT :=
  .reg [
  oP (pdT 129) (eMov (slotG 3)),
  oP (pdT 130) (eMov (slotG 129)),
  gP (slotG 130) true (pdT 131) (e1 (cAddo 0) (slotG 9)),
  gP (slotG 130) true (pdT 132) (eLoad1 (slotG 131)),
  gcP (slotG 130) true (pdT 133) 61 [(slotG 132)],
  oP (pdT 134) (ePick (slotG 130) (slotG 133) (constG (.bool false))),
  oP (pdT 3) (eMov (slotG 134))]
noncomputable def R65_19 : CT :=
  .reg [
  oP (pdT 135) (e2 (cBin .add) (slotG 125) (constG (.int .i64 1))),
  oP (pdT 125) (eMov (slotG 135))]
noncomputable def L65_2 : CT := (.seq R65_16 (.seq (.cond (slotG 126) .skip (.exit 4)) (.seq (.block 5 (.seq R65_17 R65_18)) R65_19)))
noncomputable def R65_20 : CT :=
  .reg [
  oP (pdT 136) (eMov (slotG 3)),
  oP (pdT 2) (eMov (slotG 136))]
noncomputable def B65 : CT := (.seq R65_0 (.seq R65_1 (.seq (.seq R65_2 (.cond (slotG 40) R65_3 R65_4)) (.seq (.seq R65_5 (.block 0 (.loop L65_0))) (.seq (.seq R65_10 (.block 2 (.loop L65_1))) (.seq (.seq R65_15 (.block 4 (.loop L65_2))) (.seq R65_20 .ret)))))))
noncomputable def A65 : CF := { res := [rTmp 2], code := B65, nt := 137 }
theorem c65 : ctF Tryz.prog 65 = some A65 := by kernel_rfl

/-! 66: cadastre/parse.rest -/
noncomputable def R66_0 : CT :=
  .reg [
  oP (pdT 2) (eBox (slotG 0)),
  oP (pdT 3) (eBox (slotG 1)),
  oP (pdT 4) (eMov (constG (.bool false)))]
noncomputable def R66_1 : CT :=
  .drw [7, 8, 9, 10, 5, 6] [
  oI [2] (pdT 7) (e1 (cAddo 16) (slotG 2)) 1,
  oI [7] (pdT 8) (eLoadN 15 (slotG 7)) 1,
  oI [] (pdT 5) (eAlloc [(.bool false), (.bool false), (.cst (.slice none 0 0)), (.cst (.slice none 0 0)), (.int .i64 0), (.int .i64 0), (.int .i64 0), (.str []), (.str []), (.str []), (.int .i64 0), (.cst (.slice none 0 0)), (.cst (.slice none 0 0)), (.bool false), (.int .i64 0)] 15) 1,
  oI [] (pdT 6) (eAlloc [(.bool false), (.bool false), (.cst (.slice none 0 0)), (.cst (.slice none 0 0)), (.int .i64 0), (.int .i64 0), (.int .i64 0), (.str []), (.str []), (.str []), (.int .i64 0), (.cst (.slice none 0 0)), (.cst (.slice none 0 0)), (.bool false), (.int .i64 0)] 15) 1,
  mI [5, 8] pdN (eStore 15 (slotG 5) (slotG 8)),
  oI [3] (pdT 9) (e1 (cAddo 16) (slotG 3)) 2,
  oI [9] (pdT 10) (eLoadN 15 (slotG 9)) 2,
  mI [6, 10] pdN (eStore 15 (slotG 6) (slotG 10))]
noncomputable def R66_2 : CT :=
  .reg [
  oP (pdT 11) (e1 (cAddo 1) (slotG 2)),
  oP (pdT 12) (eLoad1 (slotG 11)),
  oP (pdT 13) (e1 (cAddo 1) (slotG 3)),
  oP (pdT 14) (eLoad1 (slotG 13)),
  oP (pdT 15) (e2 (cEq false .num) (slotG 12) (slotG 14)),
  oP (pdT 16) (eMov (slotG 15)),
  gP (slotG 16) true (pdT 17) (e1 (cAddo 2) (slotG 2)),
  gP (slotG 16) true (pdT 18) (eLoad1 (slotG 17)),
  gP (slotG 16) true (pdT 19) (e1 (cAddo 2) (slotG 3)),
  gP (slotG 16) true (pdT 20) (eLoad1 (slotG 19)),
  gP (slotG 16) true (pdT 21) (e2 (cEq false .num) (slotG 18) (slotG 20)),
  oP (pdT 22) (ePick (slotG 16) (slotG 21) (constG (.bool false))),
  oP (pdT 23) (eMov (slotG 22)),
  gP (slotG 23) true (pdT 24) (e1 (cAddo 3) (slotG 2)),
  gP (slotG 23) true (pdT 25) (eLoad1 (slotG 24)),
  gP (slotG 23) true (pdT 26) (e1 cLenL (slotG 25)),
  gP (slotG 23) true (pdT 27) (e1 (cAddo 3) (slotG 3)),
  gP (slotG 23) true (pdT 28) (eLoad1 (slotG 27)),
  gP (slotG 23) true (pdT 29) (e1 cLenL (slotG 28)),
  gP (slotG 23) true (pdT 30) (e2 (cEq false .num) (slotG 26) (slotG 29)),
  oP (pdT 31) (ePick (slotG 23) (slotG 30) (constG (.bool false))),
  oP (pdT 32) (eMov (slotG 31)),
  gP (slotG 32) true (pdT 33) (e1 (cAddo 4) (slotG 2)),
  gP (slotG 32) true (pdT 34) (eLoad1 (slotG 33)),
  gP (slotG 32) true (pdT 35) (e1 cLenL (slotG 34)),
  gP (slotG 32) true (pdT 36) (e1 (cAddo 4) (slotG 3)),
  gP (slotG 32) true (pdT 37) (eLoad1 (slotG 36)),
  gP (slotG 32) true (pdT 38) (e1 cLenL (slotG 37)),
  gP (slotG 32) true (pdT 39) (e2 (cEq false .num) (slotG 35) (slotG 38)),
  oP (pdT 40) (ePick (slotG 32) (slotG 39) (constG (.bool false))),
  oP (pdT 41) (eMov (slotG 40)),
  gP (slotG 41) true (pdT 42) (e1 (cAddo 5) (slotG 2)),
  gP (slotG 41) true (pdT 43) (eLoad1 (slotG 42)),
  gP (slotG 41) true (pdT 44) (e1 (cAddo 5) (slotG 3)),
  gP (slotG 41) true (pdT 45) (eLoad1 (slotG 44)),
  gP (slotG 41) true (pdT 46) (e2 (cEq false .bool) (slotG 43) (slotG 45)),
  oP (pdT 47) (ePick (slotG 41) (slotG 46) (constG (.bool false))),
  oP (pdT 48) (eMov (slotG 47)),
  gP (slotG 48) true (pdT 49) (e1 (cAddo 6) (slotG 2)),
  gP (slotG 48) true (pdT 50) (eLoad1 (slotG 49)),
  gP (slotG 48) true (pdT 51) (e1 cLenL (slotG 50)),
  gP (slotG 48) true (pdT 52) (e1 (cAddo 6) (slotG 3)),
  gP (slotG 48) true (pdT 53) (eLoad1 (slotG 52)),
  gP (slotG 48) true (pdT 54) (e1 cLenL (slotG 53)),
  gP (slotG 48) true (pdT 55) (e2 (cEq false .num) (slotG 51) (slotG 54)),
  oP (pdT 56) (ePick (slotG 48) (slotG 55) (constG (.bool false))),
  oP (pdT 57) (eMov (slotG 56)),
  gP (slotG 57) true (pdT 58) (e1 (cAddo 7) (slotG 2)),
  gP (slotG 57) true (pdT 59) (eLoad1 (slotG 58)),
  gP (slotG 57) true (pdT 60) (e1 cLenL (slotG 59)),
  gP (slotG 57) true (pdT 61) (e1 (cAddo 7) (slotG 3)),
  gP (slotG 57) true (pdT 62) (eLoad1 (slotG 61)),
  gP (slotG 57) true (pdT 63) (e1 cLenL (slotG 62)),
  gP (slotG 57) true (pdT 64) (e2 (cEq false .num) (slotG 60) (slotG 63)),
  oP (pdT 65) (ePick (slotG 57) (slotG 64) (constG (.bool false))),
  oP (pdT 66) (eMov (slotG 65)),
  gP (slotG 66) true (pdT 67) (e1 (cAddo 8) (slotG 2)),
  gP (slotG 66) true (pdT 68) (e1 (cAddo 0) (slotG 67)),
  gP (slotG 66) true (pdT 69) (eLoad1 (slotG 68)),
  gP (slotG 66) true (pdT 70) (e1 (cAddo 8) (slotG 3)),
  gP (slotG 66) true (pdT 71) (e1 (cAddo 0) (slotG 70)),
  gP (slotG 66) true (pdT 72) (eLoad1 (slotG 71)),
  gP (slotG 66) true (pdT 73) (e2 (cEq false .num) (slotG 69) (slotG 72)),
  gP (slotG 66) true (pdT 74) (eMov (slotG 73)),
  gP (slotG 74) true (pdT 75) (e1 (cAddo 8) (slotG 3)),
  gP (slotG 74) true (pdT 76) (e1 (cAddo 0) (slotG 75)),
  gP (slotG 74) true (pdT 77) (eLoad1 (slotG 76)),
  gP (slotG 74) true (pdT 78) (e2 (cEq true .num) (slotG 77) (constG (.int .i64 0))),
  gP (slotG 74) true (pdT 79) (eMov (slotG 78)),
  gP (slotG 79) false (pdT 80) (e1 (cAddo 8) (slotG 2)),
  gP (slotG 79) false (pdT 81) (eLoadN 8 (slotG 80)),
  gcP (slotG 79) false (pdT 82) 95 [(slotG 81)],
  gP (slotG 74) true (pdT 83) (ePick (slotG 79) (constG (.bool true)) (slotG 82)),
  gP (slotG 66) true (pdT 84) (ePick (slotG 74) (slotG 83) (constG (.bool false))),
  oP (pdT 85) (ePick (slotG 66) (slotG 84) (constG (.bool false))),
  oP (pdT 86) (eMov (slotG 85)),
  gP (slotG 86) true (pdT 87) (e1 (cAddo 0) (slotG 5)),
  gP (slotG 86) true (pdT 88) (eLoad1 (slotG 87)),
  gP (slotG 86) true (pdT 89) (e1 (cAddo 0) (slotG 6)),
  gP (slotG 86) true (pdT 90) (eLoad1 (slotG 89)),
  gP (slotG 86) true (pdT 91) (e2 (cEq false .bool) (slotG 88) (slotG 90)),
  oP (pdT 92) (ePick (slotG 86) (slotG 91) (constG (.bool false))),
  oP (pdT 93) (eMov (slotG 92)),
  gP (slotG 93) true (pdT 94) (e1 (cAddo 1) (slotG 5)),
  gP (slotG 93) true (pdT 95) (eLoad1 (slotG 94)),
  gP (slotG 93) true (pdT 96) (e1 (cAddo 1) (slotG 6)),
  gP (slotG 93) true (pdT 97) (eLoad1 (slotG 96)),
  gP (slotG 93) true (pdT 98) (e2 (cEq false .bool) (slotG 95) (slotG 97)),
  oP (pdT 99) (ePick (slotG 93) (slotG 98) (constG (.bool false))),
  oP (pdT 100) (eMov (slotG 99)),
  gP (slotG 100) true (pdT 101) (e1 (cAddo 2) (slotG 5)),
  gP (slotG 100) true (pdT 102) (eLoad1 (slotG 101)),
  gP (slotG 100) true (pdT 103) (e1 cLenL (slotG 102)),
  gP (slotG 100) true (pdT 104) (e1 (cAddo 2) (slotG 6)),
  gP (slotG 100) true (pdT 105) (eLoad1 (slotG 104)),
  gP (slotG 100) true (pdT 106) (e1 cLenL (slotG 105)),
  gP (slotG 100) true (pdT 107) (e2 (cEq false .num) (slotG 103) (slotG 106)),
  oP (pdT 108) (ePick (slotG 100) (slotG 107) (constG (.bool false))),
  oP (pdT 109) (eMov (slotG 108)),
  gP (slotG 109) true (pdT 110) (e1 (cAddo 3) (slotG 5)),
  gP (slotG 109) true (pdT 111) (eLoad1 (slotG 110)),
  gP (slotG 109) true (pdT 112) (e1 cLenL (slotG 111)),
  gP (slotG 109) true (pdT 113) (e1 (cAddo 3) (slotG 6)),
  gP (slotG 109) true (pdT 114) (eLoad1 (slotG 113)),
  gP (slotG 109) true (pdT 115) (e1 cLenL (slotG 114)),
  gP (slotG 109) true (pdT 116) (e2 (cEq false .num) (slotG 112) (slotG 115)),
  oP (pdT 117) (ePick (slotG 109) (slotG 116) (constG (.bool false))),
  oP (pdT 118) (eMov (slotG 117)),
  gP (slotG 118) true (pdT 119) (e1 (cAddo 4) (slotG 5)),
  gP (slotG 118) true (pdT 120) (e1 (cAddo 0) (slotG 119)),
  gP (slotG 118) true (pdT 121) (eLoad1 (slotG 120)),
  gP (slotG 118) true (pdT 122) (e1 (cAddo 4) (slotG 6)),
  gP (slotG 118) true (pdT 123) (e1 (cAddo 0) (slotG 122)),
  gP (slotG 118) true (pdT 124) (eLoad1 (slotG 123)),
  gP (slotG 118) true (pdT 125) (e2 (cEq false .num) (slotG 121) (slotG 124)),
  gP (slotG 118) true (pdT 126) (eMov (slotG 125)),
  gP (slotG 126) true (pdT 127) (e1 (cAddo 4) (slotG 6)),
  gP (slotG 126) true (pdT 128) (e1 (cAddo 0) (slotG 127)),
  gP (slotG 126) true (pdT 129) (eLoad1 (slotG 128)),
  gP (slotG 126) true (pdT 130) (e2 (cEq true .num) (slotG 129) (constG (.int .i64 0))),
  gP (slotG 126) true (pdT 131) (eMov (slotG 130)),
  gP (slotG 131) false (pdT 132) (e1 (cAddo 4) (slotG 5)),
  gP (slotG 131) false (pdT 133) (eLoadN 8 (slotG 132)),
  gcP (slotG 131) false (pdT 134) 95 [(slotG 133)],
  gP (slotG 126) true (pdT 135) (ePick (slotG 131) (constG (.bool true)) (slotG 134)),
  gP (slotG 118) true (pdT 136) (ePick (slotG 126) (slotG 135) (constG (.bool false))),
  oP (pdT 137) (ePick (slotG 118) (slotG 136) (constG (.bool false))),
  oP (pdT 138) (eMov (slotG 137)),
  gP (slotG 138) true (pdT 139) (e1 (cAddo 12) (slotG 5)),
  gP (slotG 138) true (pdT 140) (eLoad1 (slotG 139)),
  gP (slotG 138) true (pdT 141) (e1 cLenL (slotG 140)),
  gP (slotG 138) true (pdT 142) (e1 (cAddo 12) (slotG 6)),
  gP (slotG 138) true (pdT 143) (eLoad1 (slotG 142)),
  gP (slotG 138) true (pdT 144) (e1 cLenL (slotG 143)),
  gP (slotG 138) true (pdT 145) (e2 (cEq false .num) (slotG 141) (slotG 144)),
  oP (pdT 146) (ePick (slotG 138) (slotG 145) (constG (.bool false))),
  oP (pdT 147) (eMov (slotG 146)),
  gP (slotG 147) true (pdT 148) (e1 (cAddo 13) (slotG 5)),
  gP (slotG 147) true (pdT 149) (eLoad1 (slotG 148)),
  gP (slotG 147) true (pdT 150) (e1 (cAddo 13) (slotG 6)),
  gP (slotG 147) true (pdT 151) (eLoad1 (slotG 150)),
  gP (slotG 147) true (pdT 152) (e2 (cEq false .bool) (slotG 149) (slotG 151)),
  oP (pdT 153) (ePick (slotG 147) (slotG 152) (constG (.bool false))),
  oP (pdT 154) (eMov (slotG 153)),
  gP (slotG 154) true (pdT 155) (e1 (cAddo 14) (slotG 5)),
  gP (slotG 154) true (pdT 156) (eLoad1 (slotG 155)),
  gP (slotG 154) true (pdT 157) (e1 (cAddo 14) (slotG 6)),
  gP (slotG 154) true (pdT 158) (eLoad1 (slotG 157)),
  gP (slotG 154) true (pdT 159) (e2 (cEq false .num) (slotG 156) (slotG 158)),
  oP (pdT 160) (ePick (slotG 154) (slotG 159) (constG (.bool false))),
  oP (pdT 4) (eMov (slotG 160))]
noncomputable def B66 : CT := (.seq R66_0 (.seq R66_1 (.seq R66_2 .ret)))
noncomputable def A66 : CF := { res := [rTmp 4], code := B66, nt := 161 }
theorem c66 : ctF Tryz.prog 66 = some A66 := by kernel_rfl

/-! 24: cadastre/parse.May -/
noncomputable def R24_0 : CT :=
  .reg [
  oP (pdT 1) (eBox (slotG 0)),
  oP (pdT 2) (eMov (constG (.bool false)))]
noncomputable def R24_1 : CT :=
  .reg [
  oP (pdT 15) (e1 (cAddo 0) (slotG 1)),
  oP (pdT 16) (eLoad1 (slotG 15)),
  oP (pdT 17) (eBuild [(.int .i64 0), (.str []), (.str []), (.cst (.slice none 0 0)), (.cst (.slice none 0 0)), (.bool false), (.cst (.slice none 0 0)), (.cst (.slice none 0 0)), (.int .i64 0), (.int .i64 0), (.int .i64 0), (.str []), (.str []), (.str []), (.int .i64 0), (.cst (.slice none 0 0)), (.bool false), (.bool false), (.cst (.slice none 0 0)), (.cst (.slice none 0 0)), (.int .i64 0), (.int .i64 0), (.int .i64 0), (.str []), (.str []), (.str []), (.int .i64 0), (.cst (.slice none 0 0)), (.cst (.slice none 0 0)), (.bool false), (.int .i64 0)] 31 [(0, 1, (slotG 16))]),
  oP (pdT 3) (eAlloc [(.int .i64 0), (.str []), (.str []), (.cst (.slice none 0 0)), (.cst (.slice none 0 0)), (.bool false), (.cst (.slice none 0 0)), (.cst (.slice none 0 0)), (.int .i64 0), (.int .i64 0), (.int .i64 0), (.str []), (.str []), (.str []), (.int .i64 0), (.cst (.slice none 0 0)), (.bool false), (.bool false), (.cst (.slice none 0 0)), (.cst (.slice none 0 0)), (.int .i64 0), (.int .i64 0), (.int .i64 0), (.str []), (.str []), (.str []), (.int .i64 0), (.cst (.slice none 0 0)), (.cst (.slice none 0 0)), (.bool false), (.int .i64 0)] 31),
  oP pdN (eStore 31 (slotG 3) (slotG 17))]
noncomputable def R24_2 : CT :=
  .reg [
  oP (pdT 4) (eMov (constG (.bool false)))]
noncomputable def R24_3 : CT :=
  .reg [
  oP (pdT 18) (e1 (cAddo 0) (slotG 1)),
  oP (pdT 19) (eLoad1 (slotG 18))]
noncomputable def R24_4 : CT :=
  .reg [
  oP (pdT 21) (e2 (cEq false .num) (slotG 19) (constG (.int .i64 1))),
  oP (pdT 20) (eMov (slotG 21))]
noncomputable def R24_5 : CT :=
  .drw [22, 23, 24, 25, 26, 27] [
  oI [1] (pdT 22) (e1 (cAddo 1) (slotG 1)) 1,
  oI [22] (pdT 23) (eLoad1 (slotG 22)) 1,
  oI [3] (pdT 26) (e1 (cAddo 1) (slotG 3)) 1,
  mI [26, 23] pdN (eStore 1 (slotG 26) (slotG 23)),
  oI [1] (pdT 24) (e1 (cAddo 3) (slotG 1)) 2,
  oI [24] (pdT 25) (eLoad1 (slotG 24)) 2,
  oI [3] (pdT 27) (e1 (cAddo 3) (slotG 3)) 1,
  mI [27, 25] pdN (eStore 1 (slotG 27) (slotG 25))]
noncomputable def R24_6 : CT :=
  .reg [
  oP (pdT 28) (e1 (cAddo 1) (slotG 1)),
  oP (pdT 29) (eLoad1 (slotG 28)),
  cP (pdT 30) 61 [(slotG 29)],
  oP (pdT 31) (eMov (slotG 30)),
  gP (slotG 31) true (pdT 32) (e1 (cAddo 3) (slotG 1)),
  gP (slotG 31) true (pdT 33) (eLoad1 (slotG 32)),
  gP (slotG 31) true (pdT 34) (e1 cLenL (slotG 33)),
  gcP (slotG 31) true (pdT 35) 62 [(slotG 34), (constG (.int .i64 16))],
  oP (pdT 36) (ePick (slotG 31) (slotG 35) (constG (.bool false))),
  oP (pdT 4) (eMov (slotG 36))]
noncomputable def R24_7 : CT :=
  .reg [
  oP (pdT 37) (e1 (cAddo 3) (slotG 1)),
  oP (pdT 38) (eLoad1 (slotG 37)),
  oP (pdT 39) (e1 cLenL (slotG 38)),
  oP (pdT 40) (eMov (constG (.int .i64 0)))]
noncomputable def R24_8 : CT :=
  .reg [
  oP (pdT 41) (e2 (cBin .lss) (slotG 40) (slotG 39))]
noncomputable def R24_9 : CT :=
  .reg [
  oP (pdT 42) (e2 (cIxa 3) (slotG 38) (slotG 40)),
  oP (pdT 43) (eLoadN 3 (slotG 42)),
  oP (pdT 6) (eAlloc [(.str []), (.int .i64 0), (.bool false)] 3),
  oP pdN (eStore 3 (slotG 6) (slotG 43))]
noncomputable def R24_10 : CT :=
  .reg [
  oP (pdT 44) (eMov (slotG 4)),
  oP (pdT 45) (eMov (slotG 44)),
  gP (slotG 45) true (pdT 46) (e1 (cAddo 0) (slotG 6)),
  gP (slotG 45) true (pdT 47) (eLoad1 (slotG 46)),
  gcP (slotG 45) true (pdT 48) 61 [(slotG 47)],
  oP (pdT 49) (ePick (slotG 45) (slotG 48) (constG (.bool false))),
  oP (pdT 50) (eMov (slotG 49)),
  gP (slotG 50) true (pdT 51) (e1 (cAddo 1) (slotG 6)),
  gP (slotG 50) true (pdT 52) (eLoad1 (slotG 51)),
  gP (slotG 50) true (pdT 53) (e2 (cBin .geq) (slotG 52) (constG (.int .i64 1))),
  oP (pdT 54) (ePick (slotG 50) (slotG 53) (constG (.bool false))),
  oP (pdT 55) (eMov (slotG 54)),
  gP (slotG 55) true (pdT 56) (e1 (cAddo 1) (slotG 6)),
  gP (slotG 55) true (pdT 57) (eLoad1 (slotG 56)),
  gP (slotG 55) true (pdT 58) (e2 (cBin .leq) (slotG 57) (constG (.int .i64 3))),
  oP (pdT 59) (ePick (slotG 55) (slotG 58) (constG (.bool false))),
  oP (pdT 4) (eMov (slotG 59))]
noncomputable def R24_11 : CT :=
  .reg [
  oP (pdT 60) (e2 (cBin .add) (slotG 40) (constG (.int .i64 1))),
  oP (pdT 40) (eMov (slotG 60))]
noncomputable def L24_0 : CT := (.seq R24_8 (.seq (.cond (slotG 41) .skip (.exit 1)) (.seq (.block 2 (.seq R24_9 R24_10)) R24_11)))
noncomputable def R24_12 : CT :=
  .reg [
  oP (pdT 62) (e2 (cEq false .num) (slotG 19) (constG (.int .i64 2))),
  oP (pdT 61) (eMov (slotG 62))]
noncomputable def R24_13 : CT :=
  .reg [
  oP (pdT 63) (e1 (cAddo 1) (slotG 1)),
  oP (pdT 64) (eLoad1 (slotG 63)),
  oP (pdT 65) (e1 (cAddo 1) (slotG 3)),
  oP pdN (eStore 1 (slotG 65) (slotG 64))]
noncomputable def R24_14 : CT :=
  .reg [
  oP (pdT 66) (e1 (cAddo 1) (slotG 1)),
  oP (pdT 67) (eLoad1 (slotG 66)),
  cP (pdT 68) 61 [(slotG 67)],
  oP (pdT 4) (eMov (slotG 68))]
noncomputable def R24_15 : CT :=
  .reg [
  oP (pdT 70) (e2 (cEq false .num) (slotG 19) (constG (.int .i64 3))),
  oP (pdT 69) (eMov (slotG 70))]
noncomputable def R24_16 : CT :=
  .drw [71, 72, 73, 74, 75, 76, 77, 78, 79, 80, 81, 82] [
  oI [1] (pdT 71) (e1 (cAddo 1) (slotG 1)) 1,
  oI [71] (pdT 72) (eLoad1 (slotG 71)) 1,
  oI [3] (pdT 79) (e1 (cAddo 1) (slotG 3)) 1,
  mI [79, 72] pdN (eStore 1 (slotG 79) (slotG 72)),
  oI [1] (pdT 73) (e1 (cAddo 2) (slotG 1)) 2,
  oI [73] (pdT 74) (eLoad1 (slotG 73)) 2,
  oI [3] (pdT 80) (e1 (cAddo 2) (slotG 3)) 1,
  mI [80, 74] pdN (eStore 1 (slotG 80) (slotG 74)),
  oI [1] (pdT 75) (e1 (cAddo 4) (slotG 1)) 3,
  oI [75] (pdT 76) (eLoad1 (slotG 75)) 3,
  oI [3] (pdT 81) (e1 (cAddo 4) (slotG 3)) 1,
  mI [81, 76] pdN (eStore 1 (slotG 81) (slotG 76)),
  oI [1] (pdT 77) (e1 (cAddo 5) (slotG 1)) 4,
  oI [77] (pdT 78) (eLoad1 (slotG 77)) 4,
  oI [3] (pdT 82) (e1 (cAddo 5) (slotG 3)) 1,
  mI [82, 78] pdN (eStore 1 (slotG 82) (slotG 78))]
noncomputable def R24_17 : CT :=
  .reg [
  oP (pdT 83) (e1 (cAddo 1) (slotG 1)),
  oP (pdT 84) (eLoad1 (slotG 83)),
  cP (pdT 85) 61 [(slotG 84)],
  oP (pdT 86) (eMov (slotG 85)),
  gP (slotG 86) true (pdT 87) (e1 (cAddo 2) (slotG 1)),
  gP (slotG 86) true (pdT 88) (eLoad1 (slotG 87)),
  gcP (slotG 86) true (pdT 89) 61 [(slotG 88)],
  oP (pdT 90) (ePick (slotG 86) (slotG 89) (constG (.bool false))),
  oP (pdT 91) (eMov (slotG 90)),
  gP (slotG 91) true (pdT 92) (e1 (cAddo 4) (slotG 1)),
  gP (slotG 91) true (pdT 93) (eLoad1 (slotG 92)),
  gP (slotG 91) true (pdT 94) (e1 cLenL (slotG 93)),
  gcP (slotG 91) true (pdT 95) 62 [(slotG 94), (constG (.int .i64 16))],
  oP (pdT 96) (ePick (slotG 91) (slotG 95) (constG (.bool false))),
  oP (pdT 4) (eMov (slotG 96))]
noncomputable def R24_18 : CT :=
  .reg [
  oP (pdT 97) (e1 (cAddo 4) (slotG 1)),
  oP (pdT 98) (eLoad1 (slotG 97)),
  oP (pdT 99) (e1 cLenL (slotG 98)),
  oP (pdT 100) (eMov (constG (.int .i64 0)))]
noncomputable def R24_19 : CT :=
  .reg [
  oP (pdT 101) (e2 (cBin .lss) (slotG 100) (slotG 99))]
noncomputable def R24_20 : CT :=
  .reg [
  oP (pdT 102) (e2 (cIxa 1) (slotG 98) (slotG 100)),
  oP (pdT 103) (eLoad1 (slotG 102)),
  oP (pdT 8) (eMov (slotG 103))]
noncomputable def R24_21 : CT :=
  .reg [
  oP (pdT 104) (eMov (slotG 4)),
  oP (pdT 105) (eMov (slotG 104)),
  gP (slotG 105) true (pdT 106) (eMov (slotG 8)),
  gcP (slotG 105) true (pdT 107) 61 [(slotG 106)],
  oP (pdT 108) (ePick (slotG 105) (slotG 107) (constG (.bool false))),
  oP (pdT 4) (eMov (slotG 108))]
noncomputable def R24_22 : CT :=
  .reg [
  oP (pdT 109) (e2 (cBin .add) (slotG 100) (constG (.int .i64 1))),
  oP (pdT 100) (eMov (slotG 109))]
noncomputable def L24_1 : CT := (.seq R24_19 (.seq (.cond (slotG 101) .skip (.exit 3)) (.seq (.block 4 (.seq R24_20 R24_21)) R24_22)))
noncomputable def R24_23 : CT :=
  .reg [
  oP (pdT 111) (e2 (cEq false .num) (slotG 19) (constG (.int .i64 4))),
  oP (pdT 110) (eMov (slotG 111))]
noncomputable def R24_24 : CT :=
  .reg [
  oP (pdT 112) (e1 (cAddo 2) (slotG 1)),
  oP (pdT 113) (eLoad1 (slotG 112)),
  oP (pdT 114) (e1 (cAddo 2) (slotG 3)),
  oP pdN (eStore 1 (slotG 114) (slotG 113))]
noncomputable def R24_25 : CT :=
  .reg [
  oP (pdT 115) (e1 (cAddo 2) (slotG 1)),
  oP (pdT 116) (eLoad1 (slotG 115)),
  cP (pdT 117) 61 [(slotG 116)],
  oP (pdT 4) (eMov (slotG 117))]
noncomputable def R24_26 : CT :=
  .reg [
  oP (pdT 119) (e2 (cEq false .num) (slotG 19) (constG (.int .i64 5))),
  oP (pdT 118) (eMov (slotG 119))]
noncomputable def R24_27 : CT :=
  .drw [120, 121, 122, 123, 124, 125] [
  oI [1] (pdT 120) (e1 (cAddo 1) (slotG 1)) 1,
  oI [120] (pdT 121) (eLoad1 (slotG 120)) 1,
  oI [3] (pdT 124) (e1 (cAddo 1) (slotG 3)) 1,
  mI [124, 121] pdN (eStore 1 (slotG 124) (slotG 121)),
  oI [1] (pdT 122) (e1 (cAddo 6) (slotG 1)) 2,
  oI [122] (pdT 123) (eLoad1 (slotG 122)) 2,
  oI [3] (pdT 125) (e1 (cAddo 6) (slotG 3)) 1,
  mI [125, 123] pdN (eStore 1 (slotG 125) (slotG 123))]
noncomputable def R24_28 : CT :=
  .reg [
  oP (pdT 126) (e1 (cAddo 1) (slotG 1)),
  oP (pdT 127) (eLoad1 (slotG 126)),
  cP (pdT 128) 61 [(slotG 127)],
  oP (pdT 129) (eMov (slotG 128)),
  gP (slotG 129) true (pdT 130) (e1 (cAddo 6) (slotG 1)),
  gP (slotG 129) true (pdT 131) (eLoad1 (slotG 130)),
  gP (slotG 129) true (pdT 132) (e1 cLenL (slotG 131)),
  gP (slotG 129) true (pdT 133) (e2 (cBin .gtr) (slotG 132) (constG (.int .i64 0))),
  oP (pdT 134) (ePick (slotG 129) (slotG 133) (constG (.bool false))),
  oP (pdT 4) (eMov (slotG 134))]
noncomputable def R24_29 : CT :=
  .reg [
  oP (pdT 135) (e1 (cAddo 6) (slotG 1)),
  oP (pdT 136) (eLoad1 (slotG 135)),
  oP (pdT 137) (e1 cLenL (slotG 136)),
  oP (pdT 138) (eMov (constG (.int .i64 0)))]
noncomputable def R24_30 : CT :=
  .reg [
  oP (pdT 139) (e2 (cBin .lss) (slotG 138) (slotG 137))]
noncomputable def R24_31 : CT :=
  .reg [
  oP (pdT 140) (e2 (cIxa 1) (slotG 136) (slotG 138)),
  oP (pdT 141) (eLoad1 (slotG 140)),
  oP (pdT 10) (eMov (slotG 141))]
noncomputable def R24_32 : CT :=
  .reg [
  oP (pdT 142) (eMov (slotG 4)),
  oP (pdT 143) (eMov (slotG 142)),
  gP (slotG 143) true (pdT 144) (eMov (slotG 10)),
  gP (slotG 143) true (pdT 145) (e1 cLenL (slotG 144)),
  gcP (slotG 143) true (pdT 146) 62 [(slotG 145), (constG (.int .i64 16))],
  oP (pdT 147) (ePick (slotG 143) (slotG 146) (constG (.bool false))),
  oP (pdT 4) (eMov (slotG 147))]
noncomputable def R24_33 : CT :=
  .reg [
  oP (pdT 148) (eMov (slotG 10)),
  oP (pdT 149) (e1 cLenL (slotG 148)),
  oP (pdT 150) (eMov (constG (.int .i64 0)))]
noncomputable def R24_34 : CT :=
  .reg [
  oP (pdT 151) (e2 (cBin .lss) (slotG 150) (slotG 149))]
noncomputable def R24_35 : CT :=
  .reg [
  oP (pdT 152) (e2 (cIxa 8) (slotG 148) (slotG 150)),
  oP (pdT 153) (eLoadN 8 (slotG 152)),
  oP (pdT 12) (eAlloc [(.int .i64 0), (.int .i64 0), (.int .i64 0), (.str []), (.str []), (.str []), (.int .i64 0), (.cst (.slice none 0 0))] 8),
  oP pdN (eStore 8 (slotG 12) (slotG 153))]
noncomputable def R24_36 : CT :=
  .reg [
  oP (pdT 154) (eMov (slotG 4)),
  oP (pdT 155) (eMov (slotG 154)),
  gP (slotG 155) true (pdT 156) (eLoadN 8 (slotG 12)),
  gcP (slotG 155) true (pdT 157) 63 [(slotG 156)],
  oP (pdT 158) (ePick (slotG 155) (slotG 157) (constG (.bool false))),
  oP (pdT 4) (eMov (slotG 158))]
noncomputable def R24_37 : CT :=
  .reg [
  oP (pdT 159) (e2 (cBin .add) (slotG 150) (constG (.int .i64 1))),
  oP (pdT 150) (eMov (slotG 159))]
noncomputable def L24_2 : CT := (.seq R24_34 (.seq (.cond (slotG 151) .skip (.exit 7)) (.seq (.block 8 (.seq R24_35 R24_36)) R24_37)))
noncomputable def R24_38 : CT :=
  .reg [
  oP (pdT 160) (e2 (cBin .add) (slotG 138) (constG (.int .i64 1))),
  oP (pdT 138) (eMov (slotG 160))]
noncomputable def L24_3 : CT := (.seq R24_30 (.seq (.cond (slotG 139) .skip (.exit 5)) (.seq (.block 6 (.seq R24_31 (.seq R24_32 (.seq R24_33 (.block 7 (.loop L24_2)))))) R24_38)))
noncomputable def R24_39 : CT :=
  .reg [
  oP (pdT 162) (e2 (cEq false .num) (slotG 19) (constG (.int .i64 6))),
  oP (pdT 161) (eMov (slotG 162))]
noncomputable def R24_40 : CT :=
  .drw [163, 164, 165, 166, 167, 168] [
  oI [1] (pdT 163) (e1 (cAddo 1) (slotG 1)) 1,
  oI [163] (pdT 164) (eLoad1 (slotG 163)) 1,
  oI [3] (pdT 167) (e1 (cAddo 1) (slotG 3)) 1,
  mI [167, 164] pdN (eStore 1 (slotG 167) (slotG 164)),
  oI [1] (pdT 165) (e1 (cAddo 8) (slotG 1)) 2,
  oI [165] (pdT 166) (eLoadN 8 (slotG 165)) 2,
  oI [3] (pdT 168) (e1 (cAddo 8) (slotG 3)) 1,
  mI [168, 166] pdN (eStore 8 (slotG 168) (slotG 166))]
noncomputable def R24_41 : CT :=
  .reg [
  oP (pdT 169) (e1 (cAddo 1) (slotG 1)),
  oP (pdT 170) (eLoad1 (slotG 169)),
  cP (pdT 171) 61 [(slotG 170)],
  oP (pdT 172) (eMov (slotG 171)),
  gP (slotG 172) true (pdT 173) (e1 (cAddo 8) (slotG 1)),
  gP (slotG 172) true (pdT 174) (eLoadN 8 (slotG 173)),
  gcP (slotG 172) true (pdT 175) 64 [(slotG 174)],
  oP (pdT 176) (ePick (slotG 172) (slotG 175) (constG (.bool false))),
  oP (pdT 4) (eMov (slotG 176))]
noncomputable def R24_42 : CT :=
  .reg [
  oP (pdT 178) (e2 (cEq false .num) (slotG 19) (constG (.int .i64 7))),
  oP (pdT 177) (eMov (slotG 178))]
noncomputable def R24_43 : CT :=
  .drw [179, 180, 181, 182, 183, 184, 185, 186, 187] [
  oI [1] (pdT 179) (e1 (cAddo 1) (slotG 1)) 1,
  oI [179] (pdT 180) (eLoad1 (slotG 179)) 1,
  oI [3] (pdT 185) (e1 (cAddo 1) (slotG 3)) 1,
  mI [185, 180] pdN (eStore 1 (slotG 185) (slotG 180)),
  oI [1] (pdT 181) (e1 (cAddo 7) (slotG 1)) 2,
  oI [181] (pdT 182) (eLoad1 (slotG 181)) 2,
  oI [3] (pdT 186) (e1 (cAddo 7) (slotG 3)) 1,
  mI [186, 182] pdN (eStore 1 (slotG 186) (slotG 182)),
  oI [1] (pdT 183) (e1 (cAddo 8) (slotG 1)) 3,
  oI [183] (pdT 184) (eLoadN 8 (slotG 183)) 3,
  oI [3] (pdT 187) (e1 (cAddo 8) (slotG 3)) 1,
  mI [187, 184] pdN (eStore 8 (slotG 187) (slotG 184))]
noncomputable def R24_44 : CT :=
  .reg [
  oP (pdT 188) (e1 (cAddo 1) (slotG 1)),
  oP (pdT 189) (eLoad1 (slotG 188)),
  cP (pdT 190) 61 [(slotG 189)],
  oP (pdT 191) (eMov (slotG 190)),
  gP (slotG 191) true (pdT 192) (e1 (cAddo 7) (slotG 1)),
  gP (slotG 191) true (pdT 193) (eLoad1 (slotG 192)),
  gP (slotG 191) true (pdT 194) (e1 cLenL (slotG 193)),
  gcP (slotG 191) true (pdT 195) 62 [(slotG 194), (constG (.int .i64 16))],
  oP (pdT 196) (ePick (slotG 191) (slotG 195) (constG (.bool false))),
  oP (pdT 197) (eMov (slotG 196)),
  gP (slotG 197) true (pdT 198) (e1 (cAddo 8) (slotG 1)),
  gP (slotG 197) true (pdT 199) (eLoadN 8 (slotG 198)),
  gcP (slotG 197) true (pdT 200) 64 [(slotG 199)],
  oP (pdT 201) (ePick (slotG 197) (slotG 200) (constG (.bool false))),
  oP (pdT 4) (eMov (slotG 201))]
noncomputable def R24_45 : CT :=
  .reg [
  oP (pdT 202) (e1 (cAddo 7) (slotG 1)),
  oP (pdT 203) (eLoad1 (slotG 202)),
  oP (pdT 204) (e1 cLenL (slotG 203)),
  oP (pdT 205) (eMov (constG (.int .i64 0)))]
noncomputable def R24_46 : CT :=
  .reg [
  oP (pdT 206) (e2 (cBin .lss) (slotG 205) (slotG 204))]
noncomputable def R24_47 : CT :=
  .reg [
  oP (pdT 207) (e2 (cIxa 9) (slotG 203) (slotG 205)),
  oP (pdT 208) (eLoadN 9 (slotG 207)),
  oP (pdT 14) (eAlloc [(.str []), (.int .i64 0), (.int .i64 0), (.int .i64 0), (.str []), (.str []), (.str []), (.int .i64 0), (.cst (.slice none 0 0))] 9),
  oP pdN (eStore 9 (slotG 14) (slotG 208))]
noncomputable def R24_48 : CT :=
  .reg [
  oP (pdT 209) (eMov (slotG 4)),
  oP (pdT 210) (eMov (slotG 209)),
  gP (slotG 210) true (pdT 211) (e1 (cAddo 0) (slotG 14)),
  gP (slotG 210) true (pdT 212) (eLoad1 (slotG 211)),
  gcP (slotG 210) true (pdT 213) 61 [(slotG 212)],
  oP (pdT 214) (ePick (slotG 210) (slotG 213) (constG (.bool false))),
  oP (pdT 215) (eMov (slotG 214)),
  gP (slotG 215) true (pdT 216) (e1 (cAddo 1) (slotG 14)),
  gP (slotG 215) true (pdT 217) (eLoadN 8 (slotG 216)),
  gcP (slotG 215) true (pdT 218) 63 [(slotG 217)],
  oP (pdT 219) (ePick (slotG 215) (slotG 218) (constG (.bool false))),
  oP (pdT 4) (eMov (slotG 219))]
noncomputable def R24_49 : CT :=
  .reg [
  oP (pdT 220) (e2 (cBin .add) (slotG 205) (constG (.int .i64 1))),
  oP (pdT 205) (eMov (slotG 220))]
noncomputable def L24_4 : CT := (.seq R24_46 (.seq (.cond (slotG 206) .skip (.exit 9)) (.seq (.block 10 (.seq R24_47 R24_48)) R24_49)))
noncomputable def R24_50 : CT :=
  .reg [
  oP (pdT 222) (e2 (cEq false .num) (slotG 19) (constG (.int .i64 8))),
  oP (pdT 221) (eMov (slotG 222))]
noncomputable def R24_51 : CT :=
  .reg [
  oP (pdT 223) (e1 (cAddo 16) (slotG 1)),
  oP (pdT 224) (eLoadN 15 (slotG 223)),
  oP (pdT 225) (e1 (cAddo 16) (slotG 3)),
  oP pdN (eStore 15 (slotG 225) (slotG 224))]
noncomputable def R24_52 : CT :=
  .reg [
  oP (pdT 226) (e1 (cAddo 16) (slotG 1)),
  oP (pdT 227) (eLoadN 15 (slotG 226)),
  cP (pdT 228) 65 [(slotG 227)],
  oP (pdT 4) (eMov (slotG 228))]
noncomputable def R24_53 : CT :=
  .reg [
  oP (pdT 230) (e2 (cEq false .num) (slotG 19) (constG (.int .i64 9))),
  oP (pdT 229) (eMov (slotG 230))]
noncomputable def R24_54 : CT :=
  .reg [
  oP (pdT 231) (e2 (cEq false .num) (slotG 19) (constG (.int .i64 10))),
  oP (pdT 229) (eMov (slotG 231))]
noncomputable def R24_55 : CT :=
  .reg [
  oP (pdT 232) (e2 (cEq false .num) (slotG 19) (constG (.int .i64 11))),
  oP (pdT 229) (eMov (slotG 232))]
noncomputable def R24_56 : CT :=
  .reg [
  oP (pdT 4) (eMov (constG (.bool true)))]
noncomputable def R24_57 : CT :=
  .reg [
  oP (pdT 233) (eMov (slotG 4)),
  oP (pdT 234) (eMov (slotG 233)),
  gP (slotG 234) true (pdT 235) (eLoadN 31 (slotG 1)),
  gP (slotG 234) true (pdT 236) (eLoadN 31 (slotG 3)),
  gcP (slotG 234) true (pdT 237) 66 [(slotG 235), (slotG 236)],
  oP (pdT 238) (ePick (slotG 234) (slotG 237) (constG (.bool false))),
  oP (pdT 2) (eMov (slotG 238))]
noncomputable def B24 : CT := (.seq R24_0 (.seq R24_1 (.seq R24_2 (.seq (.seq R24_3 (.block 0 (.seq R24_4 (.cond (slotG 20) (.seq R24_5 (.seq R24_6 (.seq R24_7 (.block 1 (.loop L24_0))))) (.seq R24_12 (.cond (slotG 61) (.seq R24_13 R24_14) (.seq R24_15 (.cond (slotG 69) (.seq R24_16 (.seq R24_17 (.seq R24_18 (.block 3 (.loop L24_1))))) (.seq R24_23 (.cond (slotG 110) (.seq R24_24 R24_25) (.seq R24_26 (.cond (slotG 118) (.seq R24_27 (.seq R24_28 (.seq R24_29 (.block 5 (.loop L24_3))))) (.seq R24_39 (.cond (slotG 161) (.seq R24_40 R24_41) (.seq R24_42 (.cond (slotG 177) (.seq R24_43 (.seq R24_44 (.seq R24_45 (.block 9 (.loop L24_4))))) (.seq R24_50 (.cond (slotG 221) (.seq R24_51 R24_52) (.seq (.seq R24_53 (.cond (slotG 229) .skip (.seq R24_54 (.cond (slotG 229) .skip R24_55)))) (.cond (slotG 229) R24_56 .skip)))))))))))))))))))) (.seq R24_57 .ret)))))
noncomputable def A24 : CF := { res := [rTmp 2], code := B24, nt := 239 }
theorem c24 : ctF Tryz.prog 24 = some A24 := by kernel_rfl

/-! 81: (*cadastre/bind.binder).expr -/
noncomputable def R81_0 : CT :=
  .reg [
  oP (pdT 3) (eBox (slotG 0)),
  oP (pdT 4) (eBox (slotG 1)),
  oP (pdT 5) (eBox (slotG 2)),
  oP (pdT 6) (eAlloc [(.int .i64 0), (.int .i64 0), (.int .i64 0), (.str []), (.str []), (.str []), (.int .i64 0), (.cst (.slice none 0 0))] 8),
  oP (pdT 7) (eMov (constG (.int .i64 0)))]
noncomputable def R81_1 : CT :=
  .reg [
  oP (pdT 10) (eLoadN 2 (slotG 4)),
  cP (pdT 11) 98 [(slotG 10)],
  oP (pdT 8) (eAlloc [(.cst (.slice none 0 0))] 1),
  oP pdN (eStore 1 (slotG 8) (slotG 11))]
noncomputable def R81_2 : CT :=
  .reg [
  oP (pdT 9) (eAlloc [(.cst .nilFunc)] 1)]
noncomputable def R81_3 : CT :=
  .reg [
  oP (pdT 12) (eMkfn (.func 99) [] [(slotG 4), (slotG 3), (slotG 8), (slotG 9)]),
  oP pdN (eStore 1 (slotG 9) (slotG 12))]
noncomputable def R81_4 : CT :=
  .reg [
  oP (pdT 13) (eLoad1 (slotG 9)),
  oP (pdT 14) (eLoadN 8 (slotG 5)),
  vP (pdT 15) (slotG 13) [(slotG 14)],
  oP (pdT 16) (e1 (cExt 0) (slotG 15)),
  oP (pdT 17) (e1 (cExt 1) (slotG 15)),
  oP pdN (eStore 8 (slotG 6) (slotG 16)),
  oP (pdT 7) (eMov (slotG 17))]
noncomputable def B81 : CT := (.seq R81_0 (.seq R81_1 (.seq R81_2 (.seq R81_3 (.seq R81_4 .ret)))))
noncomputable def A81 : CF := { res := [rCelN 6 8, rTmp 7], code := B81, nt := 18 }
theorem c81 : ctF Tryz.prog 81 = some A81 := by kernel_rfl

/-! 86: (*cadastre/bind.binder).items -/
noncomputable def R86_0 : CT :=
  .reg [
  oP (pdT 5) (eBox (slotG 1)),
  oP (pdT 6) (eBox (slotG 2))]
noncomputable def R86_1 : CT :=
  .reg [
  oP (pdT 17) (e1 (cAddo 1) (slotG 6)),
  oP (pdT 18) (eLoad1 (slotG 17))]
noncomputable def R86_2 : CT :=
  .reg [
  oP (pdT 19) (eMov (slotG 0)),
  oP (pdT 20) (e1 (cAddo 1) (slotG 5)),
  oP (pdT 21) (eLoad1 (slotG 20)),
  oP (pdT 22) (e1 cLenL (slotG 21)),
  oP (pdT 23) (e2 (cEq false .num) (slotG 22) (constG (.int .i64 0))),
  cP (pdT 24) 29 [(slotG 19), (constG (.int .i64 200)), (slotG 23)]]
noncomputable def R86_3 : CT :=
  .reg [
  oP (pdT 25) (eMov (slotG 0)),
  oP (pdT 26) (eLoadN 2 (slotG 5)),
  cP (pdT 27) 98 [(slotG 26)],
  oP (pdT 28) (e1 cLenL (slotG 27)),
  oP (pdT 29) (e2 (cBin .gtr) (slotG 28) (constG (.int .i64 16))),
  cP (pdT 30) 29 [(slotG 25), (constG (.int .i64 3)), (slotG 29)]]
noncomputable def R86_4 : CT :=
  .reg [
  oP (pdT 31) (e1 (cAddo 1) (slotG 5)),
  oP (pdT 32) (eLoad1 (slotG 31)),
  oP (pdT 33) (e1 cLenL (slotG 32)),
  oP (pdT 34) (eMov (constG (.int .i64 0)))]
noncomputable def R86_5 : CT :=
  .reg [
  oP (pdT 35) (e2 (cBin .lss) (slotG 34) (slotG 33))]
noncomputable def R86_6 : CT :=
  .reg [
  oP (pdT 36) (e2 (cIxa 4) (slotG 32) (slotG 34)),
  oP (pdT 37) (eLoadN 4 (slotG 36)),
  oP (pdT 9) (eAlloc [(.int .u32 0), (.str []), (.cst (.slice none 0 0)), (.int .u32 0)] 4),
  oP pdN (eStore 4 (slotG 9) (slotG 37))]
noncomputable def R86_7 : CT :=
  .reg [
  oP (pdT 38) (e1 (cAddo 2) (slotG 9)),
  oP (pdT 39) (eLoad1 (slotG 38)),
  oP (pdT 40) (e1 cLenL (slotG 39)),
  oP (pdT 41) (eMov (constG (.int .i64 0)))]
noncomputable def R86_8 : CT :=
  .reg [
  oP (pdT 42) (e2 (cBin .lss) (slotG 41) (slotG 40))]
noncomputable def R86_9 : CT :=
  .reg [
  oP (pdT 43) (e2 (cIxa 3) (slotG 39) (slotG 41)),
  oP (pdT 44) (eLoadN 3 (slotG 43)),
  oP (pdT 11) (eAlloc [(.str []), (.int .i64 0), (.bool false)] 3),
  oP pdN (eStore 3 (slotG 11) (slotG 44))]
noncomputable def R86_10 : CT :=
  .drw [45, 46, 47, 48, 49, 50, 51, 52, 53, 54, 55, 56, 57, 58, 59, 60] [
  oI [3] (pdT 45) (eMov (slotG 3)) 1,
  oI [45] (pdT 46) (eNilc (slotG 45)) 1,
  oI [46] (pdT 47) (e1 (cAddo 18) (slotG 46)) 1,
  oI [47] (pdT 48) (eLoad1 (slotG 47)) 1,
  oI [3] (pdT 49) (eMov (slotG 3)) 1,
  oI [49] (pdT 50) (eNilc (slotG 49)) 1,
  oI [50] (pdT 51) (e1 (cAddo 18) (slotG 50)) 1,
  oI [51] (pdT 52) (eLoad1 (slotG 51)) 1,
  oI [52] (pdT 53) (e1 cLenL (slotG 52)) 1,
  oI [53] (pdT 54) (eBuild [(.int .i64 0), (.int .i64 0), (.int .i64 0), (.str []), (.str []), (.str []), (.int .i64 0), (.cst (.slice none 0 0))] 8 [(0, 1, (constG (.int .i64 3))), (6, 1, (slotG 53))]) 1,
  oI [48] (pdT 55) (e1 cLenL (slotG 48)) 1,
  oI [] (pdT 56) (eBslice [(.int .i64 0), (.int .i64 0), (.int .i64 0), (.str []), (.str []), (.str []), (.int .i64 0), (.cst (.slice none 0 0))] 1 8 [(0, 8, (constG (.agg [(.int .i64 0), (.int .i64 0), (.int .i64 0), (.str []), (.str []), (.str []), (.int .i64 0), (.cst (.slice none 0 0))] 8)))]) 1,
  mI [48, 56] (pdT 57) (eApp 8 104 (slotG 48) (slotG 56)),
  oI [57, 55] (pdT 58) (e2 (cIxa 8) (slotG 57) (slotG 55)) 0,
  oI [45] (pdT 59) (eNilc (slotG 45)) 0,
  oI [59] (pdT 60) (e1 (cAddo 18) (slotG 59)) 0,
  fI [58, 54] pdN (eStore 8 (slotG 58) (slotG 54)),
  fI [60, 57] pdN (eStore 1 (slotG 60) (slotG 57))]
noncomputable def R86_11 : CT :=
  .drw [61, 62, 63, 64, 65, 66, 67, 68, 69, 70, 71, 72, 73, 74, 75, 76, 77, 78, 79, 80, 81, 82] [
  oI [3] (pdT 63) (eMov (slotG 3)) 1,
  oI [63] (pdT 64) (eNilc (slotG 63)) 1,
  oI [64] (pdT 65) (e1 (cAddo 19) (slotG 64)) 1,
  oI [65] (pdT 66) (eLoad1 (slotG 65)) 1,
  oI [11] (pdT 67) (e1 (cAddo 0) (slotG 11)) 1,
  oI [67] (pdT 68) (eLoad1 (slotG 67)) 1,
  oI [68] (pdT 69) (eBslice [(.str [])] 1 1 [(0, 1, (slotG 68))]) 1,
  mI [66, 69] (pdT 70) (eApp 1 16 (slotG 66) (slotG 69)),
  oI [3] (pdT 71) (eMov (slotG 3)) 2,
  oI [71] (pdT 72) (eNilc (slotG 71)) 2,
  oI [72] (pdT 73) (e1 (cAddo 20) (slotG 72)) 2,
  oI [73] (pdT 74) (eLoad1 (slotG 73)) 2,
  oI [11] (pdT 75) (e1 (cAddo 1) (slotG 11)) 2,
  oI [75] (pdT 76) (eLoad1 (slotG 75)) 2,
  oI [76] (pdT 77) (eBslice [(.int .i64 0)] 1 1 [(0, 1, (slotG 76))]) 2,
  mI [74, 77] (pdT 78) (eApp 1 8 (slotG 74) (slotG 77)),
  oI [3] (pdT 61) (eMov (slotG 3)) 3,
  oI [61] (pdT 79) (eNilc (slotG 61)) 1,
  oI [79] (pdT 80) (e1 (cAddo 19) (slotG 79)) 1,
  mI [80, 70] pdN (eStore 1 (slotG 80) (slotG 70)),
  oI [3] (pdT 62) (eMov (slotG 3)) 4,
  oI [62] (pdT 81) (eNilc (slotG 62)) 1,
  oI [81] (pdT 82) (e1 (cAddo 20) (slotG 81)) 1,
  mI [82, 78] pdN (eStore 1 (slotG 82) (slotG 78))]
noncomputable def R86_12 : CT :=
  .reg [
  oP (pdT 83) (e2 (cBin .add) (slotG 41) (constG (.int .i64 1))),
  oP (pdT 41) (eMov (slotG 83))]
noncomputable def L86_0 : CT := (.seq R86_8 (.seq (.cond (slotG 42) .skip (.exit 2)) (.seq (.block 3 (.seq R86_9 (.seq R86_10 R86_11))) R86_12)))
noncomputable def R86_13 : CT :=
  .reg [
  oP (pdT 84) (e2 (cBin .add) (slotG 34) (constG (.int .i64 1))),
  oP (pdT 34) (eMov (slotG 84))]
noncomputable def L86_1 : CT := (.seq R86_5 (.seq (.cond (slotG 35) .skip (.exit 0)) (.seq (.block 1 (.seq R86_6 (.seq R86_7 (.block 2 (.loop L86_0))))) R86_13)))
noncomputable def R86_14 : CT :=
  .reg [
  oP (pdT 85) (e1 (cAddo 2) (slotG 6)),
  oP (pdT 86) (eLoad1 (slotG 85)),
  oP (pdT 87) (e1 cLenL (slotG 86)),
  oP (pdT 88) (eMov (constG (.int .i64 0)))]
noncomputable def R86_15 : CT :=
  .reg [
  oP (pdT 89) (e2 (cBin .lss) (slotG 88) (slotG 87))]
noncomputable def R86_16 : CT :=
  .reg [
  oP (pdT 90) (e2 (cIxa 9) (slotG 86) (slotG 88)),
  oP (pdT 91) (eLoadN 9 (slotG 90)),
  oP (pdT 13) (eAlloc [(.int .i64 0), (.int .i64 0), (.int .i64 0), (.str []), (.str []), (.str []), (.int .i64 0), (.cst (.slice none 0 0)), (.str [])] 9),
  oP pdN (eStore 9 (slotG 13) (slotG 91))]
noncomputable def R86_17 : CT :=
  .reg [
  oP (pdT 93) (eMov (slotG 0)),
  oP (pdT 94) (eLoadN 2 (slotG 5)),
  oP (pdT 95) (e1 (cAddo 0) (slotG 13)),
  oP (pdT 96) (eLoadN 8 (slotG 95)),
  cP (pdT 97) 81 [(slotG 93), (slotG 94), (slotG 96)],
  oP (pdT 92) (eMov (slotG 97)),
  oP (pdT 98) (e1 (cExt 0) (slotG 92)),
  oP (pdT 99) (e1 (cExt 1) (slotG 92)),
  oP (pdT 14) (eAlloc [(.int .i64 0), (.int .i64 0), (.int .i64 0), (.str []), (.str []), (.str []), (.int .i64 0), (.cst (.slice none 0 0))] 8),
  oP pdN (eStore 8 (slotG 14) (slotG 98)),
  oP (pdT 15) (eMov (slotG 99))]
noncomputable def R86_18 : CT :=
  .reg [
  oP (pdT 100) (e1 (cAddo 8) (slotG 13)),
  oP (pdT 101) (eLoad1 (slotG 100)),
  oP (pdT 16) (eMov (slotG 101))]
noncomputable def R86_19 : CT :=
  .reg [
  oP (pdT 102) (eMov (slotG 16)),
  oP (pdT 103) (e2 (cEq false .num) (slotG 102) (constG (.str []))),
  oP (pdT 104) (eMov (slotG 103)),
  gP (slotG 104) true (pdT 105) (e1 (cAddo 0) (slotG 13)),
  gP (slotG 104) true (pdT 106) (e1 (cAddo 0) (slotG 105)),
  gP (slotG 104) true (pdT 107) (eLoad1 (slotG 106)),
  gP (slotG 104) true (pdT 108) (e2 (cEq false .num) (slotG 107) (constG (.int .i64 2))),
  oP (pdT 109) (ePick (slotG 104) (slotG 108) (constG (.bool false)))]
noncomputable def R86_20 : CT :=
  .reg [
  oP (pdT 110) (e1 (cAddo 0) (slotG 13)),
  oP (pdT 111) (e1 (cAddo 5) (slotG 110)),
  oP (pdT 112) (eLoad1 (slotG 111)),
  oP (pdT 16) (eMov (slotG 112))]
noncomputable def R86_21 : CT :=
  .drw [113, 114, 115, 116, 117, 118, 119, 120, 121, 122, 123, 124, 125, 126, 127, 128, 129, 130, 131, 132, 133, 134, 135, 136, 137, 138, 139, 140, 141, 142] [
  oI [3] (pdT 116) (eMov (slotG 3)) 1,
  oI [116] (pdT 117) (eNilc (slotG 116)) 1,
  oI [117] (pdT 118) (e1 (cAddo 18) (slotG 117)) 1,
  oI [118] (pdT 119) (eLoad1 (slotG 118)) 1,
  oI [14] (pdT 120) (eLoadN 8 (slotG 14)) 1,
  oI [120] (pdT 121) (eBslice [(.int .i64 0), (.int .i64 0), (.int .i64 0), (.str []), (.str []), (.str []), (.int .i64 0), (.cst (.slice none 0 0))] 1 8 [(0, 8, (slotG 120))]) 1,
  mI [119, 121] (pdT 122) (eApp 8 104 (slotG 119) (slotG 121)),
  oI [3] (pdT 123) (eMov (slotG 3)) 2,
  oI [123] (pdT 124) (eNilc (slotG 123)) 2,
  oI [124] (pdT 125) (e1 (cAddo 19) (slotG 124)) 2,
  oI [125] (pdT 126) (eLoad1 (slotG 125)) 2,
  oI [16] (pdT 127) (eMov (slotG 16)) 2,
  oI [127] (pdT 128) (eBslice [(.str [])] 1 1 [(0, 1, (slotG 127))]) 2,
  mI [126, 128] (pdT 129) (eApp 1 16 (slotG 126) (slotG 128)),
  oI [3] (pdT 130) (eMov (slotG 3)) 3,
  oI [130] (pdT 131) (eNilc (slotG 130)) 3,
  oI [131] (pdT 132) (e1 (cAddo 20) (slotG 131)) 3,
  oI [132] (pdT 133) (eLoad1 (slotG 132)) 3,
  oI [15] (pdT 134) (eMov (slotG 15)) 3,
  oI [134] (pdT 135) (eBslice [(.int .i64 0)] 1 1 [(0, 1, (slotG 134))]) 3,
  mI [133, 135] (pdT 136) (eApp 1 8 (slotG 133) (slotG 135)),
  oI [3] (pdT 113) (eMov (slotG 3)) 4,
  oI [113] (pdT 137) (eNilc (slotG 113)) 1,
  oI [137] (pdT 138) (e1 (cAddo 18) (slotG 137)) 1,
  mI [138, 122] pdN (eStore 1 (slotG 138) (slotG 122)),
  oI [3] (pdT 114) (eMov (slotG 3)) 5,
  oI [114] (pdT 139) (eNilc (slotG 114)) 1,
  oI [139] (pdT 140) (e1 (cAddo 19) (slotG 139)) 1,
  mI [140, 129] pdN (eStore 1 (slotG 140) (slotG 129)),
  oI [3] (pdT 115) (eMov (slotG 3)) 6,
  oI [115] (pdT 141) (eNilc (slotG 115)) 1,
  oI [141] (pdT 142) (e1 (cAddo 20) (slotG 141)) 1,
  mI [142, 136] pdN (eStore 1 (slotG 142) (slotG 136))]
noncomputable def R86_22 : CT :=
  .reg [
  oP (pdT 143) (e2 (cBin .add) (slotG 88) (constG (.int .i64 1))),
  oP (pdT 88) (eMov (slotG 143))]
noncomputable def L86_2 : CT := (.seq R86_15 (.seq (.cond (slotG 89) .skip (.exit 4)) (.seq (.block 5 (.seq R86_16 (.seq R86_17 (.seq R86_18 (.seq (.seq R86_19 (.cond (slotG 109) R86_20 .skip)) R86_21))))) R86_22)))
noncomputable def B86 : CT := (.seq R86_0 (.seq (.seq R86_1 (.cond (slotG 18) (.seq R86_2 (.seq R86_3 (.seq R86_4 (.block 0 (.loop L86_1))))) .skip)) (.seq R86_14 (.block 4 (.loop L86_2)))))
noncomputable def A86 : CF := { res := [], code := B86, nt := 144 }
theorem c86 : ctF Tryz.prog 86 = some A86 := by kernel_rfl

/-! 93: cadastre/lex.Word -/
noncomputable def R93_0 : CT :=
  .reg [
  oP (pdT 2) (eMov (constG (.bool false)))]
noncomputable def R93_1 : CT :=
  .reg [
  oP (pdT 3) (eMov (slotG 0))]
noncomputable def R93_2 : CT :=
  .reg [
  oP (pdT 5) (e2 (cEq false .num) (slotG 3) (constG (.str [97, 110, 100]))),
  oP (pdT 4) (eMov (slotG 5))]
noncomputable def R93_3 : CT :=
  .reg [
  oP (pdT 6) (e2 (cEq false .num) (slotG 3) (constG (.str [97, 115]))),
  oP (pdT 4) (eMov (slotG 6))]
noncomputable def R93_4 : CT :=
  .reg [
  oP (pdT 7) (e2 (cEq false .num) (slotG 3) (constG (.str [98, 101, 103, 105, 110]))),
  oP (pdT 4) (eMov (slotG 7))]
noncomputable def R93_5 : CT :=
  .reg [
  oP (pdT 8) (e2 (cEq false .num) (slotG 3) (constG (.str [98, 111, 111, 108]))),
  oP (pdT 4) (eMov (slotG 8))]
noncomputable def R93_6 : CT :=
  .reg [
  oP (pdT 9) (e2 (cEq false .num) (slotG 3) (constG (.str [98, 121]))),
  oP (pdT 4) (eMov (slotG 9))]
noncomputable def R93_7 : CT :=
  .reg [
  oP (pdT 10) (e2 (cEq false .num) (slotG 3) (constG (.str [99, 111, 109, 109, 105, 116]))),
  oP (pdT 4) (eMov (slotG 10))]
noncomputable def R93_8 : CT :=
  .reg [
  oP (pdT 11) (e2 (cEq false .num) (slotG 3) (constG (.str [99, 114, 101, 97, 116, 101]))),
  oP (pdT 4) (eMov (slotG 11))]
noncomputable def R93_9 : CT :=
  .reg [
  oP (pdT 12) (e2 (cEq false .num) (slotG 3) (constG (.str [100, 101, 108, 101, 116, 101]))),
  oP (pdT 4) (eMov (slotG 12))]
noncomputable def R93_10 : CT :=
  .reg [
  oP (pdT 13) (e2 (cEq false .num) (slotG 3) (constG (.str [100, 101, 115, 99]))),
  oP (pdT 4) (eMov (slotG 13))]
noncomputable def R93_11 : CT :=
  .reg [
  oP (pdT 14) (e2 (cEq false .num) (slotG 3) (constG (.str [100, 105, 115, 116, 105, 110, 99, 116]))),
  oP (pdT 4) (eMov (slotG 14))]
noncomputable def R93_12 : CT :=
  .reg [
  oP (pdT 15) (e2 (cEq false .num) (slotG 3) (constG (.str [100, 114, 111, 112]))),
  oP (pdT 4) (eMov (slotG 15))]
noncomputable def R93_13 : CT :=
  .reg [
  oP (pdT 17) (e2 (cEq false .num) (slotG 3) (constG (.str [102, 97, 108, 115, 101]))),
  oP (pdT 16) (eMov (slotG 17))]
noncomputable def R93_14 : CT :=
  .reg [
  oP (pdT 18) (e2 (cEq false .num) (slotG 3) (constG (.str [102, 114, 111, 109]))),
  oP (pdT 16) (eMov (slotG 18))]
noncomputable def R93_15 : CT :=
  .reg [
  oP (pdT 19) (e2 (cEq false .num) (slotG 3) (constG (.str [105, 110, 100, 101, 120]))),
  oP (pdT 16) (eMov (slotG 19))]
noncomputable def R93_16 : CT :=
  .reg [
  oP (pdT 20) (e2 (cEq false .num) (slotG 3) (constG (.str [105, 110, 115, 101, 114, 116]))),
  oP (pdT 16) (eMov (slotG 20))]
noncomputable def R93_17 : CT :=
  .reg [
  oP (pdT 21) (e2 (cEq false .num) (slotG 3) (constG (.str [105, 110, 116]))),
  oP (pdT 16) (eMov (slotG 21))]
noncomputable def R93_18 : CT :=
  .reg [
  oP (pdT 22) (e2 (cEq false .num) (slotG 3) (constG (.str [105, 110, 116, 111]))),
  oP (pdT 16) (eMov (slotG 22))]
noncomputable def R93_19 : CT :=
  .reg [
  oP (pdT 23) (e2 (cEq false .num) (slotG 3) (constG (.str [105, 115]))),
  oP (pdT 16) (eMov (slotG 23))]
noncomputable def R93_20 : CT :=
  .reg [
  oP (pdT 24) (e2 (cEq false .num) (slotG 3) (constG (.str [106, 111, 105, 110]))),
  oP (pdT 16) (eMov (slotG 24))]
noncomputable def R93_21 : CT :=
  .reg [
  oP (pdT 25) (e2 (cEq false .num) (slotG 3) (constG (.str [108, 105, 109, 105, 116]))),
  oP (pdT 16) (eMov (slotG 25))]
noncomputable def R93_22 : CT :=
  .reg [
  oP (pdT 26) (e2 (cEq false .num) (slotG 3) (constG (.str [110, 111, 116]))),
  oP (pdT 16) (eMov (slotG 26))]
noncomputable def R93_23 : CT :=
  .reg [
  oP (pdT 27) (e2 (cEq false .num) (slotG 3) (constG (.str [110, 117, 108, 108]))),
  oP (pdT 16) (eMov (slotG 27))]
noncomputable def R93_24 : CT :=
  .reg [
  oP (pdT 29) (e2 (cEq false .num) (slotG 3) (constG (.str [111, 110]))),
  oP (pdT 28) (eMov (slotG 29))]
noncomputable def R93_25 : CT :=
  .reg [
  oP (pdT 30) (e2 (cEq false .num) (slotG 3) (constG (.str [111, 114]))),
  oP (pdT 28) (eMov (slotG 30))]
noncomputable def R93_26 : CT :=
  .reg [
  oP (pdT 31) (e2 (cEq false .num) (slotG 3) (constG (.str [111, 114, 100, 101, 114]))),
  oP (pdT 28) (eMov (slotG 31))]
noncomputable def R93_27 : CT :=
  .reg [
  oP (pdT 32) (e2 (cEq false .num) (slotG 3) (constG (.str [114, 111, 108, 108, 98, 97, 99, 107]))),
  oP (pdT 28) (eMov (slotG 32))]
noncomputable def R93_28 : CT :=
  .reg [
  oP (pdT 33) (e2 (cEq false .num) (slotG 3) (constG (.str [115, 101, 108, 101, 99, 116]))),
  oP (pdT 28) (eMov (slotG 33))]
noncomputable def R93_29 : CT :=
  .reg [
  oP (pdT 34) (e2 (cEq false .num) (slotG 3) (constG (.str [115, 101, 116]))),
  oP (pdT 28) (eMov (slotG 34))]
noncomputable def R93_30 : CT :=
  .reg [
  oP (pdT 35) (e2 (cEq false .num) (slotG 3) (constG (.str [116, 97, 98, 108, 101]))),
  oP (pdT 28) (eMov (slotG 35))]
noncomputable def R93_31 : CT :=
  .reg [
  oP (pdT 36) (e2 (cEq false .num) (slotG 3) (constG (.str [116, 101, 120, 116]))),
  oP (pdT 28) (eMov (slotG 36))]
noncomputable def R93_32 : CT :=
  .reg [
  oP (pdT 37) (e2 (cEq false .num) (slotG 3) (constG (.str [116, 114, 117, 101]))),
  oP (pdT 28) (eMov (slotG 37))]
noncomputable def R93_33 : CT :=
  .reg [
  oP (pdT 38) (e2 (cEq false .num) (slotG 3) (constG (.str [117, 110, 105, 113, 117, 101]))),
  oP (pdT 28) (eMov (slotG 38))]
noncomputable def R93_34 : CT :=
  .reg [
  oP (pdT 39) (e2 (cEq false .num) (slotG 3) (constG (.str [117, 112, 100, 97, 116, 101]))),
  oP (pdT 28) (eMov (slotG 39))]
noncomputable def R93_35 : CT :=
  .reg [
  oP (pdT 40) (e2 (cEq false .num) (slotG 3) (constG (.str [118, 97, 108, 117, 101, 115]))),
  oP (pdT 28) (eMov (slotG 40))]
noncomputable def R93_36 : CT :=
  .reg [
  oP (pdT 41) (e2 (cEq false .num) (slotG 3) (constG (.str [119, 104, 101, 114, 101]))),
  oP (pdT 28) (eMov (slotG 41))]
noncomputable def R93_37 : CT :=
  .reg [
  oP (pdT 2) (eMov (constG (.bool true)))]
noncomputable def R93_38 : CT :=
  .reg [
  oP (pdT 2) (eMov (constG (.bool false)))]
noncomputable def B93 : CT := (.seq R93_0 (.seq (.seq R93_1 (.block 0 (.seq (.block 3 (.block 2 (.block 1 (.seq (.seq (.seq (.seq R93_2 (.cond (slotG 4) .skip (.seq R93_3 (.cond (slotG 4) .skip (.seq R93_4 (.cond (slotG 4) .skip (.seq R93_5 (.cond (slotG 4) .skip (.seq R93_6 (.cond (slotG 4) .skip (.seq R93_7 (.cond (slotG 4) .skip (.seq R93_8 (.cond (slotG 4) .skip (.seq R93_9 (.cond (slotG 4) .skip (.seq R93_10 (.cond (slotG 4) .skip (.seq R93_11 (.cond (slotG 4) .skip R93_12)))))))))))))))))))) (.cond (slotG 4) (.exit 1) .skip)) (.seq (.seq (.seq R93_13 (.cond (slotG 16) .skip (.seq R93_14 (.cond (slotG 16) .skip (.seq R93_15 (.cond (slotG 16) .skip (.seq R93_16 (.cond (slotG 16) .skip (.seq R93_17 (.cond (slotG 16) .skip (.seq R93_18 (.cond (slotG 16) .skip (.seq R93_19 (.cond (slotG 16) .skip (.seq R93_20 (.cond (slotG 16) .skip (.seq R93_21 (.cond (slotG 16) .skip (.seq R93_22 (.cond (slotG 16) .skip R93_23)))))))))))))))))))) (.cond (slotG 16) (.exit 2) .skip)) (.seq (.seq R93_24 (.cond (slotG 28) .skip (.seq R93_25 (.cond (slotG 28) .skip (.seq R93_26 (.cond (slotG 28) .skip (.seq R93_27 (.cond (slotG 28) .skip (.seq R93_28 (.cond (slotG 28) .skip (.seq R93_29 (.cond (slotG 28) .skip (.seq R93_30 (.cond (slotG 28) .skip (.seq R93_31 (.cond (slotG 28) .skip (.seq R93_32 (.cond (slotG 28) .skip (.seq R93_33 (.cond (slotG 28) .skip (.seq R93_34 (.cond (slotG 28) .skip (.seq R93_35 (.cond (slotG 28) .skip R93_36)))))))))))))))))))))))) (.cond (slotG 28) (.exit 3) .skip)))) (.exit 0))))) (.seq (.seq R93_37 .ret) (.exit 0))))) (.seq R93_38 .ret)))
noncomputable def A93 : CF := { res := [rTmp 2], code := B93, nt := 42 }
theorem c93 : ctF Tryz.prog 93 = some A93 := by kernel_rfl

/-! 94: cadastre/parse.bare -/
noncomputable def R94_0 : CT :=
  .reg [
  oP (pdT 2) (eBox (slotG 0)),
  oP (pdT 4) (eMov (constG (.bool false)))]
noncomputable def R94_1 : CT :=
  .reg [
  oP (pdT 5) (e1 (cAddo 0) (slotG 2)),
  oP (pdT 6) (eLoad1 (slotG 5)),
  oP (pdT 7) (eMov (slotG 1)),
  oP (pdT 8) (e2 (cEq false .num) (slotG 6) (slotG 7)),
  oP (pdT 9) (eMov (slotG 8)),
  gP (slotG 9) true (pdT 10) (e1 (cAddo 1) (slotG 2)),
  gP (slotG 9) true (pdT 11) (eLoadN 3 (slotG 10)),
  gP (slotG 9) true (pdT 12) (eBuild [(.int .i64 0), (.int .i64 0), (.str [])] 3 []),
  gP (slotG 9) true (pdT 13) (e2 (cEqA false [.i, .i, .s]) (slotG 11) (slotG 12)),
  oP (pdT 14) (ePick (slotG 9) (slotG 13) (constG (.bool false))),
  oP (pdT 15) (eMov (slotG 14)),
  gP (slotG 15) true (pdT 16) (e1 (cAddo 4) (slotG 2)),
  gP (slotG 15) true (pdT 17) (eLoad1 (slotG 16)),
  gP (slotG 15) true (pdT 18) (e2 (cEq false .num) (slotG 17) (constG (.str []))),
  oP (pdT 19) (ePick (slotG 15) (slotG 18) (constG (.bool false))),
  oP (pdT 20) (eMov (slotG 19)),
  gP (slotG 20) true (pdT 21) (e1 (cAddo 5) (slotG 2)),
  gP (slotG 20) true (pdT 22) (eLoad1 (slotG 21)),
  gP (slotG 20) true (pdT 23) (e2 (cEq false .num) (slotG 22) (constG (.str []))),
  oP (pdT 24) (ePick (slotG 20) (slotG 23) (constG (.bool false))),
  oP (pdT 25) (eMov (slotG 24)),
  gP (slotG 25) true (pdT 26) (e1 (cAddo 6) (slotG 2)),
  gP (slotG 25) true (pdT 27) (eLoad1 (slotG 26)),
  gP (slotG 25) true (pdT 28) (e2 (cEq false .num) (slotG 27) (constG (.int .i64 0))),
  oP (pdT 29) (ePick (slotG 25) (slotG 28) (constG (.bool false))),
  oP (pdT 30) (eMov (slotG 29)),
  gP (slotG 30) true (pdT 31) (e1 (cAddo 7) (slotG 2)),
  gP (slotG 30) true (pdT 32) (eLoad1 (slotG 31)),
  gP (slotG 30) true (pdT 33) (e1 cLenL (slotG 32)),
  gP (slotG 30) true (pdT 34) (e2 (cEq false .num) (slotG 33) (constG (.int .i64 0))),
  oP (pdT 35) (ePick (slotG 30) (slotG 34) (constG (.bool false))),
  oP (pdT 4) (eMov (slotG 35))]
noncomputable def B94 : CT := (.seq R94_0 (.seq R94_1 .ret))
noncomputable def A94 : CF := { res := [rTmp 4], code := B94, nt := 36 }
theorem c94 : ctF Tryz.prog 94 = some A94 := by kernel_rfl

/-! 95: cadastre/parse.lacks -/
noncomputable def R95_0 : CT :=
  .reg [
  oP (pdT 1) (eBox (slotG 0)),
  oP (pdT 2) (eMov (constG (.bool false)))]
noncomputable def R95_1 : CT :=
  .reg [
  oP (pdT 3) (eLoadN 8 (slotG 1)),
  cP (pdT 4) 94 [(slotG 3), (constG (.int .i64 0))],
  oP (pdT 2) (eMov (slotG 4))]
noncomputable def B95 : CT := (.seq R95_0 (.seq R95_1 .ret))
noncomputable def A95 : CF := { res := [rTmp 2], code := B95, nt := 5 }
theorem c95 : ctF Tryz.prog 95 = some A95 := by kernel_rfl

/-! 98: (cadastre/bind.scope).kinds -/
noncomputable def R98_0 : CT :=
  .reg [
  oP (pdT 1) (eBox (slotG 0)),
  oP (pdT 2) (eMov (constG (.cst (.slice none 0 0))))]
noncomputable def R98_1 : CT :=
  .reg [
  oP (pdT 3) (eMov (constG (.cst (.slice none 0 0))))]
noncomputable def R98_2 : CT :=
  .reg [
  oP (pdT 8) (e1 (cAddo 1) (slotG 1)),
  oP (pdT 9) (eLoad1 (slotG 8)),
  oP (pdT 10) (e1 cLenL (slotG 9)),
  oP (pdT 11) (eMov (constG (.int .i64 0)))]
noncomputable def R98_3 : CT :=
  .reg [
  oP (pdT 12) (e2 (cBin .lss) (slotG 11) (slotG 10))]
noncomputable def R98_4 : CT :=
  .reg [
  oP (pdT 13) (e2 (cIxa 4) (slotG 9) (slotG 11)),
  oP (pdT 14) (eLoadN 4 (slotG 13)),
  oP (pdT 5) (eAlloc [(.int .u32 0), (.str []), (.cst (.slice none 0 0)), (.int .u32 0)] 4),
  oP pdN (eStore 4 (slotG 5) (slotG 14))]
noncomputable def R98_5 : CT :=
  .reg [
  oP (pdT 15) (e1 (cAddo 2) (slotG 5)),
  oP (pdT 16) (eLoad1 (slotG 15)),
  oP (pdT 17) (e1 cLenL (slotG 16)),
  oP (pdT 18) (eMov (constG (.int .i64 0)))]
noncomputable def R98_6 : CT :=
  .reg [
  oP (pdT 19) (e2 (cBin .lss) (slotG 18) (slotG 17))]
noncomputable def R98_7 : CT :=
  .reg [
  oP (pdT 20) (e2 (cIxa 3) (slotG 16) (slotG 18)),
  oP (pdT 21) (eLoadN 3 (slotG 20)),
  oP (pdT 7) (eAlloc [(.str []), (.int .i64 0), (.bool false)] 3),
  oP pdN (eStore 3 (slotG 7) (slotG 21))]
noncomputable def R98_8 : CT :=
  .reg [
  oP (pdT 22) (eMov (slotG 3)),
  oP (pdT 23) (e1 (cAddo 1) (slotG 7)),
  oP (pdT 24) (eLoad1 (slotG 23)),
  oP (pdT 25) (eBslice [(.int .i64 0)] 1 1 [(0, 1, (slotG 24))]),
  oP (pdT 26) (eApp 1 8 (slotG 22) (slotG 25)),
  oP (pdT 3) (eMov (slotG 26))]
noncomputable def R98_9 : CT :=
  .reg [
  oP (pdT 27) (e2 (cBin .add) (slotG 18) (constG (.int .i64 1))),
  oP (pdT 18) (eMov (slotG 27))]
noncomputable def L98_0 : CT := (.seq R98_6 (.seq (.cond (slotG 19) .skip (.exit 2)) (.seq (.block 3 (.seq R98_7 R98_8)) R98_9)))
noncomputable def R98_10 : CT :=
  .reg [
  oP (pdT 28) (e2 (cBin .add) (slotG 11) (constG (.int .i64 1))),
  oP (pdT 11) (eMov (slotG 28))]
noncomputable def L98_1 : CT := (.seq R98_3 (.seq (.cond (slotG 12) .skip (.exit 0)) (.seq (.block 1 (.seq R98_4 (.seq R98_5 (.block 2 (.loop L98_0))))) R98_10)))
noncomputable def R98_11 : CT :=
  .reg [
  oP (pdT 29) (eMov (slotG 3)),
  oP (pdT 2) (eMov (slotG 29))]
noncomputable def B98 : CT := (.seq R98_0 (.seq R98_1 (.seq (.seq R98_2 (.block 0 (.loop L98_1))) (.seq R98_11 .ret))))
noncomputable def A98 : CF := { res := [rTmp 2], code := B98, nt := 30 }
theorem c98 : ctF Tryz.prog 98 = some A98 := by kernel_rfl

/-! 99: (*cadastre/bind.binder).expr$1 -/
noncomputable def R99_0 : CT :=
  .reg [
  oP (pdT 5) (eBox (slotG 0)),
  oP (pdT 6) (eAlloc [(.int .i64 0), (.int .i64 0), (.int .i64 0), (.str []), (.str []), (.str []), (.int .i64 0), (.cst (.slice none 0 0))] 8),
  oP (pdT 7) (eMov (constG (.int .i64 0)))]
noncomputable def R99_1 : CT :=
  .reg [
  oP (pdT 18) (e1 (cAddo 0) (slotG 5)),
  oP (pdT 19) (eLoad1 (slotG 18)),
  oP (pdT 20) (e2 (cEq false .num) (slotG 19) (constG (.int .i64 2)))]
noncomputable def R99_2 : CT :=
  .reg [
  oP (pdT 22) (eLoadN 2 (slotG 1)),
  oP (pdT 23) (e1 (cAddo 4) (slotG 5)),
  oP (pdT 24) (eLoad1 (slotG 23)),
  oP (pdT 25) (e1 (cAddo 5) (slotG 5)),
  oP (pdT 26) (eLoad1 (slotG 25)),
  cP (pdT 27) 100 [(slotG 22), (slotG 24), (slotG 26)],
  oP (pdT 21) (eMov (slotG 27)),
  oP (pdT 28) (e1 (cExt 0) (slotG 21)),
  oP (pdT 29) (e1 (cExt 1) (slotG 21)),
  oP (pdT 8) (eMov (slotG 28)),
  oP (pdT 9) (eMov (slotG 29))]
noncomputable def R99_3 : CT :=
  .reg [
  oP (pdT 30) (eLoad1 (slotG 2)),
  oP (pdT 31) (eMov (slotG 9)),
  oP (pdT 32) (eMov (slotG 9)),
  oP (pdT 33) (e2 (cEq true .num) (slotG 32) (constG (.int .i64 0))),
  cP (pdT 34) 29 [(slotG 30), (slotG 31), (slotG 33)]]
noncomputable def R99_4 : CT :=
  .reg [
  oP (pdT 35) (eMov (slotG 9)),
  oP (pdT 36) (e2 (cEq true .num) (slotG 35) (constG (.int .i64 0)))]
noncomputable def R99_5 : CT :=
  .reg [
  oP (pdT 37) (eLoadN 8 (slotG 5)),
  oP pdN (eStore 8 (slotG 6) (slotG 37)),
  oP (pdT 7) (eMov (constG (.int .i64 0)))]
noncomputable def R99_6 : CT :=
  .drw [38, 39, 40, 41, 42, 43] [
  oI [8] (pdT 38) (eMov (slotG 8)) 1,
  oI [38] (pdT 39) (eBuild [(.int .i64 0), (.int .i64 0), (.int .i64 0), (.str []), (.str []), (.str []), (.int .i64 0), (.cst (.slice none 0 0))] 8 [(0, 1, (constG (.int .i64 3))), (6, 1, (slotG 38))]) 1,
  mI [6, 39] pdN (eStore 8 (slotG 6) (slotG 39)),
  oI [3] (pdT 40) (eLoad1 (slotG 3)) 2,
  oI [8] (pdT 41) (eMov (slotG 8)) 2,
  oI [40, 41] (pdT 42) (e2 (cIxa 1) (slotG 40) (slotG 41)) 2,
  oI [42] (pdT 43) (eLoad1 (slotG 42)) 2,
  oI [43] (pdT 7) (eMov (slotG 43)) 1]
noncomputable def R99_7 : CT :=
  .reg [
  oP (pdT 44) (e1 (cAddo 0) (slotG 5)),
  oP (pdT 45) (eLoad1 (slotG 44)),
  oP (pdT 46) (e2 (cEq false .num) (slotG 45) (constG (.int .i64 1)))]
noncomputable def R99_8 : CT :=
  .drw [47, 48, 49, 50] [
  oI [5] (pdT 47) (eLoadN 8 (slotG 5)) 1,
  mI [6, 47] pdN (eStore 8 (slotG 6) (slotG 47)),
  oI [5] (pdT 48) (e1 (cAddo 1) (slotG 5)) 2,
  oI [48] (pdT 49) (e1 (cAddo 0) (slotG 48)) 2,
  oI [49] (pdT 50) (eLoad1 (slotG 49)) 2,
  oI [50] (pdT 7) (eMov (slotG 50)) 1]
noncomputable def R99_9 : CT :=
  .reg [
  oP (pdT 51) (e1 (cAddo 0) (slotG 5)),
  oP (pdT 52) (eLoad1 (slotG 51)),
  oP (pdT 53) (eBuild [(.int .i64 0), (.int .i64 0), (.int .i64 0), (.str []), (.str []), (.str []), (.int .i64 0), (.cst (.slice none 0 0))] 8 [(0, 1, (slotG 52))]),
  oP (pdT 10) (eAlloc [(.int .i64 0), (.int .i64 0), (.int .i64 0), (.str []), (.str []), (.str []), (.int .i64 0), (.cst (.slice none 0 0))] 8),
  oP pdN (eStore 8 (slotG 10) (slotG 53))]
noncomputable def R99_10 : CT :=
  .reg [
  oP (pdT 11) (eMov (constG (.cst (.slice none 0 0))))]
noncomputable def R99_11 : CT :=
  .reg [
  oP (pdT 54) (e1 (cAddo 7) (slotG 5)),
  oP (pdT 55) (eLoad1 (slotG 54)),
  oP (pdT 56) (e1 cLenL (slotG 55)),
  oP (pdT 57) (eMov (constG (.int .i64 0)))]
noncomputable def R99_12 : CT :=
  .reg [
  oP (pdT 58) (e2 (cBin .lss) (slotG 57) (slotG 56))]
noncomputable def R99_13 : CT :=
  .reg [
  oP (pdT 59) (e2 (cIxa 8) (slotG 55) (slotG 57)),
  oP (pdT 60) (eLoadN 8 (slotG 59)),
  oP (pdT 13) (eAlloc [(.int .i64 0), (.int .i64 0), (.int .i64 0), (.str []), (.str []), (.str []), (.int .i64 0), (.cst (.slice none 0 0))] 8),
  oP pdN (eStore 8 (slotG 13) (slotG 60))]
noncomputable def R99_14 : CT :=
  .reg [
  oP (pdT 62) (eLoad1 (slotG 4)),
  oP (pdT 63) (eLoadN 8 (slotG 13)),
  vP (pdT 64) (slotG 62) [(slotG 63)],
  oP (pdT 61) (eMov (slotG 64)),
  oP (pdT 65) (e1 (cExt 0) (slotG 61)),
  oP (pdT 66) (e1 (cExt 1) (slotG 61)),
  oP (pdT 14) (eAlloc [(.int .i64 0), (.int .i64 0), (.int .i64 0), (.str []), (.str []), (.str []), (.int .i64 0), (.cst (.slice none 0 0))] 8),
  oP pdN (eStore 8 (slotG 14) (slotG 65)),
  oP (pdT 15) (eMov (slotG 66))]
noncomputable def R99_15 : CT :=
  .reg [
  oP (pdT 67) (e1 (cAddo 7) (slotG 10)),
  oP (pdT 68) (eLoad1 (slotG 67)),
  oP (pdT 69) (eLoadN 8 (slotG 14)),
  oP (pdT 70) (eBslice [(.int .i64 0), (.int .i64 0), (.int .i64 0), (.str []), (.str []), (.str []), (.int .i64 0), (.cst (.slice none 0 0))] 1 8 [(0, 8, (slotG 69))]),
  oP (pdT 71) (eApp 8 104 (slotG 68) (slotG 70)),
  oP (pdT 72) (eMov (slotG 11)),
  oP (pdT 73) (eMov (slotG 15)),
  oP (pdT 74) (eBslice [(.int .i64 0)] 1 1 [(0, 1, (slotG 73))]),
  oP (pdT 75) (eApp 1 8 (slotG 72) (slotG 74)),
  oP (pdT 76) (e1 (cAddo 7) (slotG 10)),
  oP pdN (eStore 1 (slotG 76) (slotG 71)),
  oP (pdT 11) (eMov (slotG 75))]
noncomputable def R99_16 : CT :=
  .reg [
  oP (pdT 77) (e2 (cBin .add) (slotG 57) (constG (.int .i64 1))),
  oP (pdT 57) (eMov (slotG 77))]
noncomputable def L99_0 : CT := (.seq R99_12 (.seq (.cond (slotG 58) .skip (.exit 0)) (.seq (.block 1 (.seq R99_13 (.seq R99_14 R99_15))) R99_16)))
noncomputable def R99_17 : CT :=
  .reg [
  oP (pdT 79) (e1 (cAddo 0) (slotG 5)),
  oP (pdT 80) (eLoad1 (slotG 79)),
  cP (pdT 81) 101 [(slotG 80)],
  oP (pdT 78) (eMov (slotG 81)),
  oP (pdT 82) (e1 (cExt 0) (slotG 78)),
  oP (pdT 83) (e1 (cExt 1) (slotG 78)),
  oP (pdT 16) (eAlloc [(.int .i64 0), (.int .i64 0), (.int .i64 0), (.bool false), (.bool false)] 5),
  oP pdN (eStore 5 (slotG 16) (slotG 82)),
  oP (pdT 17) (eMov (slotG 83))]
noncomputable def R99_18 : CT :=
  .drw [84, 85, 86, 87, 88, 89] [
  oI [16] (pdT 85) (eLoadN 5 (slotG 16)) 1,
  oI [11] (pdT 86) (eMov (slotG 11)) 1,
  cI [85, 86] (pdT 87) 102 [(slotG 85), (slotG 86)],
  oI [2] (pdT 84) (eLoad1 (slotG 2)) 2,
  oI [87] (pdT 88) (e1 (cUn .not) (slotG 87)) 1,
  cI [84, 88] (pdT 89) 29 [(slotG 84), (constG (.int .i64 203)), (slotG 88)]]
noncomputable def R99_19 : CT :=
  .drw [90, 91, 92] [
  oI [10] (pdT 90) (eLoadN 8 (slotG 10)) 1,
  mI [6, 90] pdN (eStore 8 (slotG 6) (slotG 90)),
  oI [16] (pdT 91) (e1 (cAddo 2) (slotG 16)) 2,
  oI [91] (pdT 92) (eLoad1 (slotG 91)) 2,
  oI [92] (pdT 7) (eMov (slotG 92)) 1]
noncomputable def B99 : CT := (.seq R99_0 (.seq (.seq R99_1 (.cond (slotG 20) (.seq R99_2 (.seq R99_3 (.seq (.seq R99_4 (.cond (slotG 36) (.seq R99_5 .ret) .skip)) (.seq R99_6 .ret)))) .skip)) (.seq (.seq R99_7 (.cond (slotG 46) (.seq R99_8 .ret) .skip)) (.seq R99_9 (.seq R99_10 (.seq (.seq R99_11 (.block 0 (.loop L99_0))) (.seq R99_17 (.seq R99_18 (.seq R99_19 .ret)))))))))
noncomputable def A99 : CF := { res := [rCelN 6 8, rTmp 7], code := B99, nt := 93 }
theorem c99 : ctF Tryz.prog 99 = some A99 := by kernel_rfl

/-! 101: cadastre/bind.wanted -/
noncomputable def R101_0 : CT :=
  .reg [
  oP (pdT 2) (eAlloc [(.int .i64 0), (.int .i64 0), (.int .i64 0), (.bool false), (.bool false)] 5),
  oP (pdT 3) (eMov (constG (.bool false)))]
noncomputable def R101_1 : CT :=
  .reg [
  oP (pdT 4) (eMov (slotG 0))]
noncomputable def R101_2 : CT :=
  .reg [
  oP (pdT 6) (e2 (cEq false .num) (slotG 4) (constG (.int .i64 4))),
  oP (pdT 5) (eMov (slotG 6))]
noncomputable def R101_3 : CT :=
  .reg [
  oP (pdT 7) (eBuild [(.int .i64 0), (.int .i64 0), (.int .i64 0), (.bool false), (.bool false)] 5 [(0, 1, (constG (.int .i64 1))), (1, 1, (constG (.int .i64 1))), (2, 1, (constG (.int .i64 1)))]),
  oP pdN (eStore 5 (slotG 2) (slotG 7)),
  oP (pdT 3) (eMov (constG (.bool true)))]
noncomputable def R101_4 : CT :=
  .reg [
  oP (pdT 9) (e2 (cEq false .num) (slotG 4) (constG (.int .i64 5))),
  oP (pdT 8) (eMov (slotG 9))]
noncomputable def R101_5 : CT :=
  .reg [
  oP (pdT 10) (eBuild [(.int .i64 0), (.int .i64 0), (.int .i64 0), (.bool false), (.bool false)] 5 [(0, 1, (constG (.int .i64 1))), (1, 1, (constG (.int .i64 3))), (2, 1, (constG (.int .i64 3)))]),
  oP pdN (eStore 5 (slotG 2) (slotG 10)),
  oP (pdT 3) (eMov (constG (.bool true)))]
noncomputable def R101_6 : CT :=
  .reg [
  oP (pdT 12) (e2 (cEq false .num) (slotG 4) (constG (.int .i64 6))),
  oP (pdT 11) (eMov (slotG 12))]
noncomputable def R101_7 : CT :=
  .reg [
  oP (pdT 13) (e2 (cEq false .num) (slotG 4) (constG (.int .i64 7))),
  oP (pdT 11) (eMov (slotG 13))]
noncomputable def R101_8 : CT :=
  .reg [
  oP (pdT 14) (eBuild [(.int .i64 0), (.int .i64 0), (.int .i64 0), (.bool false), (.bool false)] 5 [(0, 1, (constG (.int .i64 1))), (3, 1, (constG (.bool true))), (2, 1, (constG (.int .i64 3)))]),
  oP pdN (eStore 5 (slotG 2) (slotG 14)),
  oP (pdT 3) (eMov (constG (.bool true)))]
noncomputable def R101_9 : CT :=
  .reg [
  oP (pdT 16) (e2 (cEq false .num) (slotG 4) (constG (.int .i64 8))),
  oP (pdT 15) (eMov (slotG 16))]
noncomputable def R101_10 : CT :=
  .reg [
  oP (pdT 17) (e2 (cEq false .num) (slotG 4) (constG (.int .i64 9))),
  oP (pdT 15) (eMov (slotG 17))]
noncomputable def R101_11 : CT :=
  .reg [
  oP (pdT 18) (e2 (cEq false .num) (slotG 4) (constG (.int .i64 10))),
  oP (pdT 15) (eMov (slotG 18))]
noncomputable def R101_12 : CT :=
  .reg [
  oP (pdT 19) (e2 (cEq false .num) (slotG 4) (constG (.int .i64 11))),
  oP (pdT 15) (eMov (slotG 19))]
noncomputable def R101_13 : CT :=
  .reg [
  oP (pdT 20) (e2 (cEq false .num) (slotG 4) (constG (.int .i64 12))),
  oP (pdT 15) (eMov (slotG 20))]
noncomputable def R101_14 : CT :=
  .reg [
  oP (pdT 21) (eBuild [(.int .i64 0), (.int .i64 0), (.int .i64 0), (.bool false), (.bool false)] 5 [(0, 1, (constG (.int .i64 2))), (1, 1, (constG (.int .i64 1))), (2, 1, (constG (.int .i64 1)))]),
  oP pdN (eStore 5 (slotG 2) (slotG 21)),
  oP (pdT 3) (eMov (constG (.bool true)))]
noncomputable def R101_15 : CT :=
  .reg [
  oP (pdT 23) (e2 (cEq false .num) (slotG 4) (constG (.int .i64 13))),
  oP (pdT 22) (eMov (slotG 23))]
noncomputable def R101_16 : CT :=
  .reg [
  oP (pdT 24) (eBuild [(.int .i64 0), (.int .i64 0), (.int .i64 0), (.bool false), (.bool false)] 5 [(0, 1, (constG (.int .i64 2))), (1, 1, (constG (.int .i64 2))), (2, 1, (constG (.int .i64 2)))]),
  oP pdN (eStore 5 (slotG 2) (slotG 24)),
  oP (pdT 3) (eMov (constG (.bool true)))]
noncomputable def R101_17 : CT :=
  .reg [
  oP (pdT 26) (e2 (cEq false .num) (slotG 4) (constG (.int .i64 20))),
  oP (pdT 25) (eMov (slotG 26))]
noncomputable def R101_18 : CT :=
  .reg [
  oP (pdT 27) (e2 (cEq false .num) (slotG 4) (constG (.int .i64 21))),
  oP (pdT 25) (eMov (slotG 27))]
noncomputable def R101_19 : CT :=
  .reg [
  oP (pdT 28) (eBuild [(.int .i64 0), (.int .i64 0), (.int .i64 0), (.bool false), (.bool false)] 5 [(0, 1, (constG (.int .i64 2))), (1, 1, (constG (.int .i64 3))), (2, 1, (constG (.int .i64 3)))]),
  oP pdN (eStore 5 (slotG 2) (slotG 28)),
  oP (pdT 3) (eMov (constG (.bool true)))]
noncomputable def R101_20 : CT :=
  .reg [
  oP (pdT 30) (e2 (cEq false .num) (slotG 4) (constG (.int .i64 14))),
  oP (pdT 29) (eMov (slotG 30))]
noncomputable def R101_21 : CT :=
  .reg [
  oP (pdT 31) (e2 (cEq false .num) (slotG 4) (constG (.int .i64 15))),
  oP (pdT 29) (eMov (slotG 31))]
noncomputable def R101_22 : CT :=
  .reg [
  oP (pdT 32) (e2 (cEq false .num) (slotG 4) (constG (.int .i64 16))),
  oP (pdT 29) (eMov (slotG 32))]
noncomputable def R101_23 : CT :=
  .reg [
  oP (pdT 33) (e2 (cEq false .num) (slotG 4) (constG (.int .i64 17))),
  oP (pdT 29) (eMov (slotG 33))]
noncomputable def R101_24 : CT :=
  .reg [
  oP (pdT 34) (e2 (cEq false .num) (slotG 4) (constG (.int .i64 18))),
  oP (pdT 29) (eMov (slotG 34))]
noncomputable def R101_25 : CT :=
  .reg [
  oP (pdT 35) (e2 (cEq false .num) (slotG 4) (constG (.int .i64 19))),
  oP (pdT 29) (eMov (slotG 35))]
noncomputable def R101_26 : CT :=
  .reg [
  oP (pdT 36) (eBuild [(.int .i64 0), (.int .i64 0), (.int .i64 0), (.bool false), (.bool false)] 5 [(0, 1, (constG (.int .i64 2))), (3, 1, (constG (.bool true))), (4, 1, (constG (.bool true))), (2, 1, (constG (.int .i64 3)))]),
  oP pdN (eStore 5 (slotG 2) (slotG 36)),
  oP (pdT 3) (eMov (constG (.bool true)))]
noncomputable def R101_27 : CT :=
  .reg [
  oP (pdT 37) (eBuild [(.int .i64 0), (.int .i64 0), (.int .i64 0), (.bool false), (.bool false)] 5 []),
  oP pdN (eStore 5 (slotG 2) (slotG 37)),
  oP (pdT 3) (eMov (constG (.bool false)))]
noncomputable def B101 : CT := (.seq R101_0 (.seq (.seq R101_1 (.block 0 (.seq R101_2 (.cond (slotG 5) (.seq R101_3 .ret) (.seq R101_4 (.cond (slotG 8) (.seq R101_5 .ret) (.seq (.seq R101_6 (.cond (slotG 11) .skip R101_7)) (.cond (slotG 11) (.seq R101_8 .ret) (.seq (.seq R101_9 (.cond (slotG 15) .skip (.seq R101_10 (.cond (slotG 15) .skip (.seq R101_11 (.cond (slotG 15) .skip (.seq R101_12 (.cond (slotG 15) .skip R101_13)))))))) (.cond (slotG 15) (.seq R101_14 .ret) (.seq R101_15 (.cond (slotG 22) (.seq R101_16 .ret) (.seq (.seq R101_17 (.cond (slotG 25) .skip R101_18)) (.cond (slotG 25) (.seq R101_19 .ret) (.seq (.seq R101_20 (.cond (slotG 29) .skip (.seq R101_21 (.cond (slotG 29) .skip (.seq R101_22 (.cond (slotG 29) .skip (.seq R101_23 (.cond (slotG 29) .skip (.seq R101_24 (.cond (slotG 29) .skip R101_25)))))))))) (.cond (slotG 29) (.seq R101_26 .ret) .skip)))))))))))))))) (.seq R101_27 .ret)))
noncomputable def A101 : CF := { res := [rCelN 2 5, rTmp 3], code := B101, nt := 38 }
theorem c101 : ctF Tryz.prog 101 = some A101 := by kernel_rfl

/-! 102: (cadastre/bind.want).fits -/
noncomputable def R102_0 : CT :=
  .reg [
  oP (pdT 2) (eBox (slotG 0)),
  oP (pdT 4) (eMov (constG (.bool false)))]
noncomputable def R102_1 : CT :=
  .reg [
  oP (pdT 5) (e1 (cAddo 3) (slotG 2)),
  oP (pdT 6) (eLoad1 (slotG 5)),
  oP (pdT 7) (e1 (cUn .not) (slotG 6))]
noncomputable def R102_2 : CT :=
  .reg [
  oP (pdT 8) (eMov (slotG 1)),
  oP (pdT 9) (eMkfn (.func 112) [] [(slotG 2)]),
  cP (pdT 10) 111 [(slotG 8), (slotG 9)],
  oP (pdT 11) (e1 (cUn .not) (slotG 10)),
  oP (pdT 4) (eMov (slotG 11))]
noncomputable def R102_3 : CT :=
  .drw [12, 13, 14, 15, 16, 17, 18, 19, 20, 21, 22, 23, 24, 25, 26, 27, 28, 29, 30, 31, 32, 33, 34, 35] [
  oI [2] (pdT 12) (e1 (cAddo 4) (slotG 2)) 1,
  oI [12] (pdT 13) (eLoad1 (slotG 12)) 1,
  oI [13] (pdT 14) (e1 (cUn .not) (slotG 13)) 1,
  oI [14] (pdT 15) (eMov (slotG 14)) 1,
  goI [15, 1] (slotG 15) false (pdT 16) (eMov (slotG 1)) 1,
  goI [15, 16] (slotG 15) false (pdT 17) (e2 (cIxa 1) (slotG 16) (constG (.int .i64 0))) 1,
  goI [15, 17] (slotG 15) false (pdT 18) (eLoad1 (slotG 17)) 1,
  goI [15, 1] (slotG 15) false (pdT 19) (eMov (slotG 1)) 1,
  goI [15, 19] (slotG 15) false (pdT 20) (e2 (cIxa 1) (slotG 19) (constG (.int .i64 1))) 1,
  goI [15, 20] (slotG 15) false (pdT 21) (eLoad1 (slotG 20)) 1,
  goI [15, 18, 21] (slotG 15) false (pdT 22) (e2 (cEq false .num) (slotG 18) (slotG 21)) 1,
  oI [15, 22] (pdT 23) (ePick (slotG 15) (constG (.bool true)) (slotG 22)) 1,
  oI [23] (pdT 24) (eMov (slotG 23)) 1,
  goI [24, 1] (slotG 24) false (pdT 25) (eMov (slotG 1)) 1,
  goI [24, 25] (slotG 24) false (pdT 26) (e2 (cIxa 1) (slotG 25) (constG (.int .i64 0))) 1,
  goI [24, 26] (slotG 24) false (pdT 27) (eLoad1 (slotG 26)) 1,
  goI [24, 27] (slotG 24) false (pdT 28) (e2 (cEq false .num) (slotG 27) (constG (.int .i64 0))) 1,
  oI [24, 28] (pdT 29) (ePick (slotG 24) (constG (.bool true)) (slotG 28)) 1,
  oI [29] (pdT 30) (eMov (slotG 29)) 1,
  goI [30, 1] (slotG 30) false (pdT 31) (eMov (slotG 1)) 1,
  goI [30, 31] (slotG 30) false (pdT 32) (e2 (cIxa 1) (slotG 31) (constG (.int .i64 1))) 1,
  goI [30, 32] (slotG 30) false (pdT 33) (eLoad1 (slotG 32)) 1,
  goI [30, 33] (slotG 30) false (pdT 34) (e2 (cEq false .num) (slotG 33) (constG (.int .i64 0))) 1,
  oI [30, 34] (pdT 35) (ePick (slotG 30) (constG (.bool true)) (slotG 34)) 1,
  oI [35] (pdT 4) (eMov (slotG 35)) 1]
noncomputable def B102 : CT := (.seq R102_0 (.seq (.seq R102_1 (.cond (slotG 7) (.seq R102_2 .ret) .skip)) (.seq R102_3 .ret)))
noncomputable def A102 : CF := { res := [rTmp 4], code := B102, nt := 36 }
theorem c102 : ctF Tryz.prog 102 = some A102 := by kernel_rfl

/-! 107: slices.ContainsFunc[[]cadastre/api.Expr,cadastre/api.Expr] -/
noncomputable def R107_0 : CT :=
  .reg [
  oP (pdT 4) (eMov (constG (.bool false)))]
noncomputable def R107_1 : CT :=
  .reg [
  oP (pdT 5) (eMov (slotG 0)),
  oP (pdT 6) (eMov (slotG 1)),
  cP (pdT 7) 114 [(slotG 5), (slotG 6)],
  oP (pdT 8) (e2 (cBin .geq) (slotG 7) (constG (.int .i64 0))),
  oP (pdT 4) (eMov (slotG 8))]
noncomputable def B107 : CT := (.seq R107_0 (.seq R107_1 .ret))
noncomputable def A107 : CF := { res := [rTmp 4], code := B107, nt := 9 }
theorem c107 : ctF Tryz.prog 107 = some A107 := by kernel_rfl

/-! 109: slices.Index[[]int,int] -/
noncomputable def R109_0 : CT :=
  .reg [
  oP (pdT 4) (eMov (constG (.int .i64 0)))]
noncomputable def R109_1 : CT :=
  .reg [
  oP (pdT 6) (eMov (slotG 0)),
  oP (pdT 7) (e1 cLenL (slotG 6)),
  oP (pdT 8) (eMov (constG (.int .i64 0)))]
noncomputable def R109_2 : CT :=
  .reg [
  oP (pdT 9) (e2 (cBin .lss) (slotG 8) (slotG 7))]
noncomputable def R109_3 : CT :=
  .reg [
  oP (pdT 10) (eMov (slotG 8)),
  oP (pdT 5) (eMov (slotG 10))]
noncomputable def R109_4 : CT :=
  .reg [
  oP (pdT 11) (eMov (slotG 1)),
  oP (pdT 12) (eMov (slotG 0)),
  oP (pdT 13) (eMov (slotG 5)),
  oP (pdT 14) (e2 (cIxa 1) (slotG 12) (slotG 13)),
  oP (pdT 15) (eLoad1 (slotG 14)),
  oP (pdT 16) (e2 (cEq false .num) (slotG 11) (slotG 15))]
noncomputable def R109_5 : CT :=
  .reg [
  oP (pdT 17) (eMov (slotG 5)),
  oP (pdT 4) (eMov (slotG 17))]
noncomputable def R109_6 : CT :=
  .reg [
  oP (pdT 18) (e2 (cBin .add) (slotG 8) (constG (.int .i64 1))),
  oP (pdT 8) (eMov (slotG 18))]
noncomputable def L109_0 : CT := (.seq R109_2 (.seq (.cond (slotG 9) .skip (.exit 0)) (.seq (.block 1 (.seq R109_3 (.seq R109_4 (.cond (slotG 16) (.seq R109_5 .ret) .skip)))) R109_6)))
noncomputable def R109_7 : CT :=
  .reg [
  oP (pdT 4) (eMov (constG (.int .i64 (-1))))]
noncomputable def B109 : CT := (.seq R109_0 (.seq (.seq R109_1 (.block 0 (.loop L109_0))) (.seq R109_7 .ret)))
noncomputable def A109 : CF := { res := [rTmp 4], code := B109, nt := 19 }
theorem c109 : ctF Tryz.prog 109 = some A109 := by kernel_rfl

/-! 111: slices.ContainsFunc[[]int,int] -/
noncomputable def R111_0 : CT :=
  .reg [
  oP (pdT 4) (eMov (constG (.bool false)))]
noncomputable def R111_1 : CT :=
  .reg [
  oP (pdT 5) (eMov (slotG 0)),
  oP (pdT 6) (eMov (slotG 1)),
  cP (pdT 7) 115 [(slotG 5), (slotG 6)],
  oP (pdT 8) (e2 (cBin .geq) (slotG 7) (constG (.int .i64 0))),
  oP (pdT 4) (eMov (slotG 8))]
noncomputable def B111 : CT := (.seq R111_0 (.seq R111_1 .ret))
noncomputable def A111 : CF := { res := [rTmp 4], code := B111, nt := 9 }
theorem c111 : ctF Tryz.prog 111 = some A111 := by kernel_rfl

/-! 112: (cadastre/bind.want).fits$1 -/
noncomputable def R112_0 : CT :=
  .reg [
  oP (pdT 3) (eMov (constG (.bool false)))]
noncomputable def R112_1 : CT :=
  .reg [
  oP (pdT 4) (eMov (slotG 0)),
  oP (pdT 5) (e2 (cEq true .num) (slotG 4) (constG (.int .i64 0))),
  oP (pdT 6) (eMov (slotG 5)),
  gP (slotG 6) true (pdT 7) (eMov (slotG 0)),
  gP (slotG 6) true (pdT 8) (e1 (cAddo 1) (slotG 1)),
  gP (slotG 6) true (pdT 9) (eLoad1 (slotG 8)),
  gP (slotG 6) true (pdT 10) (e2 (cEq true .num) (slotG 7) (slotG 9)),
  oP (pdT 11) (ePick (slotG 6) (slotG 10) (constG (.bool false))),
  oP (pdT 3) (eMov (slotG 11))]
noncomputable def B112 : CT := (.seq R112_0 (.seq R112_1 .ret))
noncomputable def A112 : CF := { res := [rTmp 3], code := B112, nt := 12 }
theorem c112 : ctF Tryz.prog 112 = some A112 := by kernel_rfl

/-! 114: slices.IndexFunc[[]cadastre/api.Expr,cadastre/api.Expr] -/
noncomputable def R114_0 : CT :=
  .reg [
  oP (pdT 4) (eMov (constG (.int .i64 0)))]
noncomputable def R114_1 : CT :=
  .reg [
  oP (pdT 6) (eMov (slotG 0)),
  oP (pdT 7) (e1 cLenL (slotG 6)),
  oP (pdT 8) (eMov (constG (.int .i64 0)))]
noncomputable def R114_2 : CT :=
  .reg [
  oP (pdT 9) (e2 (cBin .lss) (slotG 8) (slotG 7))]
noncomputable def R114_3 : CT :=
  .reg [
  oP (pdT 10) (eMov (slotG 8)),
  oP (pdT 5) (eMov (slotG 10))]
noncomputable def R114_4 : CT :=
  .reg [
  oP (pdT 11) (eMov (slotG 1)),
  oP (pdT 12) (eMov (slotG 0)),
  oP (pdT 13) (eMov (slotG 5)),
  oP (pdT 14) (e2 (cIxa 8) (slotG 12) (slotG 13)),
  oP (pdT 15) (eLoadN 8 (slotG 14)),
  vP (pdT 16) (slotG 11) [(slotG 15)]]
noncomputable def R114_5 : CT :=
  .reg [
  oP (pdT 17) (eMov (slotG 5)),
  oP (pdT 4) (eMov (slotG 17))]
noncomputable def R114_6 : CT :=
  .reg [
  oP (pdT 18) (e2 (cBin .add) (slotG 8) (constG (.int .i64 1))),
  oP (pdT 8) (eMov (slotG 18))]
noncomputable def L114_0 : CT := (.seq R114_2 (.seq (.cond (slotG 9) .skip (.exit 0)) (.seq (.block 1 (.seq R114_3 (.seq R114_4 (.cond (slotG 16) (.seq R114_5 .ret) .skip)))) R114_6)))
noncomputable def R114_7 : CT :=
  .reg [
  oP (pdT 4) (eMov (constG (.int .i64 (-1))))]
noncomputable def B114 : CT := (.seq R114_0 (.seq (.seq R114_1 (.block 0 (.loop L114_0))) (.seq R114_7 .ret)))
noncomputable def A114 : CF := { res := [rTmp 4], code := B114, nt := 19 }
theorem c114 : ctF Tryz.prog 114 = some A114 := by kernel_rfl

/-! 115: slices.IndexFunc[[]int,int] -/
noncomputable def R115_0 : CT :=
  .reg [
  oP (pdT 4) (eMov (constG (.int .i64 0)))]
noncomputable def R115_1 : CT :=
  .reg [
  oP (pdT 6) (eMov (slotG 0)),
  oP (pdT 7) (e1 cLenL (slotG 6)),
  oP (pdT 8) (eMov (constG (.int .i64 0)))]
noncomputable def R115_2 : CT :=
  .reg [
  oP (pdT 9) (e2 (cBin .lss) (slotG 8) (slotG 7))]
noncomputable def R115_3 : CT :=
  .reg [
  oP (pdT 10) (eMov (slotG 8)),
  oP (pdT 5) (eMov (slotG 10))]
noncomputable def R115_4 : CT :=
  .reg [
  oP (pdT 11) (eMov (slotG 1)),
  oP (pdT 12) (eMov (slotG 0)),
  oP (pdT 13) (eMov (slotG 5)),
  oP (pdT 14) (e2 (cIxa 1) (slotG 12) (slotG 13)),
  oP (pdT 15) (eLoad1 (slotG 14)),
  vP (pdT 16) (slotG 11) [(slotG 15)]]
noncomputable def R115_5 : CT :=
  .reg [
  oP (pdT 17) (eMov (slotG 5)),
  oP (pdT 4) (eMov (slotG 17))]
noncomputable def R115_6 : CT :=
  .reg [
  oP (pdT 18) (e2 (cBin .add) (slotG 8) (constG (.int .i64 1))),
  oP (pdT 8) (eMov (slotG 18))]
noncomputable def L115_0 : CT := (.seq R115_2 (.seq (.cond (slotG 9) .skip (.exit 0)) (.seq (.block 1 (.seq R115_3 (.seq R115_4 (.cond (slotG 16) (.seq R115_5 .ret) .skip)))) R115_6)))
noncomputable def R115_7 : CT :=
  .reg [
  oP (pdT 4) (eMov (constG (.int .i64 (-1))))]
noncomputable def B115 : CT := (.seq R115_0 (.seq (.seq R115_1 (.block 0 (.loop L115_0))) (.seq R115_7 .ret)))
noncomputable def A115 : CF := { res := [rTmp 4], code := B115, nt := 19 }
theorem c115 : ctF Tryz.prog 115 = some A115 := by kernel_rfl

end Go.Abs
