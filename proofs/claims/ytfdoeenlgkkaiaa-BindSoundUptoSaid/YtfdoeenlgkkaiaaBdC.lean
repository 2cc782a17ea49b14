/- A part of the proof. -/
import Derived.Test.YtfdoeenlgkkaiaaProg
import Derived.KernelRfl
import Derived.Test.YtfdoeenlgkkaiaaAbs5
import Derived.Test.YtfdoeenlgkkaiaaAbs6
namespace Go.Abs
open Go.Proofs
set_option maxRecDepth 100000
noncomputable section
abbrev z_ (a : Nat) : G := slotG a
abbrev v_ (a : Nat) : Eff := eMov (slotG a)
abbrev c_ (x : AV) : Eff := eMov (constG x)
abbrev a_ (k a : Nat) : Eff := e1 (cAddo k) (slotG a)
abbrev l_ (a : Nat) : Eff := eLoad1 (slotG a)
abbrev n_ (n a : Nat) : Eff := eLoadN n (slotG a)
abbrev u_ (f : AV → ERes) (a : Nat) : Eff := e1 f (slotG a)
abbrev b_ (f : AV → AV → ERes) (a b : Nat) : Eff := e2 f (slotG a) (slotG b)
abbrev d_ (f : AV → AV → ERes) (a : Nat) (x : AV) : Eff := e2 f (slotG a) (constG x)
abbrev s_ (n a b : Nat) : Eff := eStore n (slotG a) (slotG b)
abbrev p_ (a b : Nat) : Eff := ePick (slotG a) (slotG b) (constG (.bool false))
abbrev q_ (a b : Nat) : Eff := ePick (slotG a) (constG (.bool true)) (slotG b)
abbrev x_ (a : Nat) : Eff := eBox (slotG a)
abbrev o_ (d : Nat) (e : Eff) : Option GO := oP (pdT d) e
abbrev g_ (a d : Nat) (e : Eff) : Option GO := gP (slotG a) true (pdT d) e
abbrev h_ (a d : Nat) (e : Eff) : Option GO := gP (slotG a) false (pdT d) e
abbrev i_ (l : List Nat) (d : Nat) (e : Eff) (c : Nat) : Option RO := oI l (pdT d) e c
abbrev j_ (l : List Nat) (e : Eff) : Option RO := mI l pdN e
abbrev y_ (d : Nat) (f : FuncId) (l : List G) : Option GO := cP (pdT d) f l
def R3_0:CT:=.reg [o_ 2 (x_ 0),o_ 3 (x_ 1),o_ 4 (c_ (.bool false))]
def R3_1:CT:=.drw [16,17,18,19,15,20,21,5] [i_ [2] 16 (n_ 2 2) 1,cI [16] (pdT 17) 6 [(z_ 16)],i_ [3] 18 (n_ 31 3) 2,cI [17,18] (pdT 19) 5 [(z_ 17),(z_ 18)],i_ [19] 15 (v_ 19) 1,i_ [15] 20 (u_ (cExt 0) 15) 1,i_ [] 5 (eAlloc [(.int .i64 0),(.str []),(.int .u32 0),(.str []),(.cst (.slice none 0 0)),(.int .u32 0),(.int .u32 0),(.int .u32 0),(.str []),(.cst (.slice none 0 0)),(.bool false),(.int .u32 0),(.cst (.slice none 0 0)),(.cst (.slice none 0 0)),(.cst (.slice none 0 0)),(.cst (.slice none 0 0)),(.cst (.slice none 0 0)),(.cst (.slice none 0 0)),(.cst (.slice none 0 0)),(.cst (.slice none 0 0)),(.cst (.slice none 0 0)),(.cst (.slice none 0 0)),(.bool false),(.bool false),(.int .i64 0)] 25) 3,j_ [5,20] (s_ 25 5 20),i_ [15] 21 (u_ (cExt 1) 15) 2,i_ [21] 6 (v_ 21) 1]
def R3_2:CT:=.reg [o_ 22 (v_ 6),o_ 23 (d_ (cEq true .num) 22 (.int .i64 0))]
def R3_3:CT:=.reg [o_ 24 (a_ 0 5),o_ 25 (l_ 24),o_ 26 (d_ (cEq false .num) 25 (.int .i64 0)),o_ 27 (v_ 26),g_ 27 28 (a_ 18 5),g_ 27 29 (l_ 28),g_ 27 30 (u_ cLenL 29),g_ 27 31 (d_ (cEq false .num) 30 (.int .i64 0)),o_ 32 (p_ 27 31),o_ 33 (v_ 32),g_ 33 34 (a_ 15 5),g_ 33 35 (l_ 34),g_ 33 36 (u_ cLenL 35),g_ 33 37 (d_ (cEq false .num) 36 (.int .i64 0)),o_ 38 (p_ 33 37),o_ 39 (v_ 38),gcP (z_ 39) true (pdT 40) 7 [],o_ 41 (p_ 39 40),o_ 4 (v_ 41)]
def R3_4:CT:=.reg [o_ 42 (a_ 2 5),o_ 43 (n_ 4 42),o_ 44 (eBslice [(.int .u32 0),(.str []),(.cst (.slice none 0 0)),(.int .u32 0)] 1 4 [(0,4,(z_ 43))]),y_ 45 8 [(z_ 44)],o_ 7 (v_ 45)]
def R3_5:CT:=.reg [o_ 8 (c_ (.int .i64 0))]
def R3_6:CT:=.reg [o_ 46 (v_ 8),o_ 47 (a_ 13 5),o_ 48 (l_ 47),o_ 49 (u_ cLenL 48),o_ 50 (b_ (cBin .lss) 46 49)]
def R3_7:CT:=.reg [o_ 53 (a_ 13 5),o_ 54 (l_ 53),o_ 55 (v_ 8),o_ 56 (b_ (cIxa 1) 54 55),o_ 57 (l_ 56),o_ 58 (u_ cLenL 57),o_ 59 (v_ 7),o_ 60 (u_ cLenL 59),o_ 61 (b_ (cEq true .num) 58 60),o_ 62 (v_ 61),h_ 62 63 (a_ 13 5),h_ 62 64 (l_ 63),h_ 62 65 (v_ 8),h_ 62 66 (b_ (cIxa 1) 64 65),h_ 62 67 (l_ 66),h_ 62 68 (v_ 7),gcP (z_ 62) false (pdT 69) 9 [(z_ 67),(z_ 68),(constG (.cst (.slice none 0 0)))],h_ 62 70 (u_ (cUn .not) 69),o_ 71 (q_ 62 70)]
def R3_8:CT:=.reg [o_ 4 (c_ (.bool false))]
def R3_9:CT:=.reg [o_ 51 (v_ 8),o_ 52 (d_ (cBin .add) 51 (.int .i64 1)),o_ 8 (v_ 52)]
def L3_0 : CT := (.seq (.seq R3_6 (.cond (z_ 50) .skip (.exit 0))) (.seq (.block 1 (.seq R3_7 (.cond (z_ 71) (.seq R3_8 .ret) .skip))) R3_9))
def R3_10:CT:=.reg [o_ 72 (a_ 0 5),o_ 73 (l_ 72),o_ 74 (d_ (cEq false .num) 73 (.int .i64 7)),o_ 75 (v_ 74),g_ 75 76 (a_ 14 5),g_ 75 77 (l_ 76),g_ 75 78 (u_ cLenL 77),g_ 75 79 (v_ 7),g_ 75 80 (u_ cLenL 79),g_ 75 81 (b_ (cEq true .num) 78 80),g_ 75 82 (v_ 81),h_ 82 83 (a_ 14 5),h_ 82 84 (l_ 83),h_ 82 85 (v_ 7),h_ 82 86 (v_ 7),gcP (z_ 82) false (pdT 87) 9 [(z_ 84),(z_ 85),(z_ 86)],h_ 82 88 (u_ (cUn .not) 87),g_ 75 89 (q_ 82 88),o_ 90 (p_ 75 89)]
def R3_11:CT:=.reg [o_ 4 (c_ (.bool false))]
def R3_12:CT:=.reg [o_ 91 (a_ 0 5),o_ 92 (l_ 91),o_ 93 (d_ (cEq true .num) 92 (.int .i64 8))]
def R3_13:CT:=.reg [o_ 94 (a_ 17 5),o_ 95 (l_ 94),o_ 96 (v_ 7),y_ 97 10 [(z_ 95),(z_ 96)],o_ 98 (v_ 97),gcP (z_ 98) true (pdT 99) 7 [],o_ 100 (p_ 98 99),o_ 4 (v_ 100)]
def R3_14:CT:=.reg [o_ 101 (a_ 16 5),o_ 102 (l_ 101),o_ 103 (u_ cLenL 102),o_ 104 (a_ 15 5),o_ 105 (l_ 104),o_ 106 (u_ cLenL 105),o_ 107 (b_ (cEq true .num) 103 106),o_ 108 (v_ 107),h_ 108 109 (a_ 19 5),h_ 108 110 (l_ 109),h_ 108 111 (u_ cLenL 110),h_ 108 112 (a_ 18 5),h_ 108 113 (l_ 112),h_ 108 114 (u_ cLenL 113),h_ 108 115 (b_ (cEq true .num) 111 114),o_ 116 (q_ 108 115),o_ 117 (v_ 116),h_ 117 118 (a_ 20 5),h_ 117 119 (l_ 118),h_ 117 120 (u_ cLenL 119),h_ 117 121 (a_ 18 5),h_ 117 122 (l_ 121),h_ 117 123 (u_ cLenL 122),h_ 117 124 (b_ (cEq true .num) 120 123),o_ 125 (q_ 117 124)]
def R3_15:CT:=.reg [o_ 4 (c_ (.bool false))]
def R3_16:CT:=.reg [o_ 9 (c_ (.int .i64 0))]
def R3_17:CT:=.reg [o_ 126 (v_ 9),o_ 127 (a_ 16 5),o_ 128 (l_ 127),o_ 129 (u_ cLenL 128),o_ 130 (b_ (cBin .lss) 126 129)]
def R3_18:CT:=.drw [133,134,135,136,137,138,139,140,141,142,143,144,145] [i_ [5] 138 (a_ 15 5) 1,i_ [138] 139 (l_ 138) 1,i_ [9] 140 (v_ 9) 1,i_ [140] 141 (d_ (cBin .add) 140 (.int .i64 1)) 1,i_ [139,141] 142 (eSl (cSlc 4) (z_ 139) none (some (z_ 141)) none) 1,cI [142] (pdT 143) 8 [(z_ 142)],i_ [5] 133 (a_ 16 5) 2,i_ [133] 134 (l_ 133) 2,i_ [9] 135 (v_ 9) 2,i_ [134,135] 136 (b_ (cIxa 1) 134 135) 2,i_ [136] 137 (l_ 136) 2,cI [137,143] (pdT 144) 10 [(z_ 137),(z_ 143)],i_ [144] 145 (u_ (cUn .not) 144) 1]
def R3_19:CT:=.reg [o_ 4 (c_ (.bool false))]
def R3_20:CT:=.reg [o_ 131 (v_ 9),o_ 132 (d_ (cBin .add) 131 (.int .i64 1)),o_ 9 (v_ 132)]
def L3_1 : CT := (.seq (.seq R3_17 (.cond (z_ 130) .skip (.exit 2))) (.seq (.block 3 (.seq R3_18 (.cond (z_ 145) (.seq R3_19 .ret) .skip))) R3_20))
def R3_21:CT:=.reg [o_ 146 (a_ 15 5),o_ 147 (l_ 146),y_ 148 8 [(z_ 147)],o_ 10 (v_ 148)]
def R3_22:CT:=.reg [o_ 11 (c_ (.int .i64 0))]
def R3_23:CT:=.reg [o_ 149 (v_ 11),o_ 150 (a_ 18 5),o_ 151 (l_ 150),o_ 152 (u_ cLenL 151),o_ 153 (b_ (cBin .lss) 149 152)]
def R3_24:CT:=.reg [o_ 157 (a_ 18 5),o_ 158 (l_ 157),o_ 159 (v_ 11),o_ 160 (b_ (cIxa 8) 158 159),o_ 161 (n_ 8 160),o_ 162 (v_ 10),y_ 163 11 [(z_ 161),(z_ 162)],o_ 156 (v_ 163),o_ 164 (u_ (cExt 0) 156),o_ 165 (u_ (cExt 1) 156),o_ 12 (v_ 164),o_ 13 (v_ 165)]
def R3_25:CT:=.reg [o_ 166 (v_ 13),o_ 167 (d_ (cEq true .num) 166 (.int .i64 0)),o_ 168 (v_ 167),h_ 168 169 (v_ 12),h_ 168 170 (a_ 20 5),h_ 168 171 (l_ 170),h_ 168 172 (v_ 11),h_ 168 173 (b_ (cIxa 1) 171 172),h_ 168 174 (l_ 173),h_ 168 175 (b_ (cEq true .num) 169 174),o_ 176 (q_ 168 175)]
def R3_26:CT:=.reg [o_ 4 (c_ (.bool false))]
def R3_27:CT:=.reg [o_ 154 (v_ 11),o_ 155 (d_ (cBin .add) 154 (.int .i64 1)),o_ 11 (v_ 155)]
def L3_2 : CT := (.seq (.seq R3_23 (.cond (z_ 153) .skip (.exit 4))) (.seq (.block 5 (.seq R3_24 (.seq R3_25 (.cond (z_ 176) (.seq R3_26 .ret) .skip)))) R3_27))
def R3_28:CT:=.reg [o_ 14 (c_ (.int .i64 0))]
def R3_29:CT:=.reg [o_ 177 (v_ 14),o_ 178 (a_ 21 5),o_ 179 (l_ 178),o_ 180 (u_ cLenL 179),o_ 181 (b_ (cBin .lss) 177 180)]
def R3_30:CT:=.drw [184,185,186,187,188,189,190,191,192,193,194,195,196,197,198,199,200,201,202] [i_ [5] 184 (a_ 21 5) 1,i_ [184] 185 (l_ 184) 1,i_ [14] 186 (v_ 14) 1,i_ [185,186] 187 (b_ (cIxa 2) 185 186) 1,i_ [187] 188 (a_ 0 187) 1,i_ [188] 189 (l_ 188) 1,i_ [189] 190 (d_ (cBin .lss) 189 (.int .i64 0)) 1,i_ [190] 191 (v_ 190) 1,goI [191,5] (z_ 191) false (pdT 192) (a_ 21 5) 1,goI [191,192] (z_ 191) false (pdT 193) (l_ 192) 1,goI [191,14] (z_ 191) false (pdT 194) (v_ 14) 1,goI [191,193,194] (z_ 191) false (pdT 195) (b_ (cIxa 2) 193 194) 1,goI [191,195] (z_ 191) false (pdT 196) (a_ 0 195) 1,goI [191,196] (z_ 191) false (pdT 197) (l_ 196) 1,goI [191,5] (z_ 191) false (pdT 198) (a_ 18 5) 1,goI [191,198] (z_ 191) false (pdT 199) (l_ 198) 1,goI [191,199] (z_ 191) false (pdT 200) (u_ cLenL 199) 1,goI [191,197,200] (z_ 191) false (pdT 201) (b_ (cBin .geq) 197 200) 1,i_ [191,201] 202 (q_ 191 201) 1]
def R3_31:CT:=.reg [o_ 4 (c_ (.bool false))]
def R3_32:CT:=.reg [o_ 182 (v_ 14),o_ 183 (d_ (cBin .add) 182 (.int .i64 1)),o_ 14 (v_ 183)]
def L3_3 : CT := (.seq (.seq R3_29 (.cond (z_ 181) .skip (.exit 6))) (.seq (.block 7 (.seq R3_30 (.cond (z_ 202) (.seq R3_31 .ret) .skip))) R3_32))
def R3_33:CT:=.reg [o_ 203 (a_ 17 5),o_ 204 (l_ 203),o_ 205 (v_ 10),y_ 206 10 [(z_ 204),(z_ 205)],o_ 207 (v_ 206),gcP (z_ 207) true (pdT 208) 7 [],o_ 209 (p_ 207 208),o_ 4 (v_ 209)]
def B3 : CT := (.seq R3_0 (.seq R3_1 (.seq (.seq R3_2 (.cond (z_ 23) (.seq R3_3 .ret) .skip)) (.seq R3_4 (.seq (.seq R3_5 (.block 0 (.loop L3_0))) (.seq (.seq R3_10 (.cond (z_ 90) (.seq R3_11 .ret) .skip)) (.seq (.seq R3_12 (.cond (z_ 93) (.seq R3_13 .ret) .skip)) (.seq (.seq R3_14 (.cond (z_ 125) (.seq R3_15 .ret) .skip)) (.seq (.seq R3_16 (.block 2 (.loop L3_1))) (.seq R3_21 (.seq (.seq R3_22 (.block 4 (.loop L3_2))) (.seq (.seq R3_28 (.block 6 (.loop L3_3))) (.seq R3_33 .ret)))))))))))))
def A3 : CF := { res := [rTmp 4],code := B3,nt := 210 }
theorem c3 : ctF Try.prog 3 = some A3 := by kernel_rfl
def R5_0:CT:=.reg [o_ 2 (x_ 0),o_ 3 (x_ 1),o_ 4 (eAlloc [(.int .i64 0),(.str []),(.int .u32 0),(.str []),(.cst (.slice none 0 0)),(.int .u32 0),(.int .u32 0),(.int .u32 0),(.str []),(.cst (.slice none 0 0)),(.bool false),(.int .u32 0),(.cst (.slice none 0 0)),(.cst (.slice none 0 0)),(.cst (.slice none 0 0)),(.cst (.slice none 0 0)),(.cst (.slice none 0 0)),(.cst (.slice none 0 0)),(.cst (.slice none 0 0)),(.cst (.slice none 0 0)),(.cst (.slice none 0 0)),(.cst (.slice none 0 0)),(.bool false),(.bool false),(.int .i64 0)] 25),o_ 5 (c_ (.int .i64 0))]
def R5_1:CT:=.reg [o_ 10 (n_ 2 2),y_ 11 16 [(z_ 10)],o_ 12 (u_ (cUn .not) 11),o_ 13 (v_ 12),h_ 13 14 (n_ 31 3),gcP (z_ 13) false (pdT 15) 17 [(z_ 14)],h_ 13 16 (u_ (cUn .not) 15),o_ 17 (q_ 13 16)]
def R5_2:CT:=.reg [o_ 18 (eBuild [(.int .i64 0),(.str []),(.int .u32 0),(.str []),(.cst (.slice none 0 0)),(.int .u32 0),(.int .u32 0),(.int .u32 0),(.str []),(.cst (.slice none 0 0)),(.bool false),(.int .u32 0),(.cst (.slice none 0 0)),(.cst (.slice none 0 0)),(.cst (.slice none 0 0)),(.cst (.slice none 0 0)),(.cst (.slice none 0 0)),(.cst (.slice none 0 0)),(.cst (.slice none 0 0)),(.cst (.slice none 0 0)),(.cst (.slice none 0 0)),(.cst (.slice none 0 0)),(.bool false),(.bool false),(.int .i64 0)] 25 []),oP pdN (s_ 25 4 18),o_ 5 (c_ (.int .i64 1))]
def R5_3:CT:=.reg [o_ 19 (n_ 2 2),o_ 20 (eBuild [(.cst (.slice none 0 0)),(.cst (.slice none 0 0)),(.int .i64 0)] 3 [(0,2,(z_ 19))]),o_ 21 (x_ 20),o_ 6 (v_ 21)]
def R5_4:CT:=.reg [o_ 22 (a_ 0 3),o_ 23 (l_ 22),o_ 24 (eBuild [(.int .i64 0),(.str []),(.int .u32 0),(.str []),(.cst (.slice none 0 0)),(.int .u32 0),(.int .u32 0),(.int .u32 0),(.str []),(.cst (.slice none 0 0)),(.bool false),(.int .u32 0),(.cst (.slice none 0 0)),(.cst (.slice none 0 0)),(.cst (.slice none 0 0)),(.cst (.slice none 0 0)),(.cst (.slice none 0 0)),(.cst (.slice none 0 0)),(.cst (.slice none 0 0)),(.cst (.slice none 0 0)),(.cst (.slice none 0 0)),(.cst (.slice none 0 0)),(.bool false),(.bool false),(.int .i64 0)] 25 [(0,1,(z_ 23))]),o_ 7 (eAlloc [(.int .i64 0),(.str []),(.int .u32 0),(.str []),(.cst (.slice none 0 0)),(.int .u32 0),(.int .u32 0),(.int .u32 0),(.str []),(.cst (.slice none 0 0)),(.bool false),(.int .u32 0),(.cst (.slice none 0 0)),(.cst (.slice none 0 0)),(.cst (.slice none 0 0)),(.cst (.slice none 0 0)),(.cst (.slice none 0 0)),(.cst (.slice none 0 0)),(.cst (.slice none 0 0)),(.cst (.slice none 0 0)),(.cst (.slice none 0 0)),(.cst (.slice none 0 0)),(.bool false),(.bool false),(.int .i64 0)] 25),oP pdN (s_ 25 7 24)]
def R5_5:CT:=.reg [o_ 25 (a_ 0 3),o_ 26 (l_ 25)]
def R5_6:CT:=.reg [o_ 28 (d_ (cEq false .num) 26 (.int .i64 1)),o_ 27 (v_ 28)]
def R5_7:CT:=.reg [o_ 29 (v_ 6),o_ 30 (n_ 31 3),y_ 31 18 [(z_ 29),(z_ 30),(z_ 7)]]
def R5_8:CT:=.reg [o_ 33 (d_ (cEq false .num) 26 (.int .i64 2)),o_ 32 (v_ 33)]
def R5_9:CT:=.reg [o_ 34 (v_ 6),o_ 35 (a_ 1 3),o_ 36 (l_ 35),y_ 37 19 [(z_ 34),(z_ 36)],o_ 38 (a_ 2 7),oP pdN (s_ 4 38 37)]
def R5_10:CT:=.reg [o_ 40 (d_ (cEq false .num) 26 (.int .i64 3)),o_ 39 (v_ 40)]
def R5_11:CT:=.reg [o_ 41 (v_ 6),o_ 42 (n_ 31 3),y_ 43 20 [(z_ 41),(z_ 42),(z_ 7)]]
def R5_12:CT:=.reg [o_ 45 (d_ (cEq false .num) 26 (.int .i64 4)),o_ 44 (v_ 45)]
def R5_13:CT:=.reg [o_ 47 (n_ 2 2),o_ 48 (a_ 2 3),o_ 49 (l_ 48),y_ 50 21 [(z_ 47),(z_ 49)],o_ 46 (v_ 50),o_ 51 (u_ (cExt 0) 46),o_ 52 (u_ (cExt 1) 46),o_ 8 (eAlloc [(.int .u32 0),(.int .u32 0),(.str []),(.cst (.slice none 0 0)),(.bool false),(.int .u32 0)] 6),oP pdN (s_ 6 8 51),o_ 9 (v_ 52)]
def R5_14:CT:=.reg [o_ 53 (v_ 6),o_ 54 (v_ 9),o_ 55 (u_ (cUn .not) 54),y_ 56 22 [(z_ 53),(constG (.int .i64 202)),(z_ 55)]]
def R5_15:CT:=.reg [o_ 57 (n_ 6 8),o_ 58 (a_ 6 7),oP pdN (s_ 6 58 57)]
def R5_16:CT:=.reg [o_ 60 (n_ 2 2),o_ 61 (a_ 1 8),o_ 62 (l_ 61),y_ 63 23 [(z_ 60),(z_ 62)],o_ 59 (v_ 63),o_ 64 (u_ (cExt 0) 59),o_ 65 (u_ (cExt 1) 59),o_ 66 (a_ 2 7),oP pdN (s_ 4 66 64)]
def R5_17:CT:=.reg [o_ 68 (d_ (cEq false .num) 26 (.int .i64 5)),o_ 67 (v_ 68)]
def R5_18:CT:=.reg [o_ 69 (v_ 6),o_ 70 (n_ 31 3),y_ 71 24 [(z_ 69),(z_ 70),(z_ 7)]]
def R5_19:CT:=.reg [o_ 73 (d_ (cEq false .num) 26 (.int .i64 6)),o_ 72 (v_ 73)]
def R5_20:CT:=.reg [o_ 74 (v_ 6),o_ 75 (a_ 1 3),o_ 76 (l_ 75),y_ 77 19 [(z_ 74),(z_ 76)],o_ 78 (a_ 2 7),oP pdN (s_ 4 78 77)]
def R5_21:CT:=.reg [o_ 79 (v_ 6),o_ 80 (eNilc (z_ 79)),o_ 81 (a_ 2 80),o_ 82 (l_ 81),o_ 83 (d_ (cEq false .num) 82 (.int .i64 0))]
def R5_22:CT:=.drw [84,85,86,87,88,89,90,91] [i_ [7] 85 (a_ 2 7) 1,i_ [85] 86 (n_ 4 85) 1,cI [86] (pdT 87) 26 [(z_ 86)],i_ [6] 84 (v_ 6) 2,i_ [3] 88 (a_ 8 3) 2,i_ [88] 89 (n_ 8 88) 2,cI [84,87,89] (pdT 90) 25 [(z_ 84),(z_ 87),(z_ 89)],i_ [7] 91 (a_ 17 7) 1,j_ [91,90] (s_ 1 91 90)]
def R5_23:CT:=.reg [o_ 93 (d_ (cEq false .num) 26 (.int .i64 7)),o_ 92 (v_ 93)]
def R5_24:CT:=.reg [o_ 94 (v_ 6),o_ 95 (n_ 31 3),y_ 96 27 [(z_ 94),(z_ 95),(z_ 7)]]
def R5_25:CT:=.reg [o_ 98 (d_ (cEq false .num) 26 (.int .i64 8)),o_ 97 (v_ 98)]
def R5_26:CT:=.reg [o_ 99 (v_ 6),o_ 100 (a_ 16 3),o_ 101 (n_ 15 100),y_ 102 28 [(z_ 99),(z_ 101),(z_ 7)]]
def R5_27:CT:=.reg [o_ 103 (v_ 6),o_ 104 (eNilc (z_ 103)),o_ 105 (a_ 2 104),o_ 106 (l_ 105),o_ 107 (d_ (cEq true .num) 106 (.int .i64 0))]
def R5_28:CT:=.drw [108,109,110,111,112] [i_ [] 108 (eBuild [(.int .i64 0),(.str []),(.int .u32 0),(.str []),(.cst (.slice none 0 0)),(.int .u32 0),(.int .u32 0),(.int .u32 0),(.str []),(.cst (.slice none 0 0)),(.bool false),(.int .u32 0),(.cst (.slice none 0 0)),(.cst (.slice none 0 0)),(.cst (.slice none 0 0)),(.cst (.slice none 0 0)),(.cst (.slice none 0 0)),(.cst (.slice none 0 0)),(.cst (.slice none 0 0)),(.cst (.slice none 0 0)),(.cst (.slice none 0 0)),(.cst (.slice none 0 0)),(.bool false),(.bool false),(.int .i64 0)] 25 []) 1,j_ [4,108] (s_ 25 4 108),i_ [6] 109 (v_ 6) 2,i_ [109] 110 (eNilc (z_ 109)) 2,i_ [110] 111 (a_ 2 110) 2,i_ [111] 112 (l_ 111) 2,i_ [112] 5 (v_ 112) 1]
def R5_29:CT:=.reg [o_ 113 (n_ 25 7),oP pdN (s_ 25 4 113),o_ 5 (c_ (.int .i64 0))]
def B5 : CT := (.seq R5_0 (.seq (.seq R5_1 (.cond (z_ 17) (.seq R5_2 .ret) .skip)) (.seq R5_3 (.seq R5_4 (.seq (.seq R5_5 (.block 0 (.seq R5_6 (.cond (z_ 27) R5_7 (.seq R5_8 (.cond (z_ 32) R5_9 (.seq R5_10 (.cond (z_ 39) R5_11 (.seq R5_12 (.cond (z_ 44) (.seq R5_13 (.seq R5_14 (.seq R5_15 R5_16))) (.seq R5_17 (.cond (z_ 67) R5_18 (.seq R5_19 (.cond (z_ 72) (.seq R5_20 (.seq R5_21 (.cond (z_ 83) R5_22 .skip))) (.seq R5_23 (.cond (z_ 92) R5_24 (.seq R5_25 (.cond (z_ 97) R5_26 .skip)))))))))))))))))) (.seq (.seq R5_27 (.cond (z_ 107) (.seq R5_28 .ret) .skip)) (.seq R5_29 .ret)))))))
def A5 : CF := { res := [rCelN 4 25,rTmp 5],code := B5,nt := 114 }
theorem c5 : ctF Try.prog 5 = some A5 := by kernel_rfl
def R6_0:CT:=.reg [o_ 1 (x_ 0),o_ 2 (eAlloc [(.cst (.slice none 0 0)),(.cst (.slice none 0 0))] 2)]
def R6_1:CT:=.reg [o_ 3 (eAlloc [(.cst (.slice none 0 0)),(.cst (.slice none 0 0))] 2)]
def R6_2:CT:=.reg [o_ 4 (c_ (.int .i64 0))]
def R6_3:CT:=.reg [o_ 8 (v_ 4),o_ 9 (a_ 0 1),o_ 10 (l_ 9),o_ 11 (u_ cLenL 10),o_ 12 (b_ (cBin .lss) 8 11)]
def R6_4:CT:=.reg [o_ 15 (a_ 0 1),o_ 16 (l_ 15),o_ 17 (v_ 4),o_ 18 (b_ (cIxa 4) 16 17),o_ 19 (n_ 4 18),o_ 5 (eAlloc [(.int .u32 0),(.str []),(.cst (.slice none 0 0)),(.int .u32 0)] 4),oP pdN (s_ 4 5 19)]
def R6_5:CT:=.reg [o_ 20 (eBslice [(.str []),(.int .i64 0),(.bool false)] 0 3 []),o_ 21 (a_ 2 5),o_ 22 (l_ 21),o_ 23 (eApp 3 32 (z_ 20) (z_ 22)),o_ 24 (a_ 2 5),oP pdN (s_ 1 24 23)]
def R6_6:CT:=.reg [o_ 25 (a_ 0 3),o_ 26 (l_ 25),o_ 27 (n_ 4 5),o_ 28 (eBslice [(.int .u32 0),(.str []),(.cst (.slice none 0 0)),(.int .u32 0)] 1 4 [(0,4,(z_ 27))]),o_ 29 (eApp 4 56 (z_ 26) (z_ 28)),o_ 30 (a_ 0 3),oP pdN (s_ 1 30 29)]
def R6_7:CT:=.reg [o_ 13 (v_ 4),o_ 14 (d_ (cBin .add) 13 (.int .i64 1)),o_ 4 (v_ 14)]
def L6_0 : CT := (.seq (.seq R6_3 (.cond (z_ 12) .skip (.exit 0))) (.seq (.block 1 (.seq R6_4 (.seq R6_5 R6_6))) R6_7))
def R6_8:CT:=.reg [o_ 6 (c_ (.int .i64 0))]
def R6_9:CT:=.reg [o_ 31 (v_ 6),o_ 32 (a_ 1 1),o_ 33 (l_ 32),o_ 34 (u_ cLenL 33),o_ 35 (b_ (cBin .lss) 31 34)]
def R6_10:CT:=.reg [o_ 38 (a_ 1 1),o_ 39 (l_ 38),o_ 40 (v_ 6),o_ 41 (b_ (cIxa 6) 39 40),o_ 42 (n_ 6 41),o_ 7 (eAlloc [(.int .u32 0),(.int .u32 0),(.str []),(.cst (.slice none 0 0)),(.bool false),(.int .u32 0)] 6),oP pdN (s_ 6 7 42)]
def R6_11:CT:=.reg [o_ 43 (eBslice [(.int .i64 0)] 0 1 []),o_ 44 (a_ 3 7),o_ 45 (l_ 44),o_ 46 (eApp 1 8 (z_ 43) (z_ 45)),o_ 47 (a_ 3 7),oP pdN (s_ 1 47 46)]
def R6_12:CT:=.reg [o_ 48 (a_ 1 3),o_ 49 (l_ 48),o_ 50 (n_ 6 7),o_ 51 (eBslice [(.int .u32 0),(.int .u32 0),(.str []),(.cst (.slice none 0 0)),(.bool false),(.int .u32 0)] 1 6 [(0,6,(z_ 50))]),o_ 52 (eApp 6 56 (z_ 49) (z_ 51)),o_ 53 (a_ 1 3),oP pdN (s_ 1 53 52)]
def R6_13:CT:=.reg [o_ 36 (v_ 6),o_ 37 (d_ (cBin .add) 36 (.int .i64 1)),o_ 6 (v_ 37)]
def L6_1 : CT := (.seq (.seq R6_9 (.cond (z_ 35) .skip (.exit 2))) (.seq (.block 3 (.seq R6_10 (.seq R6_11 R6_12))) R6_13))
def R6_14:CT:=.reg [o_ 54 (n_ 2 3),oP pdN (s_ 2 2 54)]
def B6 : CT := (.seq R6_0 (.seq R6_1 (.seq (.seq R6_2 (.block 0 (.loop L6_0))) (.seq (.seq R6_8 (.block 2 (.loop L6_1))) (.seq R6_14 .ret)))))
def A6 : CF := { res := [rCelN 2 2],code := B6,nt := 55 }
theorem c6 : ctF Try.prog 6 = some A6 := by kernel_rfl
def R7_0:CT:=.reg [o_ 0 (c_ (.bool false))]
def R7_1:CT:=.reg [y_ 8 29 [(constG (.str [97]))],o_ 9 (eBuild [(.int .i64 0),(.int .i64 0),(.int .i64 0),(.str []),(.str []),(.str []),(.int .i64 0),(.cst (.slice none 0 0)),(.str [])] 9 [(0,8,(z_ 8))]),y_ 10 29 [(constG (.str [98]))],o_ 11 (eBuild [(.int .i64 0),(.int .i64 0),(.int .i64 0),(.str []),(.str []),(.str []),(.int .i64 0),(.cst (.slice none 0 0)),(.str [])] 9 [(0,8,(z_ 10)),(8,1,(constG (.str [120])))]),o_ 12 (eBslice [(.int .i64 0),(.int .i64 0),(.int .i64 0),(.str []),(.str []),(.str []),(.int .i64 0),(.cst (.slice none 0 0)),(.str [])] 2 9 [(0,9,(z_ 9)),(9,9,(z_ 11))]),o_ 13 (eBuild [(.str []),(.str []),(.int .i64 0),(.int .i64 0),(.int .i64 0),(.str []),(.str []),(.str []),(.int .i64 0),(.cst (.slice none 0 0))] 10 [(0,1,(constG (.str [116])))]),o_ 14 (eBslice [(.str []),(.str []),(.int .i64 0),(.int .i64 0),(.int .i64 0),(.str []),(.str []),(.str []),(.int .i64 0),(.cst (.slice none 0 0))] 1 10 [(0,10,(z_ 13))]),y_ 15 29 [(constG (.str [97]))],y_ 16 31 [],y_ 17 30 [(constG (.int .i64 14)),(z_ 15),(z_ 16)],y_ 18 29 [(constG (.str [98]))],o_ 19 (eBslice [(.int .i64 0),(.int .i64 0),(.int .i64 0),(.str []),(.str []),(.str []),(.int .i64 0),(.cst (.slice none 0 0))] 1 8 [(0,8,(z_ 18))]),o_ 20 (eBuild [(.int .i64 0),(.int .i64 0),(.int .i64 0),(.str []),(.str []),(.str []),(.int .i64 0),(.cst (.slice none 0 0))] 8 [(0,1,(constG (.int .i64 6))),(7,1,(z_ 19))]),y_ 21 30 [(constG (.int .i64 20)),(z_ 17),(z_ 20)],o_ 22 (eBuild [(.bool false),(.bool false),(.cst (.slice none 0 0)),(.cst (.slice none 0 0)),(.int .i64 0),(.int .i64 0),(.int .i64 0),(.str []),(.str []),(.str []),(.int .i64 0),(.cst (.slice none 0 0)),(.cst (.slice none 0 0)),(.bool false),(.int .i64 0)] 15 [(2,1,(z_ 12)),(3,1,(z_ 14)),(4,8,(z_ 21))]),o_ 1 (eAlloc [(.bool false),(.bool false),(.cst (.slice none 0 0)),(.cst (.slice none 0 0)),(.int .i64 0),(.int .i64 0),(.int .i64 0),(.str []),(.str []),(.str []),(.int .i64 0),(.cst (.slice none 0 0)),(.cst (.slice none 0 0)),(.bool false),(.int .i64 0)] 15),oP pdN (s_ 15 1 22)]
def R7_2:CT:=.drw [24,25,26,27,23,28,29,2] [cI [] (pdT 24) 32 [],i_ [1] 25 (n_ 15 1) 2,i_ [25] 26 (eBuild [(.int .i64 0),(.str []),(.str []),(.cst (.slice none 0 0)),(.cst (.slice none 0 0)),(.bool false),(.cst (.slice none 0 0)),(.cst (.slice none 0 0)),(.int .i64 0),(.int .i64 0),(.int .i64 0),(.str []),(.str []),(.str []),(.int .i64 0),(.cst (.slice none 0 0)),(.bool false),(.bool false),(.cst (.slice none 0 0)),(.cst (.slice none 0 0)),(.int .i64 0),(.int .i64 0),(.int .i64 0),(.str []),(.str []),(.str []),(.int .i64 0),(.cst (.slice none 0 0)),(.cst (.slice none 0 0)),(.bool false),(.int .i64 0)] 31 [(0,1,(constG (.int .i64 8))),(16,15,(z_ 25))]) 2,cI [24,26] (pdT 27) 5 [(z_ 24),(z_ 26)],i_ [27] 23 (v_ 27) 1,i_ [23] 28 (u_ (cExt 0) 23) 1,i_ [] 2 (eAlloc [(.int .i64 0),(.str []),(.int .u32 0),(.str []),(.cst (.slice none 0 0)),(.int .u32 0),(.int .u32 0),(.int .u32 0),(.str []),(.cst (.slice none 0 0)),(.bool false),(.int .u32 0),(.cst (.slice none 0 0)),(.cst (.slice none 0 0)),(.cst (.slice none 0 0)),(.cst (.slice none 0 0)),(.cst (.slice none 0 0)),(.cst (.slice none 0 0)),(.cst (.slice none 0 0)),(.cst (.slice none 0 0)),(.cst (.slice none 0 0)),(.cst (.slice none 0 0)),(.bool false),(.bool false),(.int .i64 0)] 25) 3,j_ [2,28] (s_ 25 2 28),i_ [23] 29 (u_ (cExt 1) 23) 2,i_ [29] 3 (v_ 29) 1]
def R7_3:CT:=.reg [y_ 31 32 [],y_ 32 29 [(constG (.str [97]))],o_ 33 (eBuild [(.int .i64 0),(.int .i64 0),(.int .i64 0),(.str []),(.str []),(.str []),(.int .i64 0),(.cst (.slice none 0 0)),(.str [])] 9 [(0,8,(z_ 32))]),o_ 34 (eBslice [(.int .i64 0),(.int .i64 0),(.int .i64 0),(.str []),(.str []),(.str []),(.int .i64 0),(.cst (.slice none 0 0)),(.str [])] 1 9 [(0,9,(z_ 33))]),o_ 35 (eBuild [(.str []),(.str []),(.int .i64 0),(.int .i64 0),(.int .i64 0),(.str []),(.str []),(.str []),(.int .i64 0),(.cst (.slice none 0 0))] 10 [(0,1,(constG (.str [116])))]),y_ 36 29 [(constG (.str [99]))],o_ 37 (eBuild [(.str []),(.str []),(.int .i64 0),(.int .i64 0),(.int .i64 0),(.str []),(.str []),(.str []),(.int .i64 0),(.cst (.slice none 0 0))] 10 [(0,1,(constG (.str [117]))),(2,8,(z_ 36))]),o_ 38 (eBslice [(.str []),(.str []),(.int .i64 0),(.int .i64 0),(.int .i64 0),(.str []),(.str []),(.str []),(.int .i64 0),(.cst (.slice none 0 0))] 2 10 [(0,10,(z_ 35)),(10,10,(z_ 37))]),o_ 39 (eBuild [(.bool false),(.bool false),(.cst (.slice none 0 0)),(.cst (.slice none 0 0)),(.int .i64 0),(.int .i64 0),(.int .i64 0),(.str []),(.str []),(.str []),(.int .i64 0),(.cst (.slice none 0 0)),(.cst (.slice none 0 0)),(.bool false),(.int .i64 0)] 15 [(2,1,(z_ 34)),(3,1,(z_ 38))]),o_ 40 (eBuild [(.int .i64 0),(.str []),(.str []),(.cst (.slice none 0 0)),(.cst (.slice none 0 0)),(.bool false),(.cst (.slice none 0 0)),(.cst (.slice none 0 0)),(.int .i64 0),(.int .i64 0),(.int .i64 0),(.str []),(.str []),(.str []),(.int .i64 0),(.cst (.slice none 0 0)),(.bool false),(.bool false),(.cst (.slice none 0 0)),(.cst (.slice none 0 0)),(.int .i64 0),(.int .i64 0),(.int .i64 0),(.str []),(.str []),(.str []),(.int .i64 0),(.cst (.slice none 0 0)),(.cst (.slice none 0 0)),(.bool false),(.int .i64 0)] 31 [(0,1,(constG (.int .i64 8))),(16,15,(z_ 39))]),y_ 41 5 [(z_ 31),(z_ 40)],o_ 30 (v_ 41),o_ 42 (u_ (cExt 0) 30),o_ 43 (u_ (cExt 1) 30),o_ 4 (eAlloc [(.int .i64 0),(.str []),(.int .u32 0),(.str []),(.cst (.slice none 0 0)),(.int .u32 0),(.int .u32 0),(.int .u32 0),(.str []),(.cst (.slice none 0 0)),(.bool false),(.int .u32 0),(.cst (.slice none 0 0)),(.cst (.slice none 0 0)),(.cst (.slice none 0 0)),(.cst (.slice none 0 0)),(.cst (.slice none 0 0)),(.cst (.slice none 0 0)),(.cst (.slice none 0 0)),(.cst (.slice none 0 0)),(.cst (.slice none 0 0)),(.cst (.slice none 0 0)),(.bool false),(.bool false),(.int .i64 0)] 25),oP pdN (s_ 25 4 42),o_ 5 (v_ 43)]
def R7_4:CT:=.reg [y_ 45 31 [],y_ 46 31 [],y_ 47 30 [(constG (.int .i64 8)),(z_ 45),(z_ 46)],y_ 48 11 [(z_ 47),(constG (.cst (.slice none 0 0)))],o_ 44 (v_ 48),o_ 49 (u_ (cExt 0) 44),o_ 50 (u_ (cExt 1) 44),o_ 6 (v_ 49),o_ 7 (v_ 50)]
def R7_5:CT:=.reg [o_ 51 (v_ 3),o_ 52 (d_ (cEq false .num) 51 (.int .i64 0)),o_ 53 (v_ 52),g_ 53 54 (a_ 18 2),g_ 53 55 (l_ 54),g_ 53 56 (u_ cLenL 55),g_ 53 57 (d_ (cEq false .num) 56 (.int .i64 2)),o_ 58 (p_ 53 57),o_ 59 (v_ 58),g_ 59 60 (a_ 18 2),g_ 59 61 (l_ 60),g_ 59 62 (d_ (cIxa 8) 61 (.int .i64 1)),g_ 59 63 (a_ 0 62),g_ 59 64 (l_ 63),g_ 59 65 (d_ (cEq false .num) 64 (.int .i64 3)),o_ 66 (p_ 59 65),o_ 67 (v_ 66),g_ 67 68 (a_ 18 2),g_ 67 69 (l_ 68),g_ 67 70 (d_ (cIxa 8) 69 (.int .i64 1)),g_ 67 71 (a_ 6 70),g_ 67 72 (l_ 71),g_ 67 73 (d_ (cEq false .num) 72 (.int .i64 1)),o_ 74 (p_ 67 73),o_ 75 (v_ 74),g_ 75 76 (a_ 19 2),g_ 75 77 (l_ 76),g_ 75 78 (d_ (cIxa 1) 77 (.int .i64 1)),g_ 75 79 (l_ 78),g_ 75 80 (d_ (cEq false .num) 79 (.str [120])),o_ 81 (p_ 75 80),o_ 82 (v_ 81),g_ 82 83 (a_ 17 2),g_ 82 84 (l_ 83),g_ 82 85 (u_ cLenL 84),g_ 82 86 (d_ (cEq false .num) 85 (.int .i64 2)),o_ 87 (p_ 82 86),o_ 88 (v_ 87),g_ 88 89 (v_ 5),g_ 88 90 (d_ (cEq false .num) 89 (.int .i64 205)),o_ 91 (p_ 88 90),o_ 92 (v_ 91),g_ 92 93 (v_ 6),g_ 92 94 (d_ (cEq false .num) 93 (.int .i64 1)),o_ 95 (p_ 92 94),o_ 96 (v_ 95),g_ 96 97 (v_ 7),g_ 96 98 (d_ (cEq false .num) 97 (.int .i64 0)),o_ 99 (p_ 96 98),o_ 0 (v_ 99)]
def B7 : CT := (.seq R7_0 (.seq R7_1 (.seq R7_2 (.seq R7_3 (.seq R7_4 (.seq R7_5 .ret))))))
def A7 : CF := { res := [rTmp 0],code := B7,nt := 100 }
theorem c7 : ctF Try.prog 7 = some A7 := by kernel_rfl
def R8_0:CT:=.reg [o_ 2 (c_ (.cst (.slice none 0 0)))]
def R8_1:CT:=.reg [o_ 3 (c_ (.cst (.slice none 0 0)))]
def R8_2:CT:=.reg [o_ 4 (c_ (.int .i64 0))]
def R8_3:CT:=.reg [o_ 6 (v_ 4),o_ 7 (v_ 0),o_ 8 (u_ cLenL 7),o_ 9 (b_ (cBin .lss) 6 8)]
def R8_4:CT:=.reg [o_ 5 (c_ (.int .i64 0))]
def R8_5:CT:=.reg [o_ 12 (v_ 5),o_ 13 (v_ 0),o_ 14 (v_ 4),o_ 15 (b_ (cIxa 4) 13 14),o_ 16 (a_ 2 15),o_ 17 (l_ 16),o_ 18 (u_ cLenL 17),o_ 19 (b_ (cBin .lss) 12 18)]
def R8_6:CT:=.reg [o_ 22 (v_ 3),o_ 23 (v_ 0),o_ 24 (v_ 4),o_ 25 (b_ (cIxa 4) 23 24),o_ 26 (a_ 2 25),o_ 27 (l_ 26),o_ 28 (v_ 5),o_ 29 (b_ (cIxa 3) 27 28),o_ 30 (a_ 1 29),o_ 31 (l_ 30),o_ 32 (eBslice [(.int .i64 0)] 1 1 [(0,1,(z_ 31))]),o_ 33 (eApp 1 8 (z_ 22) (z_ 32)),o_ 3 (v_ 33)]
def R8_7:CT:=.reg [o_ 20 (v_ 5),o_ 21 (d_ (cBin .add) 20 (.int .i64 1)),o_ 5 (v_ 21)]
def L8_0 : CT := (.seq (.seq R8_5 (.cond (z_ 19) .skip (.exit 2))) (.seq (.block 3 R8_6) R8_7))
def R8_8:CT:=.reg [o_ 10 (v_ 4),o_ 11 (d_ (cBin .add) 10 (.int .i64 1)),o_ 4 (v_ 11)]
def L8_1 : CT := (.seq (.seq R8_3 (.cond (z_ 9) .skip (.exit 0))) (.seq (.block 1 (.seq R8_4 (.block 2 (.loop L8_0)))) R8_8))
def R8_9:CT:=.reg [o_ 34 (v_ 3),o_ 2 (v_ 34)]
def B8 : CT := (.seq R8_0 (.seq R8_1 (.seq (.seq R8_2 (.block 0 (.loop L8_1))) (.seq R8_9 .ret))))
def A8 : CF := { res := [rTmp 2],code := B8,nt := 35 }
theorem c8 : ctF Try.prog 8 = some A8 := by kernel_rfl
def R9_0:CT:=.reg [o_ 6 (c_ (.bool false))]
def R9_1:CT:=.reg [o_ 7 (c_ (.int .i64 0))]
def R9_2:CT:=.reg [o_ 10 (v_ 7),o_ 11 (v_ 0),o_ 12 (u_ cLenL 11),o_ 13 (b_ (cBin .lss) 10 12)]
def R9_3:CT:=.reg [o_ 17 (v_ 0),o_ 18 (v_ 7),o_ 19 (b_ (cIxa 8) 17 18),o_ 20 (n_ 8 19),o_ 21 (v_ 2),y_ 22 11 [(z_ 20),(z_ 21)],o_ 16 (v_ 22),o_ 23 (u_ (cExt 0) 16),o_ 24 (u_ (cExt 1) 16),o_ 8 (v_ 23),o_ 9 (v_ 24)]
def R9_4:CT:=.reg [o_ 25 (v_ 9),o_ 26 (d_ (cEq true .num) 25 (.int .i64 0)),o_ 27 (v_ 26),h_ 27 28 (v_ 8),h_ 27 29 (d_ (cEq true .num) 28 (.int .i64 0)),h_ 27 30 (v_ 29),g_ 30 31 (v_ 8),g_ 30 32 (v_ 1),g_ 30 33 (v_ 7),g_ 30 34 (b_ (cIxa 1) 32 33),g_ 30 35 (l_ 34),g_ 30 36 (b_ (cEq true .num) 31 35),h_ 27 37 (p_ 30 36),o_ 38 (q_ 27 37)]
def R9_5:CT:=.reg [o_ 6 (c_ (.bool false))]
def R9_6:CT:=.reg [o_ 14 (v_ 7),o_ 15 (d_ (cBin .add) 14 (.int .i64 1)),o_ 7 (v_ 15)]
def L9_0 : CT := (.seq (.seq R9_2 (.cond (z_ 13) .skip (.exit 0))) (.seq (.block 1 (.seq R9_3 (.seq R9_4 (.cond (z_ 38) (.seq R9_5 .ret) .skip)))) R9_6))
def R9_7:CT:=.reg [o_ 6 (c_ (.bool true))]
def B9 : CT := (.seq R9_0 (.seq (.seq R9_1 (.block 0 (.loop L9_0))) (.seq R9_7 .ret)))
def A9 : CF := { res := [rTmp 6],code := B9,nt := 39 }
theorem c9 : ctF Try.prog 9 = some A9 := by kernel_rfl
def R10_0:CT:=.reg [o_ 4 (c_ (.bool false))]
def R10_1:CT:=.reg [o_ 5 (c_ (.int .i64 0))]
def R10_2:CT:=.reg [o_ 8 (v_ 5),o_ 9 (v_ 0),o_ 10 (u_ cLenL 9),o_ 11 (b_ (cBin .lss) 8 10)]
def R10_3:CT:=.reg [o_ 15 (v_ 0),o_ 16 (v_ 5),o_ 17 (b_ (cIxa 8) 15 16),o_ 18 (n_ 8 17),o_ 19 (v_ 1),y_ 20 11 [(z_ 18),(z_ 19)],o_ 14 (v_ 20),o_ 21 (u_ (cExt 0) 14),o_ 22 (u_ (cExt 1) 14),o_ 6 (v_ 21),o_ 7 (v_ 22)]
def R10_4:CT:=.reg [o_ 23 (v_ 7),o_ 24 (d_ (cEq true .num) 23 (.int .i64 0)),o_ 25 (v_ 24),h_ 25 26 (v_ 6),h_ 25 27 (d_ (cEq false .num) 26 (.int .i64 1)),o_ 28 (q_ 25 27),o_ 29 (v_ 28),h_ 29 30 (v_ 6),h_ 29 31 (d_ (cEq false .num) 30 (.int .i64 2)),o_ 32 (q_ 29 31)]
def R10_5:CT:=.reg [o_ 4 (c_ (.bool false))]
def R10_6:CT:=.reg [o_ 12 (v_ 5),o_ 13 (d_ (cBin .add) 12 (.int .i64 1)),o_ 5 (v_ 13)]
def L10_0 : CT := (.seq (.seq R10_2 (.cond (z_ 11) .skip (.exit 0))) (.seq (.block 1 (.seq R10_3 (.seq R10_4 (.cond (z_ 32) (.seq R10_5 .ret) .skip)))) R10_6))
def R10_7:CT:=.reg [o_ 4 (c_ (.bool true))]
def B10 : CT := (.seq R10_0 (.seq (.seq R10_1 (.block 0 (.loop L10_0))) (.seq R10_7 .ret)))
def A10 : CF := { res := [rTmp 4],code := B10,nt := 33 }
theorem c10 : ctF Try.prog 10 = some A10 := by kernel_rfl
def R11_0:CT:=.reg [o_ 2 (x_ 0),o_ 4 (c_ (.int .i64 0)),o_ 5 (c_ (.int .i64 0))]
def R11_1:CT:=.reg [o_ 6 (n_ 8 2),o_ 7 (v_ 1),o_ 8 (u_ cLenL 7),y_ 9 33 [(z_ 6),(z_ 8)],o_ 10 (u_ (cUn .not) 9)]
def R11_2:CT:=.reg [o_ 4 (c_ (.int .i64 0)),o_ 5 (c_ (.int .i64 1))]
def R11_3:CT:=.reg [o_ 11 (n_ 8 2),o_ 12 (v_ 1),y_ 13 34 [(z_ 11),(z_ 12)],o_ 14 (u_ (cExt 0) 13),o_ 15 (u_ (cExt 1) 13),o_ 4 (v_ 14),o_ 5 (v_ 15)]
def B11 : CT := (.seq R11_0 (.seq (.seq R11_1 (.cond (z_ 10) (.seq R11_2 .ret) .skip)) (.seq R11_3 .ret)))
def A11 : CF := { res := [rTmp 4,rTmp 5],code := B11,nt := 16 }
theorem c11 : ctF Try.prog 11 = some A11 := by kernel_rfl
def R16_0:CT:=.reg [o_ 1 (x_ 0),o_ 2 (eAlloc [(.bool false)] 1)]
def R16_1:CT:=.reg [o_ 12 (a_ 0 1),o_ 13 (l_ 12),o_ 14 (u_ cLenL 13),o_ 15 (d_ (cBin .gtr) 14 (.int .i64 32)),o_ 16 (v_ 15),h_ 16 17 (a_ 1 1),h_ 16 18 (l_ 17),h_ 16 19 (u_ cLenL 18),h_ 16 20 (d_ (cBin .gtr) 19 (.int .i64 64)),o_ 21 (q_ 16 20)]
def R16_2:CT:=.reg [oP pdN (eStore 1 (z_ 2) (constG (.bool false)))]
def R16_3:CT:=.reg [o_ 22 (eMkmap),o_ 3 (eAlloc [(.cst (.map none))] 1),oP pdN (s_ 1 3 22)]
def R16_4:CT:=.reg [o_ 23 (n_ 2 1),y_ 24 43 [(z_ 23)]]
def R16_5:CT:=.reg [o_ 4 (v_ 25)]
def R16_6:CT:=.reg [o_ 26 (l_ 3),o_ 27 (v_ 4),o_ 28 (eLookup .i (.int .i64 0) false (z_ 26) (z_ 27)),o_ 29 (d_ (cBin .add) 28 (.int .i64 1)),oP pdN (eMput .i (z_ 26) (z_ 27) (z_ 29))]
def R16_7:CT:=.reg [o_ 30 (v_ 4),o_ 31 (d_ (cEq false .num) 30 (.int .u32 0)),o_ 32 (v_ 31),h_ 32 33 (l_ 3),h_ 32 34 (v_ 4),h_ 32 35 (eLookup .i (.int .i64 0) false (z_ 33) (z_ 34)),h_ 32 36 (d_ (cBin .gtr) 35 (.int .i64 1)),o_ 37 (q_ 32 36)]
def R16_8:CT:=.reg [oP pdN (eStore 1 (z_ 2) (constG (.bool false)))]
def Y16_0 : Code × Code := rngOf Try.prog 16 0
theorem y16_0a : ctOf Try.prog 120 true Y16_0.1 = R16_5 := by kernel_rfl
theorem y16_0b : ctOf Try.prog 120 true Y16_0.2 = (.block 1 (.seq R16_6 (.seq R16_7 (.cond (z_ 37) (.seq R16_8 .ret) .skip)))) := by kernel_rfl
def R16_9:CT:=.reg [o_ 5 (c_ (.int .u32 0))]
def R16_10:CT:=.reg [o_ 38 (a_ 0 1),o_ 39 (l_ 38),o_ 40 (u_ cLenL 39),o_ 41 (c_ (.int .i64 0))]
def R16_11:CT:=.reg [o_ 42 (b_ (cBin .lss) 41 40)]
def R16_12:CT:=.reg [o_ 43 (v_ 41),o_ 44 (b_ (cIxa 4) 39 41),o_ 45 (n_ 4 44),o_ 7 (eAlloc [(.int .u32 0),(.str []),(.cst (.slice none 0 0)),(.int .u32 0)] 4),o_ 6 (v_ 43),oP pdN (s_ 4 7 45)]
def R16_13:CT:=.reg [o_ 46 (a_ 0 7),o_ 47 (l_ 46),o_ 48 (v_ 5),o_ 49 (b_ (cBin .leq) 47 48),o_ 50 (v_ 49),h_ 50 51 (a_ 1 7),h_ 50 52 (l_ 51),gcP (z_ 50) false (pdT 53) 44 [(z_ 52)],h_ 50 54 (u_ (cUn .not) 53),o_ 55 (q_ 50 54),o_ 56 (v_ 55),h_ 56 57 (a_ 2 7),h_ 56 58 (l_ 57),gcP (z_ 56) false (pdT 59) 45 [(z_ 58)],h_ 56 60 (u_ (cUn .not) 59),o_ 61 (q_ 56 60),o_ 62 (v_ 61),h_ 62 63 (a_ 0 1),h_ 62 64 (l_ 63),h_ 62 65 (v_ 6),h_ 62 66 (eSl (cSlc 4) (z_ 64) none (some (z_ 65)) none),h_ 62 67 (eMkfn (.func 47) [] [(z_ 7)]),gcP (z_ 62) false (pdT 68) 46 [(z_ 66),(z_ 67)],o_ 69 (q_ 62 68)]
def R16_14:CT:=.reg [oP pdN (eStore 1 (z_ 2) (constG (.bool false)))]
def R16_15:CT:=.reg [o_ 70 (a_ 0 7),o_ 71 (l_ 70),o_ 5 (v_ 71)]
def R16_16:CT:=.reg [o_ 72 (d_ (cBin .add) 41 (.int .i64 1)),o_ 41 (v_ 72)]
def L16_0 : CT := (.seq R16_11 (.seq (.cond (z_ 42) .skip (.exit 2)) (.seq (.block 3 (.seq R16_12 (.seq (.seq R16_13 (.cond (z_ 69) (.seq R16_14 .ret) .skip)) R16_15))) R16_16)))
def R16_17:CT:=.reg [o_ 5 (c_ (.int .u32 0))]
def R16_18:CT:=.reg [o_ 73 (a_ 1 1),o_ 74 (l_ 73),o_ 75 (u_ cLenL 74),o_ 76 (c_ (.int .i64 0))]
def R16_19:CT:=.reg [o_ 77 (b_ (cBin .lss) 76 75)]
def R16_20:CT:=.reg [o_ 78 (v_ 76),o_ 79 (b_ (cIxa 6) 74 76),o_ 80 (n_ 6 79),o_ 9 (eAlloc [(.int .u32 0),(.int .u32 0),(.str []),(.cst (.slice none 0 0)),(.bool false),(.int .u32 0)] 6),o_ 8 (v_ 78),oP pdN (s_ 6 9 80)]
def R16_21:CT:=.reg [o_ 82 (n_ 2 1),o_ 83 (a_ 1 9),o_ 84 (l_ 83),y_ 85 23 [(z_ 82),(z_ 84)],o_ 81 (v_ 85),o_ 86 (u_ (cExt 0) 81),o_ 87 (u_ (cExt 1) 81),o_ 10 (eAlloc [(.int .u32 0),(.str []),(.cst (.slice none 0 0)),(.int .u32 0)] 4),oP pdN (s_ 4 10 86),o_ 11 (v_ 87)]
def R16_22:CT:=.reg [o_ 88 (a_ 0 9),o_ 89 (l_ 88),o_ 90 (v_ 5),o_ 91 (b_ (cBin .leq) 89 90),o_ 92 (v_ 91),h_ 92 93 (a_ 2 9),h_ 92 94 (l_ 93),gcP (z_ 92) false (pdT 95) 44 [(z_ 94)],h_ 92 96 (u_ (cUn .not) 95),o_ 97 (q_ 92 96),o_ 98 (v_ 97),h_ 98 99 (v_ 11),h_ 98 100 (u_ (cUn .not) 99),o_ 101 (q_ 98 100),o_ 102 (v_ 101),h_ 102 103 (n_ 4 10),h_ 102 104 (a_ 3 9),h_ 102 105 (l_ 104),gcP (z_ 102) false (pdT 106) 48 [(z_ 103),(z_ 105)],h_ 102 107 (u_ (cUn .not) 106),o_ 108 (q_ 102 107),o_ 109 (v_ 108),h_ 109 110 (a_ 1 1),h_ 109 111 (l_ 110),h_ 109 112 (v_ 8),h_ 109 113 (eSl (cSlc 6) (z_ 111) none (some (z_ 112)) none),h_ 109 114 (eMkfn (.func 50) [] [(z_ 9)]),gcP (z_ 109) false (pdT 115) 49 [(z_ 113),(z_ 114)],o_ 116 (q_ 109 115)]
def R16_23:CT:=.reg [oP pdN (eStore 1 (z_ 2) (constG (.bool false)))]
def R16_24:CT:=.reg [o_ 117 (a_ 0 9),o_ 118 (l_ 117),o_ 5 (v_ 118)]
def R16_25:CT:=.reg [o_ 119 (d_ (cBin .add) 76 (.int .i64 1)),o_ 76 (v_ 119)]
def L16_1 : CT := (.seq R16_19 (.seq (.cond (z_ 77) .skip (.exit 4)) (.seq (.block 5 (.seq R16_20 (.seq R16_21 (.seq (.seq R16_22 (.cond (z_ 116) (.seq R16_23 .ret) .skip)) R16_24)))) R16_25)))
def R16_26:CT:=.reg [oP pdN (eStore 1 (z_ 2) (constG (.bool true)))]
def B16 : CT := (.seq R16_0 (.seq (.seq R16_1 (.cond (z_ 21) (.seq R16_2 .ret) .skip)) (.seq R16_3 (.seq (.seq R16_4 (.block 0 (.range 120 (z_ 24) [25] Y16_0.1 Y16_0.2))) (.seq R16_9 (.seq (.seq R16_10 (.block 2 (.loop L16_0))) (.seq R16_17 (.seq (.seq R16_18 (.block 4 (.loop L16_1))) (.seq R16_26 .ret)))))))))
def A16 : CF := { res := [rCel1 2],code := B16,nt := 120 }
theorem c16 : ctF Try.prog 16 = some A16 := by kernel_rfl
def R17_0:CT:=.reg [o_ 1 (x_ 0),o_ 2 (c_ (.bool false))]
def R17_1:CT:=.reg [o_ 15 (a_ 0 1),o_ 16 (l_ 15),o_ 17 (eBuild [(.int .i64 0),(.str []),(.str []),(.cst (.slice none 0 0)),(.cst (.slice none 0 0)),(.bool false),(.cst (.slice none 0 0)),(.cst (.slice none 0 0)),(.int .i64 0),(.int .i64 0),(.int .i64 0),(.str []),(.str []),(.str []),(.int .i64 0),(.cst (.slice none 0 0)),(.bool false),(.bool false),(.cst (.slice none 0 0)),(.cst (.slice none 0 0)),(.int .i64 0),(.int .i64 0),(.int .i64 0),(.str []),(.str []),(.str []),(.int .i64 0),(.cst (.slice none 0 0)),(.cst (.slice none 0 0)),(.bool false),(.int .i64 0)] 31 [(0,1,(z_ 16))]),o_ 3 (eAlloc [(.int .i64 0),(.str []),(.str []),(.cst (.slice none 0 0)),(.cst (.slice none 0 0)),(.bool false),(.cst (.slice none 0 0)),(.cst (.slice none 0 0)),(.int .i64 0),(.int .i64 0),(.int .i64 0),(.str []),(.str []),(.str []),(.int .i64 0),(.cst (.slice none 0 0)),(.bool false),(.bool false),(.cst (.slice none 0 0)),(.cst (.slice none 0 0)),(.int .i64 0),(.int .i64 0),(.int .i64 0),(.str []),(.str []),(.str []),(.int .i64 0),(.cst (.slice none 0 0)),(.cst (.slice none 0 0)),(.bool false),(.int .i64 0)] 31),oP pdN (s_ 31 3 17)]
def R17_2:CT:=.reg [o_ 4 (c_ (.bool false))]
def R17_3:CT:=.reg [o_ 18 (a_ 0 1),o_ 19 (l_ 18)]
def R17_4:CT:=.reg [o_ 21 (d_ (cEq false .num) 19 (.int .i64 1)),o_ 20 (v_ 21)]
def R17_5:CT:=.drw [22,23,24,25,26,27] [i_ [1] 22 (a_ 1 1) 1,i_ [22] 23 (l_ 22) 1,i_ [3] 26 (a_ 1 3) 1,j_ [26,23] (s_ 1 26 23),i_ [1] 24 (a_ 3 1) 2,i_ [24] 25 (l_ 24) 2,i_ [3] 27 (a_ 3 3) 1,j_ [27,25] (s_ 1 27 25)]
def R17_6:CT:=.reg [o_ 28 (a_ 1 1),o_ 29 (l_ 28),y_ 30 51 [(z_ 29)],o_ 31 (v_ 30),g_ 31 32 (a_ 3 1),g_ 31 33 (l_ 32),g_ 31 34 (u_ cLenL 33),gcP (z_ 31) true (pdT 35) 52 [(z_ 34),(constG (.int .i64 16))],o_ 36 (p_ 31 35),o_ 4 (v_ 36)]
def R17_7:CT:=.reg [o_ 37 (a_ 3 1),o_ 38 (l_ 37),o_ 39 (u_ cLenL 38),o_ 40 (c_ (.int .i64 0))]
def R17_8:CT:=.reg [o_ 41 (b_ (cBin .lss) 40 39)]
def R17_9:CT:=.reg [o_ 42 (b_ (cIxa 3) 38 40),o_ 43 (n_ 3 42),o_ 6 (eAlloc [(.str []),(.int .i64 0),(.bool false)] 3),oP pdN (s_ 3 6 43)]
def R17_10:CT:=.reg [o_ 44 (v_ 4),o_ 45 (v_ 44),g_ 45 46 (a_ 0 6),g_ 45 47 (l_ 46),gcP (z_ 45) true (pdT 48) 51 [(z_ 47)],o_ 49 (p_ 45 48),o_ 50 (v_ 49),g_ 50 51 (a_ 1 6),g_ 50 52 (l_ 51),g_ 50 53 (d_ (cBin .geq) 52 (.int .i64 1)),o_ 54 (p_ 50 53),o_ 55 (v_ 54),g_ 55 56 (a_ 1 6),g_ 55 57 (l_ 56),g_ 55 58 (d_ (cBin .leq) 57 (.int .i64 3)),o_ 59 (p_ 55 58),o_ 4 (v_ 59)]
def R17_11:CT:=.reg [o_ 60 (d_ (cBin .add) 40 (.int .i64 1)),o_ 40 (v_ 60)]
def L17_0 : CT := (.seq R17_8 (.seq (.cond (z_ 41) .skip (.exit 1)) (.seq (.block 2 (.seq R17_9 R17_10)) R17_11)))
def R17_12:CT:=.reg [o_ 62 (d_ (cEq false .num) 19 (.int .i64 2)),o_ 61 (v_ 62)]
def R17_13:CT:=.reg [o_ 63 (a_ 1 1),o_ 64 (l_ 63),o_ 65 (a_ 1 3),oP pdN (s_ 1 65 64)]
def R17_14:CT:=.reg [o_ 66 (a_ 1 1),o_ 67 (l_ 66),y_ 68 51 [(z_ 67)],o_ 4 (v_ 68)]
def R17_15:CT:=.reg [o_ 70 (d_ (cEq false .num) 19 (.int .i64 3)),o_ 69 (v_ 70)]
def R17_16:CT:=.drw [71,72,73,74,75,76,77,78,79,80,81,82] [i_ [1] 71 (a_ 1 1) 1,i_ [71] 72 (l_ 71) 1,i_ [3] 79 (a_ 1 3) 1,j_ [79,72] (s_ 1 79 72),i_ [1] 73 (a_ 2 1) 2,i_ [73] 74 (l_ 73) 2,i_ [3] 80 (a_ 2 3) 1,j_ [80,74] (s_ 1 80 74),i_ [1] 75 (a_ 4 1) 3,i_ [75] 76 (l_ 75) 3,i_ [3] 81 (a_ 4 3) 1,j_ [81,76] (s_ 1 81 76),i_ [1] 77 (a_ 5 1) 4,i_ [77] 78 (l_ 77) 4,i_ [3] 82 (a_ 5 3) 1,j_ [82,78] (s_ 1 82 78)]
def R17_17:CT:=.reg [o_ 83 (a_ 1 1),o_ 84 (l_ 83),y_ 85 51 [(z_ 84)],o_ 86 (v_ 85),g_ 86 87 (a_ 2 1),g_ 86 88 (l_ 87),gcP (z_ 86) true (pdT 89) 51 [(z_ 88)],o_ 90 (p_ 86 89),o_ 91 (v_ 90),g_ 91 92 (a_ 4 1),g_ 91 93 (l_ 92),g_ 91 94 (u_ cLenL 93),gcP (z_ 91) true (pdT 95) 52 [(z_ 94),(constG (.int .i64 16))],o_ 96 (p_ 91 95),o_ 4 (v_ 96)]
def R17_18:CT:=.reg [o_ 97 (a_ 4 1),o_ 98 (l_ 97),o_ 99 (u_ cLenL 98),o_ 100 (c_ (.int .i64 0))]
def R17_19:CT:=.reg [o_ 101 (b_ (cBin .lss) 100 99)]
def R17_20:CT:=.reg [o_ 102 (b_ (cIxa 1) 98 100),o_ 103 (l_ 102),o_ 8 (v_ 103)]
def R17_21:CT:=.reg [o_ 104 (v_ 4),o_ 105 (v_ 104),g_ 105 106 (v_ 8),gcP (z_ 105) true (pdT 107) 51 [(z_ 106)],o_ 108 (p_ 105 107),o_ 4 (v_ 108)]
def R17_22:CT:=.reg [o_ 109 (d_ (cBin .add) 100 (.int .i64 1)),o_ 100 (v_ 109)]
def L17_1 : CT := (.seq R17_19 (.seq (.cond (z_ 101) .skip (.exit 3)) (.seq (.block 4 (.seq R17_20 R17_21)) R17_22)))
def R17_23:CT:=.reg [o_ 111 (d_ (cEq false .num) 19 (.int .i64 4)),o_ 110 (v_ 111)]
def R17_24:CT:=.reg [o_ 112 (a_ 2 1),o_ 113 (l_ 112),o_ 114 (a_ 2 3),oP pdN (s_ 1 114 113)]
def R17_25:CT:=.reg [o_ 115 (a_ 2 1),o_ 116 (l_ 115),y_ 117 51 [(z_ 116)],o_ 4 (v_ 117)]
def R17_26:CT:=.reg [o_ 119 (d_ (cEq false .num) 19 (.int .i64 5)),o_ 118 (v_ 119)]
def R17_27:CT:=.drw [120,121,122,123,124,125] [i_ [1] 120 (a_ 1 1) 1,i_ [120] 121 (l_ 120) 1,i_ [3] 124 (a_ 1 3) 1,j_ [124,121] (s_ 1 124 121),i_ [1] 122 (a_ 6 1) 2,i_ [122] 123 (l_ 122) 2,i_ [3] 125 (a_ 6 3) 1,j_ [125,123] (s_ 1 125 123)]
def R17_28:CT:=.reg [o_ 126 (a_ 1 1),o_ 127 (l_ 126),y_ 128 51 [(z_ 127)],o_ 129 (v_ 128),g_ 129 130 (a_ 6 1),g_ 129 131 (l_ 130),g_ 129 132 (u_ cLenL 131),g_ 129 133 (d_ (cBin .gtr) 132 (.int .i64 0)),o_ 134 (p_ 129 133),o_ 4 (v_ 134)]
def R17_29:CT:=.reg [o_ 135 (a_ 6 1),o_ 136 (l_ 135),o_ 137 (u_ cLenL 136),o_ 138 (c_ (.int .i64 0))]
def R17_30:CT:=.reg [o_ 139 (b_ (cBin .lss) 138 137)]
def R17_31:CT:=.reg [o_ 140 (b_ (cIxa 1) 136 138),o_ 141 (l_ 140),o_ 10 (v_ 141)]
def R17_32:CT:=.reg [o_ 142 (v_ 4),o_ 143 (v_ 142),g_ 143 144 (v_ 10),g_ 143 145 (u_ cLenL 144),gcP (z_ 143) true (pdT 146) 52 [(z_ 145),(constG (.int .i64 16))],o_ 147 (p_ 143 146),o_ 4 (v_ 147)]
def R17_33:CT:=.reg [o_ 148 (v_ 10),o_ 149 (u_ cLenL 148),o_ 150 (c_ (.int .i64 0))]
def R17_34:CT:=.reg [o_ 151 (b_ (cBin .lss) 150 149)]
def R17_35:CT:=.reg [o_ 152 (b_ (cIxa 8) 148 150),o_ 153 (n_ 8 152),o_ 12 (eAlloc [(.int .i64 0),(.int .i64 0),(.int .i64 0),(.str []),(.str []),(.str []),(.int .i64 0),(.cst (.slice none 0 0))] 8),oP pdN (s_ 8 12 153)]
def R17_36:CT:=.reg [o_ 154 (v_ 4),o_ 155 (v_ 154),g_ 155 156 (n_ 8 12),gcP (z_ 155) true (pdT 157) 53 [(z_ 156)],o_ 158 (p_ 155 157),o_ 4 (v_ 158)]
def R17_37:CT:=.reg [o_ 159 (d_ (cBin .add) 150 (.int .i64 1)),o_ 150 (v_ 159)]
def L17_2 : CT := (.seq R17_34 (.seq (.cond (z_ 151) .skip (.exit 7)) (.seq (.block 8 (.seq R17_35 R17_36)) R17_37)))
def R17_38:CT:=.reg [o_ 160 (d_ (cBin .add) 138 (.int .i64 1)),o_ 138 (v_ 160)]
def L17_3 : CT := (.seq R17_30 (.seq (.cond (z_ 139) .skip (.exit 5)) (.seq (.block 6 (.seq R17_31 (.seq R17_32 (.seq R17_33 (.block 7 (.loop L17_2)))))) R17_38)))
def R17_39:CT:=.reg [o_ 162 (d_ (cEq false .num) 19 (.int .i64 6)),o_ 161 (v_ 162)]
def R17_40:CT:=.drw [163,164,165,166,167,168] [i_ [1] 163 (a_ 1 1) 1,i_ [163] 164 (l_ 163) 1,i_ [3] 167 (a_ 1 3) 1,j_ [167,164] (s_ 1 167 164),i_ [1] 165 (a_ 8 1) 2,i_ [165] 166 (n_ 8 165) 2,i_ [3] 168 (a_ 8 3) 1,j_ [168,166] (s_ 8 168 166)]
def R17_41:CT:=.reg [o_ 169 (a_ 1 1),o_ 170 (l_ 169),y_ 171 51 [(z_ 170)],o_ 172 (v_ 171),g_ 172 173 (a_ 8 1),g_ 172 174 (n_ 8 173),gcP (z_ 172) true (pdT 175) 54 [(z_ 174)],o_ 176 (p_ 172 175),o_ 4 (v_ 176)]
def R17_42:CT:=.reg [o_ 178 (d_ (cEq false .num) 19 (.int .i64 7)),o_ 177 (v_ 178)]
def R17_43:CT:=.drw [179,180,181,182,183,184,185,186,187] [i_ [1] 179 (a_ 1 1) 1,i_ [179] 180 (l_ 179) 1,i_ [3] 185 (a_ 1 3) 1,j_ [185,180] (s_ 1 185 180),i_ [1] 181 (a_ 7 1) 2,i_ [181] 182 (l_ 181) 2,i_ [3] 186 (a_ 7 3) 1,j_ [186,182] (s_ 1 186 182),i_ [1] 183 (a_ 8 1) 3,i_ [183] 184 (n_ 8 183) 3,i_ [3] 187 (a_ 8 3) 1,j_ [187,184] (s_ 8 187 184)]
def R17_44:CT:=.reg [o_ 188 (a_ 1 1),o_ 189 (l_ 188),y_ 190 51 [(z_ 189)],o_ 191 (v_ 190),g_ 191 192 (a_ 7 1),g_ 191 193 (l_ 192),g_ 191 194 (u_ cLenL 193),gcP (z_ 191) true (pdT 195) 52 [(z_ 194),(constG (.int .i64 16))],o_ 196 (p_ 191 195),o_ 197 (v_ 196),g_ 197 198 (a_ 8 1),g_ 197 199 (n_ 8 198),gcP (z_ 197) true (pdT 200) 54 [(z_ 199)],o_ 201 (p_ 197 200),o_ 4 (v_ 201)]
def R17_45:CT:=.reg [o_ 202 (a_ 7 1),o_ 203 (l_ 202),o_ 204 (u_ cLenL 203),o_ 205 (c_ (.int .i64 0))]
def R17_46:CT:=.reg [o_ 206 (b_ (cBin .lss) 205 204)]
def R17_47:CT:=.reg [o_ 207 (b_ (cIxa 9) 203 205),o_ 208 (n_ 9 207),o_ 14 (eAlloc [(.str []),(.int .i64 0),(.int .i64 0),(.int .i64 0),(.str []),(.str []),(.str []),(.int .i64 0),(.cst (.slice none 0 0))] 9),oP pdN (s_ 9 14 208)]
def R17_48:CT:=.reg [o_ 209 (v_ 4),o_ 210 (v_ 209),g_ 210 211 (a_ 0 14),g_ 210 212 (l_ 211),gcP (z_ 210) true (pdT 213) 51 [(z_ 212)],o_ 214 (p_ 210 213),o_ 215 (v_ 214),g_ 215 216 (a_ 1 14),g_ 215 217 (n_ 8 216),gcP (z_ 215) true (pdT 218) 53 [(z_ 217)],o_ 219 (p_ 215 218),o_ 4 (v_ 219)]
def R17_49:CT:=.reg [o_ 220 (d_ (cBin .add) 205 (.int .i64 1)),o_ 205 (v_ 220)]
def L17_4 : CT := (.seq R17_46 (.seq (.cond (z_ 206) .skip (.exit 9)) (.seq (.block 10 (.seq R17_47 R17_48)) R17_49)))
def R17_50:CT:=.reg [o_ 222 (d_ (cEq false .num) 19 (.int .i64 8)),o_ 221 (v_ 222)]
def R17_51:CT:=.reg [o_ 223 (a_ 16 1),o_ 224 (n_ 15 223),o_ 225 (a_ 16 3),oP pdN (s_ 15 225 224)]
def R17_52:CT:=.reg [o_ 226 (a_ 16 1),o_ 227 (n_ 15 226),y_ 228 55 [(z_ 227)],o_ 4 (v_ 228)]
def R17_53:CT:=.reg [o_ 230 (d_ (cEq false .num) 19 (.int .i64 9)),o_ 229 (v_ 230)]
def R17_54:CT:=.reg [o_ 231 (d_ (cEq false .num) 19 (.int .i64 10)),o_ 229 (v_ 231)]
def R17_55:CT:=.reg [o_ 232 (d_ (cEq false .num) 19 (.int .i64 11)),o_ 229 (v_ 232)]
def R17_56:CT:=.reg [o_ 4 (c_ (.bool true))]
def R17_57:CT:=.reg [o_ 233 (v_ 4),o_ 234 (v_ 233),g_ 234 235 (n_ 31 1),g_ 234 236 (n_ 31 3),gcP (z_ 234) true (pdT 237) 56 [(z_ 235),(z_ 236)],o_ 238 (p_ 234 237),o_ 2 (v_ 238)]
def B17 : CT := (.seq R17_0 (.seq R17_1 (.seq R17_2 (.seq (.seq R17_3 (.block 0 (.seq R17_4 (.cond (z_ 20) (.seq R17_5 (.seq R17_6 (.seq R17_7 (.block 1 (.loop L17_0))))) (.seq R17_12 (.cond (z_ 61) (.seq R17_13 R17_14) (.seq R17_15 (.cond (z_ 69) (.seq R17_16 (.seq R17_17 (.seq R17_18 (.block 3 (.loop L17_1))))) (.seq R17_23 (.cond (z_ 110) (.seq R17_24 R17_25) (.seq R17_26 (.cond (z_ 118) (.seq R17_27 (.seq R17_28 (.seq R17_29 (.block 5 (.loop L17_3))))) (.seq R17_39 (.cond (z_ 161) (.seq R17_40 R17_41) (.seq R17_42 (.cond (z_ 177) (.seq R17_43 (.seq R17_44 (.seq R17_45 (.block 9 (.loop L17_4))))) (.seq R17_50 (.cond (z_ 221) (.seq R17_51 R17_52) (.seq (.seq R17_53 (.cond (z_ 229) .skip (.seq R17_54 (.cond (z_ 229) .skip R17_55)))) (.cond (z_ 229) R17_56 .skip)))))))))))))))))))) (.seq R17_57 .ret)))))
def A17 : CF := { res := [rTmp 2],code := B17,nt := 239 }
theorem c17 : ctF Try.prog 17 = some A17 := by kernel_rfl
def R18_0:CT:=.reg [o_ 4 (x_ 1)]
def R18_1:CT:=.drw [11,12,13,14,15,16,17,10,18,19,6] [i_ [0] 11 (v_ 0) 1,i_ [11] 12 (eNilc (z_ 11)) 1,i_ [12] 13 (a_ 0 12) 1,i_ [13] 14 (n_ 2 13) 1,i_ [4] 15 (a_ 1 4) 1,i_ [15] 16 (l_ 15) 1,cI [14,16] (pdT 17) 57 [(z_ 14),(z_ 16)],i_ [17] 10 (v_ 17) 1,i_ [10] 18 (u_ (cExt 0) 10) 1,i_ [] 6 (eAlloc [(.int .u32 0),(.str []),(.cst (.slice none 0 0)),(.int .u32 0)] 4) 2,j_ [6,18] (s_ 4 6 18),i_ [10] 19 (u_ (cExt 1) 10) 2,i_ [19] 7 (v_ 19) 1]
def R18_2:CT:=.reg [o_ 20 (v_ 0),o_ 21 (v_ 7),y_ 22 22 [(z_ 20),(constG (.int .i64 200)),(z_ 21)]]
def R18_3:CT:=.reg [o_ 23 (a_ 3 4),o_ 24 (l_ 23),o_ 25 (u_ cLenL 24),o_ 26 (c_ (.int .i64 0))]
def R18_4:CT:=.reg [o_ 27 (b_ (cBin .lss) 26 25)]
def R18_5:CT:=.reg [o_ 28 (v_ 26),o_ 29 (b_ (cIxa 3) 24 26),o_ 30 (n_ 3 29),o_ 9 (eAlloc [(.str []),(.int .i64 0),(.bool false)] 3),o_ 8 (v_ 28),oP pdN (s_ 3 9 30)]
def R18_6:CT:=.reg [o_ 31 (v_ 0),o_ 32 (a_ 3 4),o_ 33 (l_ 32),o_ 34 (v_ 8),o_ 35 (eSl (cSlc 3) (z_ 33) none (some (z_ 34)) none),o_ 36 (eMkfn (.func 59) [] [(z_ 9)]),y_ 37 58 [(z_ 35),(z_ 36)],y_ 38 22 [(z_ 31),(constG (.int .i64 205)),(z_ 37)]]
def R18_7:CT:=.reg [o_ 39 (d_ (cBin .add) 26 (.int .i64 1)),o_ 26 (v_ 39)]
def L18_0 : CT := (.seq R18_4 (.seq (.cond (z_ 27) .skip (.exit 0)) (.seq (.block 1 (.seq R18_5 R18_6)) R18_7)))
def R18_8:CT:=.drw [40,41,42,43,44,45,46,47,48,49,50] [i_ [4] 44 (a_ 3 4) 1,i_ [44] 45 (l_ 44) 1,cI [45] (pdT 46) 60 [(z_ 45)],i_ [2] 40 (v_ 2) 2,i_ [4] 42 (a_ 1 4) 2,i_ [42] 43 (l_ 42) 2,i_ [40] 47 (eNilc (z_ 40)) 1,i_ [47] 48 (a_ 1 47) 1,j_ [48,43] (s_ 1 48 43),i_ [2] 41 (v_ 2) 3,i_ [41] 49 (eNilc (z_ 41)) 1,i_ [49] 50 (a_ 12 49) 1,j_ [50,46] (s_ 1 50 46)]
def B18 : CT := (.seq R18_0 (.seq R18_1 (.seq R18_2 (.seq (.seq R18_3 (.block 0 (.loop L18_0))) R18_8))))
def A18 : CF := { res := [],code := B18,nt := 51 }
theorem c18 : ctF Try.prog 18 = some A18 := by kernel_rfl
def R19_0:CT:=.reg [o_ 4 (eAlloc [(.int .u32 0),(.str []),(.cst (.slice none 0 0)),(.int .u32 0)] 4)]
def R19_1:CT:=.reg [o_ 8 (v_ 0),o_ 9 (eNilc (z_ 8)),o_ 10 (a_ 0 9),o_ 11 (n_ 2 10),o_ 12 (v_ 1),y_ 13 57 [(z_ 11),(z_ 12)],o_ 7 (v_ 13),o_ 14 (u_ (cExt 0) 7),o_ 15 (u_ (cExt 1) 7),o_ 5 (eAlloc [(.int .u32 0),(.str []),(.cst (.slice none 0 0)),(.int .u32 0)] 4),oP pdN (s_ 4 5 14),o_ 6 (v_ 15)]
def R19_2:CT:=.reg [o_ 16 (v_ 0),o_ 17 (v_ 6),o_ 18 (u_ (cUn .not) 17),y_ 19 22 [(z_ 16),(constG (.int .i64 200)),(z_ 18)]]
def R19_3:CT:=.reg [o_ 20 (n_ 4 5),oP pdN (s_ 4 4 20)]
def B19 : CT := (.seq R19_0 (.seq R19_1 (.seq R19_2 (.seq R19_3 .ret))))
def A19 : CF := { res := [rCelN 4 4],code := B19,nt := 21 }
theorem c19 : ctF Try.prog 19 = some A19 := by kernel_rfl
def R20_0:CT:=.reg [o_ 4 (x_ 1)]
def R20_1:CT:=.reg [o_ 11 (v_ 2),o_ 12 (v_ 0),o_ 13 (a_ 1 4),o_ 14 (l_ 13),y_ 15 19 [(z_ 12),(z_ 14)],o_ 16 (eNilc (z_ 11)),o_ 17 (a_ 2 16),oP pdN (s_ 4 17 15)]
def R20_2:CT:=.drw [19,20,21,22,23,24,25,18,26,27,6] [i_ [0] 19 (v_ 0) 1,i_ [19] 20 (eNilc (z_ 19)) 1,i_ [20] 21 (a_ 0 20) 1,i_ [21] 22 (n_ 2 21) 1,i_ [4] 23 (a_ 2 4) 1,i_ [23] 24 (l_ 23) 1,cI [22,24] (pdT 25) 21 [(z_ 22),(z_ 24)],i_ [25] 18 (v_ 25) 1,i_ [18] 26 (u_ (cExt 0) 18) 1,i_ [] 6 (eAlloc [(.int .u32 0),(.int .u32 0),(.str []),(.cst (.slice none 0 0)),(.bool false),(.int .u32 0)] 6) 2,j_ [6,26] (s_ 6 6 26),i_ [18] 27 (u_ (cExt 1) 18) 2,i_ [27] 7 (v_ 27) 1]
def R20_3:CT:=.reg [o_ 28 (v_ 0),o_ 29 (v_ 7),y_ 30 22 [(z_ 28),(constG (.int .i64 202)),(z_ 29)]]
def R20_4:CT:=.drw [31,32,33,34,35,36,37,38,39,40,41,42,43] [i_ [2] 31 (v_ 2) 1,i_ [2] 32 (v_ 2) 1,i_ [32] 33 (eNilc (z_ 32)) 1,i_ [33] 34 (a_ 2 33) 1,i_ [34] 35 (a_ 0 34) 1,i_ [35] 36 (l_ 35) 1,i_ [4] 37 (a_ 2 4) 1,i_ [37] 38 (l_ 37) 1,i_ [4] 39 (a_ 5 4) 1,i_ [39] 40 (l_ 39) 1,i_ [36,38,40] 41 (eBuild [(.int .u32 0),(.int .u32 0),(.str []),(.cst (.slice none 0 0)),(.bool false),(.int .u32 0)] 6 [(1,1,(z_ 36)),(2,1,(z_ 38)),(4,1,(z_ 40))]) 1,i_ [31] 42 (eNilc (z_ 31)) 1,i_ [42] 43 (a_ 6 42) 1,j_ [43,41] (s_ 6 43 41)]
def R20_5:CT:=.reg [o_ 44 (a_ 4 4),o_ 45 (l_ 44),o_ 46 (u_ cLenL 45),o_ 47 (c_ (.int .i64 0))]
def R20_6:CT:=.reg [o_ 48 (b_ (cBin .lss) 47 46)]
def R20_7:CT:=.reg [o_ 49 (v_ 47),o_ 50 (b_ (cIxa 1) 45 47),o_ 51 (l_ 50),o_ 9 (eAlloc [(.str [])] 1),o_ 8 (v_ 49),oP pdN (s_ 1 9 51)]
def R20_8:CT:=.reg [o_ 52 (v_ 2),o_ 53 (eNilc (z_ 52)),o_ 54 (a_ 2 53),o_ 55 (a_ 2 54),o_ 56 (l_ 55),o_ 57 (eMkfn (.func 62) [] [(z_ 9)]),y_ 58 61 [(z_ 56),(z_ 57)],o_ 10 (v_ 58)]
def R20_9:CT:=.reg [o_ 59 (v_ 0),o_ 60 (v_ 10),o_ 61 (d_ (cBin .lss) 60 (.int .i64 0)),y_ 62 22 [(z_ 59),(constG (.int .i64 201)),(z_ 61)]]
def R20_10:CT:=.drw [63,64,65,66,67,68,69,70] [i_ [4] 64 (a_ 4 4) 1,i_ [64] 65 (l_ 64) 1,i_ [8] 66 (v_ 8) 1,i_ [65,66] 67 (eSl (cSlc 1) (z_ 65) none (some (z_ 66)) none) 1,i_ [9] 68 (l_ 9) 1,cI [67,68] (pdT 69) 63 [(z_ 67),(z_ 68)],i_ [0] 63 (v_ 0) 2,cI [63,69] (pdT 70) 22 [(z_ 63),(constG (.int .i64 205)),(z_ 69)]]
def R20_11:CT:=.reg [o_ 71 (v_ 2),o_ 72 (v_ 2),o_ 73 (eNilc (z_ 72)),o_ 74 (a_ 6 73),o_ 75 (a_ 3 74),o_ 76 (l_ 75),o_ 77 (v_ 10),o_ 78 (eBslice [(.int .i64 0)] 1 1 [(0,1,(z_ 77))]),o_ 79 (eApp 1 8 (z_ 76) (z_ 78)),o_ 80 (eNilc (z_ 71)),o_ 81 (a_ 6 80),o_ 82 (a_ 3 81),oP pdN (s_ 1 82 79)]
def R20_12:CT:=.reg [o_ 83 (d_ (cBin .add) 47 (.int .i64 1)),o_ 47 (v_ 83)]
def L20_0 : CT := (.seq R20_6 (.seq (.cond (z_ 48) .skip (.exit 0)) (.seq (.block 1 (.seq R20_7 (.seq R20_8 (.seq R20_9 (.seq R20_10 R20_11))))) R20_12)))
def B20 : CT := (.seq R20_0 (.seq R20_1 (.seq R20_2 (.seq R20_3 (.seq R20_4 (.seq R20_5 (.block 0 (.loop L20_0))))))))
def A20 : CF := { res := [],code := B20,nt := 84 }
theorem c20 : ctF Try.prog 20 = some A20 := by kernel_rfl
def R21_0:CT:=.reg [o_ 2 (x_ 0),o_ 3 (x_ 1),o_ 4 (eAlloc [(.int .u32 0),(.int .u32 0),(.str []),(.cst (.slice none 0 0)),(.bool false),(.int .u32 0)] 6),o_ 5 (c_ (.bool false))]
def R21_1:CT:=.reg [o_ 6 (a_ 1 2),o_ 7 (l_ 6),o_ 8 (eMkfn (.func 66) [] [(z_ 3)]),y_ 9 65 [(z_ 7),(z_ 8)],o_ 10 (u_ (cExt 0) 9),o_ 11 (u_ (cExt 1) 9),y_ 12 64 [(z_ 10),(z_ 11)],o_ 13 (u_ (cExt 0) 12),o_ 14 (u_ (cExt 1) 12),oP pdN (s_ 6 4 13),o_ 5 (v_ 14)]
def B21 : CT := (.seq R21_0 (.seq R21_1 .ret))
def A21 : CF := { res := [rCelN 4 6,rTmp 5],code := B21,nt := 15 }
theorem c21 : ctF Try.prog 21 = some A21 := by kernel_rfl
def R22_0:CT:=.reg [o_ 6 (v_ 2),o_ 7 (v_ 6),g_ 7 8 (v_ 0),g_ 7 9 (eNilc (z_ 8)),g_ 7 10 (a_ 2 9),g_ 7 11 (l_ 10),g_ 7 12 (d_ (cEq false .num) 11 (.int .i64 0)),o_ 13 (p_ 7 12)]
def R22_1:CT:=.reg [o_ 14 (v_ 0),o_ 15 (v_ 1),o_ 16 (eNilc (z_ 14)),o_ 17 (a_ 2 16),oP pdN (s_ 1 17 15)]
def B22 : CT := (.seq R22_0 (.cond (z_ 13) R22_1 .skip))
def A22 : CF := { res := [],code := B22,nt := 18 }
theorem c22 : ctF Try.prog 22 = some A22 := by kernel_rfl
def R23_0:CT:=.reg [o_ 2 (x_ 0),o_ 3 (x_ 1),o_ 4 (eAlloc [(.int .u32 0),(.str []),(.cst (.slice none 0 0)),(.int .u32 0)] 4),o_ 5 (c_ (.bool false))]
def R23_1:CT:=.reg [o_ 6 (a_ 0 2),o_ 7 (l_ 6),o_ 8 (eMkfn (.func 69) [] [(z_ 3)]),y_ 9 68 [(z_ 7),(z_ 8)],o_ 10 (u_ (cExt 0) 9),o_ 11 (u_ (cExt 1) 9),y_ 12 67 [(z_ 10),(z_ 11)],o_ 13 (u_ (cExt 0) 12),o_ 14 (u_ (cExt 1) 12),oP pdN (s_ 4 4 13),o_ 5 (v_ 14)]
def B23 : CT := (.seq R23_0 (.seq R23_1 .ret))
def A23 : CF := { res := [rCelN 4 4,rTmp 5],code := B23,nt := 15 }
theorem c23 : ctF Try.prog 23 = some A23 := by kernel_rfl
def R24_0:CT:=.reg [o_ 4 (x_ 1)]
def R24_1:CT:=.reg [o_ 11 (v_ 2),o_ 12 (v_ 0),o_ 13 (a_ 1 4),o_ 14 (l_ 13),y_ 15 19 [(z_ 12),(z_ 14)],o_ 16 (eNilc (z_ 11)),o_ 17 (a_ 2 16),oP pdN (s_ 4 17 15)]
def R24_2:CT:=.reg [o_ 18 (a_ 6 4),o_ 19 (l_ 18),o_ 20 (u_ cLenL 19),o_ 21 (c_ (.int .i64 0))]
def R24_3:CT:=.reg [o_ 22 (b_ (cBin .lss) 21 20)]
def R24_4:CT:=.reg [o_ 23 (b_ (cIxa 1) 19 21),o_ 24 (l_ 23),o_ 7 (v_ 24)]
def R24_5:CT:=.reg [o_ 25 (v_ 0),o_ 26 (v_ 7),o_ 27 (u_ cLenL 26),o_ 28 (v_ 2),o_ 29 (eNilc (z_ 28)),o_ 30 (a_ 2 29),o_ 31 (a_ 2 30),o_ 32 (l_ 31),o_ 33 (u_ cLenL 32),o_ 34 (b_ (cEq true .num) 27 33),y_ 35 22 [(z_ 25),(constG (.int .i64 204)),(z_ 34)]]
def R24_6:CT:=.reg [o_ 36 (v_ 0),o_ 37 (eNilc (z_ 36)),o_ 38 (a_ 2 37),o_ 39 (l_ 38),o_ 40 (d_ (cEq true .num) 39 (.int .i64 0))]
def R24_7:CT:=.reg [o_ 8 (c_ (.cst (.slice none 0 0)))]
def R24_8:CT:=.reg [o_ 41 (v_ 7),o_ 42 (u_ cLenL 41),o_ 43 (c_ (.int .i64 0))]
def R24_9:CT:=.reg [o_ 44 (b_ (cBin .lss) 43 42)]
def R24_10:CT:=.reg [o_ 45 (v_ 43),o_ 46 (b_ (cIxa 8) 41 43),o_ 47 (n_ 8 46),o_ 10 (eAlloc [(.int .i64 0),(.int .i64 0),(.int .i64 0),(.str []),(.str []),(.str []),(.int .i64 0),(.cst (.slice none 0 0))] 8),o_ 9 (v_ 45),oP pdN (s_ 8 10 47)]
def R24_11:CT:=.drw [48,49,50,51,52,53,54,55,56,57,58,59,60,61,62,63] [i_ [0] 49 (v_ 0) 1,i_ [] 50 (eBuild [(.cst (.slice none 0 0)),(.cst (.slice none 0 0))] 2 []) 1,i_ [10] 51 (n_ 8 10) 1,i_ [2] 52 (v_ 2) 1,i_ [52] 53 (eNilc (z_ 52)) 1,i_ [53] 54 (a_ 2 53) 1,i_ [54] 55 (a_ 2 54) 1,i_ [55] 56 (l_ 55) 1,i_ [9] 57 (v_ 9) 1,i_ [56,57] 58 (b_ (cIxa 3) 56 57) 1,i_ [58] 59 (a_ 1 58) 1,i_ [59] 60 (l_ 59) 1,cI [49,50,51,60] (pdT 61) 70 [(z_ 49),(z_ 50),(z_ 51),(z_ 60)],i_ [8] 48 (v_ 8) 2,i_ [61] 62 (eBslice [(.int .i64 0),(.int .i64 0),(.int .i64 0),(.str []),(.str []),(.str []),(.int .i64 0),(.cst (.slice none 0 0))] 1 8 [(0,8,(z_ 61))]) 1,mI [48,62] (pdT 63) (eApp 8 104 (z_ 48) (z_ 62)),i_ [63] 8 (v_ 63) 1]
def R24_12:CT:=.reg [o_ 64 (d_ (cBin .add) 43 (.int .i64 1)),o_ 43 (v_ 64)]
def L24_0 : CT := (.seq R24_9 (.seq (.cond (z_ 44) .skip (.exit 2)) (.seq (.block 3 (.seq R24_10 R24_11)) R24_12)))
def R24_13:CT:=.reg [o_ 65 (v_ 2),o_ 66 (v_ 2),o_ 67 (eNilc (z_ 66)),o_ 68 (a_ 13 67),o_ 69 (l_ 68),o_ 70 (v_ 8),o_ 71 (eBslice [(.cst (.slice none 0 0))] 1 1 [(0,1,(z_ 70))]),o_ 72 (eApp 1 24 (z_ 69) (z_ 71)),o_ 73 (eNilc (z_ 65)),o_ 74 (a_ 13 73),oP pdN (s_ 1 74 72)]
def R24_14:CT:=.reg [o_ 75 (d_ (cBin .add) 21 (.int .i64 1)),o_ 21 (v_ 75)]
def L24_1 : CT := (.seq R24_3 (.seq (.cond (z_ 22) .skip (.exit 0)) (.seq (.block 1 (.seq R24_4 (.seq R24_5 (.seq (.seq R24_6 (.cond (z_ 40) .ret .skip)) (.seq R24_7 (.seq (.seq R24_8 (.block 2 (.loop L24_0))) R24_13)))))) R24_14)))
def B24 : CT := (.seq R24_0 (.seq R24_1 (.seq R24_2 (.block 0 (.loop L24_1)))))
def A24 : CF := { res := [],code := B24,nt := 76 }
theorem c24 : ctF Try.prog 24 = some A24 := by kernel_rfl
def R25_0:CT:=.reg [o_ 4 (x_ 1),o_ 5 (x_ 2),o_ 6 (c_ (.cst (.slice none 0 0)))]
def R25_1:CT:=.reg [o_ 9 (a_ 0 5),o_ 10 (l_ 9),o_ 11 (d_ (cEq false .num) 10 (.int .i64 0))]
def R25_2:CT:=.reg [o_ 6 (c_ (.cst (.slice none 0 0)))]
def R25_3:CT:=.reg [o_ 13 (v_ 0),o_ 14 (n_ 2 4),o_ 15 (n_ 8 5),y_ 16 71 [(z_ 13),(z_ 14),(z_ 15)],o_ 12 (v_ 16),o_ 17 (u_ (cExt 0) 12),o_ 18 (u_ (cExt 1) 12),o_ 7 (eAlloc [(.int .i64 0),(.int .i64 0),(.int .i64 0),(.str []),(.str []),(.str []),(.int .i64 0),(.cst (.slice none 0 0))] 8),oP pdN (s_ 8 7 17),o_ 8 (v_ 18)]
def R25_4:CT:=.reg [o_ 19 (v_ 0),o_ 20 (v_ 8),o_ 21 (d_ (cEq true .num) 20 (.int .i64 3)),o_ 22 (v_ 21),g_ 22 23 (v_ 8),g_ 22 24 (d_ (cEq true .num) 23 (.int .i64 0)),o_ 25 (p_ 22 24),y_ 26 22 [(z_ 19),(constG (.int .i64 203)),(z_ 25)]]
def R25_5:CT:=.reg [o_ 27 (n_ 8 7),y_ 28 72 [(z_ 27)],o_ 6 (v_ 28)]
def B25 : CT := (.seq R25_0 (.seq (.seq R25_1 (.cond (z_ 11) (.seq R25_2 .ret) .skip)) (.seq R25_3 (.seq R25_4 (.seq R25_5 .ret)))))
def A25 : CF := { res := [rTmp 6],code := B25,nt := 29 }
theorem c25 : ctF Try.prog 25 = some A25 := by kernel_rfl
def R26_0:CT:=.reg [o_ 1 (x_ 0),o_ 2 (eAlloc [(.cst (.slice none 0 0)),(.cst (.slice none 0 0))] 2)]
def R26_1:CT:=.reg [o_ 3 (a_ 1 1),o_ 4 (l_ 3),o_ 5 (eBslice [(.str [])] 1 1 [(0,1,(z_ 4))]),o_ 6 (n_ 4 1),o_ 7 (eBslice [(.int .u32 0),(.str []),(.cst (.slice none 0 0)),(.int .u32 0)] 1 4 [(0,4,(z_ 6))]),o_ 8 (eBuild [(.cst (.slice none 0 0)),(.cst (.slice none 0 0))] 2 [(0,1,(z_ 5)),(1,1,(z_ 7))]),oP pdN (s_ 2 2 8)]
def B26 : CT := (.seq R26_0 (.seq R26_1 .ret))
def A26 : CF := { res := [rCelN 2 2],code := B26,nt := 9 }
theorem c26 : ctF Try.prog 26 = some A26 := by kernel_rfl
def R27_0:CT:=.reg [o_ 4 (x_ 1)]
def R27_1:CT:=.reg [o_ 11 (v_ 2),o_ 12 (v_ 0),o_ 13 (a_ 1 4),o_ 14 (l_ 13),y_ 15 19 [(z_ 12),(z_ 14)],o_ 16 (eNilc (z_ 11)),o_ 17 (a_ 2 16),oP pdN (s_ 4 17 15)]
def R27_2:CT:=.reg [o_ 18 (v_ 0),o_ 19 (eNilc (z_ 18)),o_ 20 (a_ 2 19),o_ 21 (l_ 20),o_ 22 (d_ (cEq true .num) 21 (.int .i64 0))]
def R27_3:CT:=.reg [o_ 23 (v_ 2),o_ 24 (eNilc (z_ 23)),o_ 25 (a_ 2 24),o_ 26 (n_ 4 25),y_ 27 26 [(z_ 26)],o_ 6 (eAlloc [(.cst (.slice none 0 0)),(.cst (.slice none 0 0))] 2),oP pdN (s_ 2 6 27)]
def R27_4:CT:=.reg [o_ 28 (v_ 2),o_ 29 (eNilc (z_ 28)),o_ 30 (a_ 2 29),o_ 31 (a_ 2 30),o_ 32 (l_ 31),o_ 33 (u_ cLenL 32),o_ 34 (c_ (.int .i64 0))]
def R27_5:CT:=.reg [o_ 35 (b_ (cBin .lss) 34 33)]
def R27_6:CT:=.reg [o_ 36 (v_ 34),o_ 7 (v_ 36)]
def R27_7:CT:=.drw [37,38,39,40,41,42,43,44,45,46,47,48] [i_ [2] 37 (v_ 2) 1,i_ [37] 38 (eNilc (z_ 37)) 1,i_ [38] 39 (a_ 14 38) 1,i_ [39] 40 (l_ 39) 1,i_ [7] 41 (v_ 7) 1,i_ [41] 42 (eBuild [(.int .i64 0),(.int .i64 0),(.int .i64 0),(.str []),(.str []),(.str []),(.int .i64 0),(.cst (.slice none 0 0))] 8 [(0,1,(constG (.int .i64 3))),(6,1,(z_ 41))]) 1,i_ [40] 43 (u_ cLenL 40) 1,i_ [] 44 (eBslice [(.int .i64 0),(.int .i64 0),(.int .i64 0),(.str []),(.str []),(.str []),(.int .i64 0),(.cst (.slice none 0 0))] 1 8 [(0,8,(constG (.agg [(.int .i64 0),(.int .i64 0),(.int .i64 0),(.str []),(.str []),(.str []),(.int .i64 0),(.cst (.slice none 0 0))] 8)))]) 1,mI [40,44] (pdT 45) (eApp 8 104 (z_ 40) (z_ 44)),i_ [45,43] 46 (b_ (cIxa 8) 45 43) 0,i_ [37] 47 (eNilc (z_ 37)) 0,i_ [47] 48 (a_ 14 47) 0,fI [46,42] pdN (s_ 8 46 42),fI [48,45] pdN (s_ 1 48 45)]
def R27_8:CT:=.reg [o_ 49 (d_ (cBin .add) 34 (.int .i64 1)),o_ 34 (v_ 49)]
def L27_0 : CT := (.seq R27_5 (.seq (.cond (z_ 35) .skip (.exit 0)) (.seq (.block 1 (.seq R27_6 R27_7)) R27_8)))
def R27_9:CT:=.reg [o_ 50 (a_ 7 4),o_ 51 (l_ 50),o_ 52 (u_ cLenL 51),o_ 53 (c_ (.int .i64 0))]
def R27_10:CT:=.reg [o_ 54 (b_ (cBin .lss) 53 52)]
def R27_11:CT:=.reg [o_ 55 (v_ 53),o_ 56 (b_ (cIxa 9) 51 53),o_ 57 (n_ 9 56),o_ 9 (eAlloc [(.str []),(.int .i64 0),(.int .i64 0),(.int .i64 0),(.str []),(.str []),(.str []),(.int .i64 0),(.cst (.slice none 0 0))] 9),o_ 8 (v_ 55),oP pdN (s_ 9 9 57)]
def R27_12:CT:=.reg [o_ 58 (v_ 2),o_ 59 (eNilc (z_ 58)),o_ 60 (a_ 2 59),o_ 61 (a_ 2 60),o_ 62 (l_ 61),o_ 63 (eMkfn (.func 73) [] [(z_ 9)]),y_ 64 61 [(z_ 62),(z_ 63)],o_ 10 (v_ 64)]
def R27_13:CT:=.reg [o_ 65 (v_ 0),o_ 66 (v_ 10),o_ 67 (d_ (cBin .lss) 66 (.int .i64 0)),y_ 68 22 [(z_ 65),(constG (.int .i64 201)),(z_ 67)]]
def R27_14:CT:=.reg [o_ 69 (v_ 0),o_ 70 (a_ 7 4),o_ 71 (l_ 70),o_ 72 (v_ 8),o_ 73 (eSl (cSlc 9) (z_ 71) none (some (z_ 72)) none),o_ 74 (eMkfn (.func 75) [] [(z_ 9)]),y_ 75 74 [(z_ 73),(z_ 74)],y_ 76 22 [(z_ 69),(constG (.int .i64 205)),(z_ 75)]]
def R27_15:CT:=.reg [o_ 77 (v_ 0),o_ 78 (eNilc (z_ 77)),o_ 79 (a_ 2 78),o_ 80 (l_ 79),o_ 81 (d_ (cEq true .num) 80 (.int .i64 0))]
def R27_16:CT:=.drw [82,83,84,85,86,87,88,89,90,91,92,93,94,95,96,97,98,99,100,101] [i_ [0] 87 (v_ 0) 1,i_ [6] 88 (n_ 2 6) 1,i_ [9] 89 (a_ 1 9) 1,i_ [89] 90 (n_ 8 89) 1,i_ [2] 91 (v_ 2) 1,i_ [91] 92 (eNilc (z_ 91)) 1,i_ [92] 93 (a_ 2 92) 1,i_ [93] 94 (a_ 2 93) 1,i_ [94] 95 (l_ 94) 1,i_ [10] 96 (v_ 10) 1,i_ [95,96] 97 (b_ (cIxa 3) 95 96) 1,i_ [97] 98 (a_ 1 97) 1,i_ [98] 99 (l_ 98) 1,cI [87,88,90,99] (pdT 100) 70 [(z_ 87),(z_ 88),(z_ 90),(z_ 99)],i_ [2] 82 (v_ 2) 2,i_ [82] 83 (eNilc (z_ 82)) 2,i_ [83] 84 (a_ 14 83) 2,i_ [84] 85 (l_ 84) 2,i_ [10] 86 (v_ 10) 2,i_ [85,86] 101 (b_ (cIxa 8) 85 86) 1,j_ [101,100] (s_ 8 101 100)]
def R27_17:CT:=.reg [o_ 102 (d_ (cBin .add) 53 (.int .i64 1)),o_ 53 (v_ 102)]
def L27_1 : CT := (.seq R27_10 (.seq (.cond (z_ 54) .skip (.exit 2)) (.seq (.block 3 (.seq R27_11 (.seq R27_12 (.seq R27_13 (.seq R27_14 (.seq (.seq R27_15 (.cond (z_ 81) .ret .skip)) R27_16)))))) R27_17)))
def R27_18:CT:=.reg [o_ 103 (v_ 2),o_ 104 (v_ 0),o_ 105 (n_ 2 6),o_ 106 (a_ 8 4),o_ 107 (n_ 8 106),y_ 108 25 [(z_ 104),(z_ 105),(z_ 107)],o_ 109 (eNilc (z_ 103)),o_ 110 (a_ 17 109),oP pdN (s_ 1 110 108)]
def B27 : CT := (.seq R27_0 (.seq R27_1 (.seq (.seq R27_2 (.cond (z_ 22) .ret .skip)) (.seq R27_3 (.seq (.seq R27_4 (.block 0 (.loop L27_0))) (.seq (.seq R27_9 (.block 2 (.loop L27_1))) R27_18))))))
def A27 : CF := { res := [],code := B27,nt := 111 }
theorem c27 : ctF Try.prog 27 = some A27 := by kernel_rfl
def R28_0:CT:=.reg [o_ 4 (x_ 1)]
def R28_1:CT:=.reg [o_ 6 (eAlloc [(.cst (.slice none 0 0)),(.cst (.slice none 0 0))] 2)]
def R28_2:CT:=.reg [o_ 16 (a_ 3 4),o_ 17 (l_ 16),o_ 18 (u_ cLenL 17),o_ 19 (c_ (.int .i64 0))]
def R28_3:CT:=.reg [o_ 20 (b_ (cBin .lss) 19 18)]
def R28_4:CT:=.reg [o_ 21 (b_ (cIxa 10) 17 19),o_ 22 (n_ 10 21),o_ 8 (eAlloc [(.str []),(.str []),(.int .i64 0),(.int .i64 0),(.int .i64 0),(.str []),(.str []),(.str []),(.int .i64 0),(.cst (.slice none 0 0))] 10),oP pdN (s_ 10 8 22)]
def R28_5:CT:=.reg [o_ 23 (v_ 0),o_ 24 (a_ 0 8),o_ 25 (l_ 24),y_ 26 19 [(z_ 23),(z_ 25)],o_ 9 (eAlloc [(.int .u32 0),(.str []),(.cst (.slice none 0 0)),(.int .u32 0)] 4),oP pdN (s_ 4 9 26)]
def R28_6:CT:=.reg [o_ 27 (a_ 0 8),o_ 28 (l_ 27),o_ 10 (v_ 28)]
def R28_7:CT:=.reg [o_ 29 (a_ 1 8),o_ 30 (l_ 29),o_ 31 (d_ (cEq true .num) 30 (.str []))]
def R28_8:CT:=.reg [o_ 32 (a_ 1 8),o_ 33 (l_ 32),o_ 10 (v_ 33)]
def R28_9:CT:=.reg [o_ 34 (v_ 0),o_ 35 (a_ 0 6),o_ 36 (l_ 35),o_ 37 (v_ 10),y_ 38 63 [(z_ 36),(z_ 37)],y_ 39 22 [(z_ 34),(constG (.int .i64 205)),(z_ 38)]]
def R28_10:CT:=.drw [40,41,42,43,44,45,46,47,48,49,50,51] [i_ [6] 40 (a_ 0 6) 1,i_ [40] 41 (l_ 40) 1,i_ [10] 42 (v_ 10) 1,i_ [42] 43 (eBslice [(.str [])] 1 1 [(0,1,(z_ 42))]) 1,mI [41,43] (pdT 44) (eApp 1 16 (z_ 41) (z_ 43)),i_ [6] 45 (a_ 1 6) 2,i_ [45] 46 (l_ 45) 2,i_ [9] 47 (n_ 4 9) 2,i_ [47] 48 (eBslice [(.int .u32 0),(.str []),(.cst (.slice none 0 0)),(.int .u32 0)] 1 4 [(0,4,(z_ 47))]) 2,mI [46,48] (pdT 49) (eApp 4 56 (z_ 46) (z_ 48)),i_ [6] 50 (a_ 0 6) 2,j_ [50,44] (s_ 1 50 44),i_ [6] 51 (a_ 1 6) 1,j_ [51,49] (s_ 1 51 49)]
def R28_11:CT:=.reg [o_ 52 (d_ (cBin .add) 19 (.int .i64 1)),o_ 19 (v_ 52)]
def L28_0 : CT := (.seq R28_3 (.seq (.cond (z_ 20) .skip (.exit 0)) (.seq (.block 1 (.seq R28_4 (.seq R28_5 (.seq R28_6 (.seq (.seq R28_7 (.cond (z_ 31) R28_8 .skip)) (.seq R28_9 R28_10)))))) R28_11)))
def R28_12:CT:=.reg [o_ 53 (v_ 0),o_ 54 (eNilc (z_ 53)),o_ 55 (a_ 2 54),o_ 56 (l_ 55),o_ 57 (d_ (cEq true .num) 56 (.int .i64 0))]
def R28_13:CT:=.reg [o_ 58 (v_ 2),o_ 59 (a_ 1 6),o_ 60 (l_ 59),o_ 61 (eNilc (z_ 58)),o_ 62 (a_ 15 61),oP pdN (s_ 1 62 60)]
def R28_14:CT:=.reg [o_ 63 (a_ 3 4),o_ 64 (l_ 63),o_ 65 (u_ cLenL 64),o_ 66 (c_ (.int .i64 0))]
def R28_15:CT:=.reg [o_ 67 (b_ (cBin .lss) 66 65)]
def R28_16:CT:=.reg [o_ 68 (v_ 66),o_ 69 (b_ (cIxa 10) 64 66),o_ 70 (n_ 10 69),o_ 12 (eAlloc [(.str []),(.str []),(.int .i64 0),(.int .i64 0),(.int .i64 0),(.str []),(.str []),(.str []),(.int .i64 0),(.cst (.slice none 0 0))] 10),o_ 11 (v_ 68),oP pdN (s_ 10 12 70)]
def R28_17:CT:=.drw [71,72,73,74,75,76,77,78,79,80,81,82,83,84,85,86,87,88,89,90,91,92,93,94] [i_ [0] 76 (v_ 0) 1,i_ [6] 77 (a_ 0 6) 1,i_ [77] 78 (l_ 77) 1,i_ [11] 79 (v_ 11) 1,i_ [79] 80 (d_ (cBin .add) 79 (.int .i64 1)) 1,i_ [78,80] 81 (eSl (cSlc 1) (z_ 78) none (some (z_ 80)) none) 1,i_ [6] 82 (a_ 1 6) 1,i_ [82] 83 (l_ 82) 1,i_ [11] 84 (v_ 11) 1,i_ [84] 85 (d_ (cBin .add) 84 (.int .i64 1)) 1,i_ [83,85] 86 (eSl (cSlc 4) (z_ 83) none (some (z_ 85)) none) 1,i_ [81,86] 87 (eBuild [(.cst (.slice none 0 0)),(.cst (.slice none 0 0))] 2 [(0,1,(z_ 81)),(1,1,(z_ 86))]) 1,i_ [12] 88 (a_ 2 12) 1,i_ [88] 89 (n_ 8 88) 1,cI [76,87,89] (pdT 90) 25 [(z_ 76),(z_ 87),(z_ 89)],i_ [2] 72 (v_ 2) 2,i_ [72] 73 (eNilc (z_ 72)) 2,i_ [73] 74 (a_ 16 73) 2,i_ [74] 75 (l_ 74) 2,i_ [90] 91 (eBslice [(.cst (.slice none 0 0))] 1 1 [(0,1,(z_ 90))]) 1,mI [75,91] (pdT 92) (eApp 1 24 (z_ 75) (z_ 91)),i_ [2] 71 (v_ 2) 3,i_ [71] 93 (eNilc (z_ 71)) 1,i_ [93] 94 (a_ 16 93) 1,j_ [94,92] (s_ 1 94 92)]
def R28_18:CT:=.reg [o_ 95 (d_ (cBin .add) 66 (.int .i64 1)),o_ 66 (v_ 95)]
def L28_1 : CT := (.seq R28_15 (.seq (.cond (z_ 67) .skip (.exit 2)) (.seq (.block 3 (.seq R28_16 R28_17)) R28_18)))
def R28_19:CT:=.reg [o_ 96 (v_ 0),o_ 97 (n_ 2 6),o_ 98 (n_ 15 4),o_ 99 (v_ 2),y_ 100 76 [(z_ 96),(z_ 97),(z_ 98),(z_ 99)]]
def R28_20:CT:=.reg [o_ 101 (v_ 2),o_ 102 (v_ 0),o_ 103 (n_ 2 6),o_ 104 (a_ 4 4),o_ 105 (n_ 8 104),y_ 106 25 [(z_ 102),(z_ 103),(z_ 105)],o_ 107 (eNilc (z_ 101)),o_ 108 (a_ 17 107),oP pdN (s_ 1 108 106)]
def R28_21:CT:=.reg [o_ 109 (a_ 12 4),o_ 110 (l_ 109),o_ 111 (u_ cLenL 110),o_ 112 (c_ (.int .i64 0))]
def R28_22:CT:=.reg [o_ 113 (b_ (cBin .lss) 112 111)]
def R28_23:CT:=.reg [o_ 114 (b_ (cIxa 2) 110 112),o_ 115 (n_ 2 114),o_ 14 (eAlloc [(.str []),(.bool false)] 2),oP pdN (s_ 2 14 115)]
def R28_24:CT:=.drw [116,117,118,119,120,121,122] [i_ [2] 116 (v_ 2) 1,i_ [116] 117 (eNilc (z_ 116)) 1,i_ [117] 118 (a_ 19 117) 1,i_ [118] 119 (l_ 118) 1,i_ [14] 120 (a_ 0 14) 1,i_ [120] 121 (l_ 120) 1,cI [119,121] (pdT 122) 77 [(z_ 119),(z_ 121)],i_ [122] 15 (v_ 122) 1]
def R28_25:CT:=.reg [o_ 123 (v_ 0),o_ 124 (v_ 15),o_ 125 (d_ (cBin .lss) 124 (.int .i64 0)),y_ 126 22 [(z_ 123),(constG (.int .i64 201)),(z_ 125)]]
def R28_26:CT:=.drw [127,128,129,130,131,132,133,134,135,136,137,138,139,140,141,142] [i_ [15] 128 (v_ 15) 1,i_ [128] 129 (d_ (cBin .geq) 128 (.int .i64 0)) 1,i_ [129] 130 (v_ 129) 1,goI [130,2] (z_ 130) true (pdT 131) (v_ 2) 1,goI [130,131] (z_ 130) true (pdT 132) (eNilc (z_ 131)) 1,goI [130,132] (z_ 130) true (pdT 133) (a_ 19 132) 1,goI [130,133] (z_ 130) true (pdT 134) (l_ 133) 1,goI [130,15] (z_ 130) true (pdT 135) (v_ 15) 1,goI [130,135] (z_ 130) true (pdT 136) (d_ (cBin .add) 135 (.int .i64 1)) 1,goI [130,134,136] (z_ 130) true (pdT 137) (eSl (cSlc 1) (z_ 134) (some (z_ 136)) none none) 1,goI [130,14] (z_ 130) true (pdT 138) (a_ 0 14) 1,goI [130,138] (z_ 130) true (pdT 139) (l_ 138) 1,gcI [130,137,139] (z_ 130) true (pdT 140) 63 [(z_ 137),(z_ 139)],i_ [0] 127 (v_ 0) 2,i_ [130,140] 141 (p_ 130 140) 1,cI [127,141] (pdT 142) 22 [(z_ 127),(constG (.int .i64 205)),(z_ 141)]]
def R28_27:CT:=.drw [143,144,145,146,147,148,149,150,151,152,153,154,155] [i_ [2] 144 (v_ 2) 1,i_ [144] 145 (eNilc (z_ 144)) 1,i_ [145] 146 (a_ 21 145) 1,i_ [146] 147 (l_ 146) 1,i_ [15] 148 (v_ 15) 1,i_ [14] 149 (a_ 1 14) 1,i_ [149] 150 (l_ 149) 1,i_ [148,150] 151 (eBuild [(.int .i64 0),(.bool false)] 2 [(0,1,(z_ 148)),(1,1,(z_ 150))]) 1,i_ [151] 152 (eBslice [(.int .i64 0),(.bool false)] 1 2 [(0,2,(z_ 151))]) 1,mI [147,152] (pdT 153) (eApp 2 16 (z_ 147) (z_ 152)),i_ [2] 143 (v_ 2) 2,i_ [143] 154 (eNilc (z_ 143)) 1,i_ [154] 155 (a_ 21 154) 1,j_ [155,153] (s_ 1 155 153)]
def R28_28:CT:=.reg [o_ 156 (d_ (cBin .add) 112 (.int .i64 1)),o_ 112 (v_ 156)]
def L28_2 : CT := (.seq R28_22 (.seq (.cond (z_ 113) .skip (.exit 4)) (.seq (.block 5 (.seq R28_23 (.seq R28_24 (.seq R28_25 (.seq R28_26 R28_27))))) R28_28)))
def R28_29:CT:=.drw [157,158,159,160,161,162,163,164,165,166,167,168,169,170,171] [i_ [2] 157 (v_ 2) 1,i_ [4] 160 (a_ 0 4) 1,i_ [160] 161 (l_ 160) 1,i_ [157] 166 (eNilc (z_ 157)) 1,i_ [166] 167 (a_ 22 166) 1,j_ [167,161] (s_ 1 167 161),i_ [2] 158 (v_ 2) 2,i_ [4] 162 (a_ 13 4) 2,i_ [162] 163 (l_ 162) 2,i_ [158] 168 (eNilc (z_ 158)) 1,i_ [168] 169 (a_ 23 168) 1,j_ [169,163] (s_ 1 169 163),i_ [2] 159 (v_ 2) 3,i_ [4] 164 (a_ 14 4) 3,i_ [164] 165 (l_ 164) 3,i_ [159] 170 (eNilc (z_ 159)) 1,i_ [170] 171 (a_ 24 170) 1,j_ [171,165] (s_ 1 171 165)]
def B28 : CT := (.seq R28_0 (.seq R28_1 (.seq (.seq R28_2 (.block 0 (.loop L28_0))) (.seq (.seq R28_12 (.cond (z_ 57) .ret .skip)) (.seq R28_13 (.seq (.seq R28_14 (.block 2 (.loop L28_1))) (.seq R28_19 (.seq R28_20 (.seq (.seq R28_21 (.block 4 (.loop L28_2))) R28_29)))))))))
def A28 : CF := { res := [],code := B28,nt := 172 }
theorem c28 : ctF Try.prog 28 = some A28 := by kernel_rfl
def R33_0:CT:=.reg [o_ 2 (x_ 0),o_ 3 (x_ 1),o_ 4 (c_ (.bool false))]
def R33_1:CT:=.reg [o_ 7 (a_ 0 2),o_ 8 (l_ 7)]
def R33_2:CT:=.reg [o_ 10 (d_ (cEq false .num) 8 (.int .i64 1)),o_ 9 (v_ 10)]
def R33_3:CT:=.reg [o_ 11 (a_ 7 2),o_ 12 (l_ 11),o_ 13 (u_ cLenL 12),o_ 14 (d_ (cEq false .num) 13 (.int .i64 0)),o_ 15 (v_ 14),g_ 15 16 (a_ 1 2),g_ 15 17 (n_ 3 16),gcP (z_ 15) true (pdT 18) 78 [(z_ 17)],o_ 19 (p_ 15 18),o_ 4 (v_ 19)]
def R33_4:CT:=.reg [o_ 21 (d_ (cEq false .num) 8 (.int .i64 3)),o_ 20 (v_ 21)]
def R33_5:CT:=.reg [o_ 22 (a_ 7 2),o_ 23 (l_ 22),o_ 24 (u_ cLenL 23),o_ 25 (d_ (cEq false .num) 24 (.int .i64 0)),o_ 26 (v_ 25),g_ 26 27 (a_ 6 2),g_ 26 28 (l_ 27),g_ 26 29 (d_ (cBin .geq) 28 (.int .i64 0)),o_ 30 (p_ 26 29),o_ 31 (v_ 30),g_ 31 32 (a_ 6 2),g_ 31 33 (l_ 32),g_ 31 34 (l_ 3),g_ 31 35 (b_ (cBin .lss) 33 34),o_ 36 (p_ 31 35),o_ 4 (v_ 36)]
def R33_6:CT:=.reg [o_ 38 (a_ 0 2),o_ 39 (l_ 38),y_ 40 79 [(z_ 39)],o_ 37 (v_ 40),o_ 41 (u_ (cExt 0) 37),o_ 42 (u_ (cExt 1) 37),o_ 5 (eAlloc [(.int .i64 0),(.int .i64 0),(.int .i64 0),(.bool false),(.bool false)] 5),oP pdN (s_ 5 5 41),o_ 6 (v_ 42)]
def R33_7:CT:=.reg [o_ 43 (v_ 6),o_ 44 (v_ 43),g_ 44 45 (a_ 7 2),g_ 44 46 (l_ 45),g_ 44 47 (u_ cLenL 46),g_ 44 48 (a_ 0 5),g_ 44 49 (l_ 48),g_ 44 50 (b_ (cEq false .num) 47 49),o_ 51 (p_ 44 50),o_ 52 (v_ 51),g_ 52 53 (a_ 7 2),g_ 52 54 (l_ 53),g_ 52 55 (eMkfn (.func 81) [] [(z_ 3)]),gcP (z_ 52) true (pdT 56) 80 [(z_ 54),(z_ 55)],g_ 52 57 (u_ (cUn .not) 56),o_ 58 (p_ 52 57),o_ 4 (v_ 58)]
def B33 : CT := (.seq R33_0 (.seq (.seq R33_1 (.block 0 (.seq R33_2 (.cond (z_ 9) (.seq R33_3 .ret) (.seq R33_4 (.cond (z_ 20) (.seq R33_5 .ret) .skip)))))) (.seq R33_6 (.seq R33_7 .ret))))
def A33 : CF := { res := [rTmp 4],code := B33,nt := 59 }
theorem c33 : ctF Try.prog 33 = some A33 := by kernel_rfl
def R34_0:CT:=.reg [o_ 2 (x_ 0),o_ 4 (c_ (.int .i64 0)),o_ 5 (c_ (.int .i64 0))]
def R34_1:CT:=.reg [o_ 13 (a_ 0 2),o_ 14 (l_ 13)]
def R34_2:CT:=.reg [o_ 16 (d_ (cEq false .num) 14 (.int .i64 1)),o_ 15 (v_ 16)]
def R34_3:CT:=.reg [o_ 17 (a_ 1 2),o_ 18 (a_ 0 17),o_ 19 (l_ 18),o_ 4 (v_ 19),o_ 5 (c_ (.int .i64 0))]
def R34_4:CT:=.reg [o_ 21 (d_ (cEq false .num) 14 (.int .i64 3)),o_ 20 (v_ 21)]
def R34_5:CT:=.reg [o_ 22 (v_ 1),o_ 23 (a_ 6 2),o_ 24 (l_ 23),o_ 25 (b_ (cIxa 1) 22 24),o_ 26 (l_ 25),o_ 4 (v_ 26),o_ 5 (c_ (.int .i64 0))]
def R34_6:CT:=.reg [o_ 6 (c_ (.cst (.slice none 0 0)))]
def R34_7:CT:=.reg [o_ 27 (a_ 7 2),o_ 28 (l_ 27),o_ 29 (u_ cLenL 28),o_ 30 (c_ (.int .i64 0))]
def R34_8:CT:=.reg [o_ 31 (b_ (cBin .lss) 30 29)]
def R34_9:CT:=.reg [o_ 32 (b_ (cIxa 8) 28 30),o_ 33 (n_ 8 32),o_ 8 (eAlloc [(.int .i64 0),(.int .i64 0),(.int .i64 0),(.str []),(.str []),(.str []),(.int .i64 0),(.cst (.slice none 0 0))] 8),oP pdN (s_ 8 8 33)]
def R34_10:CT:=.reg [o_ 35 (n_ 8 8),o_ 36 (v_ 1),y_ 37 34 [(z_ 35),(z_ 36)],o_ 34 (v_ 37),o_ 38 (u_ (cExt 0) 34),o_ 39 (u_ (cExt 1) 34),o_ 9 (v_ 38),o_ 10 (v_ 39)]
def R34_11:CT:=.reg [o_ 40 (v_ 10),o_ 41 (d_ (cEq true .num) 40 (.int .i64 0))]
def R34_12:CT:=.reg [o_ 42 (v_ 10),o_ 4 (c_ (.int .i64 0)),o_ 5 (v_ 42)]
def R34_13:CT:=.reg [o_ 43 (v_ 6),o_ 44 (v_ 9),o_ 45 (eBslice [(.int .i64 0)] 1 1 [(0,1,(z_ 44))]),o_ 46 (eApp 1 8 (z_ 43) (z_ 45)),o_ 6 (v_ 46)]
def R34_14:CT:=.reg [o_ 47 (d_ (cBin .add) 30 (.int .i64 1)),o_ 30 (v_ 47)]
def L34_0 : CT := (.seq R34_8 (.seq (.cond (z_ 31) .skip (.exit 1)) (.seq (.block 2 (.seq R34_9 (.seq R34_10 (.seq (.seq R34_11 (.cond (z_ 41) (.seq R34_12 .ret) .skip)) R34_13)))) R34_14)))
def R34_15:CT:=.reg [o_ 49 (a_ 0 2),o_ 50 (l_ 49),y_ 51 79 [(z_ 50)],o_ 48 (v_ 51),o_ 52 (u_ (cExt 0) 48),o_ 53 (u_ (cExt 1) 48),o_ 11 (eAlloc [(.int .i64 0),(.int .i64 0),(.int .i64 0),(.bool false),(.bool false)] 5),oP pdN (s_ 5 11 52),o_ 12 (v_ 53)]
def R34_16:CT:=.reg [o_ 54 (n_ 5 11),o_ 55 (v_ 6),y_ 56 82 [(z_ 54),(z_ 55)],o_ 57 (u_ (cUn .not) 56)]
def R34_17:CT:=.reg [o_ 4 (c_ (.int .i64 0)),o_ 5 (c_ (.int .i64 203))]
def R34_18:CT:=.reg [o_ 58 (a_ 2 11),o_ 59 (l_ 58),o_ 4 (v_ 59),o_ 5 (c_ (.int .i64 0))]
def B34 : CT := (.seq R34_0 (.seq (.seq R34_1 (.block 0 (.seq R34_2 (.cond (z_ 15) (.seq R34_3 .ret) (.seq R34_4 (.cond (z_ 20) (.seq R34_5 .ret) .skip)))))) (.seq R34_6 (.seq (.seq R34_7 (.block 1 (.loop L34_0))) (.seq R34_15 (.seq (.seq R34_16 (.cond (z_ 57) (.seq R34_17 .ret) .skip)) (.seq R34_18 .ret)))))))
def A34 : CF := { res := [rTmp 4,rTmp 5],code := B34,nt := 60 }
theorem c34 : ctF Try.prog 34 = some A34 := by kernel_rfl
def R43_0:CT:=.reg [o_ 1 (x_ 0),o_ 2 (c_ (.cst .nilFunc))]
def R43_1:CT:=.reg [o_ 3 (eMkfn (.func 85) [] [(z_ 1)]),o_ 2 (v_ 3)]
def B43 : CT := (.seq R43_0 (.seq R43_1 .ret))
def A43 : CF := { res := [rTmp 2],code := B43,nt := 4 }
theorem c43 : ctF Try.prog 43 = some A43 := by kernel_rfl
def R44_0:CT:=.reg [o_ 2 (c_ (.bool false))]
def R44_1:CT:=.reg [o_ 5 (v_ 0),o_ 6 (d_ (cEq false .num) 5 (.str [])),o_ 7 (v_ 6),h_ 7 8 (v_ 0),h_ 7 9 (u_ cLenS 8),h_ 7 10 (d_ (cBin .gtr) 9 (.int .i64 24)),o_ 11 (q_ 7 10)]
def R44_2:CT:=.reg [o_ 2 (c_ (.bool false))]
def R44_3:CT:=.reg [o_ 12 (v_ 0),o_ 13 (u_ cLenS 12),o_ 14 (c_ (.int .i64 0))]
def R44_4:CT:=.reg [o_ 15 (b_ (cBin .lss) 14 13)]
def R44_5:CT:=.reg [o_ 16 (v_ 14),o_ 3 (v_ 16)]
def R44_6:CT:=.reg [o_ 17 (v_ 0),o_ 18 (v_ 3),o_ 19 (b_ cIxs 17 18),o_ 4 (v_ 19)]
def R44_7:CT:=.reg [o_ 21 (v_ 4),o_ 22 (d_ (cBin .geq) 21 (.int .u8 97)),o_ 23 (v_ 22),g_ 23 24 (v_ 4),g_ 23 25 (d_ (cBin .leq) 24 (.int .u8 122)),o_ 26 (p_ 23 25),o_ 20 (v_ 26)]
def R44_8:CT:=.reg [o_ 28 (v_ 3),o_ 29 (d_ (cBin .gtr) 28 (.int .i64 0)),o_ 30 (v_ 29),g_ 30 31 (v_ 4),g_ 30 32 (d_ (cBin .geq) 31 (.int .u8 48)),g_ 30 33 (v_ 32),g_ 33 34 (v_ 4),g_ 33 35 (d_ (cBin .leq) 34 (.int .u8 57)),g_ 30 36 (p_ 33 35),g_ 30 37 (v_ 36),h_ 37 38 (v_ 4),h_ 37 39 (d_ (cEq false .num) 38 (.int .u8 95)),g_ 30 40 (q_ 37 39),o_ 41 (p_ 30 40),o_ 27 (v_ 41)]
def R44_9:CT:=.reg [o_ 2 (c_ (.bool false))]
def R44_10:CT:=.reg [o_ 42 (d_ (cBin .add) 14 (.int .i64 1)),o_ 14 (v_ 42)]
def L44_0 : CT := (.seq R44_4 (.seq (.cond (z_ 15) .skip (.exit 0)) (.seq (.block 1 (.seq R44_5 (.seq R44_6 (.block 2 (.seq R44_7 (.cond (z_ 20) .skip (.seq R44_8 (.cond (z_ 27) .skip (.seq R44_9 .ret))))))))) R44_10)))
def R44_11:CT:=.reg [o_ 2 (c_ (.bool true))]
def B44 : CT := (.seq R44_0 (.seq (.seq R44_1 (.cond (z_ 11) (.seq R44_2 .ret) .skip)) (.seq (.seq R44_3 (.block 0 (.loop L44_0))) (.seq R44_11 .ret))))
def A44 : CF := { res := [rTmp 2],code := B44,nt := 43 }
theorem c44 : ctF Try.prog 44 = some A44 := by kernel_rfl
def R45_0:CT:=.reg [o_ 2 (c_ (.bool false))]
def R45_1:CT:=.reg [o_ 7 (v_ 0),o_ 8 (u_ cLenL 7),o_ 9 (d_ (cEq false .num) 8 (.int .i64 0)),o_ 10 (v_ 9),h_ 10 11 (v_ 0),h_ 10 12 (u_ cLenL 11),h_ 10 13 (d_ (cBin .gtr) 12 (.int .i64 16)),o_ 14 (q_ 10 13)]
def R45_2:CT:=.reg [o_ 2 (c_ (.bool false))]
def R45_3:CT:=.reg [o_ 15 (v_ 0),o_ 16 (u_ cLenL 15),o_ 17 (c_ (.int .i64 0))]
def R45_4:CT:=.reg [o_ 18 (b_ (cBin .lss) 17 16)]
def R45_5:CT:=.reg [o_ 19 (v_ 17),o_ 20 (b_ (cIxa 3) 15 17),o_ 21 (n_ 3 20),o_ 4 (eAlloc [(.str []),(.int .i64 0),(.bool false)] 3),o_ 3 (v_ 19),oP pdN (s_ 3 4 21)]
def R45_6:CT:=.reg [o_ 22 (a_ 0 4),o_ 23 (l_ 22),y_ 24 44 [(z_ 23)],o_ 25 (u_ (cUn .not) 24),o_ 26 (v_ 25),h_ 26 27 (a_ 1 4),h_ 26 28 (l_ 27),h_ 26 29 (d_ (cBin .lss) 28 (.int .i64 1)),o_ 30 (q_ 26 29),o_ 31 (v_ 30),h_ 31 32 (a_ 1 4),h_ 31 33 (l_ 32),h_ 31 34 (d_ (cBin .gtr) 33 (.int .i64 3)),o_ 35 (q_ 31 34)]
def R45_7:CT:=.reg [o_ 2 (c_ (.bool false))]
def R45_8:CT:=.reg [o_ 36 (v_ 0),o_ 37 (v_ 3),o_ 38 (eSl (cSlc 3) (z_ 36) none (some (z_ 37)) none),o_ 39 (u_ cLenL 38),o_ 40 (c_ (.int .i64 0))]
def R45_9:CT:=.reg [o_ 41 (b_ (cBin .lss) 40 39)]
def R45_10:CT:=.reg [o_ 42 (b_ (cIxa 3) 38 40),o_ 43 (n_ 3 42),o_ 6 (eAlloc [(.str []),(.int .i64 0),(.bool false)] 3),oP pdN (s_ 3 6 43)]
def R45_11:CT:=.reg [o_ 44 (a_ 0 6),o_ 45 (l_ 44),o_ 46 (a_ 0 4),o_ 47 (l_ 46),o_ 48 (b_ (cEq false .num) 45 47)]
def R45_12:CT:=.reg [o_ 2 (c_ (.bool false))]
def R45_13:CT:=.reg [o_ 49 (d_ (cBin .add) 40 (.int .i64 1)),o_ 40 (v_ 49)]
def L45_0 : CT := (.seq R45_9 (.seq (.cond (z_ 41) .skip (.exit 2)) (.seq (.block 3 (.seq R45_10 (.seq R45_11 (.cond (z_ 48) (.seq R45_12 .ret) .skip)))) R45_13)))
def R45_14:CT:=.reg [o_ 50 (d_ (cBin .add) 17 (.int .i64 1)),o_ 17 (v_ 50)]
def L45_1 : CT := (.seq R45_4 (.seq (.cond (z_ 18) .skip (.exit 0)) (.seq (.block 1 (.seq R45_5 (.seq (.seq R45_6 (.cond (z_ 35) (.seq R45_7 .ret) .skip)) (.seq R45_8 (.block 2 (.loop L45_0)))))) R45_14)))
def R45_15:CT:=.reg [o_ 2 (c_ (.bool true))]
def B45 : CT := (.seq R45_0 (.seq (.seq R45_1 (.cond (z_ 14) (.seq R45_2 .ret) .skip)) (.seq (.seq R45_3 (.block 0 (.loop L45_1))) (.seq R45_15 .ret))))
def A45 : CF := { res := [rTmp 2],code := B45,nt := 51 }
theorem c45 : ctF Try.prog 45 = some A45 := by kernel_rfl
def R46_0:CT:=.reg [o_ 4 (c_ (.bool false))]
def R46_1:CT:=.reg [o_ 5 (v_ 0),o_ 6 (v_ 1),y_ 7 86 [(z_ 5),(z_ 6)],o_ 8 (d_ (cBin .geq) 7 (.int .i64 0)),o_ 4 (v_ 8)]
def B46 : CT := (.seq R46_0 (.seq R46_1 .ret))
def A46 : CF := { res := [rTmp 4],code := B46,nt := 9 }
theorem c46 : ctF Try.prog 46 = some A46 := by kernel_rfl
def R47_0:CT:=.reg [o_ 2 (x_ 0),o_ 3 (c_ (.bool false))]
def R47_1:CT:=.reg [o_ 4 (a_ 1 2),o_ 5 (l_ 4),o_ 6 (a_ 1 1),o_ 7 (l_ 6),o_ 8 (b_ (cEq false .num) 5 7),o_ 3 (v_ 8)]
def B47 : CT := (.seq R47_0 (.seq R47_1 .ret))
def A47 : CF := { res := [rTmp 3],code := B47,nt := 9 }
theorem c47 : ctF Try.prog 47 = some A47 := by kernel_rfl
def R48_0:CT:=.reg [o_ 2 (x_ 0),o_ 4 (c_ (.bool false))]
def R48_1:CT:=.reg [o_ 7 (v_ 1),o_ 8 (u_ cLenL 7),o_ 9 (d_ (cEq false .num) 8 (.int .i64 0)),o_ 10 (v_ 9),h_ 10 11 (v_ 1),h_ 10 12 (u_ cLenL 11),h_ 10 13 (d_ (cBin .gtr) 12 (.int .i64 16)),o_ 14 (q_ 10 13)]
def R48_2:CT:=.reg [o_ 4 (c_ (.bool false))]
def R48_3:CT:=.reg [o_ 15 (v_ 1),o_ 16 (u_ cLenL 15),o_ 17 (c_ (.int .i64 0))]
def R48_4:CT:=.reg [o_ 18 (b_ (cBin .lss) 17 16)]
def R48_5:CT:=.reg [o_ 19 (v_ 17),o_ 20 (b_ (cIxa 1) 15 17),o_ 21 (l_ 20),o_ 5 (v_ 19),o_ 6 (v_ 21)]
def R48_6:CT:=.reg [o_ 22 (v_ 6),o_ 23 (d_ (cBin .lss) 22 (.int .i64 0)),o_ 24 (v_ 23),h_ 24 25 (v_ 6),h_ 24 26 (a_ 2 2),h_ 24 27 (l_ 26),h_ 24 28 (u_ cLenL 27),h_ 24 29 (b_ (cBin .geq) 25 28),o_ 30 (q_ 24 29),o_ 31 (v_ 30),h_ 31 32 (v_ 1),h_ 31 33 (v_ 5),h_ 31 34 (eSl (cSlc 1) (z_ 32) none (some (z_ 33)) none),h_ 31 35 (v_ 6),gcP (z_ 31) false (pdT 36) 87 [(z_ 34),(z_ 35)],o_ 37 (q_ 31 36)]
def R48_7:CT:=.reg [o_ 4 (c_ (.bool false))]
def R48_8:CT:=.reg [o_ 38 (d_ (cBin .add) 17 (.int .i64 1)),o_ 17 (v_ 38)]
def L48_0 : CT := (.seq R48_4 (.seq (.cond (z_ 18) .skip (.exit 0)) (.seq (.block 1 (.seq R48_5 (.seq R48_6 (.cond (z_ 37) (.seq R48_7 .ret) .skip)))) R48_8)))
def R48_9:CT:=.reg [o_ 4 (c_ (.bool true))]
def B48 : CT := (.seq R48_0 (.seq (.seq R48_1 (.cond (z_ 14) (.seq R48_2 .ret) .skip)) (.seq (.seq R48_3 (.block 0 (.loop L48_0))) (.seq R48_9 .ret))))
def A48 : CF := { res := [rTmp 4],code := B48,nt := 39 }
theorem c48 : ctF Try.prog 48 = some A48 := by kernel_rfl
def R49_0:CT:=.reg [o_ 4 (c_ (.bool false))]
def R49_1:CT:=.reg [o_ 5 (v_ 0),o_ 6 (v_ 1),y_ 7 88 [(z_ 5),(z_ 6)],o_ 8 (d_ (cBin .geq) 7 (.int .i64 0)),o_ 4 (v_ 8)]
def B49 : CT := (.seq R49_0 (.seq R49_1 .ret))
def A49 : CF := { res := [rTmp 4],code := B49,nt := 9 }
theorem c49 : ctF Try.prog 49 = some A49 := by kernel_rfl
def R50_0:CT:=.reg [o_ 2 (x_ 0),o_ 3 (c_ (.bool false))]
def R50_1:CT:=.reg [o_ 4 (a_ 2 2),o_ 5 (l_ 4),o_ 6 (a_ 2 1),o_ 7 (l_ 6),o_ 8 (b_ (cEq false .num) 5 7),o_ 3 (v_ 8)]
def B50 : CT := (.seq R50_0 (.seq R50_1 .ret))
def A50 : CF := { res := [rTmp 3],code := B50,nt := 9 }
theorem c50 : ctF Try.prog 50 = some A50 := by kernel_rfl
def R51_0:CT:=.reg [o_ 2 (c_ (.bool false))]
def R51_1:CT:=.reg [o_ 3 (v_ 0),y_ 4 44 [(z_ 3)],o_ 5 (v_ 4),g_ 5 6 (v_ 0),gcP (z_ 5) true (pdT 7) 89 [(z_ 6)],g_ 5 8 (u_ (cUn .not) 7),o_ 9 (p_ 5 8),o_ 2 (v_ 9)]
def B51 : CT := (.seq R51_0 (.seq R51_1 .ret))
def A51 : CF := { res := [rTmp 2],code := B51,nt := 10 }
theorem c51 : ctF Try.prog 51 = some A51 := by kernel_rfl
def R52_0:CT:=.reg [o_ 4 (c_ (.bool false))]
def R52_1:CT:=.reg [o_ 5 (v_ 0),o_ 6 (d_ (cBin .geq) 5 (.int .i64 1)),o_ 7 (v_ 6),g_ 7 8 (v_ 0),g_ 7 9 (v_ 1),g_ 7 10 (b_ (cBin .leq) 8 9),o_ 11 (p_ 7 10),o_ 4 (v_ 11)]
def B52 : CT := (.seq R52_0 (.seq R52_1 .ret))
def A52 : CF := { res := [rTmp 4],code := B52,nt := 12 }
theorem c52 : ctF Try.prog 52 = some A52 := by kernel_rfl
def R53_0:CT:=.reg [o_ 1 (x_ 0),o_ 2 (c_ (.bool false))]
def R53_1:CT:=.reg [o_ 3 (c_ (.int .i64 2))]
def R53_2:CT:=.reg [o_ 9 (a_ 0 1),o_ 10 (l_ 9),o_ 11 (d_ (cEq false .num) 10 (.int .i64 1)),o_ 8 (v_ 11)]
def R53_3:CT:=.reg [o_ 12 (a_ 1 1),o_ 13 (n_ 3 12),o_ 4 (eAlloc [(.int .i64 0),(.int .i64 0),(.str [])] 3),oP pdN (s_ 3 4 13)]
def R53_4:CT:=.reg [o_ 14 (eBuild [(.int .i64 0),(.int .i64 0),(.str [])] 3 []),o_ 15 (a_ 1 1),oP pdN (s_ 3 15 14)]
def R53_5:CT:=.reg [o_ 16 (n_ 8 1),y_ 17 90 [(z_ 16),(constG (.int .i64 1))],o_ 18 (v_ 17),g_ 18 19 (n_ 3 4),gcP (z_ 18) true (pdT 20) 78 [(z_ 19)],o_ 21 (p_ 18 20),o_ 22 (v_ 21),g_ 22 23 (a_ 0 4),g_ 22 24 (l_ 23),g_ 22 25 (d_ (cEq true .num) 24 (.int .i64 1)),g_ 22 26 (v_ 25),h_ 26 27 (a_ 1 4),h_ 26 28 (l_ 27),h_ 26 29 (d_ (cBin .geq) 28 (.int .i64 0)),g_ 22 30 (q_ 26 29),o_ 31 (p_ 22 30),o_ 2 (v_ 31)]
def R53_6:CT:=.reg [o_ 33 (a_ 0 1),o_ 34 (l_ 33),o_ 35 (d_ (cEq false .num) 34 (.int .i64 2)),o_ 32 (v_ 35)]
def R53_7:CT:=.reg [o_ 36 (a_ 5 1),o_ 37 (l_ 36),y_ 38 51 [(z_ 37)],o_ 39 (v_ 38),g_ 39 40 (a_ 4 1),g_ 39 41 (l_ 40),g_ 39 42 (d_ (cEq false .num) 41 (.str [])),g_ 39 43 (v_ 42),h_ 43 44 (a_ 4 1),h_ 43 45 (l_ 44),gcP (z_ 43) false (pdT 46) 51 [(z_ 45)],g_ 39 47 (q_ 43 46),o_ 48 (p_ 39 47),o_ 5 (v_ 48)]
def R53_8:CT:=.reg [o_ 49 (a_ 5 1),oP pdN (eStore 1 (z_ 49) (constG (.str []))),o_ 50 (a_ 4 1),oP pdN (eStore 1 (z_ 50) (constG (.str [])))]
def R53_9:CT:=.reg [o_ 51 (v_ 5),o_ 52 (v_ 51),g_ 52 53 (n_ 8 1),gcP (z_ 52) true (pdT 54) 90 [(z_ 53),(constG (.int .i64 2))],o_ 55 (p_ 52 54),o_ 2 (v_ 55)]
def R53_10:CT:=.reg [o_ 57 (a_ 0 1),o_ 58 (l_ 57),o_ 59 (d_ (cEq false .num) 58 (.int .i64 4)),o_ 60 (v_ 59),h_ 60 61 (a_ 0 1),h_ 60 62 (l_ 61),h_ 60 63 (d_ (cEq false .num) 62 (.int .i64 5)),o_ 64 (q_ 60 63),o_ 65 (v_ 64),h_ 65 66 (a_ 0 1),h_ 65 67 (l_ 66),h_ 65 68 (d_ (cEq false .num) 67 (.int .i64 6)),o_ 69 (q_ 65 68),o_ 70 (v_ 69),h_ 70 71 (a_ 0 1),h_ 70 72 (l_ 71),h_ 70 73 (d_ (cEq false .num) 72 (.int .i64 7)),o_ 74 (q_ 70 73),o_ 56 (v_ 74)]
def R53_11:CT:=.reg [o_ 3 (c_ (.int .i64 1))]
def R53_12:CT:=.reg [o_ 76 (a_ 0 1),o_ 77 (l_ 76),o_ 78 (d_ (cBin .lss) 77 (.int .i64 8)),o_ 79 (v_ 78),h_ 79 80 (a_ 0 1),h_ 79 81 (l_ 80),h_ 79 82 (d_ (cBin .gtr) 81 (.int .i64 21)),o_ 83 (q_ 79 82),o_ 75 (v_ 83)]
def R53_13:CT:=.reg [o_ 2 (c_ (.bool false))]
def R53_14:CT:=.reg [o_ 84 (a_ 7 1),o_ 85 (l_ 84),o_ 86 (u_ cLenL 85),o_ 87 (v_ 3),o_ 88 (b_ (cEq true .num) 86 87),o_ 89 (v_ 88),h_ 89 90 (a_ 1 1),h_ 89 91 (n_ 3 90),h_ 89 92 (eBuild [(.int .i64 0),(.int .i64 0),(.str [])] 3 []),h_ 89 93 (b_ (cEqA true [.i,.i,.s]) 91 92),o_ 94 (q_ 89 93),o_ 95 (v_ 94),h_ 95 96 (a_ 4 1),h_ 95 97 (l_ 96),h_ 95 98 (d_ (cEq true .num) 97 (.str [])),o_ 99 (q_ 95 98),o_ 100 (v_ 99),h_ 100 101 (a_ 5 1),h_ 100 102 (l_ 101),h_ 100 103 (d_ (cEq true .num) 102 (.str [])),o_ 104 (q_ 100 103),o_ 105 (v_ 104),h_ 105 106 (a_ 6 1),h_ 105 107 (l_ 106),h_ 105 108 (d_ (cEq true .num) 107 (.int .i64 0)),o_ 109 (q_ 105 108)]
def R53_15:CT:=.reg [o_ 2 (c_ (.bool false))]
def R53_16:CT:=.reg [o_ 110 (a_ 7 1),o_ 111 (l_ 110),o_ 112 (u_ cLenL 111),o_ 113 (c_ (.int .i64 0))]
def R53_17:CT:=.reg [o_ 114 (b_ (cBin .lss) 113 112)]
def R53_18:CT:=.reg [o_ 115 (b_ (cIxa 8) 111 113),o_ 116 (n_ 8 115),o_ 7 (eAlloc [(.int .i64 0),(.int .i64 0),(.int .i64 0),(.str []),(.str []),(.str []),(.int .i64 0),(.cst (.slice none 0 0))] 8),oP pdN (s_ 8 7 116)]
def R53_19:CT:=.reg [o_ 117 (n_ 8 7),y_ 118 53 [(z_ 117)],o_ 119 (u_ (cUn .not) 118)]
def R53_20:CT:=.reg [o_ 2 (c_ (.bool false))]
def R53_21:CT:=.reg [o_ 120 (d_ (cBin .add) 113 (.int .i64 1)),o_ 113 (v_ 120)]
def L53_0 : CT := (.seq R53_17 (.seq (.cond (z_ 114) .skip (.exit 1)) (.seq (.block 2 (.seq R53_18 (.seq R53_19 (.cond (z_ 119) (.seq R53_20 .ret) .skip)))) R53_21)))
def R53_22:CT:=.reg [o_ 2 (c_ (.bool true))]
def B53 : CT := (.seq R53_0 (.seq R53_1 (.seq (.block 0 (.seq R53_2 (.cond (z_ 8) (.seq R53_3 (.seq R53_4 (.seq R53_5 .ret))) (.seq R53_6 (.cond (z_ 32) (.seq R53_7 (.seq R53_8 (.seq R53_9 .ret))) (.seq R53_10 (.cond (z_ 56) R53_11 (.seq R53_12 (.cond (z_ 75) (.seq R53_13 .ret) .skip))))))))) (.seq (.seq R53_14 (.cond (z_ 109) (.seq R53_15 .ret) .skip)) (.seq (.seq R53_16 (.block 1 (.loop L53_0))) (.seq R53_22 .ret))))))
def A53 : CF := { res := [rTmp 2],code := B53,nt := 121 }
theorem c53 : ctF Try.prog 53 = some A53 := by kernel_rfl
def R54_0:CT:=.reg [o_ 1 (x_ 0),o_ 2 (c_ (.bool false))]
def R54_1:CT:=.reg [o_ 3 (n_ 8 1),y_ 4 91 [(z_ 3)],o_ 5 (v_ 4),h_ 5 6 (n_ 8 1),gcP (z_ 5) false (pdT 7) 53 [(z_ 6)],o_ 8 (q_ 5 7),o_ 2 (v_ 8)]
def B54 : CT := (.seq R54_0 (.seq R54_1 .ret))
def A54 : CF := { res := [rTmp 2],code := B54,nt := 9 }
theorem c54 : ctF Try.prog 54 = some A54 := by kernel_rfl
def R55_0:CT:=.reg [o_ 1 (x_ 0),o_ 2 (c_ (.bool false))]
def R55_1:CT:=.reg [o_ 10 (a_ 4 1),o_ 11 (n_ 8 10),y_ 12 54 [(z_ 11)],o_ 13 (v_ 12),g_ 13 14 (a_ 3 1),g_ 13 15 (l_ 14),g_ 13 16 (u_ cLenL 15),g_ 13 17 (d_ (cBin .leq) 16 (.int .i64 4)),o_ 18 (p_ 13 17),o_ 19 (v_ 18),g_ 19 20 (a_ 12 1),g_ 19 21 (l_ 20),g_ 19 22 (u_ cLenL 21),g_ 19 23 (d_ (cBin .leq) 22 (.int .i64 16)),o_ 24 (p_ 19 23),o_ 25 (v_ 24),g_ 25 26 (a_ 14 1),g_ 25 27 (l_ 26),g_ 25 28 (d_ (cBin .geq) 27 (.int .i64 0)),o_ 29 (p_ 25 28),o_ 30 (v_ 29),g_ 30 31 (a_ 13 1),g_ 30 32 (l_ 31),g_ 30 33 (v_ 32),h_ 33 34 (a_ 14 1),h_ 33 35 (l_ 34),h_ 33 36 (d_ (cEq false .num) 35 (.int .i64 0)),g_ 30 37 (q_ 33 36),o_ 38 (p_ 30 37),o_ 3 (v_ 38)]
def R55_2:CT:=.reg [o_ 39 (a_ 1 1),o_ 40 (l_ 39)]
def R55_3:CT:=.reg [o_ 41 (v_ 3),o_ 42 (v_ 41),g_ 42 43 (a_ 2 1),g_ 42 44 (l_ 43),g_ 42 45 (u_ cLenL 44),g_ 42 46 (d_ (cEq false .num) 45 (.int .i64 0)),o_ 47 (p_ 42 46),o_ 3 (v_ 47)]
def R55_4:CT:=.reg [o_ 48 (v_ 3),o_ 49 (v_ 48),g_ 49 50 (a_ 2 1),g_ 49 51 (l_ 50),g_ 49 52 (u_ cLenL 51),gcP (z_ 49) true (pdT 53) 52 [(z_ 52),(constG (.int .i64 16))],o_ 54 (p_ 49 53),o_ 3 (v_ 54)]
def R55_5:CT:=.reg [o_ 55 (a_ 2 1),o_ 56 (l_ 55),o_ 57 (u_ cLenL 56),o_ 58 (c_ (.int .i64 0))]
def R55_6:CT:=.reg [o_ 59 (b_ (cBin .lss) 58 57)]
def R55_7:CT:=.reg [o_ 60 (b_ (cIxa 9) 56 58),o_ 61 (n_ 9 60),o_ 5 (eAlloc [(.int .i64 0),(.int .i64 0),(.int .i64 0),(.str []),(.str []),(.str []),(.int .i64 0),(.cst (.slice none 0 0)),(.str [])] 9),oP pdN (s_ 9 5 61)]
def R55_8:CT:=.reg [o_ 62 (v_ 3),o_ 63 (v_ 62),g_ 63 64 (a_ 0 5),g_ 63 65 (n_ 8 64),gcP (z_ 63) true (pdT 66) 53 [(z_ 65)],o_ 67 (p_ 63 66),o_ 68 (v_ 67),g_ 68 69 (a_ 8 5),g_ 68 70 (l_ 69),g_ 68 71 (d_ (cEq false .num) 70 (.str [])),g_ 68 72 (v_ 71),h_ 72 73 (a_ 8 5),h_ 72 74 (l_ 73),gcP (z_ 72) false (pdT 75) 51 [(z_ 74)],g_ 68 76 (q_ 72 75),o_ 77 (p_ 68 76),o_ 3 (v_ 77)]
def R55_9:CT:=.reg [o_ 78 (d_ (cBin .add) 58 (.int .i64 1)),o_ 58 (v_ 78)]
def L55_0 : CT := (.seq R55_6 (.seq (.cond (z_ 59) .skip (.exit 0)) (.seq (.block 1 (.seq R55_7 R55_8)) R55_9)))
def R55_10:CT:=.reg [o_ 79 (a_ 3 1),o_ 80 (l_ 79),o_ 81 (u_ cLenL 80),o_ 82 (c_ (.int .i64 0))]
def R55_11:CT:=.reg [o_ 83 (b_ (cBin .lss) 82 81)]
def R55_12:CT:=.reg [o_ 84 (v_ 82),o_ 85 (b_ (cIxa 10) 80 82),o_ 86 (n_ 10 85),o_ 7 (eAlloc [(.str []),(.str []),(.int .i64 0),(.int .i64 0),(.int .i64 0),(.str []),(.str []),(.str []),(.int .i64 0),(.cst (.slice none 0 0))] 10),o_ 6 (v_ 84),oP pdN (s_ 10 7 86)]
def R55_13:CT:=.reg [o_ 87 (v_ 3),o_ 88 (v_ 87),g_ 88 89 (a_ 0 7),g_ 88 90 (l_ 89),gcP (z_ 88) true (pdT 91) 51 [(z_ 90)],o_ 92 (p_ 88 91),o_ 93 (v_ 92),g_ 93 94 (a_ 1 7),g_ 93 95 (l_ 94),g_ 93 96 (d_ (cEq false .num) 95 (.str [])),g_ 93 97 (v_ 96),h_ 97 98 (a_ 1 7),h_ 97 99 (l_ 98),gcP (z_ 97) false (pdT 100) 51 [(z_ 99)],g_ 93 101 (q_ 97 100),o_ 102 (p_ 93 101),o_ 103 (v_ 102),g_ 103 104 (v_ 6),g_ 103 105 (d_ (cEq false .num) 104 (.int .i64 0)),g_ 103 106 (v_ 105),g_ 106 107 (a_ 2 7),g_ 106 108 (n_ 8 107),gcP (z_ 106) true (pdT 109) 91 [(z_ 108)],g_ 103 110 (p_ 106 109),g_ 103 111 (v_ 110),h_ 111 112 (v_ 6),h_ 111 113 (d_ (cBin .gtr) 112 (.int .i64 0)),h_ 111 114 (v_ 113),g_ 114 115 (a_ 2 7),g_ 114 116 (n_ 8 115),gcP (z_ 114) true (pdT 117) 53 [(z_ 116)],h_ 111 118 (p_ 114 117),g_ 103 119 (q_ 111 118),o_ 120 (p_ 103 119),o_ 3 (v_ 120)]
def R55_14:CT:=.reg [o_ 121 (d_ (cBin .add) 82 (.int .i64 1)),o_ 82 (v_ 121)]
def L55_1 : CT := (.seq R55_11 (.seq (.cond (z_ 83) .skip (.exit 2)) (.seq (.block 3 (.seq R55_12 R55_13)) R55_14)))
def R55_15:CT:=.reg [o_ 122 (a_ 12 1),o_ 123 (l_ 122),o_ 124 (u_ cLenL 123),o_ 125 (c_ (.int .i64 0))]
def R55_16:CT:=.reg [o_ 126 (b_ (cBin .lss) 125 124)]
def R55_17:CT:=.reg [o_ 127 (b_ (cIxa 2) 123 125),o_ 128 (n_ 2 127),o_ 9 (eAlloc [(.str []),(.bool false)] 2),oP pdN (s_ 2 9 128)]
def R55_18:CT:=.reg [o_ 129 (v_ 3),o_ 130 (v_ 129),g_ 130 131 (a_ 0 9),g_ 130 132 (l_ 131),gcP (z_ 130) true (pdT 133) 51 [(z_ 132)],o_ 134 (p_ 130 133),o_ 3 (v_ 134)]
def R55_19:CT:=.reg [o_ 135 (d_ (cBin .add) 125 (.int .i64 1)),o_ 125 (v_ 135)]
def L55_2 : CT := (.seq R55_16 (.seq (.cond (z_ 126) .skip (.exit 4)) (.seq (.block 5 (.seq R55_17 R55_18)) R55_19)))
def R55_20:CT:=.reg [o_ 136 (v_ 3),o_ 2 (v_ 136)]
def B55 : CT := (.seq R55_0 (.seq R55_1 (.seq (.seq R55_2 (.cond (z_ 40) R55_3 R55_4)) (.seq (.seq R55_5 (.block 0 (.loop L55_0))) (.seq (.seq R55_10 (.block 2 (.loop L55_1))) (.seq (.seq R55_15 (.block 4 (.loop L55_2))) (.seq R55_20 .ret)))))))
def A55 : CF := { res := [rTmp 2],code := B55,nt := 137 }
theorem c55 : ctF Try.prog 55 = some A55 := by kernel_rfl
def R56_0:CT:=.reg [o_ 2 (x_ 0),o_ 3 (x_ 1),o_ 4 (c_ (.bool false))]
def R56_1:CT:=.drw [7,8,9,10,5,6] [i_ [2] 7 (a_ 16 2) 1,i_ [7] 8 (n_ 15 7) 1,i_ [] 5 (eAlloc [(.bool false),(.bool false),(.cst (.slice none 0 0)),(.cst (.slice none 0 0)),(.int .i64 0),(.int .i64 0),(.int .i64 0),(.str []),(.str []),(.str []),(.int .i64 0),(.cst (.slice none 0 0)),(.cst (.slice none 0 0)),(.bool false),(.int .i64 0)] 15) 1,i_ [] 6 (eAlloc [(.bool false),(.bool false),(.cst (.slice none 0 0)),(.cst (.slice none 0 0)),(.int .i64 0),(.int .i64 0),(.int .i64 0),(.str []),(.str []),(.str []),(.int .i64 0),(.cst (.slice none 0 0)),(.cst (.slice none 0 0)),(.bool false),(.int .i64 0)] 15) 1,j_ [5,8] (s_ 15 5 8),i_ [3] 9 (a_ 16 3) 2,i_ [9] 10 (n_ 15 9) 2,j_ [6,10] (s_ 15 6 10)]
def R56_2:CT:=.reg [o_ 11 (a_ 1 2),o_ 12 (l_ 11),o_ 13 (a_ 1 3),o_ 14 (l_ 13),o_ 15 (b_ (cEq false .num) 12 14),o_ 16 (v_ 15),g_ 16 17 (a_ 2 2),g_ 16 18 (l_ 17),g_ 16 19 (a_ 2 3),g_ 16 20 (l_ 19),g_ 16 21 (b_ (cEq false .num) 18 20),o_ 22 (p_ 16 21),o_ 23 (v_ 22),g_ 23 24 (a_ 3 2),g_ 23 25 (l_ 24),g_ 23 26 (u_ cLenL 25),g_ 23 27 (a_ 3 3),g_ 23 28 (l_ 27),g_ 23 29 (u_ cLenL 28),g_ 23 30 (b_ (cEq false .num) 26 29),o_ 31 (p_ 23 30),o_ 32 (v_ 31),g_ 32 33 (a_ 4 2),g_ 32 34 (l_ 33),g_ 32 35 (u_ cLenL 34),g_ 32 36 (a_ 4 3),g_ 32 37 (l_ 36),g_ 32 38 (u_ cLenL 37),g_ 32 39 (b_ (cEq false .num) 35 38),o_ 40 (p_ 32 39),o_ 41 (v_ 40),g_ 41 42 (a_ 5 2),g_ 41 43 (l_ 42),g_ 41 44 (a_ 5 3),g_ 41 45 (l_ 44),g_ 41 46 (b_ (cEq false .bool) 43 45),o_ 47 (p_ 41 46),o_ 48 (v_ 47),g_ 48 49 (a_ 6 2),g_ 48 50 (l_ 49),g_ 48 51 (u_ cLenL 50),g_ 48 52 (a_ 6 3),g_ 48 53 (l_ 52),g_ 48 54 (u_ cLenL 53),g_ 48 55 (b_ (cEq false .num) 51 54),o_ 56 (p_ 48 55),o_ 57 (v_ 56),g_ 57 58 (a_ 7 2),g_ 57 59 (l_ 58),g_ 57 60 (u_ cLenL 59),g_ 57 61 (a_ 7 3),g_ 57 62 (l_ 61),g_ 57 63 (u_ cLenL 62),g_ 57 64 (b_ (cEq false .num) 60 63),o_ 65 (p_ 57 64),o_ 66 (v_ 65),g_ 66 67 (a_ 8 2),g_ 66 68 (a_ 0 67),g_ 66 69 (l_ 68),g_ 66 70 (a_ 8 3),g_ 66 71 (a_ 0 70),g_ 66 72 (l_ 71),g_ 66 73 (b_ (cEq false .num) 69 72),g_ 66 74 (v_ 73),g_ 74 75 (a_ 8 3),g_ 74 76 (a_ 0 75),g_ 74 77 (l_ 76),g_ 74 78 (d_ (cEq true .num) 77 (.int .i64 0)),g_ 74 79 (v_ 78),h_ 79 80 (a_ 8 2),h_ 79 81 (n_ 8 80),gcP (z_ 79) false (pdT 82) 91 [(z_ 81)],g_ 74 83 (q_ 79 82),g_ 66 84 (p_ 74 83),o_ 85 (p_ 66 84),o_ 86 (v_ 85),g_ 86 87 (a_ 0 5),g_ 86 88 (l_ 87),g_ 86 89 (a_ 0 6),g_ 86 90 (l_ 89),g_ 86 91 (b_ (cEq false .bool) 88 90),o_ 92 (p_ 86 91),o_ 93 (v_ 92),g_ 93 94 (a_ 1 5),g_ 93 95 (l_ 94),g_ 93 96 (a_ 1 6),g_ 93 97 (l_ 96),g_ 93 98 (b_ (cEq false .bool) 95 97),o_ 99 (p_ 93 98),o_ 100 (v_ 99),g_ 100 101 (a_ 2 5),g_ 100 102 (l_ 101),g_ 100 103 (u_ cLenL 102),g_ 100 104 (a_ 2 6),g_ 100 105 (l_ 104),g_ 100 106 (u_ cLenL 105),g_ 100 107 (b_ (cEq false .num) 103 106),o_ 108 (p_ 100 107),o_ 109 (v_ 108),g_ 109 110 (a_ 3 5),g_ 109 111 (l_ 110),g_ 109 112 (u_ cLenL 111),g_ 109 113 (a_ 3 6),g_ 109 114 (l_ 113),g_ 109 115 (u_ cLenL 114),g_ 109 116 (b_ (cEq false .num) 112 115),o_ 117 (p_ 109 116),o_ 118 (v_ 117),g_ 118 119 (a_ 4 5),g_ 118 120 (a_ 0 119),g_ 118 121 (l_ 120),g_ 118 122 (a_ 4 6),g_ 118 123 (a_ 0 122),g_ 118 124 (l_ 123),g_ 118 125 (b_ (cEq false .num) 121 124),g_ 118 126 (v_ 125),g_ 126 127 (a_ 4 6),g_ 126 128 (a_ 0 127),g_ 126 129 (l_ 128),g_ 126 130 (d_ (cEq true .num) 129 (.int .i64 0)),g_ 126 131 (v_ 130),h_ 131 132 (a_ 4 5),h_ 131 133 (n_ 8 132),gcP (z_ 131) false (pdT 134) 91 [(z_ 133)],g_ 126 135 (q_ 131 134),g_ 118 136 (p_ 126 135),o_ 137 (p_ 118 136),o_ 138 (v_ 137),g_ 138 139 (a_ 12 5),g_ 138 140 (l_ 139),g_ 138 141 (u_ cLenL 140),g_ 138 142 (a_ 12 6),g_ 138 143 (l_ 142),g_ 138 144 (u_ cLenL 143),g_ 138 145 (b_ (cEq false .num) 141 144),o_ 146 (p_ 138 145),o_ 147 (v_ 146),g_ 147 148 (a_ 13 5),g_ 147 149 (l_ 148),g_ 147 150 (a_ 13 6),g_ 147 151 (l_ 150),g_ 147 152 (b_ (cEq false .bool) 149 151),o_ 153 (p_ 147 152),o_ 154 (v_ 153),g_ 154 155 (a_ 14 5),g_ 154 156 (l_ 155),g_ 154 157 (a_ 14 6),g_ 154 158 (l_ 157),g_ 154 159 (b_ (cEq false .num) 156 158),o_ 160 (p_ 154 159),o_ 4 (v_ 160)]
def B56 : CT := (.seq R56_0 (.seq R56_1 (.seq R56_2 .ret)))
def A56 : CF := { res := [rTmp 4],code := B56,nt := 161 }
theorem c56 : ctF Try.prog 56 = some A56 := by kernel_rfl
def R57_0:CT:=.reg [o_ 2 (x_ 0),o_ 3 (x_ 1),o_ 4 (eAlloc [(.int .u32 0),(.str []),(.cst (.slice none 0 0)),(.int .u32 0)] 4),o_ 5 (c_ (.bool false))]
def R57_1:CT:=.reg [o_ 6 (a_ 0 2),o_ 7 (l_ 6),o_ 8 (eMkfn (.func 92) [] [(z_ 3)]),y_ 9 68 [(z_ 7),(z_ 8)],o_ 10 (u_ (cExt 0) 9),o_ 11 (u_ (cExt 1) 9),y_ 12 67 [(z_ 10),(z_ 11)],o_ 13 (u_ (cExt 0) 12),o_ 14 (u_ (cExt 1) 12),oP pdN (s_ 4 4 13),o_ 5 (v_ 14)]
def B57 : CT := (.seq R57_0 (.seq R57_1 .ret))
def A57 : CF := { res := [rCelN 4 4,rTmp 5],code := B57,nt := 15 }
theorem c57 : ctF Try.prog 57 = some A57 := by kernel_rfl
def R58_0:CT:=.reg [o_ 4 (c_ (.bool false))]
def R58_1:CT:=.reg [o_ 5 (v_ 0),o_ 6 (v_ 1),y_ 7 61 [(z_ 5),(z_ 6)],o_ 8 (d_ (cBin .geq) 7 (.int .i64 0)),o_ 4 (v_ 8)]
def B58 : CT := (.seq R58_0 (.seq R58_1 .ret))
def A58 : CF := { res := [rTmp 4],code := B58,nt := 9 }
theorem c58 : ctF Try.prog 58 = some A58 := by kernel_rfl
def R59_0:CT:=.reg [o_ 2 (x_ 0),o_ 3 (c_ (.bool false))]
def R59_1:CT:=.reg [o_ 4 (a_ 0 2),o_ 5 (l_ 4),o_ 6 (a_ 0 1),o_ 7 (l_ 6),o_ 8 (b_ (cEq false .num) 5 7),o_ 3 (v_ 8)]
def B59 : CT := (.seq R59_0 (.seq R59_1 .ret))
def A59 : CF := { res := [rTmp 3],code := B59,nt := 9 }
theorem c59 : ctF Try.prog 59 = some A59 := by kernel_rfl
def R60_0:CT:=.reg [o_ 2 (c_ (.cst (.slice none 0 0)))]
def R60_1:CT:=.reg [o_ 3 (v_ 0),o_ 4 (d_ (cEq false .slice) 3 (.cst (.slice none 0 0)))]
def R60_2:CT:=.reg [o_ 2 (c_ (.cst (.slice none 0 0)))]
def R60_3:CT:=.reg [o_ 5 (eBslice [(.str []),(.int .i64 0),(.bool false)] 0 3 []),o_ 6 (v_ 0),o_ 7 (eApp 3 32 (z_ 5) (z_ 6)),o_ 2 (v_ 7)]
def B60 : CT := (.seq R60_0 (.seq (.seq R60_1 (.cond (z_ 4) (.seq R60_2 .ret) .skip)) (.seq R60_3 .ret)))
def A60 : CF := { res := [rTmp 2],code := B60,nt := 8 }
theorem c60 : ctF Try.prog 60 = some A60 := by kernel_rfl
def R61_0:CT:=.reg [o_ 4 (c_ (.int .i64 0))]
def R61_1:CT:=.reg [o_ 6 (v_ 0),o_ 7 (u_ cLenL 6),o_ 8 (c_ (.int .i64 0))]
def R61_2:CT:=.reg [o_ 9 (b_ (cBin .lss) 8 7)]
def R61_3:CT:=.reg [o_ 10 (v_ 8),o_ 5 (v_ 10)]
def R61_4:CT:=.reg [o_ 11 (v_ 1),o_ 12 (v_ 0),o_ 13 (v_ 5),o_ 14 (b_ (cIxa 3) 12 13),o_ 15 (n_ 3 14),vP (pdT 16) (z_ 11) [(z_ 15)]]
def R61_5:CT:=.reg [o_ 17 (v_ 5),o_ 4 (v_ 17)]
def R61_6:CT:=.reg [o_ 18 (d_ (cBin .add) 8 (.int .i64 1)),o_ 8 (v_ 18)]
def L61_0 : CT := (.seq R61_2 (.seq (.cond (z_ 9) .skip (.exit 0)) (.seq (.block 1 (.seq R61_3 (.seq R61_4 (.cond (z_ 16) (.seq R61_5 .ret) .skip)))) R61_6)))
def R61_7:CT:=.reg [o_ 4 (c_ (.int .i64 (-1)))]
def B61 : CT := (.seq R61_0 (.seq (.seq R61_1 (.block 0 (.loop L61_0))) (.seq R61_7 .ret)))
def A61 : CF := { res := [rTmp 4],code := B61,nt := 19 }
theorem c61 : ctF Try.prog 61 = some A61 := by kernel_rfl
def R62_0:CT:=.reg [o_ 2 (x_ 0),o_ 3 (c_ (.bool false))]
def R62_1:CT:=.reg [o_ 4 (a_ 0 2),o_ 5 (l_ 4),o_ 6 (l_ 1),o_ 7 (b_ (cEq false .num) 5 6),o_ 3 (v_ 7)]
def B62 : CT := (.seq R62_0 (.seq R62_1 .ret))
def A62 : CF := { res := [rTmp 3],code := B62,nt := 8 }
theorem c62 : ctF Try.prog 62 = some A62 := by kernel_rfl
def R63_0:CT:=.reg [o_ 4 (c_ (.bool false))]
def R63_1:CT:=.reg [o_ 5 (v_ 0),o_ 6 (v_ 1),y_ 7 77 [(z_ 5),(z_ 6)],o_ 8 (d_ (cBin .geq) 7 (.int .i64 0)),o_ 4 (v_ 8)]
def B63 : CT := (.seq R63_0 (.seq R63_1 .ret))
def A63 : CF := { res := [rTmp 4],code := B63,nt := 9 }
theorem c63 : ctF Try.prog 63 = some A63 := by kernel_rfl
def R64_0:CT:=.reg [o_ 2 (x_ 0),o_ 4 (eAlloc [(.int .u32 0),(.int .u32 0),(.str []),(.cst (.slice none 0 0)),(.bool false),(.int .u32 0)] 6),o_ 5 (c_ (.bool false))]
def R64_1:CT:=.reg [o_ 6 (a_ 3 2),o_ 7 (l_ 6),y_ 8 93 [(z_ 7)],o_ 9 (a_ 3 2),oP pdN (s_ 1 9 8)]
def R64_2:CT:=.reg [o_ 10 (n_ 6 2),o_ 11 (v_ 1),oP pdN (s_ 6 4 10),o_ 5 (v_ 11)]
def B64 : CT := (.seq R64_0 (.seq R64_1 (.seq R64_2 .ret)))
def A64 : CF := { res := [rCelN 4 6,rTmp 5],code := B64,nt := 12 }
theorem c64 : ctF Try.prog 64 = some A64 := by kernel_rfl
def R65_0:CT:=.reg [o_ 4 (eAlloc [(.int .u32 0),(.int .u32 0),(.str []),(.cst (.slice none 0 0)),(.bool false),(.int .u32 0)] 6),o_ 5 (c_ (.bool false))]
def R65_1:CT:=.reg [o_ 9 (v_ 0),o_ 10 (u_ cLenL 9),o_ 11 (c_ (.int .i64 0))]
def R65_2:CT:=.reg [o_ 12 (b_ (cBin .lss) 11 10)]
def R65_3:CT:=.reg [o_ 13 (b_ (cIxa 6) 9 11),o_ 14 (n_ 6 13),o_ 7 (eAlloc [(.int .u32 0),(.int .u32 0),(.str []),(.cst (.slice none 0 0)),(.bool false),(.int .u32 0)] 6),oP pdN (s_ 6 7 14)]
def R65_4:CT:=.reg [o_ 15 (v_ 1),o_ 16 (n_ 6 7),vP (pdT 17) (z_ 15) [(z_ 16)]]
def R65_5:CT:=.reg [o_ 18 (n_ 6 7),oP pdN (s_ 6 4 18),o_ 5 (c_ (.bool true))]
def R65_6:CT:=.reg [o_ 19 (d_ (cBin .add) 11 (.int .i64 1)),o_ 11 (v_ 19)]
def L65_0 : CT := (.seq R65_2 (.seq (.cond (z_ 12) .skip (.exit 0)) (.seq (.block 1 (.seq R65_3 (.seq R65_4 (.cond (z_ 17) (.seq R65_5 .ret) .skip)))) R65_6)))
def R65_7:CT:=.reg [o_ 8 (eAlloc [(.int .u32 0),(.int .u32 0),(.str []),(.cst (.slice none 0 0)),(.bool false),(.int .u32 0)] 6)]
def R65_8:CT:=.reg [o_ 20 (n_ 6 8),oP pdN (s_ 6 4 20),o_ 5 (c_ (.bool false))]
def B65 : CT := (.seq R65_0 (.seq (.seq R65_1 (.block 0 (.loop L65_0))) (.seq R65_7 (.seq R65_8 .ret))))
def A65 : CF := { res := [rCelN 4 6,rTmp 5],code := B65,nt := 21 }
theorem c65 : ctF Try.prog 65 = some A65 := by kernel_rfl
def R66_0:CT:=.reg [o_ 2 (x_ 0),o_ 3 (c_ (.bool false))]
def R66_1:CT:=.reg [o_ 4 (a_ 2 2),o_ 5 (l_ 4),o_ 6 (l_ 1),o_ 7 (b_ (cEq false .num) 5 6),o_ 3 (v_ 7)]
def B66 : CT := (.seq R66_0 (.seq R66_1 .ret))
def A66 : CF := { res := [rTmp 3],code := B66,nt := 8 }
theorem c66 : ctF Try.prog 66 = some A66 := by kernel_rfl
def R67_0:CT:=.reg [o_ 2 (x_ 0),o_ 4 (eAlloc [(.int .u32 0),(.str []),(.cst (.slice none 0 0)),(.int .u32 0)] 4),o_ 5 (c_ (.bool false))]
def R67_1:CT:=.reg [o_ 6 (a_ 2 2),o_ 7 (l_ 6),y_ 8 60 [(z_ 7)],o_ 9 (a_ 2 2),oP pdN (s_ 1 9 8)]
def R67_2:CT:=.reg [o_ 10 (n_ 4 2),o_ 11 (v_ 1),oP pdN (s_ 4 4 10),o_ 5 (v_ 11)]
def B67 : CT := (.seq R67_0 (.seq R67_1 (.seq R67_2 .ret)))
def A67 : CF := { res := [rCelN 4 4,rTmp 5],code := B67,nt := 12 }
theorem c67 : ctF Try.prog 67 = some A67 := by kernel_rfl
def R68_0:CT:=.reg [o_ 4 (eAlloc [(.int .u32 0),(.str []),(.cst (.slice none 0 0)),(.int .u32 0)] 4),o_ 5 (c_ (.bool false))]
def R68_1:CT:=.reg [o_ 9 (v_ 0),o_ 10 (u_ cLenL 9),o_ 11 (c_ (.int .i64 0))]
def R68_2:CT:=.reg [o_ 12 (b_ (cBin .lss) 11 10)]
def R68_3:CT:=.reg [o_ 13 (b_ (cIxa 4) 9 11),o_ 14 (n_ 4 13),o_ 7 (eAlloc [(.int .u32 0),(.str []),(.cst (.slice none 0 0)),(.int .u32 0)] 4),oP pdN (s_ 4 7 14)]
def R68_4:CT:=.reg [o_ 15 (v_ 1),o_ 16 (n_ 4 7),vP (pdT 17) (z_ 15) [(z_ 16)]]
def R68_5:CT:=.reg [o_ 18 (n_ 4 7),oP pdN (s_ 4 4 18),o_ 5 (c_ (.bool true))]
def R68_6:CT:=.reg [o_ 19 (d_ (cBin .add) 11 (.int .i64 1)),o_ 11 (v_ 19)]
def L68_0 : CT := (.seq R68_2 (.seq (.cond (z_ 12) .skip (.exit 0)) (.seq (.block 1 (.seq R68_3 (.seq R68_4 (.cond (z_ 17) (.seq R68_5 .ret) .skip)))) R68_6)))
def R68_7:CT:=.reg [o_ 8 (eAlloc [(.int .u32 0),(.str []),(.cst (.slice none 0 0)),(.int .u32 0)] 4)]
def R68_8:CT:=.reg [o_ 20 (n_ 4 8),oP pdN (s_ 4 4 20),o_ 5 (c_ (.bool false))]
def B68 : CT := (.seq R68_0 (.seq (.seq R68_1 (.block 0 (.loop L68_0))) (.seq R68_7 (.seq R68_8 .ret))))
def A68 : CF := { res := [rCelN 4 4,rTmp 5],code := B68,nt := 21 }
theorem c68 : ctF Try.prog 68 = some A68 := by kernel_rfl
def R69_0:CT:=.reg [o_ 2 (x_ 0),o_ 3 (c_ (.bool false))]
def R69_1:CT:=.reg [o_ 4 (a_ 0 2),o_ 5 (l_ 4),o_ 6 (l_ 1),o_ 7 (b_ (cEq false .num) 5 6),o_ 3 (v_ 7)]
def B69 : CT := (.seq R69_0 (.seq R69_1 .ret))
def A69 : CF := { res := [rTmp 3],code := B69,nt := 8 }
theorem c69 : ctF Try.prog 69 = some A69 := by kernel_rfl
def R70_0:CT:=.reg [o_ 5 (x_ 1),o_ 6 (x_ 2),o_ 8 (eAlloc [(.int .i64 0),(.int .i64 0),(.int .i64 0),(.str []),(.str []),(.str []),(.int .i64 0),(.cst (.slice none 0 0))] 8)]
def R70_1:CT:=.reg [o_ 12 (v_ 0),o_ 13 (n_ 2 5),o_ 14 (n_ 8 6),y_ 15 71 [(z_ 12),(z_ 13),(z_ 14)],o_ 11 (v_ 15),o_ 16 (u_ (cExt 0) 11),o_ 17 (u_ (cExt 1) 11),o_ 9 (eAlloc [(.int .i64 0),(.int .i64 0),(.int .i64 0),(.str []),(.str []),(.str []),(.int .i64 0),(.cst (.slice none 0 0))] 8),oP pdN (s_ 8 9 16),o_ 10 (v_ 17)]
def R70_2:CT:=.reg [o_ 18 (v_ 0),o_ 19 (v_ 10),o_ 20 (d_ (cEq true .num) 19 (.int .i64 0)),o_ 21 (v_ 20),g_ 21 22 (v_ 10),g_ 21 23 (v_ 3),g_ 21 24 (b_ (cEq true .num) 22 23),o_ 25 (p_ 21 24),y_ 26 22 [(z_ 18),(constG (.int .i64 203)),(z_ 25)]]
def R70_3:CT:=.reg [o_ 27 (n_ 8 9),oP pdN (s_ 8 8 27)]
def B70 : CT := (.seq R70_0 (.seq R70_1 (.seq R70_2 (.seq R70_3 .ret))))
def A70 : CF := { res := [rCelN 8 8],code := B70,nt := 28 }
theorem c70 : ctF Try.prog 70 = some A70 := by kernel_rfl
def R71_0:CT:=.reg [o_ 3 (x_ 0),o_ 4 (x_ 1),o_ 5 (x_ 2),o_ 6 (eAlloc [(.int .i64 0),(.int .i64 0),(.int .i64 0),(.str []),(.str []),(.str []),(.int .i64 0),(.cst (.slice none 0 0))] 8),o_ 7 (c_ (.int .i64 0))]
def R71_1:CT:=.reg [o_ 10 (n_ 2 4),y_ 11 94 [(z_ 10)],o_ 8 (eAlloc [(.cst (.slice none 0 0))] 1),oP pdN (s_ 1 8 11)]
def R71_2:CT:=.reg [o_ 9 (eAlloc [(.cst .nilFunc)] 1)]
def R71_3:CT:=.reg [o_ 12 (eMkfn (.func 95) [] [(z_ 4),(z_ 3),(z_ 8),(z_ 9)]),oP pdN (s_ 1 9 12)]
def R71_4:CT:=.reg [o_ 13 (l_ 9),o_ 14 (n_ 8 5),vP (pdT 15) (z_ 13) [(z_ 14)],o_ 16 (u_ (cExt 0) 15),o_ 17 (u_ (cExt 1) 15),oP pdN (s_ 8 6 16),o_ 7 (v_ 17)]
def B71 : CT := (.seq R71_0 (.seq R71_1 (.seq R71_2 (.seq R71_3 (.seq R71_4 .ret)))))
def A71 : CF := { res := [rCelN 6 8,rTmp 7],code := B71,nt := 18 }
theorem c71 : ctF Try.prog 71 = some A71 := by kernel_rfl
def R72_0:CT:=.reg [o_ 1 (x_ 0),o_ 2 (c_ (.cst (.slice none 0 0)))]
def R72_1:CT:=.reg [o_ 3 (a_ 0 1),o_ 4 (l_ 3),o_ 5 (d_ (cEq false .num) 4 (.int .i64 20)),o_ 6 (v_ 5),g_ 6 7 (a_ 7 1),g_ 6 8 (l_ 7),g_ 6 9 (u_ cLenL 8),g_ 6 10 (d_ (cEq false .num) 9 (.int .i64 2)),o_ 11 (p_ 6 10)]
def R72_2:CT:=.drw [12,13,14,15,16,17,18,19,20,21,22] [i_ [1] 12 (a_ 7 1) 1,i_ [12] 13 (l_ 12) 1,i_ [13] 14 (d_ (cIxa 8) 13 (.int .i64 0)) 1,i_ [14] 15 (n_ 8 14) 1,cI [15] (pdT 16) 72 [(z_ 15)],i_ [1] 17 (a_ 7 1) 2,i_ [17] 18 (l_ 17) 2,i_ [18] 19 (d_ (cIxa 8) 18 (.int .i64 1)) 2,i_ [19] 20 (n_ 8 19) 2,cI [20] (pdT 21) 72 [(z_ 20)],mI [16,21] (pdT 22) (eApp 8 104 (z_ 16) (z_ 21)),i_ [22] 2 (v_ 22) 1]
def R72_3:CT:=.reg [o_ 23 (n_ 8 1),y_ 24 97 [(z_ 23)],o_ 25 (eBslice [(.int .i64 0),(.int .i64 0),(.int .i64 0),(.str []),(.str []),(.str []),(.int .i64 0),(.cst (.slice none 0 0))] 1 8 [(0,8,(z_ 24))]),o_ 2 (v_ 25)]
def B72 : CT := (.seq R72_0 (.seq (.seq R72_1 (.cond (z_ 11) (.seq R72_2 .ret) .skip)) (.seq R72_3 .ret)))
def A72 : CF := { res := [rTmp 2],code := B72,nt := 26 }
theorem c72 : ctF Try.prog 72 = some A72 := by kernel_rfl
def R73_0:CT:=.reg [o_ 2 (x_ 0),o_ 3 (c_ (.bool false))]
def R73_1:CT:=.reg [o_ 4 (a_ 0 2),o_ 5 (l_ 4),o_ 6 (a_ 0 1),o_ 7 (l_ 6),o_ 8 (b_ (cEq false .num) 5 7),o_ 3 (v_ 8)]
def B73 : CT := (.seq R73_0 (.seq R73_1 .ret))
def A73 : CF := { res := [rTmp 3],code := B73,nt := 9 }
theorem c73 : ctF Try.prog 73 = some A73 := by kernel_rfl
def R74_0:CT:=.reg [o_ 4 (c_ (.bool false))]
def R74_1:CT:=.reg [o_ 5 (v_ 0),o_ 6 (v_ 1),y_ 7 98 [(z_ 5),(z_ 6)],o_ 8 (d_ (cBin .geq) 7 (.int .i64 0)),o_ 4 (v_ 8)]
def B74 : CT := (.seq R74_0 (.seq R74_1 .ret))
def A74 : CF := { res := [rTmp 4],code := B74,nt := 9 }
theorem c74 : ctF Try.prog 74 = some A74 := by kernel_rfl
def R75_0:CT:=.reg [o_ 2 (x_ 0),o_ 3 (c_ (.bool false))]
def R75_1:CT:=.reg [o_ 4 (a_ 0 2),o_ 5 (l_ 4),o_ 6 (a_ 0 1),o_ 7 (l_ 6),o_ 8 (b_ (cEq false .num) 5 7),o_ 3 (v_ 8)]
def B75 : CT := (.seq R75_0 (.seq R75_1 .ret))
def A75 : CF := { res := [rTmp 3],code := B75,nt := 9 }
theorem c75 : ctF Try.prog 75 = some A75 := by kernel_rfl
def R76_0:CT:=.reg [o_ 5 (x_ 1),o_ 6 (x_ 2)]
def R76_1:CT:=.reg [o_ 17 (a_ 1 6),o_ 18 (l_ 17)]
def R76_2:CT:=.reg [o_ 19 (v_ 0),o_ 20 (a_ 1 5),o_ 21 (l_ 20),o_ 22 (u_ cLenL 21),o_ 23 (d_ (cEq false .num) 22 (.int .i64 0)),y_ 24 22 [(z_ 19),(constG (.int .i64 200)),(z_ 23)]]
def R76_3:CT:=.reg [o_ 25 (v_ 0),o_ 26 (n_ 2 5),y_ 27 94 [(z_ 26)],o_ 28 (u_ cLenL 27),o_ 29 (d_ (cBin .gtr) 28 (.int .i64 16)),y_ 30 22 [(z_ 25),(constG (.int .i64 3)),(z_ 29)]]
def R76_4:CT:=.reg [o_ 31 (a_ 1 5),o_ 32 (l_ 31),o_ 33 (u_ cLenL 32),o_ 34 (c_ (.int .i64 0))]
def R76_5:CT:=.reg [o_ 35 (b_ (cBin .lss) 34 33)]
def R76_6:CT:=.reg [o_ 36 (b_ (cIxa 4) 32 34),o_ 37 (n_ 4 36),o_ 9 (eAlloc [(.int .u32 0),(.str []),(.cst (.slice none 0 0)),(.int .u32 0)] 4),oP pdN (s_ 4 9 37)]
def R76_7:CT:=.reg [o_ 38 (a_ 2 9),o_ 39 (l_ 38),o_ 40 (u_ cLenL 39),o_ 41 (c_ (.int .i64 0))]
def R76_8:CT:=.reg [o_ 42 (b_ (cBin .lss) 41 40)]
def R76_9:CT:=.reg [o_ 43 (b_ (cIxa 3) 39 41),o_ 44 (n_ 3 43),o_ 11 (eAlloc [(.str []),(.int .i64 0),(.bool false)] 3),oP pdN (s_ 3 11 44)]
def R76_10:CT:=.drw [45,46,47,48,49,50,51,52,53,54,55,56,57,58,59,60] [i_ [3] 45 (v_ 3) 1,i_ [45] 46 (eNilc (z_ 45)) 1,i_ [46] 47 (a_ 18 46) 1,i_ [47] 48 (l_ 47) 1,i_ [3] 49 (v_ 3) 1,i_ [49] 50 (eNilc (z_ 49)) 1,i_ [50] 51 (a_ 18 50) 1,i_ [51] 52 (l_ 51) 1,i_ [52] 53 (u_ cLenL 52) 1,i_ [53] 54 (eBuild [(.int .i64 0),(.int .i64 0),(.int .i64 0),(.str []),(.str []),(.str []),(.int .i64 0),(.cst (.slice none 0 0))] 8 [(0,1,(constG (.int .i64 3))),(6,1,(z_ 53))]) 1,i_ [48] 55 (u_ cLenL 48) 1,i_ [] 56 (eBslice [(.int .i64 0),(.int .i64 0),(.int .i64 0),(.str []),(.str []),(.str []),(.int .i64 0),(.cst (.slice none 0 0))] 1 8 [(0,8,(constG (.agg [(.int .i64 0),(.int .i64 0),(.int .i64 0),(.str []),(.str []),(.str []),(.int .i64 0),(.cst (.slice none 0 0))] 8)))]) 1,mI [48,56] (pdT 57) (eApp 8 104 (z_ 48) (z_ 56)),i_ [57,55] 58 (b_ (cIxa 8) 57 55) 0,i_ [45] 59 (eNilc (z_ 45)) 0,i_ [59] 60 (a_ 18 59) 0,fI [58,54] pdN (s_ 8 58 54),fI [60,57] pdN (s_ 1 60 57)]
def R76_11:CT:=.drw [61,62,63,64,65,66,67,68,69,70,71,72,73,74,75,76,77,78,79,80,81,82] [i_ [3] 63 (v_ 3) 1,i_ [63] 64 (eNilc (z_ 63)) 1,i_ [64] 65 (a_ 19 64) 1,i_ [65] 66 (l_ 65) 1,i_ [11] 67 (a_ 0 11) 1,i_ [67] 68 (l_ 67) 1,i_ [68] 69 (eBslice [(.str [])] 1 1 [(0,1,(z_ 68))]) 1,mI [66,69] (pdT 70) (eApp 1 16 (z_ 66) (z_ 69)),i_ [3] 71 (v_ 3) 2,i_ [71] 72 (eNilc (z_ 71)) 2,i_ [72] 73 (a_ 20 72) 2,i_ [73] 74 (l_ 73) 2,i_ [11] 75 (a_ 1 11) 2,i_ [75] 76 (l_ 75) 2,i_ [76] 77 (eBslice [(.int .i64 0)] 1 1 [(0,1,(z_ 76))]) 2,mI [74,77] (pdT 78) (eApp 1 8 (z_ 74) (z_ 77)),i_ [3] 61 (v_ 3) 3,i_ [61] 79 (eNilc (z_ 61)) 1,i_ [79] 80 (a_ 19 79) 1,j_ [80,70] (s_ 1 80 70),i_ [3] 62 (v_ 3) 4,i_ [62] 81 (eNilc (z_ 62)) 1,i_ [81] 82 (a_ 20 81) 1,j_ [82,78] (s_ 1 82 78)]
def R76_12:CT:=.reg [o_ 83 (d_ (cBin .add) 41 (.int .i64 1)),o_ 41 (v_ 83)]
def L76_0 : CT := (.seq R76_8 (.seq (.cond (z_ 42) .skip (.exit 2)) (.seq (.block 3 (.seq R76_9 (.seq R76_10 R76_11))) R76_12)))
def R76_13:CT:=.reg [o_ 84 (d_ (cBin .add) 34 (.int .i64 1)),o_ 34 (v_ 84)]
def L76_1 : CT := (.seq R76_5 (.seq (.cond (z_ 35) .skip (.exit 0)) (.seq (.block 1 (.seq R76_6 (.seq R76_7 (.block 2 (.loop L76_0))))) R76_13)))
def R76_14:CT:=.reg [o_ 85 (a_ 2 6),o_ 86 (l_ 85),o_ 87 (u_ cLenL 86),o_ 88 (c_ (.int .i64 0))]
def R76_15:CT:=.reg [o_ 89 (b_ (cBin .lss) 88 87)]
def R76_16:CT:=.reg [o_ 90 (b_ (cIxa 9) 86 88),o_ 91 (n_ 9 90),o_ 13 (eAlloc [(.int .i64 0),(.int .i64 0),(.int .i64 0),(.str []),(.str []),(.str []),(.int .i64 0),(.cst (.slice none 0 0)),(.str [])] 9),oP pdN (s_ 9 13 91)]
def R76_17:CT:=.reg [o_ 93 (v_ 0),o_ 94 (n_ 2 5),o_ 95 (a_ 0 13),o_ 96 (n_ 8 95),y_ 97 71 [(z_ 93),(z_ 94),(z_ 96)],o_ 92 (v_ 97),o_ 98 (u_ (cExt 0) 92),o_ 99 (u_ (cExt 1) 92),o_ 14 (eAlloc [(.int .i64 0),(.int .i64 0),(.int .i64 0),(.str []),(.str []),(.str []),(.int .i64 0),(.cst (.slice none 0 0))] 8),oP pdN (s_ 8 14 98),o_ 15 (v_ 99)]
def R76_18:CT:=.reg [o_ 100 (a_ 8 13),o_ 101 (l_ 100),o_ 16 (v_ 101)]
def R76_19:CT:=.reg [o_ 102 (v_ 16),o_ 103 (d_ (cEq false .num) 102 (.str [])),o_ 104 (v_ 103),g_ 104 105 (a_ 0 13),g_ 104 106 (a_ 0 105),g_ 104 107 (l_ 106),g_ 104 108 (d_ (cEq false .num) 107 (.int .i64 2)),o_ 109 (p_ 104 108)]
def R76_20:CT:=.reg [o_ 110 (a_ 0 13),o_ 111 (a_ 5 110),o_ 112 (l_ 111),o_ 16 (v_ 112)]
def R76_21:CT:=.drw [113,114,115,116,117,118,119,120,121,122,123,124,125,126,127,128,129,130,131,132,133,134,135,136,137,138,139,140,141,142] [i_ [3] 116 (v_ 3) 1,i_ [116] 117 (eNilc (z_ 116)) 1,i_ [117] 118 (a_ 18 117) 1,i_ [118] 119 (l_ 118) 1,i_ [14] 120 (n_ 8 14) 1,i_ [120] 121 (eBslice [(.int .i64 0),(.int .i64 0),(.int .i64 0),(.str []),(.str []),(.str []),(.int .i64 0),(.cst (.slice none 0 0))] 1 8 [(0,8,(z_ 120))]) 1,mI [119,121] (pdT 122) (eApp 8 104 (z_ 119) (z_ 121)),i_ [3] 123 (v_ 3) 2,i_ [123] 124 (eNilc (z_ 123)) 2,i_ [124] 125 (a_ 19 124) 2,i_ [125] 126 (l_ 125) 2,i_ [16] 127 (v_ 16) 2,i_ [127] 128 (eBslice [(.str [])] 1 1 [(0,1,(z_ 127))]) 2,mI [126,128] (pdT 129) (eApp 1 16 (z_ 126) (z_ 128)),i_ [3] 130 (v_ 3) 3,i_ [130] 131 (eNilc (z_ 130)) 3,i_ [131] 132 (a_ 20 131) 3,i_ [132] 133 (l_ 132) 3,i_ [15] 134 (v_ 15) 3,i_ [134] 135 (eBslice [(.int .i64 0)] 1 1 [(0,1,(z_ 134))]) 3,mI [133,135] (pdT 136) (eApp 1 8 (z_ 133) (z_ 135)),i_ [3] 113 (v_ 3) 4,i_ [113] 137 (eNilc (z_ 113)) 1,i_ [137] 138 (a_ 18 137) 1,j_ [138,122] (s_ 1 138 122),i_ [3] 114 (v_ 3) 5,i_ [114] 139 (eNilc (z_ 114)) 1,i_ [139] 140 (a_ 19 139) 1,j_ [140,129] (s_ 1 140 129),i_ [3] 115 (v_ 3) 6,i_ [115] 141 (eNilc (z_ 115)) 1,i_ [141] 142 (a_ 20 141) 1,j_ [142,136] (s_ 1 142 136)]
def R76_22:CT:=.reg [o_ 143 (d_ (cBin .add) 88 (.int .i64 1)),o_ 88 (v_ 143)]
def L76_2 : CT := (.seq R76_15 (.seq (.cond (z_ 89) .skip (.exit 4)) (.seq (.block 5 (.seq R76_16 (.seq R76_17 (.seq R76_18 (.seq (.seq R76_19 (.cond (z_ 109) R76_20 .skip)) R76_21))))) R76_22)))
def B76 : CT := (.seq R76_0 (.seq (.seq R76_1 (.cond (z_ 18) (.seq R76_2 (.seq R76_3 (.seq R76_4 (.block 0 (.loop L76_1))))) .skip)) (.seq R76_14 (.block 4 (.loop L76_2)))))
def A76 : CF := { res := [],code := B76,nt := 144 }
theorem c76 : ctF Try.prog 76 = some A76 := by kernel_rfl
def R77_0:CT:=.reg [o_ 4 (c_ (.int .i64 0))]
def R77_1:CT:=.reg [o_ 6 (v_ 0),o_ 7 (u_ cLenL 6),o_ 8 (c_ (.int .i64 0))]
def R77_2:CT:=.reg [o_ 9 (b_ (cBin .lss) 8 7)]
def R77_3:CT:=.reg [o_ 10 (v_ 8),o_ 5 (v_ 10)]
def R77_4:CT:=.reg [o_ 11 (v_ 1),o_ 12 (v_ 0),o_ 13 (v_ 5),o_ 14 (b_ (cIxa 1) 12 13),o_ 15 (l_ 14),o_ 16 (b_ (cEq false .num) 11 15)]
def R77_5:CT:=.reg [o_ 17 (v_ 5),o_ 4 (v_ 17)]
def R77_6:CT:=.reg [o_ 18 (d_ (cBin .add) 8 (.int .i64 1)),o_ 8 (v_ 18)]
def L77_0 : CT := (.seq R77_2 (.seq (.cond (z_ 9) .skip (.exit 0)) (.seq (.block 1 (.seq R77_3 (.seq R77_4 (.cond (z_ 16) (.seq R77_5 .ret) .skip)))) R77_6)))
def R77_7:CT:=.reg [o_ 4 (c_ (.int .i64 (-1)))]
def B77 : CT := (.seq R77_0 (.seq (.seq R77_1 (.block 0 (.loop L77_0))) (.seq R77_7 .ret)))
def A77 : CF := { res := [rTmp 4],code := B77,nt := 19 }
theorem c77 : ctF Try.prog 77 = some A77 := by kernel_rfl
def R78_0:CT:=.reg [o_ 1 (x_ 0),o_ 2 (c_ (.bool false))]
def R78_1:CT:=.reg [o_ 3 (a_ 0 1),o_ 4 (l_ 3)]
def R78_2:CT:=.reg [o_ 6 (d_ (cEq false .num) 4 (.int .i64 0)),o_ 5 (v_ 6)]
def R78_3:CT:=.reg [o_ 7 (n_ 3 1),o_ 8 (eBuild [(.int .i64 0),(.int .i64 0),(.str [])] 3 []),o_ 9 (b_ (cEqA false [.i,.i,.s]) 7 8),o_ 2 (v_ 9)]
def R78_4:CT:=.reg [o_ 11 (d_ (cEq false .num) 4 (.int .i64 1)),o_ 10 (v_ 11)]
def R78_5:CT:=.reg [o_ 12 (a_ 2 1),o_ 13 (l_ 12),o_ 14 (d_ (cEq false .num) 13 (.str [])),o_ 2 (v_ 14)]
def R78_6:CT:=.reg [o_ 16 (d_ (cEq false .num) 4 (.int .i64 2)),o_ 15 (v_ 16)]
def R78_7:CT:=.reg [o_ 17 (a_ 1 1),o_ 18 (l_ 17),o_ 19 (d_ (cEq false .num) 18 (.int .i64 0)),o_ 20 (v_ 19),g_ 20 21 (a_ 2 1),g_ 20 22 (l_ 21),g_ 20 23 (u_ cLenS 22),g_ 20 24 (d_ (cBin .leq) 23 (.int .i64 64)),o_ 25 (p_ 20 24),o_ 2 (v_ 25)]
def R78_8:CT:=.reg [o_ 27 (d_ (cEq false .num) 4 (.int .i64 3)),o_ 26 (v_ 27)]
def R78_9:CT:=.reg [o_ 28 (a_ 2 1),o_ 29 (l_ 28),o_ 30 (d_ (cEq false .num) 29 (.str [])),o_ 31 (v_ 30),g_ 31 32 (a_ 1 1),g_ 31 33 (l_ 32),g_ 31 34 (d_ (cEq false .num) 33 (.int .i64 0)),g_ 31 35 (v_ 34),h_ 35 36 (a_ 1 1),h_ 35 37 (l_ 36),h_ 35 38 (d_ (cEq false .num) 37 (.int .i64 1)),g_ 31 39 (q_ 35 38),o_ 40 (p_ 31 39),o_ 2 (v_ 40)]
def R78_10:CT:=.reg [o_ 2 (c_ (.bool false))]
def B78 : CT := (.seq R78_0 (.seq (.seq R78_1 (.block 0 (.seq R78_2 (.cond (z_ 5) (.seq R78_3 .ret) (.seq R78_4 (.cond (z_ 10) (.seq R78_5 .ret) (.seq R78_6 (.cond (z_ 15) (.seq R78_7 .ret) (.seq R78_8 (.cond (z_ 26) (.seq R78_9 .ret) .skip)))))))))) (.seq R78_10 .ret)))
def A78 : CF := { res := [rTmp 2],code := B78,nt := 41 }
theorem c78 : ctF Try.prog 78 = some A78 := by kernel_rfl
def R79_0:CT:=.reg [o_ 2 (eAlloc [(.int .i64 0),(.int .i64 0),(.int .i64 0),(.bool false),(.bool false)] 5),o_ 3 (c_ (.bool false))]
def R79_1:CT:=.reg [o_ 4 (v_ 0)]
def R79_2:CT:=.reg [o_ 6 (d_ (cEq false .num) 4 (.int .i64 4)),o_ 5 (v_ 6)]
def R79_3:CT:=.reg [o_ 7 (eBuild [(.int .i64 0),(.int .i64 0),(.int .i64 0),(.bool false),(.bool false)] 5 [(0,1,(constG (.int .i64 1))),(1,1,(constG (.int .i64 1))),(2,1,(constG (.int .i64 1)))]),oP pdN (s_ 5 2 7),o_ 3 (c_ (.bool true))]
def R79_4:CT:=.reg [o_ 9 (d_ (cEq false .num) 4 (.int .i64 5)),o_ 8 (v_ 9)]
def R79_5:CT:=.reg [o_ 10 (eBuild [(.int .i64 0),(.int .i64 0),(.int .i64 0),(.bool false),(.bool false)] 5 [(0,1,(constG (.int .i64 1))),(1,1,(constG (.int .i64 3))),(2,1,(constG (.int .i64 3)))]),oP pdN (s_ 5 2 10),o_ 3 (c_ (.bool true))]
def R79_6:CT:=.reg [o_ 12 (d_ (cEq false .num) 4 (.int .i64 6)),o_ 11 (v_ 12)]
def R79_7:CT:=.reg [o_ 13 (d_ (cEq false .num) 4 (.int .i64 7)),o_ 11 (v_ 13)]
def R79_8:CT:=.reg [o_ 14 (eBuild [(.int .i64 0),(.int .i64 0),(.int .i64 0),(.bool false),(.bool false)] 5 [(0,1,(constG (.int .i64 1))),(3,1,(constG (.bool true))),(2,1,(constG (.int .i64 3)))]),oP pdN (s_ 5 2 14),o_ 3 (c_ (.bool true))]
def R79_9:CT:=.reg [o_ 16 (d_ (cEq false .num) 4 (.int .i64 8)),o_ 15 (v_ 16)]
def R79_10:CT:=.reg [o_ 17 (d_ (cEq false .num) 4 (.int .i64 9)),o_ 15 (v_ 17)]
def R79_11:CT:=.reg [o_ 18 (d_ (cEq false .num) 4 (.int .i64 10)),o_ 15 (v_ 18)]
def R79_12:CT:=.reg [o_ 19 (d_ (cEq false .num) 4 (.int .i64 11)),o_ 15 (v_ 19)]
def R79_13:CT:=.reg [o_ 20 (d_ (cEq false .num) 4 (.int .i64 12)),o_ 15 (v_ 20)]
def R79_14:CT:=.reg [o_ 21 (eBuild [(.int .i64 0),(.int .i64 0),(.int .i64 0),(.bool false),(.bool false)] 5 [(0,1,(constG (.int .i64 2))),(1,1,(constG (.int .i64 1))),(2,1,(constG (.int .i64 1)))]),oP pdN (s_ 5 2 21),o_ 3 (c_ (.bool true))]
def R79_15:CT:=.reg [o_ 23 (d_ (cEq false .num) 4 (.int .i64 13)),o_ 22 (v_ 23)]
def R79_16:CT:=.reg [o_ 24 (eBuild [(.int .i64 0),(.int .i64 0),(.int .i64 0),(.bool false),(.bool false)] 5 [(0,1,(constG (.int .i64 2))),(1,1,(constG (.int .i64 2))),(2,1,(constG (.int .i64 2)))]),oP pdN (s_ 5 2 24),o_ 3 (c_ (.bool true))]
def R79_17:CT:=.reg [o_ 26 (d_ (cEq false .num) 4 (.int .i64 20)),o_ 25 (v_ 26)]
def R79_18:CT:=.reg [o_ 27 (d_ (cEq false .num) 4 (.int .i64 21)),o_ 25 (v_ 27)]
def R79_19:CT:=.reg [o_ 28 (eBuild [(.int .i64 0),(.int .i64 0),(.int .i64 0),(.bool false),(.bool false)] 5 [(0,1,(constG (.int .i64 2))),(1,1,(constG (.int .i64 3))),(2,1,(constG (.int .i64 3)))]),oP pdN (s_ 5 2 28),o_ 3 (c_ (.bool true))]
def R79_20:CT:=.reg [o_ 30 (d_ (cEq false .num) 4 (.int .i64 14)),o_ 29 (v_ 30)]
def R79_21:CT:=.reg [o_ 31 (d_ (cEq false .num) 4 (.int .i64 15)),o_ 29 (v_ 31)]
def R79_22:CT:=.reg [o_ 32 (d_ (cEq false .num) 4 (.int .i64 16)),o_ 29 (v_ 32)]
def R79_23:CT:=.reg [o_ 33 (d_ (cEq false .num) 4 (.int .i64 17)),o_ 29 (v_ 33)]
def R79_24:CT:=.reg [o_ 34 (d_ (cEq false .num) 4 (.int .i64 18)),o_ 29 (v_ 34)]
def R79_25:CT:=.reg [o_ 35 (d_ (cEq false .num) 4 (.int .i64 19)),o_ 29 (v_ 35)]
def R79_26:CT:=.reg [o_ 36 (eBuild [(.int .i64 0),(.int .i64 0),(.int .i64 0),(.bool false),(.bool false)] 5 [(0,1,(constG (.int .i64 2))),(3,1,(constG (.bool true))),(4,1,(constG (.bool true))),(2,1,(constG (.int .i64 3)))]),oP pdN (s_ 5 2 36),o_ 3 (c_ (.bool true))]
def R79_27:CT:=.reg [o_ 37 (eBuild [(.int .i64 0),(.int .i64 0),(.int .i64 0),(.bool false),(.bool false)] 5 []),oP pdN (s_ 5 2 37),o_ 3 (c_ (.bool false))]
def B79 : CT := (.seq R79_0 (.seq (.seq R79_1 (.block 0 (.seq R79_2 (.cond (z_ 5) (.seq R79_3 .ret) (.seq R79_4 (.cond (z_ 8) (.seq R79_5 .ret) (.seq (.seq R79_6 (.cond (z_ 11) .skip R79_7)) (.cond (z_ 11) (.seq R79_8 .ret) (.seq (.seq R79_9 (.cond (z_ 15) .skip (.seq R79_10 (.cond (z_ 15) .skip (.seq R79_11 (.cond (z_ 15) .skip (.seq R79_12 (.cond (z_ 15) .skip R79_13)))))))) (.cond (z_ 15) (.seq R79_14 .ret) (.seq R79_15 (.cond (z_ 22) (.seq R79_16 .ret) (.seq (.seq R79_17 (.cond (z_ 25) .skip R79_18)) (.cond (z_ 25) (.seq R79_19 .ret) (.seq (.seq R79_20 (.cond (z_ 29) .skip (.seq R79_21 (.cond (z_ 29) .skip (.seq R79_22 (.cond (z_ 29) .skip (.seq R79_23 (.cond (z_ 29) .skip (.seq R79_24 (.cond (z_ 29) .skip R79_25)))))))))) (.cond (z_ 29) (.seq R79_26 .ret) .skip)))))))))))))))) (.seq R79_27 .ret)))
def A79 : CF := { res := [rCelN 2 5,rTmp 3],code := B79,nt := 38 }
theorem c79 : ctF Try.prog 79 = some A79 := by kernel_rfl
def R80_0:CT:=.reg [o_ 4 (c_ (.bool false))]
def R80_1:CT:=.reg [o_ 5 (v_ 0),o_ 6 (v_ 1),y_ 7 99 [(z_ 5),(z_ 6)],o_ 8 (d_ (cBin .geq) 7 (.int .i64 0)),o_ 4 (v_ 8)]
def B80 : CT := (.seq R80_0 (.seq R80_1 .ret))
def A80 : CF := { res := [rTmp 4],code := B80,nt := 9 }
theorem c80 : ctF Try.prog 80 = some A80 := by kernel_rfl
def R81_0:CT:=.reg [o_ 2 (x_ 0),o_ 3 (c_ (.bool false))]
def R81_1:CT:=.reg [o_ 4 (n_ 8 2),o_ 5 (l_ 1),y_ 6 33 [(z_ 4),(z_ 5)],o_ 7 (u_ (cUn .not) 6),o_ 3 (v_ 7)]
def B81 : CT := (.seq R81_0 (.seq R81_1 .ret))
def A81 : CF := { res := [rTmp 3],code := B81,nt := 8 }
theorem c81 : ctF Try.prog 81 = some A81 := by kernel_rfl
def R82_0:CT:=.reg [o_ 2 (x_ 0),o_ 4 (c_ (.bool false))]
def R82_1:CT:=.reg [o_ 5 (a_ 3 2),o_ 6 (l_ 5),o_ 7 (u_ (cUn .not) 6)]
def R82_2:CT:=.reg [o_ 8 (v_ 1),o_ 9 (eMkfn (.func 101) [] [(z_ 2)]),y_ 10 100 [(z_ 8),(z_ 9)],o_ 11 (u_ (cUn .not) 10),o_ 4 (v_ 11)]
def R82_3:CT:=.drw [12,13,14,15,16,17,18,19,20,21,22,23,24,25,26,27,28,29,30,31,32,33,34,35] [i_ [2] 12 (a_ 4 2) 1,i_ [12] 13 (l_ 12) 1,i_ [13] 14 (u_ (cUn .not) 13) 1,i_ [14] 15 (v_ 14) 1,goI [15,1] (z_ 15) false (pdT 16) (v_ 1) 1,goI [15,16] (z_ 15) false (pdT 17) (d_ (cIxa 1) 16 (.int .i64 0)) 1,goI [15,17] (z_ 15) false (pdT 18) (l_ 17) 1,goI [15,1] (z_ 15) false (pdT 19) (v_ 1) 1,goI [15,19] (z_ 15) false (pdT 20) (d_ (cIxa 1) 19 (.int .i64 1)) 1,goI [15,20] (z_ 15) false (pdT 21) (l_ 20) 1,goI [15,18,21] (z_ 15) false (pdT 22) (b_ (cEq false .num) 18 21) 1,i_ [15,22] 23 (q_ 15 22) 1,i_ [23] 24 (v_ 23) 1,goI [24,1] (z_ 24) false (pdT 25) (v_ 1) 1,goI [24,25] (z_ 24) false (pdT 26) (d_ (cIxa 1) 25 (.int .i64 0)) 1,goI [24,26] (z_ 24) false (pdT 27) (l_ 26) 1,goI [24,27] (z_ 24) false (pdT 28) (d_ (cEq false .num) 27 (.int .i64 0)) 1,i_ [24,28] 29 (q_ 24 28) 1,i_ [29] 30 (v_ 29) 1,goI [30,1] (z_ 30) false (pdT 31) (v_ 1) 1,goI [30,31] (z_ 30) false (pdT 32) (d_ (cIxa 1) 31 (.int .i64 1)) 1,goI [30,32] (z_ 30) false (pdT 33) (l_ 32) 1,goI [30,33] (z_ 30) false (pdT 34) (d_ (cEq false .num) 33 (.int .i64 0)) 1,i_ [30,34] 35 (q_ 30 34) 1,i_ [35] 4 (v_ 35) 1]
def B82 : CT := (.seq R82_0 (.seq (.seq R82_1 (.cond (z_ 7) (.seq R82_2 .ret) .skip)) (.seq R82_3 .ret)))
def A82 : CF := { res := [rTmp 4],code := B82,nt := 36 }
theorem c82 : ctF Try.prog 82 = some A82 := by kernel_rfl
def R85_0:CT:=.reg [o_ 7 (a_ 0 1),o_ 8 (l_ 7),o_ 9 (u_ cLenL 8),o_ 10 (c_ (.int .i64 0))]
def R85_1:CT:=.reg [o_ 11 (b_ (cBin .lss) 10 9)]
def R85_2:CT:=.reg [o_ 12 (b_ (cIxa 4) 8 10),o_ 13 (n_ 4 12),o_ 4 (eAlloc [(.int .u32 0),(.str []),(.cst (.slice none 0 0)),(.int .u32 0)] 4),oP pdN (s_ 4 4 13)]
def R85_3:CT:=.reg [o_ 14 (v_ 0),o_ 15 (a_ 3 4),o_ 16 (l_ 15),vP (pdT 17) (z_ 14) [(z_ 16)],o_ 18 (u_ (cUn .not) 17)]
def R85_4:CT:=.reg [o_ 19 (d_ (cBin .add) 10 (.int .i64 1)),o_ 10 (v_ 19)]
def L85_0 : CT := (.seq R85_1 (.seq (.cond (z_ 11) .skip (.exit 0)) (.seq (.block 1 (.seq R85_2 (.seq R85_3 (.cond (z_ 18) .ret .skip)))) R85_4)))
def R85_5:CT:=.reg [o_ 20 (a_ 1 1),o_ 21 (l_ 20),o_ 22 (u_ cLenL 21),o_ 23 (c_ (.int .i64 0))]
def R85_6:CT:=.reg [o_ 24 (b_ (cBin .lss) 23 22)]
def R85_7:CT:=.reg [o_ 25 (b_ (cIxa 6) 21 23),o_ 26 (n_ 6 25),o_ 6 (eAlloc [(.int .u32 0),(.int .u32 0),(.str []),(.cst (.slice none 0 0)),(.bool false),(.int .u32 0)] 6),oP pdN (s_ 6 6 26)]
def R85_8:CT:=.reg [o_ 27 (v_ 0),o_ 28 (a_ 5 6),o_ 29 (l_ 28),vP (pdT 30) (z_ 27) [(z_ 29)],o_ 31 (u_ (cUn .not) 30)]
def R85_9:CT:=.reg [o_ 32 (d_ (cBin .add) 23 (.int .i64 1)),o_ 23 (v_ 32)]
def L85_1 : CT := (.seq R85_6 (.seq (.cond (z_ 24) .skip (.exit 2)) (.seq (.block 3 (.seq R85_7 (.seq R85_8 (.cond (z_ 31) .ret .skip)))) R85_9)))
def B85 : CT := (.seq (.seq R85_0 (.block 0 (.loop L85_0))) (.seq R85_5 (.block 2 (.loop L85_1))))
def A85 : CF := { res := [],code := B85,nt := 33 }
theorem c85 : ctF Try.prog 85 = some A85 := by kernel_rfl
def R86_0:CT:=.reg [o_ 4 (c_ (.int .i64 0))]
def R86_1:CT:=.reg [o_ 6 (v_ 0),o_ 7 (u_ cLenL 6),o_ 8 (c_ (.int .i64 0))]
def R86_2:CT:=.reg [o_ 9 (b_ (cBin .lss) 8 7)]
def R86_3:CT:=.reg [o_ 10 (v_ 8),o_ 5 (v_ 10)]
def R86_4:CT:=.reg [o_ 11 (v_ 1),o_ 12 (v_ 0),o_ 13 (v_ 5),o_ 14 (b_ (cIxa 4) 12 13),o_ 15 (n_ 4 14),vP (pdT 16) (z_ 11) [(z_ 15)]]
def R86_5:CT:=.reg [o_ 17 (v_ 5),o_ 4 (v_ 17)]
def R86_6:CT:=.reg [o_ 18 (d_ (cBin .add) 8 (.int .i64 1)),o_ 8 (v_ 18)]
def L86_0 : CT := (.seq R86_2 (.seq (.cond (z_ 9) .skip (.exit 0)) (.seq (.block 1 (.seq R86_3 (.seq R86_4 (.cond (z_ 16) (.seq R86_5 .ret) .skip)))) R86_6)))
def R86_7:CT:=.reg [o_ 4 (c_ (.int .i64 (-1)))]
def B86 : CT := (.seq R86_0 (.seq (.seq R86_1 (.block 0 (.loop L86_0))) (.seq R86_7 .ret)))
def A86 : CF := { res := [rTmp 4],code := B86,nt := 19 }
theorem c86 : ctF Try.prog 86 = some A86 := by kernel_rfl
def R87_0:CT:=.reg [o_ 4 (c_ (.bool false))]
def R87_1:CT:=.reg [o_ 5 (v_ 0),o_ 6 (v_ 1),y_ 7 102 [(z_ 5),(z_ 6)],o_ 8 (d_ (cBin .geq) 7 (.int .i64 0)),o_ 4 (v_ 8)]
def B87 : CT := (.seq R87_0 (.seq R87_1 .ret))
def A87 : CF := { res := [rTmp 4],code := B87,nt := 9 }
theorem c87 : ctF Try.prog 87 = some A87 := by kernel_rfl
def R88_0:CT:=.reg [o_ 4 (c_ (.int .i64 0))]
def R88_1:CT:=.reg [o_ 6 (v_ 0),o_ 7 (u_ cLenL 6),o_ 8 (c_ (.int .i64 0))]
def R88_2:CT:=.reg [o_ 9 (b_ (cBin .lss) 8 7)]
def R88_3:CT:=.reg [o_ 10 (v_ 8),o_ 5 (v_ 10)]
def R88_4:CT:=.reg [o_ 11 (v_ 1),o_ 12 (v_ 0),o_ 13 (v_ 5),o_ 14 (b_ (cIxa 6) 12 13),o_ 15 (n_ 6 14),vP (pdT 16) (z_ 11) [(z_ 15)]]
def R88_5:CT:=.reg [o_ 17 (v_ 5),o_ 4 (v_ 17)]
def R88_6:CT:=.reg [o_ 18 (d_ (cBin .add) 8 (.int .i64 1)),o_ 8 (v_ 18)]
def L88_0 : CT := (.seq R88_2 (.seq (.cond (z_ 9) .skip (.exit 0)) (.seq (.block 1 (.seq R88_3 (.seq R88_4 (.cond (z_ 16) (.seq R88_5 .ret) .skip)))) R88_6)))
def R88_7:CT:=.reg [o_ 4 (c_ (.int .i64 (-1)))]
def B88 : CT := (.seq R88_0 (.seq (.seq R88_1 (.block 0 (.loop L88_0))) (.seq R88_7 .ret)))
def A88 : CF := { res := [rTmp 4],code := B88,nt := 19 }
theorem c88 : ctF Try.prog 88 = some A88 := by kernel_rfl
def R89_0:CT:=.reg [o_ 2 (c_ (.bool false))]
def R89_1:CT:=.reg [o_ 3 (v_ 0)]
def R89_2:CT:=.reg [o_ 5 (d_ (cEq false .num) 3 (.str [97,110,100])),o_ 4 (v_ 5)]
def R89_3:CT:=.reg [o_ 6 (d_ (cEq false .num) 3 (.str [97,115])),o_ 4 (v_ 6)]
def R89_4:CT:=.reg [o_ 7 (d_ (cEq false .num) 3 (.str [98,101,103,105,110])),o_ 4 (v_ 7)]
def R89_5:CT:=.reg [o_ 8 (d_ (cEq false .num) 3 (.str [98,111,111,108])),o_ 4 (v_ 8)]
def R89_6:CT:=.reg [o_ 9 (d_ (cEq false .num) 3 (.str [98,121])),o_ 4 (v_ 9)]
def R89_7:CT:=.reg [o_ 10 (d_ (cEq false .num) 3 (.str [99,111,109,109,105,116])),o_ 4 (v_ 10)]
def R89_8:CT:=.reg [o_ 11 (d_ (cEq false .num) 3 (.str [99,114,101,97,116,101])),o_ 4 (v_ 11)]
def R89_9:CT:=.reg [o_ 12 (d_ (cEq false .num) 3 (.str [100,101,108,101,116,101])),o_ 4 (v_ 12)]
def R89_10:CT:=.reg [o_ 13 (d_ (cEq false .num) 3 (.str [100,101,115,99])),o_ 4 (v_ 13)]
def R89_11:CT:=.reg [o_ 14 (d_ (cEq false .num) 3 (.str [100,105,115,116,105,110,99,116])),o_ 4 (v_ 14)]
def R89_12:CT:=.reg [o_ 15 (d_ (cEq false .num) 3 (.str [100,114,111,112])),o_ 4 (v_ 15)]
def R89_13:CT:=.reg [o_ 17 (d_ (cEq false .num) 3 (.str [102,97,108,115,101])),o_ 16 (v_ 17)]
def R89_14:CT:=.reg [o_ 18 (d_ (cEq false .num) 3 (.str [102,114,111,109])),o_ 16 (v_ 18)]
def R89_15:CT:=.reg [o_ 19 (d_ (cEq false .num) 3 (.str [105,110,100,101,120])),o_ 16 (v_ 19)]
def R89_16:CT:=.reg [o_ 20 (d_ (cEq false .num) 3 (.str [105,110,115,101,114,116])),o_ 16 (v_ 20)]
def R89_17:CT:=.reg [o_ 21 (d_ (cEq false .num) 3 (.str [105,110,116])),o_ 16 (v_ 21)]
def R89_18:CT:=.reg [o_ 22 (d_ (cEq false .num) 3 (.str [105,110,116,111])),o_ 16 (v_ 22)]
def R89_19:CT:=.reg [o_ 23 (d_ (cEq false .num) 3 (.str [105,115])),o_ 16 (v_ 23)]
def R89_20:CT:=.reg [o_ 24 (d_ (cEq false .num) 3 (.str [106,111,105,110])),o_ 16 (v_ 24)]
def R89_21:CT:=.reg [o_ 25 (d_ (cEq false .num) 3 (.str [108,105,109,105,116])),o_ 16 (v_ 25)]
def R89_22:CT:=.reg [o_ 26 (d_ (cEq false .num) 3 (.str [110,111,116])),o_ 16 (v_ 26)]
def R89_23:CT:=.reg [o_ 27 (d_ (cEq false .num) 3 (.str [110,117,108,108])),o_ 16 (v_ 27)]
def R89_24:CT:=.reg [o_ 29 (d_ (cEq false .num) 3 (.str [111,110])),o_ 28 (v_ 29)]
def R89_25:CT:=.reg [o_ 30 (d_ (cEq false .num) 3 (.str [111,114])),o_ 28 (v_ 30)]
def R89_26:CT:=.reg [o_ 31 (d_ (cEq false .num) 3 (.str [111,114,100,101,114])),o_ 28 (v_ 31)]
def R89_27:CT:=.reg [o_ 32 (d_ (cEq false .num) 3 (.str [114,111,108,108,98,97,99,107])),o_ 28 (v_ 32)]
def R89_28:CT:=.reg [o_ 33 (d_ (cEq false .num) 3 (.str [115,101,108,101,99,116])),o_ 28 (v_ 33)]
def R89_29:CT:=.reg [o_ 34 (d_ (cEq false .num) 3 (.str [115,101,116])),o_ 28 (v_ 34)]
def R89_30:CT:=.reg [o_ 35 (d_ (cEq false .num) 3 (.str [116,97,98,108,101])),o_ 28 (v_ 35)]
def R89_31:CT:=.reg [o_ 36 (d_ (cEq false .num) 3 (.str [116,101,120,116])),o_ 28 (v_ 36)]
def R89_32:CT:=.reg [o_ 37 (d_ (cEq false .num) 3 (.str [116,114,117,101])),o_ 28 (v_ 37)]
def R89_33:CT:=.reg [o_ 38 (d_ (cEq false .num) 3 (.str [117,110,105,113,117,101])),o_ 28 (v_ 38)]
def R89_34:CT:=.reg [o_ 39 (d_ (cEq false .num) 3 (.str [117,112,100,97,116,101])),o_ 28 (v_ 39)]
def R89_35:CT:=.reg [o_ 40 (d_ (cEq false .num) 3 (.str [118,97,108,117,101,115])),o_ 28 (v_ 40)]
def R89_36:CT:=.reg [o_ 41 (d_ (cEq false .num) 3 (.str [119,104,101,114,101])),o_ 28 (v_ 41)]
def R89_37:CT:=.reg [o_ 2 (c_ (.bool true))]
def R89_38:CT:=.reg [o_ 2 (c_ (.bool false))]
def B89 : CT := (.seq R89_0 (.seq (.seq R89_1 (.block 0 (.seq (.block 3 (.block 2 (.block 1 (.seq (.seq (.seq (.seq R89_2 (.cond (z_ 4) .skip (.seq R89_3 (.cond (z_ 4) .skip (.seq R89_4 (.cond (z_ 4) .skip (.seq R89_5 (.cond (z_ 4) .skip (.seq R89_6 (.cond (z_ 4) .skip (.seq R89_7 (.cond (z_ 4) .skip (.seq R89_8 (.cond (z_ 4) .skip (.seq R89_9 (.cond (z_ 4) .skip (.seq R89_10 (.cond (z_ 4) .skip (.seq R89_11 (.cond (z_ 4) .skip R89_12)))))))))))))))))))) (.cond (z_ 4) (.exit 1) .skip)) (.seq (.seq (.seq R89_13 (.cond (z_ 16) .skip (.seq R89_14 (.cond (z_ 16) .skip (.seq R89_15 (.cond (z_ 16) .skip (.seq R89_16 (.cond (z_ 16) .skip (.seq R89_17 (.cond (z_ 16) .skip (.seq R89_18 (.cond (z_ 16) .skip (.seq R89_19 (.cond (z_ 16) .skip (.seq R89_20 (.cond (z_ 16) .skip (.seq R89_21 (.cond (z_ 16) .skip (.seq R89_22 (.cond (z_ 16) .skip R89_23)))))))))))))))))))) (.cond (z_ 16) (.exit 2) .skip)) (.seq (.seq R89_24 (.cond (z_ 28) .skip (.seq R89_25 (.cond (z_ 28) .skip (.seq R89_26 (.cond (z_ 28) .skip (.seq R89_27 (.cond (z_ 28) .skip (.seq R89_28 (.cond (z_ 28) .skip (.seq R89_29 (.cond (z_ 28) .skip (.seq R89_30 (.cond (z_ 28) .skip (.seq R89_31 (.cond (z_ 28) .skip (.seq R89_32 (.cond (z_ 28) .skip (.seq R89_33 (.cond (z_ 28) .skip (.seq R89_34 (.cond (z_ 28) .skip (.seq R89_35 (.cond (z_ 28) .skip R89_36)))))))))))))))))))))))) (.cond (z_ 28) (.exit 3) .skip)))) (.exit 0))))) (.seq (.seq R89_37 .ret) (.exit 0))))) (.seq R89_38 .ret)))
def A89 : CF := { res := [rTmp 2],code := B89,nt := 42 }
theorem c89 : ctF Try.prog 89 = some A89 := by kernel_rfl
def R90_0:CT:=.reg [o_ 2 (x_ 0),o_ 4 (c_ (.bool false))]
def R90_1:CT:=.reg [o_ 5 (a_ 0 2),o_ 6 (l_ 5),o_ 7 (v_ 1),o_ 8 (b_ (cEq false .num) 6 7),o_ 9 (v_ 8),g_ 9 10 (a_ 1 2),g_ 9 11 (n_ 3 10),g_ 9 12 (eBuild [(.int .i64 0),(.int .i64 0),(.str [])] 3 []),g_ 9 13 (b_ (cEqA false [.i,.i,.s]) 11 12),o_ 14 (p_ 9 13),o_ 15 (v_ 14),g_ 15 16 (a_ 4 2),g_ 15 17 (l_ 16),g_ 15 18 (d_ (cEq false .num) 17 (.str [])),o_ 19 (p_ 15 18),o_ 20 (v_ 19),g_ 20 21 (a_ 5 2),g_ 20 22 (l_ 21),g_ 20 23 (d_ (cEq false .num) 22 (.str [])),o_ 24 (p_ 20 23),o_ 25 (v_ 24),g_ 25 26 (a_ 6 2),g_ 25 27 (l_ 26),g_ 25 28 (d_ (cEq false .num) 27 (.int .i64 0)),o_ 29 (p_ 25 28),o_ 30 (v_ 29),g_ 30 31 (a_ 7 2),g_ 30 32 (l_ 31),g_ 30 33 (u_ cLenL 32),g_ 30 34 (d_ (cEq false .num) 33 (.int .i64 0)),o_ 35 (p_ 30 34),o_ 4 (v_ 35)]
def B90 : CT := (.seq R90_0 (.seq R90_1 .ret))
def A90 : CF := { res := [rTmp 4],code := B90,nt := 36 }
theorem c90 : ctF Try.prog 90 = some A90 := by kernel_rfl
def R91_0:CT:=.reg [o_ 1 (x_ 0),o_ 2 (c_ (.bool false))]
def R91_1:CT:=.reg [o_ 3 (n_ 8 1),y_ 4 90 [(z_ 3),(constG (.int .i64 0))],o_ 2 (v_ 4)]
def B91 : CT := (.seq R91_0 (.seq R91_1 .ret))
def A91 : CF := { res := [rTmp 2],code := B91,nt := 5 }
theorem c91 : ctF Try.prog 91 = some A91 := by kernel_rfl
def R92_0:CT:=.reg [o_ 2 (x_ 0),o_ 3 (c_ (.bool false))]
def R92_1:CT:=.reg [o_ 4 (a_ 1 2),o_ 5 (l_ 4),o_ 6 (l_ 1),o_ 7 (b_ (cEq false .num) 5 6),o_ 3 (v_ 7)]
def B92 : CT := (.seq R92_0 (.seq R92_1 .ret))
def A92 : CF := { res := [rTmp 3],code := B92,nt := 8 }
theorem c92 : ctF Try.prog 92 = some A92 := by kernel_rfl
def R93_0:CT:=.reg [o_ 2 (c_ (.cst (.slice none 0 0)))]
def R93_1:CT:=.reg [o_ 3 (v_ 0),o_ 4 (d_ (cEq false .slice) 3 (.cst (.slice none 0 0)))]
def R93_2:CT:=.reg [o_ 2 (c_ (.cst (.slice none 0 0)))]
def R93_3:CT:=.reg [o_ 5 (eBslice [(.int .i64 0)] 0 1 []),o_ 6 (v_ 0),o_ 7 (eApp 1 8 (z_ 5) (z_ 6)),o_ 2 (v_ 7)]
def B93 : CT := (.seq R93_0 (.seq (.seq R93_1 (.cond (z_ 4) (.seq R93_2 .ret) .skip)) (.seq R93_3 .ret)))
def A93 : CF := { res := [rTmp 2],code := B93,nt := 8 }
theorem c93 : ctF Try.prog 93 = some A93 := by kernel_rfl
def R94_0:CT:=.reg [o_ 1 (x_ 0),o_ 2 (c_ (.cst (.slice none 0 0)))]
def R94_1:CT:=.reg [o_ 3 (c_ (.cst (.slice none 0 0)))]
def R94_2:CT:=.reg [o_ 8 (a_ 1 1),o_ 9 (l_ 8),o_ 10 (u_ cLenL 9),o_ 11 (c_ (.int .i64 0))]
def R94_3:CT:=.reg [o_ 12 (b_ (cBin .lss) 11 10)]
def R94_4:CT:=.reg [o_ 13 (b_ (cIxa 4) 9 11),o_ 14 (n_ 4 13),o_ 5 (eAlloc [(.int .u32 0),(.str []),(.cst (.slice none 0 0)),(.int .u32 0)] 4),oP pdN (s_ 4 5 14)]
def R94_5:CT:=.reg [o_ 15 (a_ 2 5),o_ 16 (l_ 15),o_ 17 (u_ cLenL 16),o_ 18 (c_ (.int .i64 0))]
def R94_6:CT:=.reg [o_ 19 (b_ (cBin .lss) 18 17)]
def R94_7:CT:=.reg [o_ 20 (b_ (cIxa 3) 16 18),o_ 21 (n_ 3 20),o_ 7 (eAlloc [(.str []),(.int .i64 0),(.bool false)] 3),oP pdN (s_ 3 7 21)]
def R94_8:CT:=.reg [o_ 22 (v_ 3),o_ 23 (a_ 1 7),o_ 24 (l_ 23),o_ 25 (eBslice [(.int .i64 0)] 1 1 [(0,1,(z_ 24))]),o_ 26 (eApp 1 8 (z_ 22) (z_ 25)),o_ 3 (v_ 26)]
def R94_9:CT:=.reg [o_ 27 (d_ (cBin .add) 18 (.int .i64 1)),o_ 18 (v_ 27)]
def L94_0 : CT := (.seq R94_6 (.seq (.cond (z_ 19) .skip (.exit 2)) (.seq (.block 3 (.seq R94_7 R94_8)) R94_9)))
def R94_10:CT:=.reg [o_ 28 (d_ (cBin .add) 11 (.int .i64 1)),o_ 11 (v_ 28)]
def L94_1 : CT := (.seq R94_3 (.seq (.cond (z_ 12) .skip (.exit 0)) (.seq (.block 1 (.seq R94_4 (.seq R94_5 (.block 2 (.loop L94_0))))) R94_10)))
def R94_11:CT:=.reg [o_ 29 (v_ 3),o_ 2 (v_ 29)]
def B94 : CT := (.seq R94_0 (.seq R94_1 (.seq (.seq R94_2 (.block 0 (.loop L94_1))) (.seq R94_11 .ret))))
def A94 : CF := { res := [rTmp 2],code := B94,nt := 30 }
theorem c94 : ctF Try.prog 94 = some A94 := by kernel_rfl
def R95_0:CT:=.reg [o_ 5 (x_ 0),o_ 6 (eAlloc [(.int .i64 0),(.int .i64 0),(.int .i64 0),(.str []),(.str []),(.str []),(.int .i64 0),(.cst (.slice none 0 0))] 8),o_ 7 (c_ (.int .i64 0))]
def R95_1:CT:=.reg [o_ 18 (a_ 0 5),o_ 19 (l_ 18),o_ 20 (d_ (cEq false .num) 19 (.int .i64 2))]
def R95_2:CT:=.reg [o_ 22 (n_ 2 1),o_ 23 (a_ 4 5),o_ 24 (l_ 23),o_ 25 (a_ 5 5),o_ 26 (l_ 25),y_ 27 96 [(z_ 22),(z_ 24),(z_ 26)],o_ 21 (v_ 27),o_ 28 (u_ (cExt 0) 21),o_ 29 (u_ (cExt 1) 21),o_ 8 (v_ 28),o_ 9 (v_ 29)]
def R95_3:CT:=.reg [o_ 30 (l_ 2),o_ 31 (v_ 9),o_ 32 (v_ 9),o_ 33 (d_ (cEq true .num) 32 (.int .i64 0)),y_ 34 22 [(z_ 30),(z_ 31),(z_ 33)]]
def R95_4:CT:=.reg [o_ 35 (v_ 9),o_ 36 (d_ (cEq true .num) 35 (.int .i64 0))]
def R95_5:CT:=.reg [o_ 37 (n_ 8 5),oP pdN (s_ 8 6 37),o_ 7 (c_ (.int .i64 0))]
def R95_6:CT:=.drw [38,39,40,41,42,43] [i_ [8] 38 (v_ 8) 1,i_ [38] 39 (eBuild [(.int .i64 0),(.int .i64 0),(.int .i64 0),(.str []),(.str []),(.str []),(.int .i64 0),(.cst (.slice none 0 0))] 8 [(0,1,(constG (.int .i64 3))),(6,1,(z_ 38))]) 1,j_ [6,39] (s_ 8 6 39),i_ [3] 40 (l_ 3) 2,i_ [8] 41 (v_ 8) 2,i_ [40,41] 42 (b_ (cIxa 1) 40 41) 2,i_ [42] 43 (l_ 42) 2,i_ [43] 7 (v_ 43) 1]
def R95_7:CT:=.reg [o_ 44 (a_ 0 5),o_ 45 (l_ 44),o_ 46 (d_ (cEq false .num) 45 (.int .i64 1))]
def R95_8:CT:=.drw [47,48,49,50] [i_ [5] 47 (n_ 8 5) 1,j_ [6,47] (s_ 8 6 47),i_ [5] 48 (a_ 1 5) 2,i_ [48] 49 (a_ 0 48) 2,i_ [49] 50 (l_ 49) 2,i_ [50] 7 (v_ 50) 1]
def R95_9:CT:=.reg [o_ 51 (a_ 0 5),o_ 52 (l_ 51),o_ 53 (eBuild [(.int .i64 0),(.int .i64 0),(.int .i64 0),(.str []),(.str []),(.str []),(.int .i64 0),(.cst (.slice none 0 0))] 8 [(0,1,(z_ 52))]),o_ 10 (eAlloc [(.int .i64 0),(.int .i64 0),(.int .i64 0),(.str []),(.str []),(.str []),(.int .i64 0),(.cst (.slice none 0 0))] 8),oP pdN (s_ 8 10 53)]
def R95_10:CT:=.reg [o_ 11 (c_ (.cst (.slice none 0 0)))]
def R95_11:CT:=.reg [o_ 54 (a_ 7 5),o_ 55 (l_ 54),o_ 56 (u_ cLenL 55),o_ 57 (c_ (.int .i64 0))]
def R95_12:CT:=.reg [o_ 58 (b_ (cBin .lss) 57 56)]
def R95_13:CT:=.reg [o_ 59 (b_ (cIxa 8) 55 57),o_ 60 (n_ 8 59),o_ 13 (eAlloc [(.int .i64 0),(.int .i64 0),(.int .i64 0),(.str []),(.str []),(.str []),(.int .i64 0),(.cst (.slice none 0 0))] 8),oP pdN (s_ 8 13 60)]
def R95_14:CT:=.reg [o_ 62 (l_ 4),o_ 63 (n_ 8 13),vP (pdT 64) (z_ 62) [(z_ 63)],o_ 61 (v_ 64),o_ 65 (u_ (cExt 0) 61),o_ 66 (u_ (cExt 1) 61),o_ 14 (eAlloc [(.int .i64 0),(.int .i64 0),(.int .i64 0),(.str []),(.str []),(.str []),(.int .i64 0),(.cst (.slice none 0 0))] 8),oP pdN (s_ 8 14 65),o_ 15 (v_ 66)]
def R95_15:CT:=.reg [o_ 67 (a_ 7 10),o_ 68 (l_ 67),o_ 69 (n_ 8 14),o_ 70 (eBslice [(.int .i64 0),(.int .i64 0),(.int .i64 0),(.str []),(.str []),(.str []),(.int .i64 0),(.cst (.slice none 0 0))] 1 8 [(0,8,(z_ 69))]),o_ 71 (eApp 8 104 (z_ 68) (z_ 70)),o_ 72 (v_ 11),o_ 73 (v_ 15),o_ 74 (eBslice [(.int .i64 0)] 1 1 [(0,1,(z_ 73))]),o_ 75 (eApp 1 8 (z_ 72) (z_ 74)),o_ 76 (a_ 7 10),oP pdN (s_ 1 76 71),o_ 11 (v_ 75)]
def R95_16:CT:=.reg [o_ 77 (d_ (cBin .add) 57 (.int .i64 1)),o_ 57 (v_ 77)]
def L95_0 : CT := (.seq R95_12 (.seq (.cond (z_ 58) .skip (.exit 0)) (.seq (.block 1 (.seq R95_13 (.seq R95_14 R95_15))) R95_16)))
def R95_17:CT:=.reg [o_ 79 (a_ 0 5),o_ 80 (l_ 79),y_ 81 79 [(z_ 80)],o_ 78 (v_ 81),o_ 82 (u_ (cExt 0) 78),o_ 83 (u_ (cExt 1) 78),o_ 16 (eAlloc [(.int .i64 0),(.int .i64 0),(.int .i64 0),(.bool false),(.bool false)] 5),oP pdN (s_ 5 16 82),o_ 17 (v_ 83)]
def R95_18:CT:=.drw [84,85,86,87,88,89] [i_ [16] 85 (n_ 5 16) 1,i_ [11] 86 (v_ 11) 1,cI [85,86] (pdT 87) 82 [(z_ 85),(z_ 86)],i_ [2] 84 (l_ 2) 2,i_ [87] 88 (u_ (cUn .not) 87) 1,cI [84,88] (pdT 89) 22 [(z_ 84),(constG (.int .i64 203)),(z_ 88)]]
def R95_19:CT:=.drw [90,91,92] [i_ [10] 90 (n_ 8 10) 1,j_ [6,90] (s_ 8 6 90),i_ [16] 91 (a_ 2 16) 2,i_ [91] 92 (l_ 91) 2,i_ [92] 7 (v_ 92) 1]
def B95 : CT := (.seq R95_0 (.seq (.seq R95_1 (.cond (z_ 20) (.seq R95_2 (.seq R95_3 (.seq (.seq R95_4 (.cond (z_ 36) (.seq R95_5 .ret) .skip)) (.seq R95_6 .ret)))) .skip)) (.seq (.seq R95_7 (.cond (z_ 46) (.seq R95_8 .ret) .skip)) (.seq R95_9 (.seq R95_10 (.seq (.seq R95_11 (.block 0 (.loop L95_0))) (.seq R95_17 (.seq R95_18 (.seq R95_19 .ret)))))))))
def A95 : CF := { res := [rCelN 6 8,rTmp 7],code := B95,nt := 93 }
theorem c95 : ctF Try.prog 95 = some A95 := by kernel_rfl
def R96_0:CT:=.reg [o_ 3 (x_ 0),o_ 5 (x_ 2),o_ 6 (c_ (.int .i64 0)),o_ 7 (c_ (.int .i64 0))]
def R96_1:CT:=.reg [o_ 8 (c_ (.int .i64 0)),o_ 9 (c_ (.int .i64 (-1))),o_ 10 (c_ (.bool false))]
def R96_2:CT:=.reg [o_ 15 (a_ 1 3),o_ 16 (l_ 15),o_ 17 (u_ cLenL 16),o_ 18 (c_ (.int .i64 0))]
def R96_3:CT:=.reg [o_ 19 (b_ (cBin .lss) 18 17)]
def R96_4:CT:=.reg [o_ 20 (v_ 18),o_ 21 (b_ (cIxa 4) 16 18),o_ 22 (n_ 4 21),o_ 12 (eAlloc [(.int .u32 0),(.str []),(.cst (.slice none 0 0)),(.int .u32 0)] 4),o_ 11 (v_ 20),oP pdN (s_ 4 12 22)]
def R96_5:CT:=.reg [o_ 23 (v_ 1),o_ 24 (d_ (cEq false .num) 23 (.str [])),o_ 25 (v_ 24),h_ 25 26 (a_ 0 3),h_ 25 27 (l_ 26),h_ 25 28 (v_ 11),h_ 25 29 (b_ (cIxa 1) 27 28),h_ 25 30 (l_ 29),h_ 25 31 (v_ 1),h_ 25 32 (b_ (cEq false .num) 30 31),o_ 33 (q_ 25 32),o_ 13 (v_ 33)]
def R96_6:CT:=.reg [o_ 34 (v_ 10),o_ 35 (v_ 34),h_ 35 36 (v_ 13),o_ 37 (q_ 35 36),o_ 10 (v_ 37)]
def R96_7:CT:=.reg [o_ 38 (a_ 2 12),o_ 39 (l_ 38),o_ 40 (eMkfn (.func 103) [] [(z_ 5)]),y_ 41 61 [(z_ 39),(z_ 40)],o_ 14 (v_ 41)]
def R96_8:CT:=.reg [o_ 42 (v_ 13),o_ 43 (v_ 42),g_ 43 44 (v_ 14),g_ 43 45 (d_ (cBin .geq) 44 (.int .i64 0)),o_ 46 (p_ 43 45)]
def R96_9:CT:=.reg [o_ 47 (v_ 9),o_ 48 (d_ (cBin .geq) 47 (.int .i64 0))]
def R96_10:CT:=.reg [o_ 6 (c_ (.int .i64 0)),o_ 7 (c_ (.int .i64 205))]
def R96_11:CT:=.reg [o_ 49 (v_ 8),o_ 50 (v_ 14),o_ 51 (b_ (cBin .add) 49 50),o_ 9 (v_ 51)]
def R96_12:CT:=.reg [o_ 52 (v_ 8),o_ 53 (a_ 2 12),o_ 54 (l_ 53),o_ 55 (u_ cLenL 54),o_ 56 (b_ (cBin .add) 52 55),o_ 8 (v_ 56)]
def R96_13:CT:=.reg [o_ 57 (d_ (cBin .add) 18 (.int .i64 1)),o_ 18 (v_ 57)]
def L96_0 : CT := (.seq R96_3 (.seq (.cond (z_ 19) .skip (.exit 0)) (.seq (.block 1 (.seq R96_4 (.seq R96_5 (.seq R96_6 (.seq R96_7 (.seq (.seq R96_8 (.cond (z_ 46) (.seq (.seq R96_9 (.cond (z_ 48) (.seq R96_10 .ret) .skip)) R96_11) .skip)) R96_12)))))) R96_13)))
def R96_14:CT:=.reg [o_ 59 (v_ 9),o_ 60 (d_ (cBin .geq) 59 (.int .i64 0)),o_ 58 (v_ 60)]
def R96_15:CT:=.reg [o_ 61 (v_ 9),o_ 6 (v_ 61),o_ 7 (c_ (.int .i64 0))]
def R96_16:CT:=.reg [o_ 63 (v_ 1),o_ 64 (d_ (cEq true .num) 63 (.str [])),o_ 65 (v_ 64),g_ 65 66 (v_ 10),g_ 65 67 (u_ (cUn .not) 66),o_ 68 (p_ 65 67),o_ 62 (v_ 68)]
def R96_17:CT:=.reg [o_ 6 (c_ (.int .i64 0)),o_ 7 (c_ (.int .i64 200))]
def R96_18:CT:=.reg [o_ 6 (c_ (.int .i64 0)),o_ 7 (c_ (.int .i64 201))]
def B96 : CT := (.seq R96_0 (.seq R96_1 (.seq (.seq R96_2 (.block 0 (.loop L96_0))) (.seq (.block 2 (.seq R96_14 (.cond (z_ 58) (.seq R96_15 .ret) (.seq R96_16 (.cond (z_ 62) (.seq R96_17 .ret) .skip))))) (.seq R96_18 .ret)))))
def A96 : CF := { res := [rTmp 6,rTmp 7],code := B96,nt := 69 }
theorem c96 : ctF Try.prog 96 = some A96 := by kernel_rfl
def R97_0:CT:=.reg [o_ 1 (x_ 0),o_ 2 (eAlloc [(.int .i64 0),(.int .i64 0),(.int .i64 0),(.str []),(.str []),(.str []),(.int .i64 0),(.cst (.slice none 0 0))] 8)]
def R97_1:CT:=.reg [o_ 3 (c_ (.cst (.slice none 0 0)))]
def R97_2:CT:=.reg [o_ 6 (a_ 7 1),o_ 7 (l_ 6),o_ 8 (u_ cLenL 7),o_ 9 (c_ (.int .i64 0))]
def R97_3:CT:=.reg [o_ 10 (b_ (cBin .lss) 9 8)]
def R97_4:CT:=.reg [o_ 11 (b_ (cIxa 8) 7 9),o_ 12 (n_ 8 11),o_ 5 (eAlloc [(.int .i64 0),(.int .i64 0),(.int .i64 0),(.str []),(.str []),(.str []),(.int .i64 0),(.cst (.slice none 0 0))] 8),oP pdN (s_ 8 5 12)]
def R97_5:CT:=.reg [o_ 13 (v_ 3),o_ 14 (n_ 8 5),y_ 15 97 [(z_ 14)],o_ 16 (eBslice [(.int .i64 0),(.int .i64 0),(.int .i64 0),(.str []),(.str []),(.str []),(.int .i64 0),(.cst (.slice none 0 0))] 1 8 [(0,8,(z_ 15))]),o_ 17 (eApp 8 104 (z_ 13) (z_ 16)),o_ 3 (v_ 17)]
def R97_6:CT:=.reg [o_ 18 (d_ (cBin .add) 9 (.int .i64 1)),o_ 9 (v_ 18)]
def L97_0 : CT := (.seq R97_3 (.seq (.cond (z_ 10) .skip (.exit 0)) (.seq (.block 1 (.seq R97_4 R97_5)) R97_6)))
def R97_7:CT:=.reg [o_ 19 (v_ 3),o_ 20 (a_ 7 1),oP pdN (s_ 1 20 19)]
def R97_8:CT:=.reg [o_ 21 (n_ 8 1),oP pdN (s_ 8 2 21)]
def B97 : CT := (.seq R97_0 (.seq R97_1 (.seq (.seq R97_2 (.block 0 (.loop L97_0))) (.seq R97_7 (.seq R97_8 .ret)))))
def A97 : CF := { res := [rCelN 2 8],code := B97,nt := 22 }
theorem c97 : ctF Try.prog 97 = some A97 := by kernel_rfl
def R98_0:CT:=.reg [o_ 4 (c_ (.int .i64 0))]
def R98_1:CT:=.reg [o_ 6 (v_ 0),o_ 7 (u_ cLenL 6),o_ 8 (c_ (.int .i64 0))]
def R98_2:CT:=.reg [o_ 9 (b_ (cBin .lss) 8 7)]
def R98_3:CT:=.reg [o_ 10 (v_ 8),o_ 5 (v_ 10)]
def R98_4:CT:=.reg [o_ 11 (v_ 1),o_ 12 (v_ 0),o_ 13 (v_ 5),o_ 14 (b_ (cIxa 9) 12 13),o_ 15 (n_ 9 14),vP (pdT 16) (z_ 11) [(z_ 15)]]
def R98_5:CT:=.reg [o_ 17 (v_ 5),o_ 4 (v_ 17)]
def R98_6:CT:=.reg [o_ 18 (d_ (cBin .add) 8 (.int .i64 1)),o_ 8 (v_ 18)]
def L98_0 : CT := (.seq R98_2 (.seq (.cond (z_ 9) .skip (.exit 0)) (.seq (.block 1 (.seq R98_3 (.seq R98_4 (.cond (z_ 16) (.seq R98_5 .ret) .skip)))) R98_6)))
def R98_7:CT:=.reg [o_ 4 (c_ (.int .i64 (-1)))]
def B98 : CT := (.seq R98_0 (.seq (.seq R98_1 (.block 0 (.loop L98_0))) (.seq R98_7 .ret)))
def A98 : CF := { res := [rTmp 4],code := B98,nt := 19 }
theorem c98 : ctF Try.prog 98 = some A98 := by kernel_rfl
def R99_0:CT:=.reg [o_ 4 (c_ (.int .i64 0))]
def R99_1:CT:=.reg [o_ 6 (v_ 0),o_ 7 (u_ cLenL 6),o_ 8 (c_ (.int .i64 0))]
def R99_2:CT:=.reg [o_ 9 (b_ (cBin .lss) 8 7)]
def R99_3:CT:=.reg [o_ 10 (v_ 8),o_ 5 (v_ 10)]
def R99_4:CT:=.reg [o_ 11 (v_ 1),o_ 12 (v_ 0),o_ 13 (v_ 5),o_ 14 (b_ (cIxa 8) 12 13),o_ 15 (n_ 8 14),vP (pdT 16) (z_ 11) [(z_ 15)]]
def R99_5:CT:=.reg [o_ 17 (v_ 5),o_ 4 (v_ 17)]
def R99_6:CT:=.reg [o_ 18 (d_ (cBin .add) 8 (.int .i64 1)),o_ 8 (v_ 18)]
def L99_0 : CT := (.seq R99_2 (.seq (.cond (z_ 9) .skip (.exit 0)) (.seq (.block 1 (.seq R99_3 (.seq R99_4 (.cond (z_ 16) (.seq R99_5 .ret) .skip)))) R99_6)))
def R99_7:CT:=.reg [o_ 4 (c_ (.int .i64 (-1)))]
def B99 : CT := (.seq R99_0 (.seq (.seq R99_1 (.block 0 (.loop L99_0))) (.seq R99_7 .ret)))
def A99 : CF := { res := [rTmp 4],code := B99,nt := 19 }
theorem c99 : ctF Try.prog 99 = some A99 := by kernel_rfl
def R100_0:CT:=.reg [o_ 4 (c_ (.bool false))]
def R100_1:CT:=.reg [o_ 5 (v_ 0),o_ 6 (v_ 1),y_ 7 104 [(z_ 5),(z_ 6)],o_ 8 (d_ (cBin .geq) 7 (.int .i64 0)),o_ 4 (v_ 8)]
def B100 : CT := (.seq R100_0 (.seq R100_1 .ret))
def A100 : CF := { res := [rTmp 4],code := B100,nt := 9 }
theorem c100 : ctF Try.prog 100 = some A100 := by kernel_rfl
def R101_0:CT:=.reg [o_ 3 (c_ (.bool false))]
def R101_1:CT:=.reg [o_ 4 (v_ 0),o_ 5 (d_ (cEq true .num) 4 (.int .i64 0)),o_ 6 (v_ 5),g_ 6 7 (v_ 0),g_ 6 8 (a_ 1 1),g_ 6 9 (l_ 8),g_ 6 10 (b_ (cEq true .num) 7 9),o_ 11 (p_ 6 10),o_ 3 (v_ 11)]
def B101 : CT := (.seq R101_0 (.seq R101_1 .ret))
def A101 : CF := { res := [rTmp 3],code := B101,nt := 12 }
theorem c101 : ctF Try.prog 101 = some A101 := by kernel_rfl
def R102_0:CT:=.reg [o_ 4 (c_ (.int .i64 0))]
def R102_1:CT:=.reg [o_ 6 (v_ 0),o_ 7 (u_ cLenL 6),o_ 8 (c_ (.int .i64 0))]
def R102_2:CT:=.reg [o_ 9 (b_ (cBin .lss) 8 7)]
def R102_3:CT:=.reg [o_ 10 (v_ 8),o_ 5 (v_ 10)]
def R102_4:CT:=.reg [o_ 11 (v_ 1),o_ 12 (v_ 0),o_ 13 (v_ 5),o_ 14 (b_ (cIxa 1) 12 13),o_ 15 (l_ 14),o_ 16 (b_ (cEq false .num) 11 15)]
def R102_5:CT:=.reg [o_ 17 (v_ 5),o_ 4 (v_ 17)]
def R102_6:CT:=.reg [o_ 18 (d_ (cBin .add) 8 (.int .i64 1)),o_ 8 (v_ 18)]
def L102_0 : CT := (.seq R102_2 (.seq (.cond (z_ 9) .skip (.exit 0)) (.seq (.block 1 (.seq R102_3 (.seq R102_4 (.cond (z_ 16) (.seq R102_5 .ret) .skip)))) R102_6)))
def R102_7:CT:=.reg [o_ 4 (c_ (.int .i64 (-1)))]
def B102 : CT := (.seq R102_0 (.seq (.seq R102_1 (.block 0 (.loop L102_0))) (.seq R102_7 .ret)))
def A102 : CF := { res := [rTmp 4],code := B102,nt := 19 }
theorem c102 : ctF Try.prog 102 = some A102 := by kernel_rfl
def R103_0:CT:=.reg [o_ 2 (x_ 0),o_ 3 (c_ (.bool false))]
def R103_1:CT:=.reg [o_ 4 (a_ 0 2),o_ 5 (l_ 4),o_ 6 (l_ 1),o_ 7 (b_ (cEq false .num) 5 6),o_ 3 (v_ 7)]
def B103 : CT := (.seq R103_0 (.seq R103_1 .ret))
def A103 : CF := { res := [rTmp 3],code := B103,nt := 8 }
theorem c103 : ctF Try.prog 103 = some A103 := by kernel_rfl
def R104_0:CT:=.reg [o_ 4 (c_ (.int .i64 0))]
def R104_1:CT:=.reg [o_ 6 (v_ 0),o_ 7 (u_ cLenL 6),o_ 8 (c_ (.int .i64 0))]
def R104_2:CT:=.reg [o_ 9 (b_ (cBin .lss) 8 7)]
def R104_3:CT:=.reg [o_ 10 (v_ 8),o_ 5 (v_ 10)]
def R104_4:CT:=.reg [o_ 11 (v_ 1),o_ 12 (v_ 0),o_ 13 (v_ 5),o_ 14 (b_ (cIxa 1) 12 13),o_ 15 (l_ 14),vP (pdT 16) (z_ 11) [(z_ 15)]]
def R104_5:CT:=.reg [o_ 17 (v_ 5),o_ 4 (v_ 17)]
def R104_6:CT:=.reg [o_ 18 (d_ (cBin .add) 8 (.int .i64 1)),o_ 8 (v_ 18)]
def L104_0 : CT := (.seq R104_2 (.seq (.cond (z_ 9) .skip (.exit 0)) (.seq (.block 1 (.seq R104_3 (.seq R104_4 (.cond (z_ 16) (.seq R104_5 .ret) .skip)))) R104_6)))
def R104_7:CT:=.reg [o_ 4 (c_ (.int .i64 (-1)))]
def B104 : CT := (.seq R104_0 (.seq (.seq R104_1 (.block 0 (.loop L104_0))) (.seq R104_7 .ret)))
def A104 : CF := { res := [rTmp 4],code := B104,nt := 19 }
theorem c104 : ctF Try.prog 104 = some A104 := by kernel_rfl
end
end Go.Abs
