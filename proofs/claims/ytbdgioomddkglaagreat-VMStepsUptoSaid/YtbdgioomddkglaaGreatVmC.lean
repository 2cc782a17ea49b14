/- A part. -/
import Derived.Test.YtbdgioomddkglaaGreatProg
import Derived.KernelRfl
import Derived.Test.YtbdgioomddkglaaGreatAbs6
noncomputable section
namespace Go.Abs
open Go.Proofs
set_option maxRecDepth 100000
noncomputable  abbrev pG:=Tryz.prog
abbrev z_ (a:Nat):G:=slotG a
abbrev v_ (a:Nat):Eff:=eMov (slotG a)
abbrev c_ (x:AV):Eff:=eMov (constG x)
abbrev a_ (k a:Nat):Eff:=e1 (cAddo k) (slotG a)
abbrev l_ (a:Nat):Eff:=eLoad1 (slotG a)
abbrev n_ (n a:Nat):Eff:=eLoadN n (slotG a)
abbrev u_ (f:AV->ERes)(a:Nat):Eff:=e1 f (slotG a)
abbrev b_ (f:AV->AV->ERes)(a b:Nat):Eff:=e2 f (slotG a) (slotG b)
abbrev d_ (f:AV->AV->ERes)(a:Nat)(x:AV):Eff:=e2 f (slotG a) (constG x)
abbrev s_ (n a b:Nat):Eff:=eStore n (slotG a) (slotG b)
abbrev p_ (a b:Nat):Eff:=ePick (slotG a) (slotG b) (constG (.bool false))
abbrev q_ (a b:Nat):Eff:=ePick (slotG a) (constG (.bool true)) (slotG b)
abbrev x_ (a:Nat):Eff:=eBox (slotG a)
abbrev o_ (d:Nat)(e:Eff):Option GO:=oP (pdT d) e
abbrev g_ (a d:Nat)(e:Eff):Option GO:=gP (slotG a) true (pdT d) e
abbrev h_ (a d:Nat)(e:Eff):Option GO:=gP (slotG a) false (pdT d) e
abbrev i_ (l:List Nat)(d:Nat)(e:Eff)(c:Nat):Option RO:=oI l (pdT d) e c
abbrev j_ (l:List Nat)(e:Eff):Option RO:=mI l pdN e
abbrev y_ (d:Nat)(f:FuncId)(l:List G):Option GO:=cP (pdT d) f l
abbrev z1_:List AV:=[(.int .i64 0),(.int .i64 0),(.str [])]
@[simp] theorem z1_e:z1_=[(.int .i64 0),(.int .i64 0),(.str [])]:=Eq.trans rfl rfl
abbrev z2_:List AV:=[(.int .u32 0),(.str []),(.cst (.slice none 0 0)),(.int .u32 0)]
@[simp] theorem z2_e:z2_=[(.int .u32 0),(.str []),(.cst (.slice none 0 0)),(.int .u32 0)]:=Eq.trans rfl rfl
abbrev z3_:List AV:=[(.int .u32 0),(.int .u32 0),(.str []),(.cst (.slice none 0 0)),(.bool false),(.int .u32 0)]
@[simp] theorem z3_e:z3_=[(.int .u32 0),(.int .u32 0),(.str []),(.cst (.slice none 0 0)),(.bool false),(.int .u32 0)]:=Eq.trans rfl rfl
abbrev z4_:List AV:=[(.bool false),(.int .i64 0),(.int .i64 0),(.cst (.slice none 0 0)),(.cst (.slice none 0 0))]
@[simp] theorem z4_e:z4_=[(.bool false),(.int .i64 0),(.int .i64 0),(.cst (.slice none 0 0)),(.cst (.slice none 0 0))]:=Eq.trans rfl rfl
abbrev z5_:List AV:=[(.int .i64 0),(.int .i64 0),(.int .i64 0),(.str []),(.str []),(.str []),(.int .i64 0),(.cst (.slice none 0 0))]
@[simp] theorem z5_e:z5_=[(.int .i64 0),(.int .i64 0),(.int .i64 0),(.str []),(.str []),(.str []),(.int .i64 0),(.cst (.slice none 0 0))]:=Eq.trans rfl rfl
abbrev z6_:List AV:=[(.int .i64 0),(.int .i64 0),(.int .i64 0),(.int .i64 0),(.int .i64 0),(.int .i64 0),(.int .i64 0),(.int .u32 0),(.int .i64 0),(.int .i64 0),(.bool false),(.bool false),(.int .i64 0),(.int .i64 0),(.str [])]
@[simp] theorem z6_e:z6_=[(.int .i64 0),(.int .i64 0),(.int .i64 0),(.int .i64 0),(.int .i64 0),(.int .i64 0),(.int .i64 0),(.int .u32 0),(.int .i64 0),(.int .i64 0),(.bool false),(.bool false),(.int .i64 0),(.int .i64 0),(.str [])]:=Eq.trans rfl rfl
abbrev z7_:List AV:=[(.cst .nilIface),(.cst (.slice none 0 0)),(.int .u32 0),(.int .i64 0),(.bool false)]
@[simp] theorem z7_e:z7_=[(.cst .nilIface),(.cst (.slice none 0 0)),(.int .u32 0),(.int .i64 0),(.bool false)]:=Eq.trans rfl rfl
abbrev z8_:List AV:=[(.int .i64 0),(.cst .nilFunc),(.cst .nilFunc),(.int .i64 0),(.cst .nilFunc),(.cst .nilFunc),(.int .i64 0),(.cst .nilFunc),(.cst .nilFunc)]
@[simp] theorem z8_e:z8_=[(.int .i64 0),(.cst .nilFunc),(.cst .nilFunc),(.int .i64 0),(.cst .nilFunc),(.cst .nilFunc),(.int .i64 0),(.cst .nilFunc),(.cst .nilFunc)]:=Eq.trans rfl rfl
abbrev z9_:List AV:=[(.cst .nilFunc),(.cst .nilFunc),(.cst .nilFunc),(.cst .nilFunc),(.cst .nilFunc),(.cst .nilFunc),(.cst .nilFunc),(.cst .nilFunc),(.cst .nilFunc),(.cst .nilFunc),(.cst .nilFunc),(.cst .nilFunc),(.cst .nilFunc),(.cst .nilFunc)]
@[simp] theorem z9_e:z9_=[(.cst .nilFunc),(.cst .nilFunc),(.cst .nilFunc),(.cst .nilFunc),(.cst .nilFunc),(.cst .nilFunc),(.cst .nilFunc),(.cst .nilFunc),(.cst .nilFunc),(.cst .nilFunc),(.cst .nilFunc),(.cst .nilFunc),(.cst .nilFunc),(.cst .nilFunc)]:=Eq.trans rfl rfl
abbrev z10_:List AV:=[(.cst (.slice none 0 0)),(.cst (.slice none 0 0)),(.cst (.slice none 0 0))]
@[simp] theorem z10_e:z10_=[(.cst (.slice none 0 0)),(.cst (.slice none 0 0)),(.cst (.slice none 0 0))]:=Eq.trans rfl rfl
abbrev z11_:List AV:=[(.int .u32 0),(.int .i64 0),(.cst (.slice none 0 0))]
@[simp] theorem z11_e:z11_=[(.int .u32 0),(.int .i64 0),(.cst (.slice none 0 0))]:=Eq.trans rfl rfl
abbrev z12_:List AV:=[(.cst .nilFunc),(.cst .nilFunc),(.cst .nilFunc),(.cst .nilFunc),(.cst .nilFunc),(.cst .nilFunc),(.cst .nilFunc),(.cst .nilFunc),(.cst .nilFunc),(.cst .nilFunc),(.cst .nilFunc),(.cst .nilFunc)]
@[simp] theorem z12_e:z12_=[(.cst .nilFunc),(.cst .nilFunc),(.cst .nilFunc),(.cst .nilFunc),(.cst .nilFunc),(.cst .nilFunc),(.cst .nilFunc),(.cst .nilFunc),(.cst .nilFunc),(.cst .nilFunc),(.cst .nilFunc),(.cst .nilFunc)]:=Eq.trans rfl rfl
abbrev z13_:List AV:=[(.int .u8 0)]
@[simp] theorem z13_e:z13_=[(.int .u8 0)]:=Eq.trans rfl rfl
abbrev z14_:List AV:=[(.cst (.slice none 0 0)),(.bool false),(.int .i64 0),(.int .i64 0),(.str []),(.bool false),(.bool false),(.int .i64 0),(.int .i64 0),(.str []),(.bool false)]
@[simp] theorem z14_e:z14_=[(.cst (.slice none 0 0)),(.bool false),(.int .i64 0),(.int .i64 0),(.str []),(.bool false),(.bool false),(.int .i64 0),(.int .i64 0),(.str []),(.bool false)]:=Eq.trans rfl rfl
abbrev z15_:List AV:=[(.int .u32 0),(.cst (.slice none 0 0)),(.int .i64 0),(.cst .nilFunc)]
@[simp] theorem z15_e:z15_=[(.int .u32 0),(.cst (.slice none 0 0)),(.int .i64 0),(.cst .nilFunc)]:=Eq.trans rfl rfl
abbrev z16_:List AV:=[(.str []),(.int .i64 0),(.bool false)]
@[simp] theorem z16_e:z16_=[(.str []),(.int .i64 0),(.bool false)]:=Eq.trans rfl rfl
abbrev z17_:List AV:=[(.int .i64 0),(.cst .nilFunc),(.cst .nilFunc)]
@[simp] theorem z17_e:z17_=[(.int .i64 0),(.cst .nilFunc),(.cst .nilFunc)]:=Eq.trans rfl rfl
abbrev R_(l:List (Option GO)):CT:=.reg l
@[simp] theorem R_e(l:List (Option GO)):R_ l=.reg l:=Eq.trans rfl rfl
abbrev V_(d a:Nat):Option GO:=o_ d (v_ a)
abbrev A_(d k a:Nat):Option GO:=o_ d (a_ k a)
abbrev L_(d a:Nat):Option GO:=o_ d (l_ a)
abbrev I_(d:Nat)(n:Int):Option GO:=o_ d (c_ (.int .i64 n))
abbrev S_(n a b:Nat):Option GO:=oP pdN (s_ n a b)
abbrev N_(d n a:Nat):Option GO:=o_ d (n_ n a)
abbrev F_(d:Nat):Option GO:=o_ d (c_ (.bool false))
abbrev T_(d:Nat):Option GO:=o_ d (c_ (.bool true))
abbrev E_(d a:Nat):Option GO:=o_ d (u_ cLenL a)
abbrev D_(d a:Nat)(n:Int):Option GO:=o_ d (d_ (cBin .add) a (.int .i64 n))
abbrev B_(d a b:Nat):Option GO:=o_ d (b_ (cBin .lss) a b)
abbrev P_(d a b:Nat):Option GO:=o_ d (p_ a b)
abbrev Q_(d a b:Nat):Option GO:=o_ d (q_ a b)
abbrev X_(d a:Nat):Option GO:=o_ d (x_ a)
abbrev W_(d k a:Nat):Option GO:=o_ d (u_ (cExt k) a)
abbrev J_(d k a b:Nat):Option GO:=o_ d (b_ (cIxa k) a b)
abbrev K_(d a:Nat)(n:Int):Option GO:=o_ d (d_ (cEq false .num) a (.int .i64 n))
abbrev H_(d a:Nat)(n:Int):Option GO:=o_ d (d_ (cEq true .num) a (.int .i64 n))
abbrev ga_(c d k a:Nat):Option GO:=g_ c d (a_ k a)
abbrev gl_(c d a:Nat):Option GO:=g_ c d (l_ a)
abbrev gv_(c d a:Nat):Option GO:=g_ c d (v_ a)
abbrev gn_(c d k a:Nat):Option GO:=g_ c d (n_ k a)
abbrev ha_(c d k a:Nat):Option GO:=h_ c d (a_ k a)
abbrev hl_(c d a:Nat):Option GO:=h_ c d (l_ a)
abbrev hv_(c d a:Nat):Option GO:=h_ c d (v_ a)
abbrev hn_(c d k a:Nat):Option GO:=h_ c d (n_ k a)
abbrev ia_(l:List Nat)(d k a c:Nat):Option RO:=i_ l d (a_ k a) c
abbrev il_(l:List Nat)(d a c:Nat):Option RO:=i_ l d (l_ a) c
abbrev iv_(l:List Nat)(d a c:Nat):Option RO:=i_ l d (v_ a) c
abbrev in_(l:List Nat)(d k a c:Nat):Option RO:=i_ l d (n_ k a) c
abbrev iJ_(l:List Nat)(d k a b c:Nat):Option RO:=i_ l d (b_ (cIxa k) a b) c
abbrev sq(a b:CT):CT:=.seq a b
@[simp] theorem sqe(a b:CT):sq a b=.seq a b:=Eq.trans rfl rfl
abbrev cd(a:Nat)(b c:CT):CT:=.cond (z_ a) b c
@[simp] theorem cde(a:Nat)(b c:CT):cd a b c=.cond (z_ a) b c:=Eq.trans rfl rfl
def R3_0:=R_ [X_ 3 0,X_ 4 1,F_ 6]
def R3_1:=R_ [N_ 24 3 4,y_ 25 5 [z_ 24],V_ 26 25,ha_ 26 27 2 3,hl_ 26 28 27,h_ 26 29 (u_ cLenL 28),h_ 26 30 (d_ (cBin .gtr) 29 (.int .i64 2000)),Q_ 31 26 30,V_ 32 31,hn_ 32 33 3 4,gcP (z_ 32) false (pdT 34) 6 [z_ 33],h_ 32 35 (u_ (cUn .not) 34),Q_ 36 32 35]
def R3_2:=R_ [y_ 37 7 [],V_ 6 37]
def R3_3:=R_ [V_ 38 2,o_ 39 (eMnx minI [z_ 38,(constG (.int .i64 300))]),o_ 40 (eMnx maxI [z_ 39,(constG (.int .i64 0))]),V_ 7 40]
def R3_4:=R_ [N_ 41 3 4,y_ 42 9 [z_ 41],y_ 43 8 [z_ 42],V_ 8 43]
def R3_5:=R_ [N_ 45 3 3,V_ 46 8,y_ 47 10 [z_ 45,z_ 46],V_ 44 47,W_ 48 0 44,W_ 49 1 44,V_ 9 48,V_ 10 49]
def R3_6:=R_ [N_ 51 3 3,V_ 52 8,y_ 53 10 [z_ 51,z_ 52],V_ 50 53,W_ 54 0 50,W_ 55 1 50,V_ 11 54,V_ 12 55]
def R3_7:=R_ [N_ 57 3 3,y_ 58 10 [z_ 57,(constG (.cst .nilIface))],V_ 56 58,W_ 59 0 56,W_ 60 1 56,V_ 13 59,V_ 14 60]
def R3_8:=R_ [V_ 61 10,V_ 62 12,o_ 63 (b_ (cEq true .num) 61 62),V_ 64 63,hv_ 64 65 14,h_ 64 66 (d_ (cEq true .num) 65 (.int .i64 1)),Q_ 67 64 66]
def R3_9:=R_ [F_ 6]
def R3_10:=R_ [V_ 68 10,H_ 69 68 0]
def R3_11:=R_ [V_ 70 10,K_ 71 70 1,V_ 72 71,gn_ 72 73 3 3,gcP (z_ 72) true (pdT 74) 11 [z_ 73],g_ 72 75 (d_ (cEq false .num) 74 (.int .i64 1)),P_ 76 72 75,V_ 77 76,gcP (z_ 77) true (pdT 78) 7 [],P_ 79 77 78,V_ 6 79]
def R3_12:=R_ [I_ 15 0]
def R3_13:=R_ [V_ 80 15,V_ 81 7,B_ 82 80 81]
def R3_14:=R_ [V_ 86 9,y_ 87 12 [z_ 86],V_ 85 87,W_ 88 0 85,W_ 89 1 85,V_ 16 88,V_ 17 89]
def R3_15:=R_ [V_ 90 17,H_ 91 90 0,V_ 92 91,hv_ 92 93 16,hv_ 92 94 9,gcP (z_ 92) false (pdT 95) 13 [z_ 94],h_ 92 96 (u_ (cFld1 0) 95),h_ 92 97 (b_ (cEq true .bool) 93 96),Q_ 98 92 97]
def R3_16:=R_ [F_ 6]
def R3_17:=R_ [V_ 99 15,o_ 100 (d_ (cBin .rem) 99 (.int .i64 3)),K_ 101 100 0]
def R3_18:=R_ [V_ 102 11,y_ 103 12 [z_ 102]]
def R3_19:=R_ [V_ 83 15,D_ 84 83 1,V_ 15 84]
def L3_0:=sq (sq R3_13 (cd 82 .skip (.exit 0))) (sq (.block 1 (sq R3_14 (sq (sq R3_15 (cd 98 (sq R3_16 .ret) .skip)) (sq R3_17 (cd 101 R3_18 .skip))))) R3_19)
def R3_20:=R_ [N_ 105 3 3,N_ 106 3 4,V_ 107 7,y_ 108 14 [z_ 105,z_ 106,z_ 107],V_ 104 108,W_ 109 0 104,W_ 110 1 104,o_ 18 (eAlloc z4_ 5),S_ 5 18 109,V_ 19 110]
def R3_21:CT:=.drw [111,112,113,114,115,116,117,118,119] [iv_ [19] 111 19 1,i_ [111] 112 (d_ (cEq true .num) 111 (.int .i64 0)) 1,iv_ [112] 113 112 1,goI [113,9] (z_ 113) false (pdT 114) (v_ 9) 1,gcI [113,114] (z_ 113) false (pdT 115) 13 [z_ 114],goI [113,18] (z_ 113) false (pdT 116) (n_ 5 18) 2,gcI [113,115,116] (z_ 113) false (pdT 117) 15 [z_ 115,z_ 116],goI [113,117] (z_ 113) false (pdT 118) (u_ (cUn .not) 117) 1,i_ [113,118] 119 (q_ 113 118) 1]
def R3_22:=R_ [F_ 6]
def R3_23:=R_ [N_ 121 3 3,N_ 122 3 4,V_ 123 7,D_ 124 123 7,y_ 125 14 [z_ 121,z_ 122,z_ 124],V_ 120 125,W_ 126 0 120,W_ 127 1 120,o_ 20 (eAlloc z4_ 5),S_ 5 20 126,V_ 21 127]
def R3_24:=R_ [V_ 128 21,H_ 129 128 0,V_ 130 129,ha_ 130 131 0 18,hl_ 130 132 131,hv_ 130 133 132,gn_ 133 134 5 18,gn_ 133 135 5 20,gcP (z_ 133) true (pdT 136) 15 [z_ 134,z_ 135],g_ 133 137 (u_ (cUn .not) 136),h_ 130 138 (p_ 133 137),Q_ 139 130 138,V_ 140 139,ha_ 140 141 0 18,hl_ 140 142 141,h_ 140 143 (u_ (cUn .not) 142),hv_ 140 144 143,ga_ 144 145 1 18,gl_ 144 146 145,gv_ 144 147 7,g_ 144 148 (b_ (cEq true .num) 146 147),h_ 140 149 (p_ 144 148),Q_ 150 140 149]
def R3_25:=R_ [F_ 6]
def R3_26:CT:=.drw [152,153,154,155,156,157,151,158,159,22] [iv_ [11] 154 11 1,cI [154] (pdT 155) 13 [z_ 154],in_ [3] 152 3 3 2,in_ [4] 153 3 4 2,i_ [155] 156 (u_ (cFld1 1) 155) 1,cI [152,153,156] (pdT 157) 14 [z_ 152,z_ 153,z_ 156],iv_ [157] 151 157 1,i_ [151] 158 (u_ (cExt 0) 151) 1,i_ [] 22 (eAlloc z4_ 5) 3,j_ [22,158] (s_ 5 22 158),i_ [151] 159 (u_ (cExt 1) 151) 2,iv_ [159] 23 159 1]
def R3_27:CT:=.drw [160,161,162,163,164,165,166,167,168,169,170] [iv_ [23] 160 23 1,i_ [160] 161 (d_ (cEq false .num) 160 (.int .i64 0)) 1,iv_ [161] 162 161 1,goI [162,11] (z_ 162) true (pdT 163) (v_ 11) 1,gcI [162,163] (z_ 162) true (pdT 164) 13 [z_ 163],goI [162,22] (z_ 162) true (pdT 165) (n_ 5 22) 2,gcI [162,164,165] (z_ 162) true (pdT 166) 15 [z_ 164,z_ 165],i_ [162,166] 167 (p_ 162 166) 1,iv_ [167] 168 167 1,gcI [168] (z_ 168) true (pdT 169) 7 [],i_ [168,169] 170 (p_ 168 169) 1,iv_ [170] 6 170 1]
def B3:=sq R3_0 (sq (sq R3_1 (cd 36 (sq R3_2 .ret) .skip)) (sq R3_3 (sq R3_4 (sq R3_5 (sq R3_6 (sq R3_7 (sq (sq R3_8 (cd 67 (sq R3_9 .ret) .skip)) (sq (sq R3_10 (cd 69 (sq R3_11 .ret) .skip)) (sq (sq R3_12 (.block 0 (.loop L3_0))) (sq R3_20 (sq (sq R3_21 (cd 119 (sq R3_22 .ret) .skip)) (sq R3_23 (sq (sq R3_24 (cd 150 (sq R3_25 .ret) .skip)) (sq R3_26 (sq R3_27 .ret)))))))))))))))
def A3:CF:=⟨[rTmp 6],B3,171⟩
theorem c3:ctF pG 3=some A3:=by kernel_rfl
def R5_0:=R_ [X_ 1 0,F_ 2]
def R5_1:=R_ [I_ 3 0]
def R5_2:=R_ [I_ 4 0]
def R5_3:=R_ [V_ 5 4,A_ 6 2 1,L_ 7 6,E_ 8 7,B_ 9 5 8]
def R5_4:=R_ [V_ 12 3,A_ 13 2 1,L_ 14 13,V_ 15 4,J_ 16 1 14 15,L_ 17 16,E_ 18 17,o_ 19 (b_ (cBin .add) 12 18),V_ 3 19]
def R5_5:=R_ [V_ 10 4,D_ 11 10 1,V_ 4 11]
def L5_0:=sq (sq R5_3 (cd 9 .skip (.exit 0))) (sq (.block 1 R5_4) R5_5)
def R5_6:=R_ [V_ 20 3,o_ 21 (d_ (cBin .gtr) 20 (.int .i64 300)),V_ 2 21]
def B5:=sq R5_0 (sq R5_1 (sq (sq R5_2 (.block 0 (.loop L5_0))) (sq R5_6 .ret)))
def A5:CF:=⟨[rTmp 2],B5,22⟩
theorem c5:ctF pG 5=some A5:=by kernel_rfl
def R6_0:=R_ [X_ 1 0,F_ 2]
def R6_1:=R_ [A_ 6 0 1,N_ 7 2 6,y_ 8 18 [z_ 7],o_ 9 (u_ (cUn .not) 8),V_ 10 9,ha_ 10 11 2 1,hl_ 10 12 11,h_ 10 13 (u_ cLenL 12),ha_ 10 14 0 1,ha_ 10 15 0 14,hl_ 10 16 15,h_ 10 17 (u_ cLenL 16),h_ 10 18 (b_ (cEq true .num) 13 17),Q_ 19 10 18]
def R6_2:=R_ [F_ 2]
def R6_3:=R_ [I_ 3 0]
def R6_4:=R_ [V_ 20 3,A_ 21 2 1,L_ 22 21,E_ 23 22,B_ 24 20 23]
def R6_5:=R_ [A_ 27 0 1,A_ 28 0 27,L_ 29 28,V_ 30 3,J_ 31 4 29 30,N_ 32 4 31,o_ 4 (eAlloc z2_ 4),S_ 4 4 32]
def R6_6:CT:=.drw [33,34,35,36,37,38,39,40,41,42,43,44,45,46,47,48,49,50,51,52,53,54,55,56,57,58,59,60,61,62,63] [ia_ [1] 33 2 1 1,il_ [33] 34 33 1,iv_ [3] 35 3 1,iJ_ [34,35] 36 1 34 35 1,il_ [36] 37 36 1,i_ [37] 38 (u_ cLenL 37) 1,i_ [38] 39 (d_ (cBin .gtr) 38 (.int .i64 4096)) 1,iv_ [39] 40 39 1,goI [40,1] (z_ 40) false (pdT 41) (a_ 0 1) 1,goI [40,41] (z_ 40) false (pdT 42) (n_ 2 41) 1,goI [40,4] (z_ 40) false (pdT 43) (n_ 4 4) 1,goI [40,1] (z_ 40) false (pdT 44) (a_ 2 1) 1,goI [40,44] (z_ 40) false (pdT 45) (l_ 44) 1,goI [40,3] (z_ 40) false (pdT 46) (v_ 3) 1,goI [40,45,46] (z_ 40) false (pdT 47) (b_ (cIxa 1) 45 46) 1,goI [40,47] (z_ 40) false (pdT 48) (l_ 47) 1,gcI [40,42,43,48] (z_ 40) false (pdT 49) 19 [z_ 42,z_ 43,z_ 48],goI [40,49] (z_ 40) false (pdT 50) (d_ (cEq true .num) 49 (.int .i64 0)) 1,i_ [40,50] 51 (q_ 40 50) 1,iv_ [51] 52 51 1,goI [52,1] (z_ 52) false (pdT 53) (a_ 0 1) 1,goI [52,53] (z_ 52) false (pdT 54) (n_ 2 53) 1,goI [52,4] (z_ 52) false (pdT 55) (n_ 4 4) 1,goI [52,1] (z_ 52) false (pdT 56) (a_ 2 1) 1,goI [52,56] (z_ 52) false (pdT 57) (l_ 56) 1,goI [52,3] (z_ 52) false (pdT 58) (v_ 3) 1,goI [52,57,58] (z_ 52) false (pdT 59) (b_ (cIxa 1) 57 58) 1,goI [52,59] (z_ 52) false (pdT 60) (l_ 59) 1,gcI [52,54,55,60] (z_ 52) false (pdT 61) 20 [z_ 54,z_ 55,z_ 60],goI [52,61] (z_ 52) false (pdT 62) (u_ (cUn .not) 61) 1,i_ [52,62] 63 (q_ 52 62) 1]
def R6_7:=R_ [F_ 2]
def R6_8:=R_ [I_ 5 1]
def R6_9:=R_ [V_ 64 5,A_ 65 2 1,L_ 66 65,V_ 67 3,J_ 68 1 66 67,L_ 69 68,E_ 70 69,B_ 71 64 70]
def R6_10:CT:=.drw [74,75,76,77,78,79,80,81,82,83,84,85,86,87,88,89,90,91,92] [ia_ [1] 74 2 1 1,il_ [74] 75 74 1,iv_ [3] 76 3 1,iJ_ [75,76] 77 1 75 76 1,il_ [77] 78 77 1,iv_ [5] 79 5 1,i_ [79] 80 (d_ (cBin .sub) 79 (.int .i64 1)) 1,iJ_ [78,80] 81 1 78 80 1,il_ [81] 82 81 1,ia_ [1] 83 2 1 1,il_ [83] 84 83 1,iv_ [3] 85 3 1,iJ_ [84,85] 86 1 84 85 1,il_ [86] 87 86 1,iv_ [5] 88 5 1,iJ_ [87,88] 89 1 87 88 1,il_ [89] 90 89 1,cI [82,90] (pdT 91) 21 [z_ 82,z_ 90],i_ [91] 92 (d_ (cBin .gtr) 91 (.int .i64 0)) 1]
def R6_11:=R_ [F_ 2]
def R6_12:=R_ [V_ 72 5,D_ 73 72 1,V_ 5 73]
def L6_0:=sq (sq R6_9 (cd 71 .skip (.exit 2))) (sq (.block 3 (sq R6_10 (cd 92 (sq R6_11 .ret) .skip))) R6_12)
def R6_13:=R_ [V_ 25 3,D_ 26 25 1,V_ 3 26]
def L6_1:=sq (sq R6_4 (cd 24 .skip (.exit 0))) (sq (.block 1 (sq R6_5 (sq (sq R6_6 (cd 63 (sq R6_7 .ret) .skip)) (sq R6_8 (.block 2 (.loop L6_0)))))) R6_13)
def R6_14:=R_ [T_ 2]
def B6:=sq R6_0 (sq (sq R6_1 (cd 19 (sq R6_2 .ret) .skip)) (sq (sq R6_3 (.block 0 (.loop L6_1))) (sq R6_14 .ret)))
def A6:CF:=⟨[rTmp 2],B6,93⟩
theorem c6:ctF pG 6=some A6:=by kernel_rfl
def R8_0:=R_ [X_ 1 0,o_ 2 (c_ (.cst .nilIface))]
def R8_1:=R_ [N_ 3 3 1,o_ 4 (eBuild z10_ 3 [(0,3,(z_ 3))]),o_ 5 (u_ (cMkif 71) 4),V_ 2 5]
def B8:=sq R8_0 (sq R8_1 .ret)
def A8:CF:=⟨[rTmp 2],B8,6⟩
theorem c8:ctF pG 8=some A8:=by kernel_rfl
def R9_0:=R_ [X_ 1 0,o_ 2 (eAlloc z10_ 3)]
def R9_1:=R_ [A_ 7 0 1,N_ 8 2 7,y_ 9 24 [z_ 8],o_ 10 (eBuild z10_ 3 [(0,2,(z_ 9))]),o_ 3 (eAlloc z10_ 3),S_ 3 3 10]
def R9_2:=R_ [I_ 4 0]
def R9_3:=R_ [V_ 11 4,A_ 12 2 1,L_ 13 12,E_ 14 13,B_ 15 11 14]
def R9_4:=R_ [o_ 5 (c_ (.cst (.slice none 0 0)))]
def R9_5:=R_ [I_ 6 0]
def R9_6:=R_ [V_ 18 6,A_ 19 2 1,L_ 20 19,V_ 21 4,J_ 22 1 20 21,L_ 23 22,E_ 24 23,B_ 25 18 24]
def R9_7:=R_ [V_ 28 5,o_ 29 (eBslice z1_ 0 3 []),A_ 30 2 1,L_ 31 30,V_ 32 4,J_ 33 1 31 32,L_ 34 33,V_ 35 6,J_ 36 1 34 35,L_ 37 36,o_ 38 (eApp 3 32 (z_ 29) (z_ 37)),o_ 39 (eBslice [(.cst (.slice none 0 0))] 1 1 [(0,1,(z_ 38))]),o_ 40 (eApp 1 24 (z_ 28) (z_ 39)),V_ 5 40]
def R9_8:=R_ [V_ 26 6,D_ 27 26 1,V_ 6 27]
def L9_0:=sq (sq R9_6 (cd 25 .skip (.exit 2))) (sq (.block 3 R9_7) R9_8)
def R9_9:=R_ [A_ 41 2 3,L_ 42 41,V_ 43 5,o_ 44 (eBslice [(.cst (.slice none 0 0))] 1 1 [(0,1,(z_ 43))]),o_ 45 (eApp 1 24 (z_ 42) (z_ 44)),A_ 46 2 3,S_ 1 46 45]
def R9_10:=R_ [V_ 16 4,D_ 17 16 1,V_ 4 17]
def L9_1:=sq (sq R9_3 (cd 15 .skip (.exit 0))) (sq (.block 1 (sq R9_4 (sq (sq R9_5 (.block 2 (.loop L9_0))) R9_9))) R9_10)
def R9_11:=R_ [N_ 47 3 3,S_ 3 2 47]
def B9:=sq R9_0 (sq R9_1 (sq (sq R9_2 (.block 0 (.loop L9_1))) (sq R9_11 .ret)))
def A9:CF:=⟨[rCelN 2 3],B9,48⟩
theorem c9:ctF pG 9=some A9:=by kernel_rfl
def R10_0:=R_ [X_ 2 0,o_ 4 (c_ (.cst (.pointer none))),I_ 5 0]
def R10_1:=R_ [N_ 7 3 2,y_ 8 11 [z_ 7],H_ 9 8 0,V_ 10 9,hv_ 10 11 1,h_ 10 12 (d_ (cEq false .ifacen) 11 (.cst .nilIface)),Q_ 13 10 12]
def R10_2:=R_ [o_ 4 (c_ (.cst (.pointer none))),I_ 5 1]
def R10_3:=R_ [A_ 14 2 2,L_ 15 14,y_ 16 25 [z_ 15],A_ 17 2 2,S_ 1 17 16]
def R10_4:CT:=.drw [18,19,20,21,22,23,24,25,26,27] [in_ [2] 18 3 2 1,iv_ [1] 19 1 1,ia_ [2] 20 0 2 1,il_ [20] 21 20 1,i_ [21,21] 22 (eMksl z1_ 3 32 (z_ 21) (z_ 21)) 1,ia_ [2] 23 1 2 1,il_ [23] 24 23 1,i_ [24,24] 25 (eMksl z7_ 5 64 (z_ 24) (z_ 24)) 1,i_ [18,19,22,25] 26 (eBuild [.int .i64 0,.int .i64 0,(.cst (.slice none 0 0)),(.cst .nilIface),.int .i64 0,(.cst (.slice none 0 0)),(.cst (.slice none 0 0)),.int .i64 0,.bool false,.bool false,.int .i64 0,(.cst (.slice none 0 0)),(.cst (.slice none 0 0))] 13 [(0,3,(z_ 18)),(3,1,(z_ 19)),(5,1,(z_ 22)),(6,1,(z_ 25))]) 1,i_ [26] 27 (x_ 26) 1,iv_ [27] 6 27 1]
def R10_5:=R_ [V_ 28 6,A_ 29 2 2,L_ 30 29,E_ 31 30,K_ 32 31 0,o_ 33 (eNilc (z_ 28)),A_ 34 8 33,S_ 1 34 32]
def R10_6:=R_ [V_ 35 6,V_ 4 35,I_ 5 0]
def B10:=sq R10_0 (sq (sq R10_1 (cd 13 (sq R10_2 .ret) .skip)) (sq R10_3 (sq R10_4 (sq R10_5 (sq R10_6 .ret)))))
def A10:CF:=⟨[rTmp 4,rTmp 5],B10,36⟩
theorem c10:ctF pG 10=some A10:=by kernel_rfl
def R11_0:=R_ [X_ 1 0,I_ 2 0]
def R11_1:=R_ [A_ 5 0 1,L_ 6 5,o_ 7 (d_ (cBin .lss) 6 (.int .i64 0)),V_ 8 7,ha_ 8 9 0 1,hl_ 8 10 9,h_ 8 11 (d_ (cBin .gtr) 10 (.int .i64 256)),Q_ 12 8 11,V_ 13 12,ha_ 13 14 1 1,hl_ 13 15 14,h_ 13 16 (d_ (cBin .lss) 15 (.int .i64 0)),Q_ 17 13 16,V_ 18 17,ha_ 18 19 1 1,hl_ 18 20 19,h_ 18 21 (d_ (cBin .gtr) 20 (.int .i64 4)),Q_ 22 18 21,V_ 23 22,ha_ 23 24 2 1,hl_ 23 25 24,h_ 23 26 (u_ cLenL 25),h_ 23 27 (d_ (cBin .gtr) 26 (.int .i64 8192)),Q_ 28 23 27]
def R11_2:=R_ [I_ 2 1]
def R11_3:=R_ [A_ 29 2 1,L_ 30 29,E_ 31 30,I_ 32 0]
def R11_4:=R_ [B_ 33 32 31]
def R11_5:=R_ [J_ 34 15 30 32,N_ 35 15 34,o_ 4 (eAlloc z6_ 15),S_ 15 4 35]
def R11_6:=R_ [N_ 36 3 1,N_ 37 15 4,y_ 38 26 [z_ 36,z_ 37],o_ 39 (u_ (cUn .not) 38)]
def R11_7:=R_ [I_ 2 1]
def R11_8:=R_ [D_ 40 32 1,V_ 32 40]
def L11_0:=sq R11_4 (sq (cd 33 .skip (.exit 0)) (sq (.block 1 (sq R11_5 (sq R11_6 (cd 39 (sq R11_7 .ret) .skip)))) R11_8))
def R11_9:=R_ [I_ 2 0]
def B11:=sq R11_0 (sq (sq R11_1 (cd 28 (sq R11_2 .ret) .skip)) (sq (sq R11_3 (.block 0 (.loop L11_0))) (sq R11_9 .ret)))
def A11:CF:=⟨[rTmp 2],B11,41⟩
theorem c11:ctF pG 11=some A11:=by kernel_rfl
def R12_0:=R_ [F_ 2,I_ 3 0]
def R12_1:=R_ [V_ 7 0,o_ 8 (d_ (cEq false .ptr) 7 (.cst (.pointer none)))]
def R12_2:=R_ [T_ 2,I_ 3 1]
def R12_3:=R_ [V_ 9 0,o_ 10 (eNilc (z_ 9)),A_ 11 8 10,L_ 12 11]
def R12_4:=R_ [T_ 2,I_ 3 0]
def R12_5:CT:=.drw [13,14,15,16,17,18,19,20,21,22,23,4] [iv_ [0] 13 0 1,i_ [13] 14 (eNilc (z_ 13)) 1,ia_ [14] 15 0 14 1,ia_ [15] 16 2 15 1,il_ [16] 17 16 1,iv_ [0] 18 0 1,i_ [18] 19 (eNilc (z_ 18)) 1,ia_ [19] 20 4 19 1,il_ [20] 21 20 1,iJ_ [17,21] 22 15 17 21 1,in_ [22] 23 15 22 1,i_ [] 4 (eAlloc z6_ 15) 1,j_ [4,23] (s_ 15 4 23)]
def R12_6:CT:=.drw [25,26,27,28,29,30,31,24,32,33] [cI [] (pdT 25) 27 [],ia_ [4] 26 0 4 2,il_ [26] 27 26 2,i_ [25,27] 28 (b_ (cIxv 12 1 false) 25 27) 1,iv_ [0] 29 0 2,in_ [4] 30 15 4 2,vI [28,29,30] (pdT 31) (z_ 28) [z_ 29,z_ 30],iv_ [31] 24 31 1,i_ [24] 32 (u_ (cExt 0) 24) 1,i_ [24] 33 (u_ (cExt 1) 24) 1,iv_ [32] 5 32 1,iv_ [33] 6 33 1]
def R12_7:=R_ [V_ 34 6,H_ 35 34 0]
def R12_8:=R_ [V_ 36 6,F_ 2,V_ 3 36]
def R12_9:=R_ [V_ 37 0,o_ 38 (eNilc (z_ 37)),A_ 39 7 38,L_ 40 39,D_ 41 40 1,o_ 42 (eNilc (z_ 37)),A_ 43 7 42,S_ 1 43 41]
def R12_10:=R_ [V_ 44 5,o_ 45 (d_ (cBin .lss) 44 (.int .i64 0))]
def R12_11:=R_ [V_ 46 0,o_ 47 (eNilc (z_ 46)),A_ 48 4 47,L_ 49 48,D_ 50 49 1,V_ 5 50]
def R12_12:=R_ [V_ 51 0,V_ 52 5,o_ 53 (eNilc (z_ 51)),A_ 54 4 53,S_ 1 54 52]
def R12_13:CT:=.drw [55,56,57,58,59,60,61,62,63,64,65,66,67,68,69,70,71,72,73,74] [iv_ [0] 55 0 1,iv_ [0] 56 0 1,i_ [56] 57 (eNilc (z_ 56)) 1,ia_ [57] 58 8 57 1,il_ [58] 59 58 1,iv_ [59] 60 59 1,goI [60,0] (z_ 60) false (pdT 61) (v_ 0) 1,goI [60,61] (z_ 60) false (pdT 62) (eNilc (z_ 61)) 1,goI [60,62] (z_ 60) false (pdT 63) (a_ 4 62) 1,goI [60,63] (z_ 60) false (pdT 64) (l_ 63) 1,goI [60,0] (z_ 60) false (pdT 65) (v_ 0) 1,goI [60,65] (z_ 60) false (pdT 66) (eNilc (z_ 65)) 1,goI [60,66] (z_ 60) false (pdT 67) (a_ 0 66) 1,goI [60,67] (z_ 60) false (pdT 68) (a_ 2 67) 1,goI [60,68] (z_ 60) false (pdT 69) (l_ 68) 1,goI [60,69] (z_ 60) false (pdT 70) (u_ cLenL 69) 1,goI [60,64,70] (z_ 60) false (pdT 71) (b_ (cEq false .num) 64 70) 1,i_ [60,71] 72 (q_ 60 71) 1,i_ [55] 73 (eNilc (z_ 55)) 1,ia_ [73] 74 8 73 1,j_ [74,72] (s_ 1 74 72)]
def R12_14:=R_ [V_ 75 0,o_ 76 (eNilc (z_ 75)),A_ 77 8 76,L_ 78 77,V_ 2 78,I_ 3 0]
def B12:=sq R12_0 (sq (sq R12_1 (cd 8 (sq R12_2 .ret) .skip)) (sq (sq R12_3 (cd 12 (sq R12_4 .ret) .skip)) (sq R12_5 (sq R12_6 (sq (sq R12_7 (cd 35 (sq R12_8 .ret) .skip)) (sq R12_9 (sq (sq R12_10 (cd 45 R12_11 .skip)) (sq R12_12 (sq R12_13 (sq R12_14 .ret))))))))))
def A12:CF:=⟨[rTmp 2,rTmp 3],B12,79⟩
theorem c12:ctF pG 12=some A12:=by kernel_rfl
def R13_0:=R_ [o_ 2 (eAlloc z4_ 5)]
def R13_1:=R_ [V_ 8 0,o_ 9 (d_ (cEq false .ptr) 8 (.cst (.pointer none)))]
def R13_2:=R_ [o_ 10 (eBuild z4_ 5 []),S_ 5 2 10]
def R13_3:CT:=.drw [11,12,13,14,15,16,17,18,19,3] [iv_ [0] 11 0 1,i_ [11] 12 (eNilc (z_ 11)) 1,ia_ [12] 13 8 12 1,il_ [13] 14 13 1,iv_ [0] 15 0 1,i_ [15] 16 (eNilc (z_ 15)) 1,ia_ [16] 17 7 16 1,il_ [17] 18 17 1,i_ [14,18] 19 (eBuild z4_ 5 [(0,1,(z_ 14)),(1,1,(z_ 18))]) 1,i_ [] 3 (eAlloc z4_ 5) 1,j_ [3,19] (s_ 5 3 19)]
def R13_4:=R_ [V_ 59 0,o_ 60 (eNilc (z_ 59)),A_ 61 8 60,L_ 62 61,o_ 63 (u_ (cUn .not) 62),V_ 58 63]
def R13_5:=R_ [V_ 65 0,o_ 66 (eNilc (z_ 65)),A_ 67 9 66,L_ 68 67,V_ 64 68]
def R13_6:=R_ [A_ 69 2 3,oP pdN (eStore 1 (z_ 69) (constG (.int .i64 4)))]
def R13_7:=R_ [V_ 71 0,o_ 72 (eNilc (z_ 71)),A_ 73 10 72,L_ 74 73,H_ 75 74 0,V_ 70 75]
def R13_8:=R_ [V_ 76 0,o_ 77 (eNilc (z_ 76)),A_ 78 10 77,L_ 79 78,A_ 80 2 3,S_ 1 80 79]
def R13_9:=R_ [V_ 20 0,o_ 21 (eNilc (z_ 20)),A_ 22 11 21,L_ 23 22,E_ 24 23,I_ 25 0]
def R13_10:=R_ [B_ 26 25 24]
def R13_11:=R_ [J_ 27 1 23 25,L_ 28 27,V_ 5 28]
def R13_12:CT:=.drw [29,30,31,32,33,34,35] [iv_ [5] 31 5 1,cI [31] (pdT 32) 28 [z_ 31],ia_ [3] 29 3 3 2,il_ [29] 30 29 2,i_ [32] 33 (eBslice [(.cst (.slice none 0 0))] 1 1 [(0,1,(z_ 32))]) 1,mI [30,33] (pdT 34) (eApp 1 24 (z_ 30) (z_ 33)),ia_ [3] 35 3 3 1,j_ [35,34] (s_ 1 35 34)]
def R13_13:=R_ [D_ 36 25 1,V_ 25 36]
def L13_0:=sq R13_10 (sq (cd 26 .skip (.exit 1)) (sq (.block 2 (sq R13_11 R13_12)) R13_13))
def R13_14:=R_ [V_ 37 0,o_ 38 (eNilc (z_ 37)),A_ 39 12 38,L_ 40 39,E_ 41 40,I_ 42 0]
def R13_15:=R_ [B_ 43 42 41]
def R13_16:=R_ [J_ 44 3 40 42,N_ 45 3 44,o_ 7 (eAlloc z11_ 3),S_ 3 7 45]
def R13_17:CT:=.drw [46,47,48,49,50,51,52,53,54,55,56] [ia_ [7] 50 2 7 1,il_ [50] 51 50 1,cI [51] (pdT 52) 28 [z_ 51],ia_ [3] 46 4 3 2,il_ [46] 47 46 2,ia_ [7] 48 0 7 2,in_ [48] 49 2 48 2,i_ [49,52] 53 (eBuild z11_ 3 [(0,2,(z_ 49)),(2,1,(z_ 52))]) 1,i_ [53] 54 (eBslice z11_ 1 3 [(0,3,(z_ 53))]) 1,mI [47,54] (pdT 55) (eApp 3 40 (z_ 47) (z_ 54)),ia_ [3] 56 4 3 1,j_ [56,55] (s_ 1 56 55)]
def R13_18:=R_ [D_ 57 42 1,V_ 42 57]
def L13_1:=sq R13_15 (sq (cd 43 .skip (.exit 3)) (sq (.block 4 (sq R13_16 R13_17)) R13_18))
def R13_19:=R_ [N_ 81 5 3,S_ 5 2 81]
def B13:=sq R13_0 (sq (sq R13_1 (cd 9 (sq R13_2 .ret) .skip)) (sq R13_3 (sq (.block 0 (sq R13_4 (cd 58 .skip (sq R13_5 (cd 64 R13_6 (sq R13_7 (cd 70 R13_8 (sq (sq R13_9 (.block 1 (.loop L13_0))) (sq R13_14 (.block 3 (.loop L13_1))))))))))) (sq R13_19 .ret))))
def A13:CF:=⟨[rCelN 2 5],B13,82⟩
theorem c13:ctF pG 13=some A13:=by kernel_rfl
def R14_0:=R_ [X_ 3 0,X_ 4 1,o_ 6 (eAlloc z4_ 5),I_ 7 0]
def R14_1:=R_ [V_ 10 2,o_ 11 (d_ (cBin .lss) 10 (.int .i64 0)),V_ 12 11,hn_ 12 13 3 4,gcP (z_ 12) false (pdT 14) 29 [z_ 13],h_ 12 15 (u_ (cUn .not) 14),Q_ 16 12 15]
def R14_2:=R_ [o_ 17 (eBuild z4_ 5 []),S_ 5 6 17,I_ 7 1]
def R14_3:CT:=.drw [19,20,21,22,18,23,24] [in_ [4] 20 3 4 1,cI [20] (pdT 21) 8 [z_ 20],in_ [3] 19 3 3 2,cI [19,21] (pdT 22) 10 [z_ 19,z_ 21],iv_ [22] 18 22 1,i_ [18] 23 (u_ (cExt 0) 18) 1,i_ [18] 24 (u_ (cExt 1) 18) 1,iv_ [23] 8 23 1,iv_ [24] 9 24 1]
def R14_4:=R_ [V_ 25 9,H_ 26 25 0]
def R14_5:=R_ [o_ 27 (eBuild z4_ 5 []),V_ 28 9,S_ 5 6 27,V_ 7 28]
def R14_6:=R_ [V_ 29 8,o_ 30 (eNilc (z_ 29)),A_ 31 7 30,L_ 32 31,V_ 33 2,B_ 34 32 33,V_ 35 34,gv_ 35 36 8,g_ 35 37 (eNilc (z_ 36)),ga_ 35 38 8 37,gl_ 35 39 38,g_ 35 40 (u_ (cUn .not) 39),P_ 41 35 40]
def R14_7:=R_ [V_ 42 8,y_ 43 12 [z_ 42]]
def L14_0:=sq (sq R14_6 (cd 41 .skip (.exit 0))) (.block 1 R14_7)
def R14_8:=R_ [V_ 44 8,y_ 45 13 [z_ 44],S_ 5 6 45,I_ 7 0]
def B14:=sq R14_0 (sq (sq R14_1 (cd 16 (sq R14_2 .ret) .skip)) (sq R14_3 (sq (sq R14_4 (cd 26 (sq R14_5 .ret) .skip)) (sq (.block 0 (.loop L14_0)) (sq R14_8 .ret)))))
def A14:CF:=⟨[rCelN 6 5,rTmp 7],B14,46⟩
theorem c14:ctF pG 14=some A14:=by kernel_rfl
def R15_0:=R_ [X_ 2 0,X_ 3 1,F_ 4]
def R15_1:=R_ [A_ 6 0 2,L_ 7 6,A_ 8 0 3,L_ 9 8,o_ 10 (b_ (cEq true .bool) 7 9),V_ 11 10,ha_ 11 12 1 2,hl_ 11 13 12,ha_ 11 14 1 3,hl_ 11 15 14,h_ 11 16 (b_ (cEq true .num) 13 15),Q_ 17 11 16,V_ 18 17,ha_ 18 19 2 2,hl_ 18 20 19,ha_ 18 21 2 3,hl_ 18 22 21,h_ 18 23 (b_ (cEq true .num) 20 22),Q_ 24 18 23,V_ 25 24,ha_ 25 26 3 2,hl_ 25 27 26,ha_ 25 28 3 3,hl_ 25 29 28,gcP (z_ 25) false (pdT 30) 30 [z_ 27,z_ 29],h_ 25 31 (u_ (cUn .not) 30),Q_ 32 25 31,V_ 33 32,ha_ 33 34 4 2,hl_ 33 35 34,h_ 33 36 (u_ cLenL 35),ha_ 33 37 4 3,hl_ 33 38 37,h_ 33 39 (u_ cLenL 38),h_ 33 40 (b_ (cEq true .num) 36 39),Q_ 41 33 40]
def R15_2:=R_ [F_ 4]
def R15_3:=R_ [I_ 5 0]
def R15_4:=R_ [V_ 42 5,A_ 43 4 2,L_ 44 43,E_ 45 44,B_ 46 42 45]
def R15_5:CT:=.drw [49,50,51,52,53,54,55,56,57,58,59,60,61,62,63,64,65,66,67,68,69,70,71,72,73,74,75,76,77] [ia_ [2] 49 4 2 1,il_ [49] 50 49 1,iv_ [5] 51 5 1,iJ_ [50,51] 52 3 50 51 1,ia_ [52] 53 0 52 1,in_ [53] 54 2 53 1,ia_ [3] 55 4 3 1,il_ [55] 56 55 1,iv_ [5] 57 5 1,iJ_ [56,57] 58 3 56 57 1,ia_ [58] 59 0 58 1,in_ [59] 60 2 59 1,i_ [54,60] 61 (b_ (cEqA true [.i,.i]) 54 60) 1,iv_ [61] 62 61 1,goI [62,2] (z_ 62) false (pdT 63) (a_ 4 2) 1,goI [62,63] (z_ 62) false (pdT 64) (l_ 63) 1,goI [62,5] (z_ 62) false (pdT 65) (v_ 5) 1,goI [62,64,65] (z_ 62) false (pdT 66) (b_ (cIxa 3) 64 65) 1,goI [62,66] (z_ 62) false (pdT 67) (a_ 2 66) 1,goI [62,67] (z_ 62) false (pdT 68) (l_ 67) 1,goI [62,3] (z_ 62) false (pdT 69) (a_ 4 3) 1,goI [62,69] (z_ 62) false (pdT 70) (l_ 69) 1,goI [62,5] (z_ 62) false (pdT 71) (v_ 5) 1,goI [62,70,71] (z_ 62) false (pdT 72) (b_ (cIxa 3) 70 71) 1,goI [62,72] (z_ 62) false (pdT 73) (a_ 2 72) 1,goI [62,73] (z_ 62) false (pdT 74) (l_ 73) 1,gcI [62,68,74] (z_ 62) false (pdT 75) 31 [z_ 68,z_ 74],goI [62,75] (z_ 62) false (pdT 76) (u_ (cUn .not) 75) 1,i_ [62,76] 77 (q_ 62 76) 1]
def R15_6:=R_ [F_ 4]
def R15_7:=R_ [V_ 47 5,D_ 48 47 1,V_ 5 48]
def L15_0:=sq (sq R15_4 (cd 46 .skip (.exit 0))) (sq (.block 1 (sq R15_5 (cd 77 (sq R15_6 .ret) .skip))) R15_7)
def R15_8:=R_ [T_ 4]
def B15:=sq R15_0 (sq (sq R15_1 (cd 41 (sq R15_2 .ret) .skip)) (sq (sq R15_3 (.block 0 (.loop L15_0))) (sq R15_8 .ret)))
def A15:CF:=⟨[rTmp 4],B15,78⟩
theorem c15:ctF pG 15=some A15:=by kernel_rfl
def R18_0:=R_ [X_ 1 0,F_ 2]
def R18_1:=R_ [A_ 14 0 1,L_ 15 14,E_ 16 15,o_ 17 (d_ (cBin .gtr) 16 (.int .i64 32)),V_ 18 17,ha_ 18 19 1 1,hl_ 18 20 19,h_ 18 21 (u_ cLenL 20),h_ 18 22 (d_ (cBin .gtr) 21 (.int .i64 64)),Q_ 23 18 22]
def R18_2:=R_ [F_ 2]
def R18_3:=R_ [N_ 24 2 1,y_ 25 35 [z_ 24],V_ 3 25]
def R18_4:=R_ [I_ 4 0]
def R18_5:=R_ [V_ 26 4,V_ 27 3,E_ 28 27,B_ 29 26 28]
def R18_6:=R_ [I_ 5 0]
def R18_7:=R_ [V_ 32 5,V_ 33 4,B_ 34 32 33]
def R18_8:CT:=.drw [37,38,39,40,41,42,43,44,45] [iv_ [3] 37 3 1,iv_ [5] 38 5 1,iJ_ [37,38] 39 1 37 38 1,il_ [39] 40 39 1,iv_ [3] 41 3 1,iv_ [4] 42 4 1,iJ_ [41,42] 43 1 41 42 1,il_ [43] 44 43 1,i_ [40,44] 45 (b_ (cEq false .num) 40 44) 1]
def R18_9:=R_ [F_ 2]
def R18_10:=R_ [V_ 35 5,D_ 36 35 1,V_ 5 36]
def L18_0:=sq (sq R18_7 (cd 34 .skip (.exit 2))) (sq (.block 3 (sq R18_8 (cd 45 (sq R18_9 .ret) .skip))) R18_10)
def R18_11:=R_ [V_ 46 3,V_ 47 4,J_ 48 1 46 47,L_ 49 48,o_ 50 (d_ (cEq false .num) 49 (.int .u32 0))]
def R18_12:=R_ [F_ 2]
def R18_13:=R_ [V_ 30 4,D_ 31 30 1,V_ 4 31]
def L18_1:=sq (sq R18_5 (cd 29 .skip (.exit 0))) (sq (.block 1 (sq (sq R18_6 (.block 2 (.loop L18_0))) (sq R18_11 (cd 50 (sq R18_12 .ret) .skip)))) R18_13)
def R18_14:=R_ [I_ 6 0]
def R18_15:=R_ [V_ 51 6,A_ 52 0 1,L_ 53 52,E_ 54 53,B_ 55 51 54]
def R18_16:=R_ [A_ 58 0 1,L_ 59 58,V_ 60 6,J_ 61 4 59 60,N_ 62 4 61,o_ 7 (eAlloc z2_ 4),S_ 4 7 62]
def R18_17:=R_ [A_ 63 0 7,L_ 64 63,o_ 65 (d_ (cEq false .num) 64 (.int .u32 0)),V_ 66 65,ha_ 66 67 1 7,hl_ 66 68 67,gcP (z_ 66) false (pdT 69) 36 [z_ 68],h_ 66 70 (u_ (cUn .not) 69),Q_ 71 66 70,V_ 72 71,ha_ 72 73 2 7,hl_ 72 74 73,gcP (z_ 72) false (pdT 75) 37 [z_ 74],h_ 72 76 (u_ (cUn .not) 75),Q_ 77 72 76]
def R18_18:=R_ [F_ 2]
def R18_19:=R_ [I_ 8 0]
def R18_20:=R_ [V_ 78 8,V_ 79 6,B_ 80 78 79]
def R18_21:CT:=.drw [83,84,85,86,87,88,89,90,91,92,93,94,95,96,97,98,99,100,101,102] [ia_ [1] 83 0 1 1,il_ [83] 84 83 1,iv_ [8] 85 8 1,iJ_ [84,85] 86 4 84 85 1,ia_ [86] 87 0 86 1,il_ [87] 88 87 1,ia_ [7] 89 0 7 1,il_ [89] 90 89 1,i_ [88,90] 91 (b_ (cBin .geq) 88 90) 1,iv_ [91] 92 91 1,goI [92,1] (z_ 92) false (pdT 93) (a_ 0 1) 1,goI [92,93] (z_ 92) false (pdT 94) (l_ 93) 1,goI [92,8] (z_ 92) false (pdT 95) (v_ 8) 1,goI [92,94,95] (z_ 92) false (pdT 96) (b_ (cIxa 4) 94 95) 1,goI [92,96] (z_ 92) false (pdT 97) (a_ 1 96) 1,goI [92,97] (z_ 92) false (pdT 98) (l_ 97) 1,goI [92,7] (z_ 92) false (pdT 99) (a_ 1 7) 1,goI [92,99] (z_ 92) false (pdT 100) (l_ 99) 1,goI [92,98,100] (z_ 92) false (pdT 101) (b_ (cEq false .num) 98 100) 1,i_ [92,101] 102 (q_ 92 101) 1]
def R18_22:=R_ [F_ 2]
def R18_23:=R_ [V_ 81 8,D_ 82 81 1,V_ 8 82]
def L18_2:=sq (sq R18_20 (cd 80 .skip (.exit 6))) (sq (.block 7 (sq R18_21 (cd 102 (sq R18_22 .ret) .skip))) R18_23)
def R18_24:=R_ [V_ 56 6,D_ 57 56 1,V_ 6 57]
def L18_3:=sq (sq R18_15 (cd 55 .skip (.exit 4))) (sq (.block 5 (sq R18_16 (sq (sq R18_17 (cd 77 (sq R18_18 .ret) .skip)) (sq R18_19 (.block 6 (.loop L18_2)))))) R18_24)
def R18_25:=R_ [I_ 9 0]
def R18_26:=R_ [V_ 103 9,A_ 104 1 1,L_ 105 104,E_ 106 105,B_ 107 103 106]
def R18_27:=R_ [A_ 110 1 1,L_ 111 110,V_ 112 9,J_ 113 6 111 112,N_ 114 6 113,o_ 10 (eAlloc z3_ 6),S_ 6 10 114]
def R18_28:=R_ [N_ 116 2 1,A_ 117 1 10,L_ 118 117,y_ 119 38 [z_ 116,z_ 118],V_ 115 119,W_ 120 0 115,W_ 121 1 115,o_ 11 (eAlloc z2_ 4),S_ 4 11 120,V_ 12 121]
def R18_29:=R_ [A_ 122 0 10,L_ 123 122,o_ 124 (d_ (cEq false .num) 123 (.int .u32 0)),V_ 125 124,ha_ 125 126 2 10,hl_ 125 127 126,gcP (z_ 125) false (pdT 128) 36 [z_ 127],h_ 125 129 (u_ (cUn .not) 128),Q_ 130 125 129,V_ 131 130,hv_ 131 132 12,h_ 131 133 (u_ (cUn .not) 132),Q_ 134 131 133,V_ 135 134,ha_ 135 136 2 11,hl_ 135 137 136,h_ 135 138 (u_ cLenL 137),ha_ 135 139 3 10,hl_ 135 140 139,gcP (z_ 135) false (pdT 141) 39 [z_ 138,z_ 140],h_ 135 142 (u_ (cUn .not) 141),Q_ 143 135 142]
def R18_30:=R_ [F_ 2]
def R18_31:=R_ [I_ 13 0]
def R18_32:=R_ [V_ 144 13,V_ 145 9,B_ 146 144 145]
def R18_33:CT:=.drw [149,150,151,152,153,154,155,156,157,158,159,160,161,162,163,164,165,166,167,168] [ia_ [1] 149 1 1 1,il_ [149] 150 149 1,iv_ [13] 151 13 1,iJ_ [150,151] 152 6 150 151 1,ia_ [152] 153 0 152 1,il_ [153] 154 153 1,ia_ [10] 155 0 10 1,il_ [155] 156 155 1,i_ [154,156] 157 (b_ (cBin .geq) 154 156) 1,iv_ [157] 158 157 1,goI [158,1] (z_ 158) false (pdT 159) (a_ 1 1) 1,goI [158,159] (z_ 158) false (pdT 160) (l_ 159) 1,goI [158,13] (z_ 158) false (pdT 161) (v_ 13) 1,goI [158,160,161] (z_ 158) false (pdT 162) (b_ (cIxa 6) 160 161) 1,goI [158,162] (z_ 158) false (pdT 163) (a_ 2 162) 1,goI [158,163] (z_ 158) false (pdT 164) (l_ 163) 1,goI [158,10] (z_ 158) false (pdT 165) (a_ 2 10) 1,goI [158,165] (z_ 158) false (pdT 166) (l_ 165) 1,goI [158,164,166] (z_ 158) false (pdT 167) (b_ (cEq false .num) 164 166) 1,i_ [158,167] 168 (q_ 158 167) 1]
def R18_34:=R_ [F_ 2]
def R18_35:=R_ [V_ 147 13,D_ 148 147 1,V_ 13 148]
def L18_4:=sq (sq R18_32 (cd 146 .skip (.exit 10))) (sq (.block 11 (sq R18_33 (cd 168 (sq R18_34 .ret) .skip))) R18_35)
def R18_36:=R_ [V_ 108 9,D_ 109 108 1,V_ 9 109]
def L18_5:=sq (sq R18_26 (cd 107 .skip (.exit 8))) (sq (.block 9 (sq R18_27 (sq R18_28 (sq (sq R18_29 (cd 143 (sq R18_30 .ret) .skip)) (sq R18_31 (.block 10 (.loop L18_4))))))) R18_36)
def R18_37:=R_ [T_ 2]
def B18:=sq R18_0 (sq (sq R18_1 (cd 23 (sq R18_2 .ret) .skip)) (sq R18_3 (sq (sq R18_4 (.block 0 (.loop L18_1))) (sq (sq R18_14 (.block 4 (.loop L18_3))) (sq (sq R18_25 (.block 8 (.loop L18_5))) (sq R18_37 .ret))))))
def A18:CF:=⟨[rTmp 2],B18,169⟩
theorem c18:ctF pG 18=some A18:=by kernel_rfl
def R19_0:=R_ [X_ 3 0,X_ 4 1,I_ 6 0]
def R19_1:=R_ [I_ 7 0]
def R19_2:=R_ [I_ 8 0]
def R19_3:=R_ [V_ 9 8,V_ 10 2,E_ 11 10,B_ 12 9 11]
def R19_4:CT:=.drw [15,16,17,18,19,20,21,22,23] [in_ [3] 16 2 3 1,in_ [4] 17 4 4 1,iv_ [2] 18 2 1,iv_ [8] 19 8 1,iJ_ [18,19] 20 1 18 19 1,il_ [20] 21 20 1,cI [16,17,21] (pdT 22) 41 [z_ 16,z_ 17,z_ 21],iv_ [7] 15 7 2,cI [15,22] (pdT 23) 40 [z_ 15,z_ 22],iv_ [23] 7 23 1]
def R19_5:=R_ [V_ 13 8,D_ 14 13 1,V_ 8 14]
def L19_0:=sq (sq R19_3 (cd 12 .skip (.exit 0))) (sq (.block 1 R19_4) R19_5)
def R19_6:=R_ [V_ 24 7,V_ 6 24]
def B19:=sq R19_0 (sq R19_1 (sq (sq R19_2 (.block 0 (.loop L19_0))) (sq R19_6 .ret)))
def A19:CF:=⟨[rTmp 6],B19,25⟩
theorem c19:ctF pG 19=some A19:=by kernel_rfl
def R20_0:=R_ [X_ 3 0,X_ 4 1,F_ 6]
def R20_1:=R_ [N_ 14 2 3,A_ 15 0 4,L_ 16 15,y_ 17 42 [z_ 14,z_ 16],V_ 7 17]
def R20_2:=R_ [I_ 8 0]
def R20_3:=R_ [V_ 18 8,V_ 19 7,E_ 20 19,B_ 21 18 20]
def R20_4:=R_ [V_ 24 7,V_ 25 8,J_ 26 6 24 25,A_ 27 4 26,L_ 28 27,o_ 29 (u_ (cUn .not) 28)]
def R20_5:=R_ [o_ 30 (eMkmap),V_ 9 30]
def R20_6:=R_ [I_ 10 0]
def R20_7:=R_ [V_ 31 10,V_ 32 2,E_ 33 32,B_ 34 31 33]
def R20_8:CT:=.drw [38,39,40,41,42,43,44,45,46,37,47,48,49] [iv_ [7] 38 7 1,iv_ [8] 39 8 1,iJ_ [38,39] 40 6 38 39 1,in_ [40] 41 6 40 1,iv_ [2] 42 2 1,iv_ [10] 43 10 1,iJ_ [42,43] 44 1 42 43 1,il_ [44] 45 44 1,cI [41,45] (pdT 46) 43 [z_ 41,z_ 45],iv_ [46] 37 46 1,i_ [37] 47 (u_ (cExt 0) 37) 1,i_ [37] 48 (u_ (cExt 1) 37) 1,i_ [37] 49 (u_ (cExt 2) 37) 1,iv_ [47] 11 47 1,iv_ [48] 12 48 1,iv_ [49] 13 49 1]
def R20_9:=R_ [V_ 50 12,o_ 51 (u_ (cUn .not) 50)]
def R20_10:=R_ [V_ 52 9,V_ 53 11,V_ 54 9,V_ 55 11,o_ 56 (eLookup .s (.int .i64 0) false (z_ 54) (z_ 55)),D_ 57 56 1,oP pdN (eMput .s (z_ 52) (z_ 53) (z_ 57))]
def R20_11:=R_ [V_ 58 9,V_ 59 11,o_ 60 (eLookup .s (.int .i64 0) false (z_ 58) (z_ 59)),o_ 61 (d_ (cBin .gtr) 60 (.int .i64 1))]
def R20_12:=R_ [F_ 6]
def R20_13:=R_ [V_ 35 10,D_ 36 35 1,V_ 10 36]
def L20_0:=sq (sq R20_7 (cd 34 .skip (.exit 2))) (sq (.block 3 (sq R20_8 (sq R20_9 (cd 51 (sq R20_10 (sq R20_11 (cd 61 (sq R20_12 .ret) .skip))) .skip)))) R20_13)
def R20_14:=R_ [V_ 22 8,D_ 23 22 1,V_ 8 23]
def L20_1:=sq (sq R20_3 (cd 21 .skip (.exit 0))) (sq (.block 1 (sq (sq R20_4 (cd 29 (.exit 1) .skip)) (sq R20_5 (sq R20_6 (.block 2 (.loop L20_0)))))) R20_14)
def R20_15:=R_ [T_ 6]
def B20:=sq R20_0 (sq R20_1 (sq (sq R20_2 (.block 0 (.loop L20_1))) (sq R20_15 .ret)))
def A20:CF:=⟨[rTmp 6],B20,62⟩
theorem c20:ctF pG 20=some A20:=by kernel_rfl
def R21_0:=R_ [I_ 4 0]
def R21_1:=R_ [I_ 5 0]
def R21_2:=R_ [V_ 7 5,V_ 8 0,E_ 9 8,B_ 10 7 9,V_ 11 10,gv_ 11 12 5,gv_ 11 13 1,g_ 11 14 (u_ cLenL 13),g_ 11 15 (b_ (cBin .lss) 12 14),P_ 16 11 15]
def R21_3:CT:=.drw [19,20,21,22,23,24,25,26,27] [iv_ [0] 19 0 1,iv_ [5] 20 5 1,iJ_ [19,20] 21 3 19 20 1,in_ [21] 22 3 21 1,iv_ [1] 23 1 1,iv_ [5] 24 5 1,iJ_ [23,24] 25 3 23 24 1,in_ [25] 26 3 25 1,cI [22,26] (pdT 27) 44 [z_ 22,z_ 26],iv_ [27] 6 27 1]
def R21_4:=R_ [V_ 28 6,H_ 29 28 0]
def R21_5:=R_ [V_ 30 6,V_ 4 30]
def R21_6:=R_ [V_ 17 5,D_ 18 17 1,V_ 5 18]
def L21_0:=sq (sq R21_2 (cd 16 .skip (.exit 0))) (sq (.block 1 (sq R21_3 (sq R21_4 (cd 29 (sq R21_5 .ret) .skip)))) R21_6)
def R21_7:=R_ [V_ 31 0,E_ 32 31,V_ 33 1,E_ 34 33,B_ 35 32 34]
def R21_8:=R_ [o_ 4 (c_ (.int .i64 (-1)))]
def R21_9:=R_ [V_ 36 0,E_ 37 36,V_ 38 1,E_ 39 38,o_ 40 (b_ (cBin .gtr) 37 39)]
def R21_10:=R_ [I_ 4 1]
def R21_11:=R_ [I_ 4 0]
def B21:=sq R21_0 (sq (sq R21_1 (.block 0 (.loop L21_0))) (sq (sq R21_7 (cd 35 (sq R21_8 .ret) .skip)) (sq (sq R21_9 (cd 40 (sq R21_10 .ret) .skip)) (sq R21_11 .ret))))
def A21:CF:=⟨[rTmp 4],B21,41⟩
theorem c21:ctF pG 21=some A21:=by kernel_rfl
def R24_0:=R_ [X_ 1 0,o_ 2 (eAlloc [(.cst (.slice none 0 0)),(.cst (.slice none 0 0))] 2)]
def R24_1:=R_ [o_ 3 (eAlloc [(.cst (.slice none 0 0)),(.cst (.slice none 0 0))] 2)]
def R24_2:=R_ [I_ 4 0]
def R24_3:=R_ [V_ 8 4,A_ 9 0 1,L_ 10 9,E_ 11 10,B_ 12 8 11]
def R24_4:=R_ [A_ 15 0 1,L_ 16 15,V_ 17 4,J_ 18 4 16 17,N_ 19 4 18,o_ 5 (eAlloc z2_ 4),S_ 4 5 19]
def R24_5:=R_ [o_ 20 (eBslice z16_ 0 3 []),A_ 21 2 5,L_ 22 21,o_ 23 (eApp 3 32 (z_ 20) (z_ 22)),A_ 24 2 5,S_ 1 24 23]
def R24_6:=R_ [A_ 25 0 3,L_ 26 25,N_ 27 4 5,o_ 28 (eBslice z2_ 1 4 [(0,4,(z_ 27))]),o_ 29 (eApp 4 56 (z_ 26) (z_ 28)),A_ 30 0 3,S_ 1 30 29]
def R24_7:=R_ [V_ 13 4,D_ 14 13 1,V_ 4 14]
def L24_0:=sq (sq R24_3 (cd 12 .skip (.exit 0))) (sq (.block 1 (sq R24_4 (sq R24_5 R24_6))) R24_7)
def R24_8:=R_ [I_ 6 0]
def R24_9:=R_ [V_ 31 6,A_ 32 1 1,L_ 33 32,E_ 34 33,B_ 35 31 34]
def R24_10:=R_ [A_ 38 1 1,L_ 39 38,V_ 40 6,J_ 41 6 39 40,N_ 42 6 41,o_ 7 (eAlloc z3_ 6),S_ 6 7 42]
def R24_11:=R_ [o_ 43 (eBslice [.int .i64 0] 0 1 []),A_ 44 3 7,L_ 45 44,o_ 46 (eApp 1 8 (z_ 43) (z_ 45)),A_ 47 3 7,S_ 1 47 46]
def R24_12:=R_ [A_ 48 1 3,L_ 49 48,N_ 50 6 7,o_ 51 (eBslice z3_ 1 6 [(0,6,(z_ 50))]),o_ 52 (eApp 6 56 (z_ 49) (z_ 51)),A_ 53 1 3,S_ 1 53 52]
def R24_13:=R_ [V_ 36 6,D_ 37 36 1,V_ 6 37]
def L24_1:=sq (sq R24_9 (cd 35 .skip (.exit 2))) (sq (.block 3 (sq R24_10 (sq R24_11 R24_12))) R24_13)
def R24_14:=R_ [N_ 54 2 3,S_ 2 2 54]
def B24:=sq R24_0 (sq R24_1 (sq (sq R24_2 (.block 0 (.loop L24_0))) (sq (sq R24_8 (.block 2 (.loop L24_1))) (sq R24_14 .ret))))
def A24:CF:=⟨[rCelN 2 2],B24,55⟩
theorem c24:ctF pG 24=some A24:=by kernel_rfl
def R25_0:=R_ [o_ 2 (c_ (.cst (.slice none 0 0)))]
def R25_1:=R_ [V_ 3 0,o_ 4 (d_ (cEq false .slice) 3 (.cst (.slice none 0 0)))]
def R25_2:=R_ [o_ 2 (c_ (.cst (.slice none 0 0)))]
def R25_3:=R_ [o_ 5 (eBslice z6_ 0 15 []),V_ 6 0,o_ 7 (eApp 15 120 (z_ 5) (z_ 6)),V_ 2 7]
def B25:=sq R25_0 (sq (sq R25_1 (cd 4 (sq R25_2 .ret) .skip)) (sq R25_3 .ret))
def A25:CF:=⟨[rTmp 2],B25,8⟩
theorem c25:ctF pG 25=some A25:=by kernel_rfl
def R26_0:=R_ [X_ 2 0,X_ 3 1,F_ 4]
def R26_1:=R_ [o_ 9 (eMkfn (.func 45) [] [z_ 2]),V_ 5 9]
def R26_2:=R_ [o_ 10 (eMkfn (.func 46) [] [z_ 2]),V_ 6 10]
def R26_3:=R_ [A_ 11 1 3,L_ 12 11,o_ 13 (d_ (cBin .geq) 12 (.int .i64 0)),V_ 14 13,ga_ 14 15 1 3,gl_ 14 16 15,ga_ 14 17 1 2,gl_ 14 18 17,g_ 14 19 (b_ (cBin .lss) 16 18),P_ 20 14 19,V_ 7 20]
def R26_4:=R_ [A_ 21 5 3,L_ 22 21,o_ 23 (d_ (cBin .geq) 22 (.int .i64 0)),V_ 24 23,ga_ 24 25 5 3,gl_ 24 26 25,ga_ 24 27 2 2,gl_ 24 28 27,g_ 24 29 (u_ cLenL 28),g_ 24 30 (b_ (cBin .leq) 26 29),P_ 31 24 30,V_ 8 31]
def R26_5:=R_ [A_ 32 0 3,L_ 33 32]
def R26_6:=R_ [K_ 35 33 1,V_ 34 35]
def R26_7:=R_ [V_ 36 7,V_ 4 36]
def R26_8:=R_ [K_ 38 33 2,V_ 37 38]
def R26_9:=R_ [V_ 39 7,V_ 40 39,gv_ 40 41 6,ga_ 40 42 2 3,gl_ 40 43 42,ga_ 40 44 4 3,gl_ 40 45 44,gvP (z_ 40) true (pdT 46) (z_ 41) [z_ 43,z_ 45],P_ 47 40 46,V_ 48 47,ga_ 48 49 8 3,gl_ 48 50 49,g_ 48 51 (d_ (cEq false .num) 50 (.int .i64 (-1))),gv_ 48 52 51,hv_ 52 53 5,ha_ 52 54 8 3,hl_ 52 55 54,gvP (z_ 52) false (pdT 56) (z_ 53) [z_ 55],g_ 48 57 (q_ 52 56),P_ 58 48 57,V_ 59 58,ga_ 59 60 9 3,gl_ 59 61 60,g_ 59 62 (d_ (cEq false .num) 61 (.int .i64 (-1))),gv_ 59 63 62,hv_ 63 64 5,ha_ 63 65 9 3,hl_ 63 66 65,gvP (z_ 63) false (pdT 67) (z_ 64) [z_ 66],g_ 59 68 (q_ 63 67),P_ 69 59 68,V_ 4 69]
def R26_10:=R_ [K_ 71 33 3,V_ 70 71]
def R26_11:=R_ [V_ 72 7,V_ 73 72,gv_ 73 74 8,P_ 75 73 74,V_ 4 75]
def R26_12:=R_ [K_ 77 33 4,V_ 76 77]
def R26_13:=R_ [V_ 78 5,A_ 79 1 3,L_ 80 79,vP (pdT 81) (z_ 78) [z_ 80],V_ 82 81,ga_ 82 83 2 3,gl_ 82 84 83,g_ 82 85 (d_ (cBin .geq) 84 (.int .i64 0)),P_ 86 82 85,V_ 87 86,ga_ 87 88 2 3,gl_ 87 89 88,ga_ 87 90 1 2,gl_ 87 91 90,g_ 87 92 (b_ (cBin .lss) 89 91),P_ 93 87 92,V_ 94 93,ga_ 94 95 3 3,gl_ 94 96 95,g_ 94 97 (d_ (cBin .geq) 96 (.int .i64 0)),P_ 98 94 97,V_ 99 98,ga_ 99 100 3 3,gl_ 99 101 100,g_ 99 102 (d_ (cBin .lss) 101 (.int .i64 16)),P_ 103 99 102,V_ 4 103]
def R26_14:=R_ [K_ 105 33 5,V_ 104 105]
def R26_15:=R_ [V_ 106 5,A_ 107 1 3,L_ 108 107,vP (pdT 109) (z_ 106) [z_ 108],V_ 110 109,ga_ 110 111 12 3,gn_ 110 112 3 111,gcP (z_ 110) true (pdT 113) 47 [z_ 112],P_ 114 110 113,V_ 4 114]
def R26_16:=R_ [K_ 116 33 6,V_ 115 116]
def R26_17:=R_ [V_ 117 5,A_ 118 1 3,L_ 119 118,vP (pdT 120) (z_ 117) [z_ 119],V_ 121 120,gv_ 121 122 5,ga_ 121 123 2 3,gl_ 121 124 123,gvP (z_ 121) true (pdT 125) (z_ 122) [z_ 124],P_ 126 121 125,V_ 127 126,ga_ 127 128 6 3,gl_ 127 129 128,g_ 127 130 (d_ (cBin .geq) 129 (.int .i64 4)),P_ 131 127 130,V_ 132 131,ga_ 132 133 6 3,gl_ 132 134 133,g_ 132 135 (d_ (cBin .leq) 134 (.int .i64 21)),P_ 136 132 135,V_ 137 136,ga_ 137 138 6 3,gl_ 137 139 138,g_ 137 140 (d_ (cBin .lss) 139 (.int .i64 8)),gv_ 137 141 140,hv_ 141 142 5,ha_ 141 143 3 3,hl_ 141 144 143,gvP (z_ 141) false (pdT 145) (z_ 142) [z_ 144],g_ 137 146 (q_ 141 145),P_ 147 137 146,V_ 148 147,gv_ 148 149 8,P_ 150 148 149,V_ 4 150]
def R26_18:=R_ [K_ 152 33 7,V_ 151 152]
def R26_19:=R_ [V_ 153 5,A_ 154 1 3,L_ 155 154,vP (pdT 156) (z_ 153) [z_ 155],V_ 157 156,gv_ 157 158 8,P_ 159 157 158,V_ 4 159]
def R26_20:=R_ [K_ 161 33 8,V_ 160 161]
def R26_21:=R_ [V_ 162 6,A_ 163 1 3,L_ 164 163,A_ 165 4 3,L_ 166 165,vP (pdT 167) (z_ 162) [z_ 164,z_ 166],V_ 4 167]
def R26_22:=R_ [K_ 169 33 9,V_ 168 169]
def R26_23:=R_ [V_ 170 7,V_ 171 170,gv_ 171 172 6,ga_ 171 173 2 3,gl_ 171 174 173,ga_ 171 175 4 3,gl_ 171 176 175,gvP (z_ 171) true (pdT 177) (z_ 172) [z_ 174,z_ 176],P_ 178 171 177,V_ 4 178]
def R26_24:=R_ [K_ 180 33 10,V_ 179 180]
def R26_25:=R_ [V_ 181 8,V_ 4 181]
def R26_26:=R_ [A_ 182 0 3,L_ 183 182,K_ 184 183 11,V_ 4 184]
def B26:=sq R26_0 (sq R26_1 (sq R26_2 (sq R26_3 (sq R26_4 (sq (sq R26_5 (.block 0 (sq R26_6 (cd 34 (sq R26_7 .ret) (sq R26_8 (cd 37 (sq R26_9 .ret) (sq R26_10 (cd 70 (sq R26_11 .ret) (sq R26_12 (cd 76 (sq R26_13 .ret) (sq R26_14 (cd 104 (sq R26_15 .ret) (sq R26_16 (cd 115 (sq R26_17 .ret) (sq R26_18 (cd 151 (sq R26_19 .ret) (sq R26_20 (cd 160 (sq R26_21 .ret) (sq R26_22 (cd 168 (sq R26_23 .ret) (sq R26_24 (cd 179 (sq R26_25 .ret) .skip)))))))))))))))))))))) (sq R26_26 .ret))))))
def A26:CF:=⟨[rTmp 4],B26,185⟩
theorem c26:ctF pG 26=some A26:=by kernel_rfl
def R27_0:=R_ [o_ 0 (eAlloc z12_ 12)]
def R27_1:=R_ [o_ 1 (eBuild z12_ 12 [(1,1,(constG (.fn (.func 48) [] []))),(2,1,(constG (.fn (.func 49) [] []))),(3,1,(constG (.fn (.func 50) [] []))),(4,1,(constG (.fn (.func 51) [] []))),(5,1,(constG (.fn (.func 52) [] []))),(6,1,(constG (.fn (.func 53) [] []))),(7,1,(constG (.fn (.func 54) [] []))),(8,1,(constG (.fn (.func 55) [] []))),(9,1,(constG (.fn (.func 56) [] []))),(10,1,(constG (.fn (.func 57) [] []))),(11,1,(constG (.fn (.func 58) [] [])))]),S_ 12 0 1]
def B27:=sq R27_0 (sq R27_1 .ret)
def A27:CF:=⟨[rCelN 0 12],B27,2⟩
theorem c27:ctF pG 27=some A27:=by kernel_rfl
def R28_0:=R_ [o_ 2 (c_ (.cst (.slice none 0 0)))]
def R28_1:=R_ [V_ 3 0,o_ 4 (d_ (cEq false .slice) 3 (.cst (.slice none 0 0)))]
def R28_2:=R_ [o_ 2 (c_ (.cst (.slice none 0 0)))]
def R28_3:=R_ [o_ 5 (eBslice z1_ 0 3 []),V_ 6 0,o_ 7 (eApp 3 32 (z_ 5) (z_ 6)),V_ 2 7]
def B28:=sq R28_0 (sq (sq R28_1 (cd 4 (sq R28_2 .ret) .skip)) (sq R28_3 .ret))
def A28:CF:=⟨[rTmp 2],B28,8⟩
theorem c28:ctF pG 28=some A28:=by kernel_rfl
def R29_0:=R_ [X_ 1 0,F_ 2]
def R29_1:=R_ [A_ 8 0 1,N_ 9 2 8,y_ 10 59 [z_ 9],o_ 11 (u_ (cUn .not) 10),V_ 12 11,ha_ 12 13 2 1,hl_ 12 14 13,h_ 12 15 (u_ cLenL 14),ha_ 12 16 0 1,ha_ 12 17 0 16,hl_ 12 18 17,h_ 12 19 (u_ cLenL 18),h_ 12 20 (b_ (cEq true .num) 15 19),Q_ 21 12 20]
def R29_2:=R_ [F_ 2]
def R29_3:=R_ [A_ 22 0 1,A_ 23 0 22,L_ 24 23,E_ 25 24,I_ 26 0]
def R29_4:=R_ [B_ 27 26 25]
def R29_5:=R_ [V_ 28 26,J_ 29 4 24 26,N_ 30 4 29,o_ 4 (eAlloc z2_ 4),V_ 3 28,S_ 4 4 30]
def R29_6:=R_ [A_ 31 2 1,L_ 32 31,V_ 33 3,J_ 34 1 32 33,L_ 35 34,V_ 5 35]
def R29_7:=R_ [V_ 36 5,E_ 37 36,o_ 38 (d_ (cBin .gtr) 37 (.int .i64 4096))]
def R29_8:=R_ [F_ 2]
def R29_9:=R_ [V_ 39 5,E_ 40 39,I_ 41 0]
def R29_10:=R_ [B_ 42 41 40]
def R29_11:=R_ [J_ 43 1 39 41,L_ 44 43,V_ 7 44]
def R29_12:=R_ [A_ 45 2 4,L_ 46 45,V_ 47 7,y_ 48 60 [z_ 46,z_ 47],H_ 49 48 0]
def R29_13:=R_ [F_ 2]
def R29_14:=R_ [D_ 50 41 1,V_ 41 50]
def L29_0:=sq R29_10 (sq (cd 42 .skip (.exit 2)) (sq (.block 3 (sq R29_11 (sq R29_12 (cd 49 (sq R29_13 .ret) .skip)))) R29_14))
def R29_15:=R_ [V_ 51 5,y_ 52 61 [z_ 51,(constG (.fn (.func 62) [] []))],o_ 53 (u_ (cUn .not) 52),V_ 54 53,ha_ 54 55 0 1,hn_ 54 56 2 55,hn_ 54 57 4 4,hv_ 54 58 5,gcP (z_ 54) false (pdT 59) 63 [z_ 56,z_ 57,z_ 58],h_ 54 60 (d_ (cEq true .num) 59 (.int .i64 0)),Q_ 61 54 60]
def R29_16:=R_ [F_ 2]
def R29_17:=R_ [D_ 62 26 1,V_ 26 62]
def L29_1:=sq R29_4 (sq (cd 27 .skip (.exit 0)) (sq (.block 1 (sq R29_5 (sq R29_6 (sq (sq R29_7 (cd 38 (sq R29_8 .ret) .skip)) (sq (sq R29_9 (.block 2 (.loop L29_0))) (sq R29_15 (cd 61 (sq R29_16 .ret) .skip))))))) R29_17))
def R29_18:=R_ [T_ 2]
def B29:=sq R29_0 (sq (sq R29_1 (cd 21 (sq R29_2 .ret) .skip)) (sq (sq R29_3 (.block 0 (.loop L29_1))) (sq R29_18 .ret)))
def A29:CF:=⟨[rTmp 2],B29,63⟩
theorem c29:ctF pG 29=some A29:=by kernel_rfl
def R30_0:=R_ [F_ 4]
def R30_1:=R_ [V_ 6 0,E_ 7 6,V_ 8 1,E_ 9 8,o_ 10 (b_ (cEq true .num) 7 9)]
def R30_2:=R_ [F_ 4]
def R30_3:=R_ [I_ 5 0]
def R30_4:=R_ [V_ 11 5,V_ 12 0,E_ 13 12,B_ 14 11 13]
def R30_5:CT:=.drw [17,18,19,20,21,22,23,24,25,26] [iv_ [0] 17 0 1,iv_ [5] 18 5 1,iJ_ [17,18] 19 1 17 18 1,il_ [19] 20 19 1,iv_ [1] 21 1 1,iv_ [5] 22 5 1,iJ_ [21,22] 23 1 21 22 1,il_ [23] 24 23 1,cI [20,24] (pdT 25) 31 [z_ 20,z_ 24],i_ [25] 26 (u_ (cUn .not) 25) 1]
def R30_6:=R_ [F_ 4]
def R30_7:=R_ [V_ 15 5,D_ 16 15 1,V_ 5 16]
def L30_0:=sq (sq R30_4 (cd 14 .skip (.exit 0))) (sq (.block 1 (sq R30_5 (cd 26 (sq R30_6 .ret) .skip))) R30_7)
def R30_8:=R_ [T_ 4]
def B30:=sq R30_0 (sq (sq R30_1 (cd 10 (sq R30_2 .ret) .skip)) (sq (sq R30_3 (.block 0 (.loop L30_0))) (sq R30_8 .ret)))
def A30:CF:=⟨[rTmp 4],B30,27⟩
theorem c30:ctF pG 30=some A30:=by kernel_rfl
def R31_0:=R_ [F_ 4]
def R31_1:=R_ [V_ 6 0,E_ 7 6,V_ 8 1,E_ 9 8,o_ 10 (b_ (cEq true .num) 7 9)]
def R31_2:=R_ [F_ 4]
def R31_3:=R_ [I_ 5 0]
def R31_4:=R_ [V_ 11 5,V_ 12 0,E_ 13 12,B_ 14 11 13]
def R31_5:CT:=.drw [17,18,19,20,21,22,23,24,25] [iv_ [0] 17 0 1,iv_ [5] 18 5 1,iJ_ [17,18] 19 3 17 18 1,in_ [19] 20 3 19 1,iv_ [1] 21 1 1,iv_ [5] 22 5 1,iJ_ [21,22] 23 3 21 22 1,in_ [23] 24 3 23 1,i_ [20,24] 25 (b_ (cEqA true [.i,.i,.s]) 20 24) 1]
def R31_6:=R_ [F_ 4]
def R31_7:=R_ [V_ 15 5,D_ 16 15 1,V_ 5 16]
def L31_0:=sq (sq R31_4 (cd 14 .skip (.exit 0))) (sq (.block 1 (sq R31_5 (cd 25 (sq R31_6 .ret) .skip))) R31_7)
def R31_8:=R_ [T_ 4]
def B31:=sq R31_0 (sq (sq R31_1 (cd 10 (sq R31_2 .ret) .skip)) (sq (sq R31_3 (.block 0 (.loop L31_0))) (sq R31_8 .ret)))
def A31:CF:=⟨[rTmp 4],B31,26⟩
theorem c31:ctF pG 31=some A31:=by kernel_rfl
def R35_0:=R_ [X_ 1 0,o_ 2 (c_ (.cst (.slice none 0 0)))]
def R35_1:=R_ [o_ 3 (c_ (.cst (.slice none 0 0)))]
def R35_2:=R_ [I_ 4 0]
def R35_3:=R_ [V_ 6 4,A_ 7 0 1,L_ 8 7,E_ 9 8,B_ 10 6 9]
def R35_4:=R_ [V_ 13 3,A_ 14 0 1,L_ 15 14,V_ 16 4,J_ 17 4 15 16,A_ 18 3 17,L_ 19 18,o_ 20 (eBslice [.int .u32 0] 1 1 [(0,1,(z_ 19))]),o_ 21 (eApp 1 4 (z_ 13) (z_ 20)),V_ 3 21]
def R35_5:=R_ [V_ 11 4,D_ 12 11 1,V_ 4 12]
def L35_0:=sq (sq R35_3 (cd 10 .skip (.exit 0))) (sq (.block 1 R35_4) R35_5)
def R35_6:=R_ [I_ 5 0]
def R35_7:=R_ [V_ 22 5,A_ 23 1 1,L_ 24 23,E_ 25 24,B_ 26 22 25]
def R35_8:=R_ [V_ 29 3,A_ 30 1 1,L_ 31 30,V_ 32 5,J_ 33 6 31 32,A_ 34 5 33,L_ 35 34,o_ 36 (eBslice [.int .u32 0] 1 1 [(0,1,(z_ 35))]),o_ 37 (eApp 1 4 (z_ 29) (z_ 36)),V_ 3 37]
def R35_9:=R_ [V_ 27 5,D_ 28 27 1,V_ 5 28]
def L35_1:=sq (sq R35_7 (cd 26 .skip (.exit 2))) (sq (.block 3 R35_8) R35_9)
def R35_10:=R_ [V_ 38 3,V_ 2 38]
def B35:=sq R35_0 (sq R35_1 (sq (sq R35_2 (.block 0 (.loop L35_0))) (sq (sq R35_6 (.block 2 (.loop L35_1))) (sq R35_10 .ret))))
def A35:CF:=⟨[rTmp 2],B35,39⟩
theorem c35:ctF pG 35=some A35:=by kernel_rfl
def R36_0:=R_ [F_ 2]
def R36_1:=R_ [V_ 6 0,o_ 7 (u_ cLenS 6),o_ 8 (d_ (cBin .lss) 7 (.int .i64 1)),V_ 9 8,hv_ 9 10 0,h_ 9 11 (u_ cLenS 10),h_ 9 12 (d_ (cBin .gtr) 11 (.int .i64 24)),Q_ 13 9 12,V_ 14 13,hv_ 14 15 0,h_ 14 16 (d_ cIxs 15 (.int .i64 0)),h_ 14 17 (d_ (cBin .lss) 16 (.int .u8 97)),Q_ 18 14 17,V_ 19 18,hv_ 19 20 0,h_ 19 21 (d_ cIxs 20 (.int .i64 0)),h_ 19 22 (d_ (cBin .gtr) 21 (.int .u8 122)),Q_ 23 19 22]
def R36_2:=R_ [F_ 2]
def R36_3:=R_ [I_ 3 1]
def R36_4:=R_ [V_ 24 3,V_ 25 0,o_ 26 (u_ cLenS 25),B_ 27 24 26]
def R36_5:=R_ [V_ 30 0,V_ 31 3,o_ 32 (b_ cIxs 30 31),o_ 33 (d_ (cBin .geq) 32 (.int .u8 97)),V_ 34 33,gv_ 34 35 0,gv_ 34 36 3,g_ 34 37 (b_ cIxs 35 36),g_ 34 38 (d_ (cBin .leq) 37 (.int .u8 122)),P_ 39 34 38,V_ 4 39]
def R36_6:=R_ [V_ 40 0,V_ 41 3,o_ 42 (b_ cIxs 40 41),o_ 43 (d_ (cBin .geq) 42 (.int .u8 48)),V_ 44 43,gv_ 44 45 0,gv_ 44 46 3,g_ 44 47 (b_ cIxs 45 46),g_ 44 48 (d_ (cBin .leq) 47 (.int .u8 57)),P_ 49 44 48,V_ 5 49]
def R36_7:=R_ [V_ 50 4,o_ 51 (u_ (cUn .not) 50),V_ 52 51,gv_ 52 53 5,g_ 52 54 (u_ (cUn .not) 53),P_ 55 52 54,V_ 56 55,gv_ 56 57 0,gv_ 56 58 3,g_ 56 59 (b_ cIxs 57 58),g_ 56 60 (d_ (cEq true .num) 59 (.int .u8 95)),P_ 61 56 60]
def R36_8:=R_ [F_ 2]
def R36_9:=R_ [V_ 28 3,D_ 29 28 1,V_ 3 29]
def L36_0:=sq (sq R36_4 (cd 27 .skip (.exit 0))) (sq (.block 1 (sq R36_5 (sq R36_6 (sq R36_7 (cd 61 (sq R36_8 .ret) .skip))))) R36_9)
def R36_10:=R_ [T_ 2]
def B36:=sq R36_0 (sq (sq R36_1 (cd 23 (sq R36_2 .ret) .skip)) (sq (sq R36_3 (.block 0 (.loop L36_0))) (sq R36_10 .ret)))
def A36:CF:=⟨[rTmp 2],B36,62⟩
theorem c36:ctF pG 36=some A36:=by kernel_rfl
def R37_0:=R_ [F_ 2]
def R37_1:=R_ [V_ 6 0,E_ 7 6,o_ 8 (d_ (cBin .lss) 7 (.int .i64 1)),V_ 9 8,hv_ 9 10 0,h_ 9 11 (u_ cLenL 10),h_ 9 12 (d_ (cBin .gtr) 11 (.int .i64 16)),Q_ 13 9 12]
def R37_2:=R_ [F_ 2]
def R37_3:=R_ [I_ 3 0]
def R37_4:=R_ [V_ 14 3,V_ 15 0,E_ 16 15,B_ 17 14 16]
def R37_5:=R_ [V_ 20 0,V_ 21 3,J_ 22 3 20 21,A_ 23 1 22,L_ 24 23,V_ 4 24]
def R37_6:=R_ [V_ 25 0,V_ 26 3,J_ 27 3 25 26,A_ 28 0 27,L_ 29 28,y_ 30 36 [z_ 29],o_ 31 (u_ (cUn .not) 30),V_ 32 31,hv_ 32 33 4,h_ 32 34 (d_ (cEq true .num) 33 (.int .i64 1)),hv_ 32 35 34,gv_ 35 36 4,g_ 35 37 (d_ (cEq true .num) 36 (.int .i64 2)),h_ 32 38 (p_ 35 37),hv_ 32 39 38,gv_ 39 40 4,g_ 39 41 (d_ (cEq true .num) 40 (.int .i64 3)),h_ 32 42 (p_ 39 41),Q_ 43 32 42]
def R37_7:=R_ [F_ 2]
def R37_8:=R_ [V_ 44 3,D_ 45 44 1,V_ 5 45]
def R37_9:=R_ [V_ 46 5,V_ 47 0,E_ 48 47,B_ 49 46 48]
def R37_10:CT:=.drw [52,53,54,55,56,57,58,59,60,61,62] [iv_ [0] 52 0 1,iv_ [5] 53 5 1,iJ_ [52,53] 54 3 52 53 1,ia_ [54] 55 0 54 1,il_ [55] 56 55 1,iv_ [0] 57 0 1,iv_ [3] 58 3 1,iJ_ [57,58] 59 3 57 58 1,ia_ [59] 60 0 59 1,il_ [60] 61 60 1,i_ [56,61] 62 (b_ (cEq false .num) 56 61) 1]
def R37_11:=R_ [F_ 2]
def R37_12:=R_ [V_ 50 5,D_ 51 50 1,V_ 5 51]
def L37_0:=sq (sq R37_9 (cd 49 .skip (.exit 2))) (sq (.block 3 (sq R37_10 (cd 62 (sq R37_11 .ret) .skip))) R37_12)
def R37_13:=R_ [V_ 18 3,D_ 19 18 1,V_ 3 19]
def L37_1:=sq (sq R37_4 (cd 17 .skip (.exit 0))) (sq (.block 1 (sq R37_5 (sq (sq R37_6 (cd 43 (sq R37_7 .ret) .skip)) (sq R37_8 (.block 2 (.loop L37_0)))))) R37_13)
def R37_14:=R_ [T_ 2]
def B37:=sq R37_0 (sq (sq R37_1 (cd 13 (sq R37_2 .ret) .skip)) (sq (sq R37_3 (.block 0 (.loop L37_1))) (sq R37_14 .ret)))
def A37:CF:=⟨[rTmp 2],B37,63⟩
theorem c37:ctF pG 37=some A37:=by kernel_rfl
def R38_0:=R_ [X_ 2 0,o_ 4 (eAlloc z2_ 4),F_ 5]
def R38_1:=R_ [I_ 6 0]
def R38_2:=R_ [V_ 7 6,A_ 8 0 2,L_ 9 8,E_ 10 9,B_ 11 7 10]
def R38_3:=R_ [A_ 14 0 2,L_ 15 14,V_ 16 6,J_ 17 4 15 16,A_ 18 0 17,L_ 19 18,V_ 20 1,o_ 21 (b_ (cEq false .num) 19 20)]
def R38_4:=R_ [A_ 22 0 2,L_ 23 22,V_ 24 6,J_ 25 4 23 24,N_ 26 4 25,S_ 4 4 26,T_ 5]
def R38_5:=R_ [V_ 12 6,D_ 13 12 1,V_ 6 13]
def L38_0:=sq (sq R38_2 (cd 11 .skip (.exit 0))) (sq (.block 1 (sq R38_3 (cd 21 (sq R38_4 .ret) .skip))) R38_5)
def R38_6:=R_ [o_ 27 (eBuild z2_ 4 []),S_ 4 4 27,F_ 5]
def B38:=sq R38_0 (sq (sq R38_1 (.block 0 (.loop L38_0))) (sq R38_6 .ret))
def A38:CF:=⟨[rCelN 4 4,rTmp 5],B38,28⟩
theorem c38:ctF pG 38=some A38:=by kernel_rfl
def R39_0:=R_ [F_ 4]
def R39_1:=R_ [I_ 5 0]
def R39_2:=R_ [V_ 7 5,V_ 8 1,E_ 9 8,B_ 10 7 9]
def R39_3:=R_ [V_ 13 1,V_ 14 5,J_ 15 1 13 14,L_ 16 15,o_ 17 (d_ (cBin .lss) 16 (.int .i64 0)),V_ 18 17,hv_ 18 19 1,hv_ 18 20 5,h_ 18 21 (b_ (cIxa 1) 19 20),hl_ 18 22 21,hv_ 18 23 0,h_ 18 24 (b_ (cBin .geq) 22 23),Q_ 25 18 24]
def R39_4:=R_ [F_ 4]
def R39_5:=R_ [I_ 6 0]
def R39_6:=R_ [V_ 26 6,V_ 27 5,B_ 28 26 27]
def R39_7:CT:=.drw [31,32,33,34,35,36,37,38,39] [iv_ [1] 31 1 1,iv_ [6] 32 6 1,iJ_ [31,32] 33 1 31 32 1,il_ [33] 34 33 1,iv_ [1] 35 1 1,iv_ [5] 36 5 1,iJ_ [35,36] 37 1 35 36 1,il_ [37] 38 37 1,i_ [34,38] 39 (b_ (cEq false .num) 34 38) 1]
def R39_8:=R_ [F_ 4]
def R39_9:=R_ [V_ 29 6,D_ 30 29 1,V_ 6 30]
def L39_0:=sq (sq R39_6 (cd 28 .skip (.exit 2))) (sq (.block 3 (sq R39_7 (cd 39 (sq R39_8 .ret) .skip))) R39_9)
def R39_10:=R_ [V_ 11 5,D_ 12 11 1,V_ 5 12]
def L39_1:=sq (sq R39_2 (cd 10 .skip (.exit 0))) (sq (.block 1 (sq (sq R39_3 (cd 25 (sq R39_4 .ret) .skip)) (sq R39_5 (.block 2 (.loop L39_0))))) R39_10)
def R39_11:=R_ [V_ 40 1,E_ 41 40,o_ 42 (d_ (cBin .gtr) 41 (.int .i64 0)),V_ 43 42,gv_ 43 44 1,g_ 43 45 (u_ cLenL 44),g_ 43 46 (d_ (cBin .lss) 45 (.int .i64 17)),P_ 47 43 46,V_ 4 47]
def B39:=sq R39_0 (sq (sq R39_1 (.block 0 (.loop L39_1))) (sq R39_11 .ret))
def A39:CF:=⟨[rTmp 4],B39,48⟩
theorem c39:ctF pG 39=some A39:=by kernel_rfl
def R40_0:=R_ [I_ 4 0]
def R40_1:=R_ [V_ 5 0,K_ 6 5 0]
def R40_2:=R_ [V_ 7 1,V_ 4 7]
def R40_3:=R_ [V_ 8 1,K_ 9 8 0]
def R40_4:=R_ [V_ 10 0,V_ 4 10]
def R40_5:=R_ [V_ 11 0,V_ 12 1,o_ 13 (eMnx minI [z_ 11,z_ 12]),V_ 4 13]
def B40:=sq R40_0 (sq (sq R40_1 (cd 6 (sq R40_2 .ret) .skip)) (sq (sq R40_3 (cd 9 (sq R40_4 .ret) .skip)) (sq R40_5 .ret)))
def A40:CF:=⟨[rTmp 4],B40,14⟩
theorem c40:ctF pG 40=some A40:=by kernel_rfl
def R41_0:=R_ [X_ 3 0,X_ 4 1,I_ 6 0]
def R41_1:=R_ [A_ 15 2 4,L_ 16 15,V_ 17 2,y_ 18 71 [z_ 16,z_ 17],V_ 14 18,W_ 19 0 14,W_ 20 1 14,V_ 7 19,V_ 8 20]
def R41_2:=R_ [V_ 21 8,H_ 22 21 0]
def R41_3:=R_ [V_ 23 8,V_ 6 23]
def R41_4:=R_ [N_ 24 2 3,A_ 25 0 4,L_ 26 25,y_ 27 42 [z_ 24,z_ 26],V_ 9 27]
def R41_5:=R_ [I_ 10 0]
def R41_6:=R_ [V_ 28 10,V_ 29 9,E_ 30 29,B_ 31 28 30]
def R41_7:=R_ [V_ 35 9,V_ 36 10,J_ 37 6 35 36,N_ 38 6 37,V_ 39 2,y_ 40 43 [z_ 38,z_ 39],V_ 34 40,W_ 41 0 34,W_ 42 1 34,W_ 43 2 34,V_ 11 41,V_ 12 42,V_ 13 43]
def R41_8:=R_ [V_ 44 13,H_ 45 44 0]
def R41_9:=R_ [V_ 46 13,V_ 6 46]
def R41_10:=R_ [V_ 32 10,D_ 33 32 1,V_ 10 33]
def L41_0:=sq (sq R41_6 (cd 31 .skip (.exit 0))) (sq (.block 1 (sq R41_7 (sq R41_8 (cd 45 (sq R41_9 .ret) .skip)))) R41_10)
def R41_11:=R_ [I_ 6 0]
def B41:=sq R41_0 (sq R41_1 (sq (sq R41_2 (cd 22 (sq R41_3 .ret) .skip)) (sq R41_4 (sq (sq R41_5 (.block 0 (.loop L41_0))) (sq R41_11 .ret)))))
def A41:CF:=⟨[rTmp 6],B41,47⟩
theorem c41:ctF pG 41=some A41:=by kernel_rfl
def R42_0:=R_ [X_ 2 0,o_ 4 (c_ (.cst (.slice none 0 0)))]
def R42_1:=R_ [o_ 5 (c_ (.cst (.slice none 0 0)))]
def R42_2:=R_ [I_ 6 0]
def R42_3:=R_ [V_ 7 6,A_ 8 1 2,L_ 9 8,E_ 10 9,B_ 11 7 10]
def R42_4:=R_ [A_ 14 1 2,L_ 15 14,V_ 16 6,J_ 17 6 15 16,A_ 18 1 17,L_ 19 18,V_ 20 1,o_ 21 (b_ (cEq false .num) 19 20)]
def R42_5:=R_ [V_ 22 5,A_ 23 1 2,L_ 24 23,V_ 25 6,J_ 26 6 24 25,N_ 27 6 26,o_ 28 (eBslice z3_ 1 6 [(0,6,(z_ 27))]),o_ 29 (eApp 6 56 (z_ 22) (z_ 28)),V_ 5 29]
def R42_6:=R_ [V_ 12 6,D_ 13 12 1,V_ 6 13]
def L42_0:=sq (sq R42_3 (cd 11 .skip (.exit 0))) (sq (.block 1 (sq R42_4 (cd 21 R42_5 .skip))) R42_6)
def R42_7:=R_ [V_ 30 5,V_ 4 30]
def B42:=sq R42_0 (sq R42_1 (sq (sq R42_2 (.block 0 (.loop L42_0))) (sq R42_7 .ret)))
def A42:CF:=⟨[rTmp 4],B42,31⟩
theorem c42:ctF pG 42=some A42:=by kernel_rfl
def R43_0:=R_ [X_ 2 0,o_ 4 (c_ (.str [])),F_ 5,I_ 6 0]
def R43_1:=R_ [o_ 7 (c_ (.cst (.slice none 0 0)))]
def R43_2:=R_ [F_ 8]
def R43_3:=R_ [I_ 9 0]
def R43_4:=R_ [V_ 13 9,A_ 14 3 2,L_ 15 14,E_ 16 15,B_ 17 13 16]
def R43_5:=R_ [V_ 20 1,A_ 21 3 2,L_ 22 21,V_ 23 9,J_ 24 1 22 23,L_ 25 24,J_ 26 3 20 25,N_ 27 3 26,o_ 10 (eAlloc z1_ 3),S_ 3 10 27]
def R43_6:=R_ [V_ 28 7,N_ 29 3 10,o_ 30 (eBslice z1_ 1 3 [(0,3,(z_ 29))]),o_ 31 (eApp 3 32 (z_ 28) (z_ 30)),V_ 7 31]
def R43_7:=R_ [V_ 32 8,V_ 33 32,ha_ 33 34 0 10,hl_ 33 35 34,h_ 33 36 (d_ (cEq false .num) 35 (.int .i64 0)),Q_ 37 33 36,V_ 8 37]
def R43_8:=R_ [V_ 18 9,D_ 19 18 1,V_ 9 19]
def L43_0:=sq (sq R43_4 (cd 17 .skip (.exit 0))) (sq (.block 1 (sq R43_5 (sq R43_6 R43_7))) R43_8)
def R43_9:=R_ [V_ 39 7,y_ 40 72 [z_ 39],V_ 38 40,W_ 41 0 38,W_ 42 1 38,V_ 11 41,V_ 12 42]
def R43_10:=R_ [V_ 43 11,V_ 44 8,V_ 45 12,V_ 4 43,V_ 5 44,V_ 6 45]
def B43:=sq R43_0 (sq R43_1 (sq R43_2 (sq (sq R43_3 (.block 0 (.loop L43_0))) (sq R43_9 (sq R43_10 .ret)))))
def A43:CF:=⟨[rTmp 4,rTmp 5,rTmp 6],B43,46⟩
theorem c43:ctF pG 43=some A43:=by kernel_rfl
def R44_0:=R_ [X_ 2 0,X_ 3 1,I_ 4 0]
def R44_1:CT:=.drw [7,8,9,10,11,12] [ia_ [2] 7 0 2 1,il_ [7] 8 7 1,cI [8] (pdT 9) 73 [z_ 8],ia_ [3] 10 0 3 2,il_ [10] 11 10 2,cI [11] (pdT 12) 73 [z_ 11],iv_ [9] 5 9 1,iv_ [12] 6 12 1]
def R44_2:=R_ [V_ 13 5,V_ 14 6,B_ 15 13 14]
def R44_3:=R_ [o_ 4 (c_ (.int .i64 (-1)))]
def R44_4:=R_ [V_ 16 5,V_ 17 6,o_ 18 (b_ (cBin .gtr) 16 17)]
def R44_5:=R_ [I_ 4 1]
def R44_6:=R_ [A_ 19 0 2,L_ 20 19,K_ 21 20 2]
def R44_7:=R_ [A_ 22 2 2,L_ 23 22,A_ 24 2 3,L_ 25 24,y_ 26 74 [z_ 23,z_ 25],V_ 4 26]
def R44_8:=R_ [A_ 27 1 2,L_ 28 27,A_ 29 1 3,L_ 30 29,B_ 31 28 30]
def R44_9:=R_ [o_ 4 (c_ (.int .i64 (-1)))]
def R44_10:=R_ [A_ 32 1 2,L_ 33 32,A_ 34 1 3,L_ 35 34,o_ 36 (b_ (cBin .gtr) 33 35)]
def R44_11:=R_ [I_ 4 1]
def R44_12:=R_ [I_ 4 0]
def B44:=sq R44_0 (sq R44_1 (sq (sq R44_2 (cd 15 (sq R44_3 .ret) .skip)) (sq (sq R44_4 (cd 18 (sq R44_5 .ret) .skip)) (sq (sq R44_6 (cd 21 (sq R44_7 .ret) .skip)) (sq (sq R44_8 (cd 31 (sq R44_9 .ret) .skip)) (sq (sq R44_10 (cd 36 (sq R44_11 .ret) .skip)) (sq R44_12 .ret)))))))
def A44:CF:=⟨[rTmp 4],B44,37⟩
theorem c44:ctF pG 44=some A44:=by kernel_rfl
def R45_0:=R_ [F_ 3]
def R45_1:=R_ [V_ 4 0,o_ 5 (d_ (cBin .geq) 4 (.int .i64 0)),V_ 6 5,gv_ 6 7 0,ga_ 6 8 0 1,gl_ 6 9 8,g_ 6 10 (b_ (cBin .lss) 7 9),P_ 11 6 10,V_ 3 11]
def B45:=sq R45_0 (sq R45_1 .ret)
def A45:CF:=⟨[rTmp 3],B45,12⟩
theorem c45:ctF pG 45=some A45:=by kernel_rfl
def R46_0:=R_ [F_ 5]
def R46_1:=R_ [V_ 6 1,o_ 7 (d_ (cBin .geq) 6 (.int .i64 0)),V_ 8 7,gv_ 8 9 1,g_ 8 10 (d_ (cBin .leq) 9 (.int .i64 16)),P_ 11 8 10,V_ 12 11,gv_ 12 13 0,g_ 12 14 (d_ (cBin .geq) 13 (.int .i64 0)),P_ 15 12 14,V_ 16 15,gv_ 16 17 0,ga_ 16 18 0 2,gl_ 16 19 18,gv_ 16 20 1,g_ 16 21 (b_ (cBin .sub) 19 20),g_ 16 22 (b_ (cBin .leq) 17 21),P_ 23 16 22,V_ 5 23]
def B46:=sq R46_0 (sq R46_1 .ret)
def A46:CF:=⟨[rTmp 5],B46,24⟩
theorem c46:ctF pG 46=some A46:=by kernel_rfl
def R47_0:=R_ [X_ 1 0,F_ 2]
def R47_1:=R_ [A_ 3 0 1,L_ 4 3]
def R47_2:=R_ [K_ 6 4 0,V_ 5 6]
def R47_3:=R_ [N_ 7 3 1,o_ 8 (eBuild z1_ 3 []),o_ 9 (b_ (cEqA false [.i,.i,.s]) 7 8),V_ 2 9]
def R47_4:=R_ [K_ 11 4 1,V_ 10 11]
def R47_5:=R_ [A_ 12 2 1,L_ 13 12,o_ 14 (d_ (cEq false .num) 13 (.str [])),V_ 2 14]
def R47_6:=R_ [K_ 16 4 2,V_ 15 16]
def R47_7:=R_ [A_ 17 1 1,L_ 18 17,K_ 19 18 0,V_ 20 19,ga_ 20 21 2 1,gl_ 20 22 21,g_ 20 23 (u_ cLenS 22),g_ 20 24 (d_ (cBin .leq) 23 (.int .i64 64)),P_ 25 20 24,V_ 2 25]
def R47_8:=R_ [K_ 27 4 3,V_ 26 27]
def R47_9:=R_ [A_ 28 2 1,L_ 29 28,o_ 30 (d_ (cEq false .num) 29 (.str [])),V_ 31 30,ga_ 31 32 1 1,gl_ 31 33 32,g_ 31 34 (d_ (cEq false .num) 33 (.int .i64 0)),gv_ 31 35 34,ha_ 35 36 1 1,hl_ 35 37 36,h_ 35 38 (d_ (cEq false .num) 37 (.int .i64 1)),g_ 31 39 (q_ 35 38),P_ 40 31 39,V_ 2 40]
def R47_10:=R_ [F_ 2]
def B47:=sq R47_0 (sq (sq R47_1 (.block 0 (sq R47_2 (cd 5 (sq R47_3 .ret) (sq R47_4 (cd 10 (sq R47_5 .ret) (sq R47_6 (cd 15 (sq R47_7 .ret) (sq R47_8 (cd 26 (sq R47_9 .ret) .skip)))))))))) (sq R47_10 .ret))
def A47:CF:=⟨[rTmp 2],B47,41⟩
theorem c47:ctF pG 47=some A47:=by kernel_rfl
def R48_0:=R_ [X_ 3 1,I_ 4 0,I_ 5 0]
def R48_1:CT:=.drw [9,10,11,12,13,14,15,8,16,17] [iv_ [0] 9 0 1,i_ [9] 10 (eNilc (z_ 9)) 1,ia_ [10] 11 3 10 1,il_ [11] 12 11 1,ia_ [3] 13 7 3 1,il_ [13] 14 13 1,vI [12,14] (pdT 15) (invG pG "Scan" (z_ 12)) [z_ 14],iv_ [15] 8 15 1,i_ [8] 16 (u_ (cExt 0) 8) 1,i_ [8] 17 (u_ (cExt 1) 8) 1,iv_ [16] 6 16 1,iv_ [17] 7 17 1]
def R48_2:=R_ [V_ 18 7,K_ 19 18 0]
def R48_3:CT:=.drw [20,21,22,23,24,25,26,27,28] [iv_ [0] 20 0 1,i_ [20] 21 (eNilc (z_ 20)) 1,ia_ [21] 22 6 21 1,il_ [22] 23 22 1,ia_ [3] 24 1 3 1,il_ [24] 25 24 1,iv_ [6] 26 6 1,i_ [26] 27 (eBuild z7_ 5 [(0,1,(z_ 26))]) 1,iJ_ [23,25] 28 5 23 25 1,j_ [28,27] (s_ 5 28 27)]
def R48_4:=R_ [V_ 29 7,o_ 4 (c_ (.int .i64 (-1))),V_ 5 29]
def B48:=sq R48_0 (sq R48_1 (sq (sq R48_2 (cd 19 R48_3 .skip)) (sq R48_4 .ret)))
def A48:CF:=⟨[rTmp 4,rTmp 5],B48,30⟩
theorem c48:ctF pG 48=some A48:=by kernel_rfl
def R49_0:=R_ [X_ 3 1,I_ 4 0,I_ 5 0]
def R49_1:CT:=.drw [9,10,11,12,13,14,15,16,17,18,19,20,21,22,23,24,25,26,6] [iv_ [0] 9 0 1,i_ [9] 10 (eNilc (z_ 9)) 1,ia_ [10] 11 5 10 1,il_ [11] 12 11 1,ia_ [3] 13 2 3 1,il_ [13] 14 13 1,ia_ [3] 15 2 3 1,il_ [15] 16 15 1,ia_ [3] 17 4 3 1,il_ [17] 18 17 1,i_ [16,18] 19 (b_ (cBin .add) 16 18) 1,i_ [12,14,19] 20 (eSl (cSlc 3) (z_ 12) (some (z_ 14)) (some (z_ 19)) none) 1,cI [20] (pdT 21) 28 [z_ 20],ia_ [3] 22 10 3 2,il_ [22] 23 22 2,ia_ [3] 24 11 3 2,il_ [24] 25 24 2,i_ [21,23,25] 26 (eBuild z14_ 11 [(0,1,(z_ 21)),(5,1,(z_ 23)),(10,1,(z_ 25))]) 1,i_ [] 6 (eAlloc z14_ 11) 2,j_ [6,26] (s_ 11 6 26)]
def R49_2:=R_ [A_ 27 8 3,L_ 28 27,o_ 29 (d_ (cBin .geq) 28 (.int .i64 0))]
def R49_3:CT:=.drw [30,31,32,33,34,35,36,37,38,39] [ia_ [6] 38 1 6 1,j_ [38] (eStore 1 (z_ 38) (constG (.bool true))),iv_ [0] 30 0 2,i_ [30] 31 (eNilc (z_ 30)) 2,ia_ [31] 32 5 31 2,il_ [32] 33 32 2,ia_ [3] 34 8 3 2,il_ [34] 35 34 2,iJ_ [33,35] 36 3 33 35 2,in_ [36] 37 3 36 2,ia_ [6] 39 2 6 1,j_ [39,37] (s_ 3 39 37)]
def R49_4:=R_ [A_ 40 9 3,L_ 41 40,o_ 42 (d_ (cBin .geq) 41 (.int .i64 0))]
def R49_5:CT:=.drw [43,44,45,46,47,48,49,50,51,52] [ia_ [6] 51 6 6 1,j_ [51] (eStore 1 (z_ 51) (constG (.bool true))),iv_ [0] 43 0 2,i_ [43] 44 (eNilc (z_ 43)) 2,ia_ [44] 45 5 44 2,il_ [45] 46 45 2,ia_ [3] 47 9 3 2,il_ [47] 48 47 2,iJ_ [46,48] 49 3 46 48 2,in_ [49] 50 3 49 2,ia_ [6] 52 7 6 1,j_ [52,50] (s_ 3 52 50)]
def R49_6:CT:=.drw [54,55,56,57,58,59,60,61,53,62,63] [iv_ [0] 54 0 1,i_ [54] 55 (eNilc (z_ 54)) 1,ia_ [55] 56 3 55 1,il_ [56] 57 56 1,ia_ [3] 58 7 3 1,il_ [58] 59 58 1,in_ [6] 60 11 6 1,vI [57,59,60] (pdT 61) (invG pG "Seek" (z_ 57)) [z_ 59,z_ 60],iv_ [61] 53 61 1,i_ [53] 62 (u_ (cExt 0) 53) 1,i_ [53] 63 (u_ (cExt 1) 53) 1,iv_ [62] 7 62 1,iv_ [63] 8 63 1]
def R49_7:=R_ [V_ 64 8,K_ 65 64 0]
def R49_8:CT:=.drw [66,67,68,69,70,71,72,73,74] [iv_ [0] 66 0 1,i_ [66] 67 (eNilc (z_ 66)) 1,ia_ [67] 68 6 67 1,il_ [68] 69 68 1,ia_ [3] 70 1 3 1,il_ [70] 71 70 1,iv_ [7] 72 7 1,i_ [72] 73 (eBuild z7_ 5 [(0,1,(z_ 72))]) 1,iJ_ [69,71] 74 5 69 71 1,j_ [74,73] (s_ 5 74 73)]
def R49_9:=R_ [V_ 75 8,o_ 4 (c_ (.int .i64 (-1))),V_ 5 75]
def B49:=sq R49_0 (sq R49_1 (sq (sq R49_2 (cd 29 R49_3 .skip)) (sq (sq R49_4 (cd 42 R49_5 .skip)) (sq R49_6 (sq (sq R49_7 (cd 65 R49_8 .skip)) (sq R49_9 .ret))))))
def A49:CF:=⟨[rTmp 4,rTmp 5],B49,76⟩
theorem c49:ctF pG 49=some A49:=by kernel_rfl
def R50_0:=R_ [X_ 3 1,I_ 4 0,I_ 5 0]
def R50_1:CT:=.drw [11,12,13,14,15,16,17] [iv_ [0] 11 0 1,i_ [11] 12 (eNilc (z_ 11)) 1,ia_ [12] 13 6 12 1,il_ [13] 14 13 1,ia_ [3] 15 1 3 1,il_ [15] 16 15 1,iJ_ [14,16] 17 5 14 16 1,iv_ [17] 6 17 1]
def R50_2:=R_ [V_ 18 6,o_ 19 (eNilc (z_ 18)),A_ 20 0 19,L_ 21 20,o_ 22 (d_ (cEq false .ifacen) 21 (.cst .nilIface))]
def R50_3:=R_ [A_ 23 5 3,L_ 24 23,V_ 4 24,I_ 5 0]
def R50_4:=R_ [V_ 26 6,o_ 27 (eNilc (z_ 26)),A_ 28 0 27,L_ 29 28,vP (pdT 30) (invG pG "Next" (z_ 29)) [],V_ 25 30,W_ 31 0 25,W_ 32 1 25,W_ 33 2 25,W_ 34 3 25,o_ 8 (eAlloc [.int .u32 0,.int .i64 0] 2),V_ 7 31,S_ 2 8 32,V_ 9 33,V_ 10 34]
def R50_5:=R_ [V_ 35 10,H_ 36 35 0]
def R50_6:=R_ [V_ 37 10,o_ 4 (c_ (.int .i64 (-1))),V_ 5 37]
def R50_7:CT:=.drw [38,39,40,41,42,43,44,45,46,47,48,49] [iv_ [6] 38 6 1,iv_ [7] 41 7 1,i_ [38] 44 (eNilc (z_ 38)) 1,ia_ [44] 45 1 44 1,j_ [45,41] (s_ 1 45 41),iv_ [6] 39 6 2,in_ [8] 42 2 8 2,i_ [39] 46 (eNilc (z_ 39)) 1,ia_ [46] 47 2 46 1,j_ [47,42] (s_ 2 47 42),iv_ [6] 40 6 3,iv_ [9] 43 9 3,i_ [40] 48 (eNilc (z_ 40)) 1,ia_ [48] 49 4 48 1,j_ [49,43] (s_ 1 49 43)]
def R50_8:=R_ [V_ 50 9,o_ 51 (u_ (cUn .not) 50)]
def R50_9:=R_ [V_ 52 6,o_ 53 (eNilc (z_ 52)),A_ 54 1 53,oP pdN (eStore 1 (z_ 54) (constG (.cst (.slice none 0 0))))]
def R50_10:=R_ [A_ 55 5 3,L_ 56 55,V_ 4 56,I_ 5 0]
def R50_11:=R_ [o_ 4 (c_ (.int .i64 (-1))),I_ 5 0]
def B50:=sq R50_0 (sq R50_1 (sq (sq R50_2 (cd 22 (sq R50_3 .ret) .skip)) (sq R50_4 (sq (sq R50_5 (cd 36 (sq R50_6 .ret) .skip)) (sq R50_7 (sq (sq R50_8 (cd 51 (sq R50_9 (sq R50_10 .ret)) .skip)) (sq R50_11 .ret)))))))
def A50:CF:=⟨[rTmp 4,rTmp 5],B50,57⟩
theorem c50:ctF pG 50=some A50:=by kernel_rfl
def R51_0:=R_ [X_ 3 1,I_ 4 0,I_ 5 0]
def R51_1:=R_ [o_ 6 (eAlloc z1_ 3)]
def R51_2:CT:=.drw [8,9,10,11,12,13,14,15,7] [iv_ [0] 8 0 1,i_ [8] 9 (eNilc (z_ 8)) 1,ia_ [9] 10 6 9 1,il_ [10] 11 10 1,ia_ [3] 12 2 3 1,il_ [12] 13 12 1,iJ_ [11,13] 14 5 11 13 1,in_ [14] 15 5 14 1,i_ [] 7 (eAlloc z7_ 5) 1,j_ [7,15] (s_ 5 7 15)]
def R51_3:=R_ [A_ 16 3 3,L_ 17 16,A_ 18 1 7,L_ 19 18,E_ 20 19,B_ 21 17 20]
def R51_4:=R_ [A_ 22 1 7,L_ 23 22,A_ 24 3 3,L_ 25 24,J_ 26 3 23 25,N_ 27 3 26,S_ 3 6 27]
def R51_5:CT:=.drw [28,29,30,31,32,33,34,35] [iv_ [0] 28 0 1,i_ [28] 29 (eNilc (z_ 28)) 1,ia_ [29] 30 5 29 1,il_ [30] 31 30 1,ia_ [3] 32 1 3 1,il_ [32] 33 32 1,in_ [6] 34 3 6 1,iJ_ [31,33] 35 3 31 33 1,j_ [35,34] (s_ 3 35 34)]
def R51_6:=R_ [o_ 4 (c_ (.int .i64 (-1))),I_ 5 0]
def B51:=sq R51_0 (sq R51_1 (sq (sq R51_2 (sq R51_3 (cd 21 R51_4 .skip))) (sq R51_5 (sq R51_6 .ret))))
def A51:CF:=⟨[rTmp 4,rTmp 5],B51,36⟩
theorem c51:ctF pG 51=some A51:=by kernel_rfl
def R52_0:=R_ [X_ 3 1,I_ 4 0,I_ 5 0]
def R52_1:CT:=.drw [6,7,8,9,10,11,12,13,14] [iv_ [0] 6 0 1,i_ [6] 7 (eNilc (z_ 6)) 1,ia_ [7] 8 5 7 1,il_ [8] 9 8 1,ia_ [3] 10 1 3 1,il_ [10] 11 10 1,ia_ [3] 12 12 3 1,in_ [12] 13 3 12 1,iJ_ [9,11] 14 3 9 11 1,j_ [14,13] (s_ 3 14 13)]
def R52_2:=R_ [o_ 4 (c_ (.int .i64 (-1))),I_ 5 0]
def B52:=sq R52_0 (sq R52_1 (sq R52_2 .ret))
def A52:CF:=⟨[rTmp 4,rTmp 5],B52,15⟩
theorem c52:ctF pG 52=some A52:=by kernel_rfl
def R53_0:=R_ [X_ 3 1,I_ 4 0,I_ 5 0]
def R53_1:CT:=.drw [9,10,11,12,13,14,15,16,17,18,19,20,21,6] [ia_ [3] 9 6 3 1,il_ [9] 10 9 1,iv_ [0] 11 0 1,i_ [11] 12 (eNilc (z_ 11)) 1,ia_ [12] 13 5 12 1,il_ [13] 14 13 1,ia_ [3] 15 2 3 1,il_ [15] 16 15 1,iJ_ [14,16] 17 3 14 16 1,in_ [17] 18 3 17 1,i_ [18] 19 (eBuild z5_ 8 [(0,1,(constG (.int .i64 1))),(1,3,(z_ 18))]) 1,i_ [19] 20 (eBslice z5_ 1 8 [(0,8,(z_ 19))]) 1,i_ [10,20] 21 (eBuild z5_ 8 [(0,1,(z_ 10)),(7,1,(z_ 20))]) 1,i_ [] 6 (eAlloc z5_ 8) 1,j_ [6,21] (s_ 8 6 21)]
def R53_2:=R_ [A_ 22 6 3,L_ 23 22,o_ 24 (d_ (cBin .geq) 23 (.int .i64 8))]
def R53_3:CT:=.drw [25,26,27,28,29,30,31,32,33,34,35,36,37,38] [ia_ [6] 25 7 6 1,il_ [25] 26 25 1,iv_ [0] 27 0 1,i_ [27] 28 (eNilc (z_ 27)) 1,ia_ [28] 29 5 28 1,il_ [29] 30 29 1,ia_ [3] 31 3 3 1,il_ [31] 32 31 1,iJ_ [30,32] 33 3 30 32 1,in_ [33] 34 3 33 1,i_ [34] 35 (eBuild z5_ 8 [(0,1,(constG (.int .i64 1))),(1,3,(z_ 34))]) 1,i_ [35] 36 (eBslice z5_ 1 8 [(0,8,(z_ 35))]) 1,mI [26,36] (pdT 37) (eApp 8 104 (z_ 26) (z_ 36)),ia_ [6] 38 7 6 1,j_ [38,37] (s_ 1 38 37)]
def R53_4:=R_ [N_ 40 8 6,y_ 41 75 [z_ 40,(constG (.cst (.slice none 0 0)))],V_ 39 41,W_ 42 0 39,W_ 43 1 39,o_ 7 (eAlloc z1_ 3),S_ 3 7 42,V_ 8 43]
def R53_5:=R_ [V_ 44 8,H_ 45 44 0]
def R53_6:=R_ [V_ 46 0,V_ 47 8,y_ 48 76 [z_ 46,z_ 47]]
def R53_7:=R_ [A_ 49 5 3,L_ 50 49,V_ 4 50,I_ 5 0]
def R53_8:CT:=.drw [51,52,53,54,55,56,57,58] [iv_ [0] 51 0 1,i_ [51] 52 (eNilc (z_ 51)) 1,ia_ [52] 53 5 52 1,il_ [53] 54 53 1,ia_ [3] 55 1 3 1,il_ [55] 56 55 1,in_ [7] 57 3 7 1,iJ_ [54,56] 58 3 54 56 1,j_ [58,57] (s_ 3 58 57)]
def R53_9:=R_ [o_ 4 (c_ (.int .i64 (-1))),I_ 5 0]
def B53:=sq R53_0 (sq R53_1 (sq (sq R53_2 (cd 24 R53_3 .skip)) (sq R53_4 (sq (sq R53_5 (cd 45 (sq R53_6 (sq R53_7 .ret)) .skip)) (sq R53_8 (sq R53_9 .ret))))))
def A53:CF:=⟨[rTmp 4,rTmp 5],B53,59⟩
theorem c53:ctF pG 53=some A53:=by kernel_rfl
def R54_0:=R_ [X_ 3 1,I_ 4 0,I_ 5 0]
def R54_1:CT:=.drw [7,8,9,10,11,12,13,14,6] [iv_ [0] 7 0 1,i_ [7] 8 (eNilc (z_ 7)) 1,ia_ [8] 9 5 8 1,il_ [9] 10 9 1,ia_ [3] 11 1 3 1,il_ [11] 12 11 1,iJ_ [10,12] 13 3 10 12 1,in_ [13] 14 3 13 1,i_ [] 6 (eAlloc z1_ 3) 1,j_ [6,14] (s_ 3 6 14)]
def R54_2:=R_ [A_ 15 0 6,L_ 16 15]
def R54_3:=R_ [K_ 18 16 3,V_ 17 18]
def R54_4:=R_ [A_ 19 1 6,L_ 20 19,K_ 21 20 1]
def R54_5:=R_ [o_ 4 (c_ (.int .i64 (-1))),I_ 5 0]
def R54_6:=R_ [K_ 23 16 1,V_ 22 23]
def R54_7:=R_ [K_ 24 16 2,V_ 22 24]
def R54_8:=R_ [V_ 25 0,y_ 26 76 [z_ 25,(constG (.int .i64 30))]]
def R54_9:=R_ [A_ 27 5 3,L_ 28 27,V_ 4 28,I_ 5 0]
def B54:=sq R54_0 (sq (sq R54_1 (sq R54_2 (.block 0 (sq R54_3 (cd 17 (sq R54_4 (cd 21 (sq R54_5 .ret) .skip)) (sq (sq R54_6 (cd 22 .skip R54_7)) (cd 22 R54_8 .skip))))))) (sq R54_9 .ret))
def A54:CF:=⟨[rTmp 4,rTmp 5],B54,29⟩
theorem c54:ctF pG 54=some A54:=by kernel_rfl
def R55_0:=R_ [X_ 3 1,I_ 4 0,I_ 5 0]
def R55_1:=R_ [V_ 6 0,y_ 7 77 [z_ 6]]
def R55_2:CT:=.drw [8,9,10,11,12,13,14,15,16,17,18,19,20,21,22,23,24,25,26,27,28,29] [iv_ [0] 13 0 1,i_ [13] 14 (eNilc (z_ 13)) 1,ia_ [14] 15 5 14 1,il_ [15] 16 15 1,ia_ [3] 17 1 3 1,il_ [17] 18 17 1,ia_ [3] 19 1 3 1,il_ [19] 20 19 1,ia_ [3] 21 4 3 1,il_ [21] 22 21 1,i_ [20,22] 23 (b_ (cBin .add) 20 22) 1,i_ [16,18,23] 24 (eSl (cSlc 3) (z_ 16) (some (z_ 18)) (some (z_ 23)) none) 1,cI [24] (pdT 25) 28 [z_ 24],iv_ [0] 9 0 2,i_ [9] 10 (eNilc (z_ 9)) 2,ia_ [10] 11 11 10 2,il_ [11] 12 11 2,i_ [25] 26 (eBslice [(.cst (.slice none 0 0))] 1 1 [(0,1,(z_ 25))]) 1,mI [12,26] (pdT 27) (eApp 1 24 (z_ 12) (z_ 26)),iv_ [0] 8 0 3,i_ [8] 28 (eNilc (z_ 8)) 1,ia_ [28] 29 11 28 1,j_ [29,27] (s_ 1 29 27)]
def R55_3:=R_ [o_ 4 (c_ (.int .i64 (-1))),I_ 5 0]
def B55:=sq R55_0 (sq (sq R55_1 (cd 7 R55_2 .skip)) (sq R55_3 .ret))
def A55:CF:=⟨[rTmp 4,rTmp 5],B55,30⟩
theorem c55:ctF pG 55=some A55:=by kernel_rfl
def R56_0:=R_ [X_ 3 1,I_ 4 0,I_ 5 0]
def R56_1:CT:=.drw [7,8,9,10,11,12,13,14,6] [iv_ [0] 7 0 1,i_ [7] 8 (eNilc (z_ 7)) 1,ia_ [8] 9 6 8 1,il_ [9] 10 9 1,ia_ [3] 11 1 3 1,il_ [11] 12 11 1,iJ_ [10,12] 13 5 10 12 1,in_ [13] 14 5 13 1,i_ [] 6 (eAlloc z7_ 5) 1,j_ [6,14] (s_ 5 6 14)]
def R56_2:=R_ [A_ 15 4 6,L_ 16 15,V_ 17 16,gv_ 17 18 0,gcP (z_ 17) true (pdT 19) 77 [z_ 18],P_ 20 17 19]
def R56_3:CT:=.drw [21,22,23,24,25,26,27,28,29,30,31,32,33,34,35,36,37,38,39,40,41,42,43,44,45] [iv_ [0] 28 0 1,i_ [28] 29 (eNilc (z_ 28)) 1,ia_ [29] 30 5 29 1,il_ [30] 31 30 1,ia_ [3] 32 2 3 1,il_ [32] 33 32 1,ia_ [3] 34 2 3 1,il_ [34] 35 34 1,ia_ [3] 36 4 3 1,il_ [36] 37 36 1,i_ [35,37] 38 (b_ (cBin .add) 35 37) 1,i_ [31,33,38] 39 (eSl (cSlc 3) (z_ 31) (some (z_ 33)) (some (z_ 38)) none) 1,cI [39] (pdT 40) 28 [z_ 39],iv_ [0] 22 0 2,i_ [22] 23 (eNilc (z_ 22)) 2,ia_ [23] 24 12 23 2,il_ [24] 25 24 2,ia_ [6] 26 2 6 2,in_ [26] 27 2 26 2,i_ [27,40] 41 (eBuild z11_ 3 [(0,2,(z_ 27)),(2,1,(z_ 40))]) 1,i_ [41] 42 (eBslice z11_ 1 3 [(0,3,(z_ 41))]) 1,mI [25,42] (pdT 43) (eApp 3 40 (z_ 25) (z_ 42)),iv_ [0] 21 0 3,i_ [21] 44 (eNilc (z_ 21)) 1,ia_ [44] 45 12 44 1,j_ [45,43] (s_ 1 45 43)]
def R56_4:=R_ [o_ 4 (c_ (.int .i64 (-1))),I_ 5 0]
def B56:=sq R56_0 (sq (sq R56_1 (sq R56_2 (cd 20 R56_3 .skip))) (sq R56_4 .ret))
def A56:CF:=⟨[rTmp 4,rTmp 5],B56,46⟩
theorem c56:ctF pG 56=some A56:=by kernel_rfl
def R57_0:=R_ [X_ 3 1,I_ 4 0,I_ 5 0]
def R57_1:=R_ [A_ 6 5 3,L_ 7 6,V_ 4 7,I_ 5 0]
def B57:=sq R57_0 (sq R57_1 .ret)
def A57:CF:=⟨[rTmp 4,rTmp 5],B57,8⟩
theorem c57:ctF pG 57=some A57:=by kernel_rfl
def R58_0:=R_ [X_ 3 1,I_ 4 0,I_ 5 0]
def R58_1:=R_ [V_ 6 0,o_ 7 (eNilc (z_ 6)),A_ 8 8 7,oP pdN (eStore 1 (z_ 8) (constG (.bool true)))]
def R58_2:=R_ [o_ 4 (c_ (.int .i64 (-1))),I_ 5 0]
def B58:=sq R58_0 (sq R58_1 (sq R58_2 .ret))
def A58:CF:=⟨[rTmp 4,rTmp 5],B58,9⟩
theorem c58:ctF pG 58=some A58:=by kernel_rfl
def R59_0:=R_ [X_ 1 0,o_ 2 (eAlloc [.bool false] 1)]
def R59_1:=R_ [A_ 12 0 1,L_ 13 12,E_ 14 13,o_ 15 (d_ (cBin .gtr) 14 (.int .i64 32)),V_ 16 15,ha_ 16 17 1 1,hl_ 16 18 17,h_ 16 19 (u_ cLenL 18),h_ 16 20 (d_ (cBin .gtr) 19 (.int .i64 64)),Q_ 21 16 20]
def R59_2:=R_ [oP pdN (eStore 1 (z_ 2) (constG (.bool false)))]
def R59_3:=R_ [o_ 22 (eMkmap),o_ 3 (eAlloc [(.cst (.map none))] 1),S_ 1 3 22]
def R59_4:=R_ [N_ 23 2 1,y_ 24 78 [z_ 23]]
def R59_5:=R_ [V_ 4 25]
def R59_6:=R_ [L_ 26 3,V_ 27 4,o_ 28 (eLookup .i (.int .i64 0) false (z_ 26) (z_ 27)),D_ 29 28 1,oP pdN (eMput .i (z_ 26) (z_ 27) (z_ 29))]
def R59_7:=R_ [V_ 30 4,o_ 31 (d_ (cEq false .num) 30 (.int .u32 0)),V_ 32 31,hl_ 32 33 3,hv_ 32 34 4,h_ 32 35 (eLookup .i (.int .i64 0) false (z_ 33) (z_ 34)),h_ 32 36 (d_ (cBin .gtr) 35 (.int .i64 1)),Q_ 37 32 36]
def R59_8:=R_ [oP pdN (eStore 1 (z_ 2) (constG (.bool false)))]
def Y59_0:Code×Code:=rngOf pG 59 0
theorem y59_0a:ctOf pG 120 true Y59_0.1=R59_5:=by kernel_rfl
theorem y59_0b:ctOf pG 120 true Y59_0.2=(.block 1 (sq R59_6 (sq R59_7 (cd 37 (sq R59_8 .ret) .skip)))):=by kernel_rfl
def R59_9:=R_ [o_ 5 (c_ (.int .u32 0))]
def R59_10:=R_ [A_ 38 0 1,L_ 39 38,E_ 40 39,I_ 41 0]
def R59_11:=R_ [B_ 42 41 40]
def R59_12:=R_ [V_ 43 41,J_ 44 4 39 41,N_ 45 4 44,o_ 7 (eAlloc z2_ 4),V_ 6 43,S_ 4 7 45]
def R59_13:=R_ [A_ 46 0 7,L_ 47 46,V_ 48 5,o_ 49 (b_ (cBin .leq) 47 48),V_ 50 49,ha_ 50 51 1 7,hl_ 50 52 51,gcP (z_ 50) false (pdT 53) 79 [z_ 52],h_ 50 54 (u_ (cUn .not) 53),Q_ 55 50 54,V_ 56 55,ha_ 56 57 2 7,hl_ 56 58 57,gcP (z_ 56) false (pdT 59) 80 [z_ 58],h_ 56 60 (u_ (cUn .not) 59),Q_ 61 56 60,V_ 62 61,ha_ 62 63 0 1,hl_ 62 64 63,hv_ 62 65 6,h_ 62 66 (eSl (cSlc 4) (z_ 64) none (some (z_ 65)) none),h_ 62 67 (eMkfn (.func 82) [] [z_ 7]),gcP (z_ 62) false (pdT 68) 81 [z_ 66,z_ 67],Q_ 69 62 68]
def R59_14:=R_ [oP pdN (eStore 1 (z_ 2) (constG (.bool false)))]
def R59_15:=R_ [A_ 70 0 7,L_ 71 70,V_ 5 71]
def R59_16:=R_ [D_ 72 41 1,V_ 41 72]
def L59_0:=sq R59_11 (sq (cd 42 .skip (.exit 2)) (sq (.block 3 (sq R59_12 (sq (sq R59_13 (cd 69 (sq R59_14 .ret) .skip)) R59_15))) R59_16))
def R59_17:=R_ [o_ 5 (c_ (.int .u32 0))]
def R59_18:=R_ [A_ 73 1 1,L_ 74 73,E_ 75 74,I_ 76 0]
def R59_19:=R_ [B_ 77 76 75]
def R59_20:=R_ [V_ 78 76,J_ 79 6 74 76,N_ 80 6 79,o_ 9 (eAlloc z3_ 6),V_ 8 78,S_ 6 9 80]
def R59_21:=R_ [N_ 82 2 1,A_ 83 1 9,L_ 84 83,y_ 85 83 [z_ 82,z_ 84],V_ 81 85,W_ 86 0 81,W_ 87 1 81,o_ 10 (eAlloc z2_ 4),S_ 4 10 86,V_ 11 87]
def R59_22:=R_ [A_ 88 0 9,L_ 89 88,V_ 90 5,o_ 91 (b_ (cBin .leq) 89 90),V_ 92 91,ha_ 92 93 2 9,hl_ 92 94 93,gcP (z_ 92) false (pdT 95) 79 [z_ 94],h_ 92 96 (u_ (cUn .not) 95),Q_ 97 92 96,V_ 98 97,hv_ 98 99 11,h_ 98 100 (u_ (cUn .not) 99),Q_ 101 98 100,V_ 102 101,hn_ 102 103 4 10,ha_ 102 104 3 9,hl_ 102 105 104,gcP (z_ 102) false (pdT 106) 84 [z_ 103,z_ 105],h_ 102 107 (u_ (cUn .not) 106),Q_ 108 102 107,V_ 109 108,ha_ 109 110 1 1,hl_ 109 111 110,hv_ 109 112 8,h_ 109 113 (eSl (cSlc 6) (z_ 111) none (some (z_ 112)) none),h_ 109 114 (eMkfn (.func 86) [] [z_ 9]),gcP (z_ 109) false (pdT 115) 85 [z_ 113,z_ 114],Q_ 116 109 115]
def R59_23:=R_ [oP pdN (eStore 1 (z_ 2) (constG (.bool false)))]
def R59_24:=R_ [A_ 117 0 9,L_ 118 117,V_ 5 118]
def R59_25:=R_ [D_ 119 76 1,V_ 76 119]
def L59_1:=sq R59_19 (sq (cd 77 .skip (.exit 4)) (sq (.block 5 (sq R59_20 (sq R59_21 (sq (sq R59_22 (cd 116 (sq R59_23 .ret) .skip)) R59_24)))) R59_25))
def R59_26:=R_ [oP pdN (eStore 1 (z_ 2) (constG (.bool true)))]
def B59:=sq R59_0 (sq (sq R59_1 (cd 21 (sq R59_2 .ret) .skip)) (sq R59_3 (sq (sq R59_4 (.block 0 (.range 120 (z_ 24) [25] Y59_0.1 Y59_0.2))) (sq R59_9 (sq (sq R59_10 (.block 2 (.loop L59_0))) (sq R59_17 (sq (sq R59_18 (.block 4 (.loop L59_1))) (sq R59_26 .ret))))))))
def A59:CF:=⟨[rCel1 2],B59,120⟩
theorem c59:ctF pG 59=some A59:=by kernel_rfl
def R60_0:=R_ [I_ 4 0]
def R60_1:=R_ [V_ 7 0,y_ 8 80 [z_ 7],o_ 9 (u_ (cUn .not) 8),V_ 10 9,hv_ 10 11 1,h_ 10 12 (u_ cLenL 11),hv_ 10 13 0,h_ 10 14 (u_ cLenL 13),h_ 10 15 (b_ (cEq true .num) 12 14),Q_ 16 10 15]
def R60_2:=R_ [I_ 4 1]
def R60_3:=R_ [V_ 17 1,E_ 18 17,I_ 19 0]
def R60_4:=R_ [B_ 20 19 18]
def R60_5:=R_ [V_ 21 19,J_ 22 3 17 19,N_ 23 3 22,o_ 6 (eAlloc z1_ 3),V_ 5 21,S_ 3 6 23]
def R60_6:=R_ [N_ 25 3 6,y_ 26 47 [z_ 25],o_ 27 (u_ (cUn .not) 26),V_ 24 27]
def R60_7:=R_ [I_ 4 5]
def R60_8:CT:=.drw [29,30,31,32,33,34,35,36,37,38,39,40,41] [ia_ [6] 29 0 6 1,il_ [29] 30 29 1,i_ [30] 31 (d_ (cEq true .num) 30 (.int .i64 0)) 1,iv_ [31] 32 31 1,goI [32,6] (z_ 32) true (pdT 33) (a_ 0 6) 1,goI [32,33] (z_ 32) true (pdT 34) (l_ 33) 1,goI [32,0] (z_ 32) true (pdT 35) (v_ 0) 1,goI [32,5] (z_ 32) true (pdT 36) (v_ 5) 1,goI [32,35,36] (z_ 32) true (pdT 37) (b_ (cIxa 3) 35 36) 1,goI [32,37] (z_ 32) true (pdT 38) (a_ 1 37) 1,goI [32,38] (z_ 32) true (pdT 39) (l_ 38) 1,goI [32,34,39] (z_ 32) true (pdT 40) (b_ (cEq true .num) 34 39) 1,i_ [32,40] 41 (p_ 32 40) 1,iv_ [41] 28 41 1]
def R60_9:=R_ [I_ 4 30]
def R60_10:=R_ [A_ 43 0 6,L_ 44 43,K_ 45 44 0,V_ 46 45,gv_ 46 47 0,gv_ 46 48 5,g_ 46 49 (b_ (cIxa 3) 47 48),ga_ 46 50 2 49,gl_ 46 51 50,P_ 52 46 51,V_ 42 52]
def R60_11:=R_ [I_ 4 50]
def R60_12:=R_ [D_ 53 19 1,V_ 19 53]
def L60_0:=sq R60_4 (sq (cd 20 .skip (.exit 0)) (sq (.block 1 (sq R60_5 (.block 2 (sq R60_6 (cd 24 (sq R60_7 .ret) (sq R60_8 (cd 28 (sq R60_9 .ret) (sq R60_10 (cd 42 (sq R60_11 .ret) .skip))))))))) R60_12))
def R60_13:=R_ [I_ 4 0]
def B60:=sq R60_0 (sq (sq R60_1 (cd 16 (sq R60_2 .ret) .skip)) (sq (sq R60_3 (.block 0 (.loop L60_0))) (sq R60_13 .ret)))
def A60:CF:=⟨[rTmp 4],B60,54⟩
theorem c60:ctF pG 60=some A60:=by kernel_rfl
def R61_0:=R_ [F_ 4]
def R61_1:=R_ [V_ 6 0,E_ 7 6,o_ 8 (d_ (cBin .sub) 7 (.int .i64 1)),V_ 5 8]
def R61_2:=R_ [V_ 9 5,o_ 10 (d_ (cBin .gtr) 9 (.int .i64 0))]
def R61_3:CT:=.drw [13,14,15,16,17,18,19,20,21,22,23,24] [iv_ [1] 13 1 1,iv_ [0] 14 0 1,iv_ [5] 15 5 1,iJ_ [14,15] 16 1 14 15 1,il_ [16] 17 16 1,iv_ [0] 18 0 1,iv_ [5] 19 5 1,i_ [19] 20 (d_ (cBin .sub) 19 (.int .i64 1)) 1,iJ_ [18,20] 21 1 18 20 1,il_ [21] 22 21 1,vI [13,17,22] (pdT 23) (z_ 13) [z_ 17,z_ 22],i_ [23] 24 (d_ (cBin .lss) 23 (.int .i64 0)) 1]
def R61_4:=R_ [F_ 4]
def R61_5:=R_ [V_ 11 5,o_ 12 (d_ (cBin .sub) 11 (.int .i64 1)),V_ 5 12]
def L61_0:=sq (sq R61_2 (cd 10 .skip (.exit 0))) (sq (.block 1 (sq R61_3 (cd 24 (sq R61_4 .ret) .skip))) R61_5)
def R61_6:=R_ [T_ 4]
def B61:=sq R61_0 (sq (sq R61_1 (.block 0 (.loop L61_0))) (sq R61_6 .ret))
def A61:CF:=⟨[rTmp 4],B61,25⟩
theorem c61:ctF pG 61=some A61:=by kernel_rfl
def R62_0:=R_ [I_ 4 0]
def R62_1:=R_ [V_ 8 0,E_ 9 8,V_ 10 1,E_ 11 10,o_ 12 (eMnx minI [z_ 9,z_ 11]),I_ 13 0]
def R62_2:=R_ [B_ 14 13 12]
def R62_3:=R_ [V_ 15 13,V_ 5 15]
def R62_4:CT:=.drw [17,18,19,20,21,22,23,24,25,16,26,27] [iv_ [0] 17 0 1,iv_ [5] 18 5 1,iJ_ [17,18] 19 3 17 18 1,in_ [19] 20 3 19 1,iv_ [1] 21 1 1,iv_ [5] 22 5 1,iJ_ [21,22] 23 3 21 22 1,in_ [23] 24 3 23 1,cI [20,24] (pdT 25) 87 [z_ 20,z_ 24],iv_ [25] 16 25 1,i_ [16] 26 (u_ (cExt 0) 16) 1,i_ [16] 27 (u_ (cExt 1) 16) 1,iv_ [26] 6 26 1,iv_ [27] 7 27 1]
def R62_5:=R_ [V_ 28 7,H_ 29 28 0]
def R62_6:=R_ [I_ 6 0]
def R62_7:=R_ [V_ 30 0,V_ 31 5,J_ 32 3 30 31,N_ 33 3 32,y_ 34 47 [z_ 33]]
def R62_8:=R_ [o_ 6 (c_ (.int .i64 (-1)))]
def R62_9:=R_ [V_ 35 1,V_ 36 5,J_ 37 3 35 36,N_ 38 3 37,y_ 39 47 [z_ 38]]
def R62_10:=R_ [I_ 6 1]
def R62_11:=R_ [V_ 40 6,H_ 41 40 0]
def R62_12:=R_ [V_ 42 6,V_ 4 42]
def R62_13:=R_ [D_ 43 13 1,V_ 13 43]
def L62_0:=sq R62_2 (sq (cd 14 .skip (.exit 0)) (sq (.block 1 (sq R62_3 (sq R62_4 (sq (sq R62_5 (cd 29 (sq R62_6 (sq R62_7 (cd 34 R62_8 (sq R62_9 (cd 39 R62_10 .skip))))) .skip)) (sq R62_11 (cd 41 (sq R62_12 .ret) .skip)))))) R62_13))
def R62_14:=R_ [V_ 44 0,E_ 45 44,V_ 46 1,E_ 47 46,o_ 48 (b_ (cBin .sub) 45 47),V_ 4 48]
def B62:=sq R62_0 (sq (sq R62_1 (.block 0 (.loop L62_0))) (sq R62_14 .ret))
def A62:CF:=⟨[rTmp 4],B62,49⟩
theorem c62:ctF pG 62=some A62:=by kernel_rfl
def R63_0:=R_ [X_ 3 0,X_ 4 1,I_ 6 0]
def R63_1:=R_ [y_ 20 88 [],V_ 7 20]
def R63_2:=R_ [V_ 21 2,E_ 22 21,I_ 23 0]
def R63_3:=R_ [B_ 24 23 22]
def R63_4:=R_ [J_ 25 1 21 23,L_ 26 25,V_ 9 26]
def R63_5:=R_ [A_ 28 2 4,L_ 29 28,V_ 30 9,y_ 31 89 [z_ 29,z_ 30],V_ 27 31,W_ 32 0 27,W_ 33 1 27,V_ 10 32,V_ 11 33]
def R63_6:=R_ [V_ 34 7,V_ 35 11,vP (pdT 36) (z_ 34) [z_ 35]]
def R63_7:=R_ [N_ 37 2 3,A_ 38 0 4,L_ 39 38,y_ 40 90 [z_ 37,z_ 39],E_ 41 40,I_ 42 0]
def R63_8:=R_ [B_ 43 42 41]
def R63_9:=R_ [J_ 44 6 40 42,N_ 45 6 44,o_ 13 (eAlloc z3_ 6),S_ 6 13 45]
def R63_10:=R_ [V_ 46 11,K_ 47 46 0]
def R63_11:=R_ [N_ 49 6 13,V_ 50 9,y_ 51 91 [z_ 49,z_ 50],V_ 48 51,W_ 52 0 48,W_ 53 1 48,W_ 54 2 48,V_ 14 52,V_ 15 53,V_ 16 54]
def R63_12:=R_ [V_ 55 7,V_ 56 16,vP (pdT 57) (z_ 55) [z_ 56]]
def R63_13:=R_ [D_ 58 42 1,V_ 42 58]
def L63_0:=sq R63_8 (sq (cd 43 .skip (.exit 2)) (sq (.block 3 (sq R63_9 (sq R63_10 (cd 47 (sq R63_11 R63_12) .skip)))) R63_13))
def R63_14:=R_ [D_ 59 23 1,V_ 23 59]
def L63_1:=sq R63_3 (sq (cd 24 .skip (.exit 0)) (sq (.block 1 (sq R63_4 (sq R63_5 (sq R63_6 (sq R63_7 (.block 2 (.loop L63_0))))))) R63_14))
def R63_15:=R_ [V_ 60 7,vP (pdT 61) (z_ 60) [(constG (.int .i64 0))],V_ 17 61]
def R63_16:=R_ [V_ 62 17,H_ 63 62 0]
def R63_17:=R_ [V_ 64 17,V_ 6 64]
def R63_18:=R_ [N_ 65 2 3,A_ 66 0 4,L_ 67 66,y_ 68 90 [z_ 65,z_ 67],E_ 69 68,I_ 70 0]
def R63_19:=R_ [B_ 71 70 69]
def R63_20:=R_ [J_ 72 6 68 70,N_ 73 6 72,o_ 19 (eAlloc z3_ 6),S_ 6 19 73]
def R63_21:=R_ [A_ 74 4 19,L_ 75 74,V_ 76 75,gn_ 76 77 6 19,gv_ 76 78 2,gcP (z_ 76) true (pdT 79) 92 [z_ 77,z_ 78],P_ 80 76 79]
def R63_22:=R_ [I_ 6 160]
def R63_23:=R_ [D_ 81 70 1,V_ 70 81]
def L63_2:=sq R63_19 (sq (cd 71 .skip (.exit 4)) (sq (.block 5 (sq R63_20 (sq R63_21 (cd 80 (sq R63_22 .ret) .skip)))) R63_23))
def R63_24:=R_ [I_ 6 0]
def B63:=sq R63_0 (sq R63_1 (sq (sq R63_2 (.block 0 (.loop L63_1))) (sq (sq R63_15 (sq R63_16 (cd 63 (sq R63_17 .ret) .skip))) (sq (sq R63_18 (.block 4 (.loop L63_2))) (sq R63_24 .ret)))))
def A63:CF:=⟨[rTmp 6],B63,82⟩
theorem c63:ctF pG 63=some A63:=by kernel_rfl
def R71_0:=R_ [o_ 4 (c_ (.str [])),I_ 5 0]
def R71_1:=R_ [V_ 10 0,V_ 11 1,y_ 12 103 [z_ 10,z_ 11],V_ 6 12]
def R71_2:=R_ [V_ 13 6,H_ 14 13 0]
def R71_3:=R_ [V_ 15 6,o_ 4 (c_ (.str [])),V_ 5 15]
def R71_4:=R_ [V_ 16 1,E_ 17 16,D_ 18 17 7,o_ 19 (d_ (cBin .quo) 18 (.int .i64 8)),o_ 20 (eMksl z13_ 1 1 (z_ 19) (z_ 19)),V_ 7 20]
def R71_5:=R_ [I_ 8 0]
def R71_6:=R_ [V_ 21 8,V_ 22 1,E_ 23 22,B_ 24 21 23]
def R71_7:=R_ [V_ 27 1,V_ 28 8,J_ 29 3 27 28,A_ 30 0 29,L_ 31 30,K_ 32 31 0]
def R71_8:CT:=.drw [33,34,35,36,37,38,39,40,41,42,43,44,45] [iv_ [7] 33 7 1,iv_ [8] 34 8 1,i_ [34] 35 (d_ (cBin .quo) 34 (.int .i64 8)) 1,iv_ [7] 36 7 1,iv_ [8] 37 8 1,i_ [37] 38 (d_ (cBin .quo) 37 (.int .i64 8)) 1,iJ_ [36,38] 39 1 36 38 1,il_ [39] 40 39 1,iv_ [8] 41 8 1,i_ [41] 42 (d_ (cBin .rem) 41 (.int .i64 8)) 1,i_ [42] 43 (e2 (cBin .shl) (constG (.int .u8 1)) (z_ 42)) 1,i_ [40,43] 44 (b_ (cBin .add) 40 43) 1,iJ_ [33,35] 45 1 33 35 1,j_ [45,44] (s_ 1 45 44)]
def R71_9:=R_ [V_ 25 8,D_ 26 25 1,V_ 8 26]
def L71_0:=sq (sq R71_6 (cd 24 .skip (.exit 0))) (sq (.block 1 (sq R71_7 (cd 32 R71_8 .skip))) R71_9)
def R71_10:=R_ [I_ 9 0]
def R71_11:=R_ [V_ 46 9,V_ 47 1,E_ 48 47,B_ 49 46 48]
def R71_12:=R_ [V_ 52 1,V_ 53 9,J_ 54 3 52 53,A_ 55 0 54,L_ 56 55,H_ 57 56 0]
def R71_13:=R_ [V_ 58 7,V_ 59 1,V_ 60 9,J_ 61 3 59 60,N_ 62 3 61,y_ 63 104 [z_ 62],o_ 64 (eApp 1 1 (z_ 58) (z_ 63)),V_ 7 64]
def R71_14:=R_ [V_ 50 9,D_ 51 50 1,V_ 9 51]
def L71_1:=sq (sq R71_11 (cd 49 .skip (.exit 2))) (sq (.block 3 (sq R71_12 (cd 57 R71_13 .skip))) R71_14)
def R71_15:=R_ [V_ 65 7,E_ 66 65,o_ 67 (d_ (cBin .gtr) 66 (.int .i64 160))]
def R71_16:=R_ [o_ 4 (c_ (.str [])),I_ 5 51]
def R71_17:=R_ [V_ 68 7,o_ 69 (eB2s (z_ 68)),V_ 4 69,I_ 5 0]
def B71:=sq R71_0 (sq R71_1 (sq (sq R71_2 (cd 14 (sq R71_3 .ret) .skip)) (sq R71_4 (sq (sq R71_5 (.block 0 (.loop L71_0))) (sq (sq R71_10 (.block 2 (.loop L71_1))) (sq (sq R71_15 (cd 67 (sq R71_16 .ret) .skip)) (sq R71_17 .ret)))))))
def A71:CF:=⟨[rTmp 4,rTmp 5],B71,70⟩
theorem c71:ctF pG 71=some A71:=by kernel_rfl
def R72_0:=R_ [o_ 2 (c_ (.str [])),I_ 3 0]
def R72_1:=R_ [V_ 6 0,E_ 7 6,o_ 8 (d_ (cBin .gtr) 7 (.int .i64 16))]
def R72_2:=R_ [o_ 2 (c_ (.str [])),I_ 3 1]
def R72_3:=R_ [o_ 4 (c_ (.str []))]
def R72_4:=R_ [I_ 5 0]
def R72_5:=R_ [V_ 9 5,V_ 10 0,E_ 11 10,B_ 12 9 11]
def R72_6:=R_ [V_ 15 0,V_ 16 5,J_ 17 3 15 16,N_ 18 3 17,y_ 19 97 [z_ 18],o_ 20 (u_ (cUn .not) 19)]
def R72_7:=R_ [o_ 2 (c_ (.str [])),I_ 3 5]
def R72_8:=R_ [V_ 21 4,V_ 22 0,V_ 23 5,J_ 24 3 22 23,N_ 25 3 24,y_ 26 105 [z_ 25],o_ 27 (b_ (cBin .add) 21 26),V_ 4 27]
def R72_9:=R_ [V_ 13 5,D_ 14 13 1,V_ 5 14]
def L72_0:=sq (sq R72_5 (cd 12 .skip (.exit 0))) (sq (.block 1 (sq (sq R72_6 (cd 20 (sq R72_7 .ret) .skip)) R72_8)) R72_9)
def R72_10:=R_ [V_ 28 4,o_ 29 (u_ cLenS 28),o_ 30 (d_ (cBin .gtr) 29 (.int .i64 140))]
def R72_11:=R_ [o_ 2 (c_ (.str [])),I_ 3 51]
def R72_12:=R_ [V_ 31 4,V_ 2 31,I_ 3 0]
def B72:=sq R72_0 (sq (sq R72_1 (cd 8 (sq R72_2 .ret) .skip)) (sq R72_3 (sq (sq R72_4 (.block 0 (.loop L72_0))) (sq (sq R72_10 (cd 30 (sq R72_11 .ret) .skip)) (sq R72_12 .ret)))))
def A72:CF:=⟨[rTmp 2,rTmp 3],B72,32⟩
theorem c72:ctF pG 72=some A72:=by kernel_rfl
def R73_0:=R_ [I_ 2 0]
def R73_1:=R_ [V_ 3 0,K_ 4 3 0]
def R73_2:=R_ [I_ 2 0]
def R73_3:=R_ [V_ 5 0,K_ 6 5 3]
def R73_4:=R_ [I_ 2 1]
def R73_5:=R_ [V_ 7 0,K_ 8 7 1]
def R73_6:=R_ [I_ 2 2]
def R73_7:=R_ [I_ 2 3]
def B73:=sq R73_0 (sq (sq R73_1 (cd 4 (sq R73_2 .ret) .skip)) (sq (sq R73_3 (cd 6 (sq R73_4 .ret) .skip)) (sq (sq R73_5 (cd 8 (sq R73_6 .ret) .skip)) (sq R73_7 .ret))))
def A73:CF:=⟨[rTmp 2],B73,9⟩
theorem c73:ctF pG 73=some A73:=by kernel_rfl
def R74_0:=R_ [I_ 4 0]
def R74_1:=R_ [I_ 5 0]
def R74_2:=R_ [V_ 6 5,V_ 7 0,o_ 8 (u_ cLenS 7),B_ 9 6 8,V_ 10 9,gv_ 10 11 5,gv_ 10 12 1,g_ 10 13 (u_ cLenS 12),g_ 10 14 (b_ (cBin .lss) 11 13),P_ 15 10 14]
def R74_3:CT:=.drw [18,19,20,21,22,23,24] [iv_ [0] 18 0 1,iv_ [5] 19 5 1,i_ [18,19] 20 (b_ cIxs 18 19) 1,iv_ [1] 21 1 1,iv_ [5] 22 5 1,i_ [21,22] 23 (b_ cIxs 21 22) 1,i_ [20,23] 24 (b_ (cBin .lss) 20 23) 1]
def R74_4:=R_ [o_ 4 (c_ (.int .i64 (-1)))]
def R74_5:CT:=.drw [25,26,27,28,29,30,31] [iv_ [0] 25 0 1,iv_ [5] 26 5 1,i_ [25,26] 27 (b_ cIxs 25 26) 1,iv_ [1] 28 1 1,iv_ [5] 29 5 1,i_ [28,29] 30 (b_ cIxs 28 29) 1,i_ [27,30] 31 (b_ (cBin .gtr) 27 30) 1]
def R74_6:=R_ [I_ 4 1]
def R74_7:=R_ [V_ 16 5,D_ 17 16 1,V_ 5 17]
def L74_0:=sq (sq R74_2 (cd 15 .skip (.exit 0))) (sq (.block 1 (sq (sq R74_3 (cd 24 (sq R74_4 .ret) .skip)) (sq R74_5 (cd 31 (sq R74_6 .ret) .skip)))) R74_7)
def R74_8:=R_ [V_ 32 0,o_ 33 (u_ cLenS 32),V_ 34 1,o_ 35 (u_ cLenS 34),B_ 36 33 35]
def R74_9:=R_ [o_ 4 (c_ (.int .i64 (-1)))]
def R74_10:=R_ [V_ 37 0,o_ 38 (u_ cLenS 37),V_ 39 1,o_ 40 (u_ cLenS 39),o_ 41 (b_ (cBin .gtr) 38 40)]
def R74_11:=R_ [I_ 4 1]
def R74_12:=R_ [I_ 4 0]
def B74:=sq R74_0 (sq (sq R74_1 (.block 0 (.loop L74_0))) (sq (sq R74_8 (cd 36 (sq R74_9 .ret) .skip)) (sq (sq R74_10 (cd 41 (sq R74_11 .ret) .skip)) (sq R74_12 .ret))))
def A74:CF:=⟨[rTmp 4],B74,42⟩
theorem c74:ctF pG 74=some A74:=by kernel_rfl
def R75_0:=R_ [X_ 2 0,o_ 4 (eAlloc z1_ 3),I_ 5 0]
def R75_1:=R_ [N_ 6 8 2,V_ 7 1,E_ 8 7,y_ 9 106 [z_ 6,z_ 8],o_ 10 (u_ (cUn .not) 9)]
def R75_2:=R_ [o_ 11 (eBuild z1_ 3 []),S_ 3 4 11,I_ 5 1]
def R75_3:=R_ [V_ 12 1,y_ 13 107 [z_ 12],o_ 14 (u_ (cUn .not) 13)]
def R75_4:=R_ [o_ 15 (eBuild z1_ 3 []),S_ 3 4 15,I_ 5 5]
def R75_5:=R_ [N_ 16 8 2,V_ 17 1,y_ 18 108 [z_ 16,z_ 17],W_ 19 0 18,W_ 20 1 18,S_ 3 4 19,V_ 5 20]
def B75:=sq R75_0 (sq (sq R75_1 (cd 10 (sq R75_2 .ret) .skip)) (sq (sq R75_3 (cd 14 (sq R75_4 .ret) .skip)) (sq R75_5 .ret)))
def A75:CF:=⟨[rCelN 4 3,rTmp 5],B75,21⟩
theorem c75:ctF pG 75=some A75:=by kernel_rfl
def R76_0:=R_ [V_ 4 0,o_ 5 (eNilc (z_ 4)),A_ 6 10 5,L_ 7 6,K_ 8 7 0,V_ 9 8,hv_ 9 10 1,hv_ 9 11 0,h_ 9 12 (eNilc (z_ 11)),ha_ 9 13 10 12,hl_ 9 14 13,h_ 9 15 (b_ (cBin .lss) 10 14),Q_ 16 9 15]
def R76_1:=R_ [V_ 17 0,V_ 18 1,o_ 19 (eNilc (z_ 17)),A_ 20 10 19,S_ 1 20 18]
def B76:=sq R76_0 (cd 16 R76_1 .skip)
def A76:CF:=⟨[],B76,21⟩
theorem c76:ctF pG 76=some A76:=by kernel_rfl
def R77_0:=R_ [F_ 2]
def R77_1:CT:=.drw [3,4,5,6,7,8,9,10,11,12,13,14] [iv_ [0] 3 0 1,i_ [3] 4 (eNilc (z_ 3)) 1,ia_ [4] 5 11 4 1,il_ [5] 6 5 1,i_ [6] 7 (u_ cLenL 6) 1,iv_ [0] 8 0 1,i_ [8] 9 (eNilc (z_ 8)) 1,ia_ [9] 10 12 9 1,il_ [10] 11 10 1,i_ [11] 12 (u_ cLenL 11) 1,i_ [7,12] 13 (b_ (cBin .add) 7 12) 1,i_ [13] 14 (d_ (cBin .lss) 13 (.int .i64 4096)) 1]
def R77_2:=R_ [T_ 2]
def R77_3:=R_ [V_ 15 0,V_ 16 0,o_ 17 (eNilc (z_ 15)),A_ 18 9 17,oP pdN (eStore 1 (z_ 18) (constG (.bool true))),o_ 19 (eNilc (z_ 16)),A_ 20 8 19,oP pdN (eStore 1 (z_ 20) (constG (.bool true)))]
def R77_4:=R_ [F_ 2]
def B77:=sq R77_0 (sq (sq R77_1 (cd 14 (sq R77_2 .ret) .skip)) (sq R77_3 (sq R77_4 .ret)))
def A77:CF:=⟨[rTmp 2],B77,21⟩
theorem c77:ctF pG 77=some A77:=by kernel_rfl
def R78_0:=R_ [X_ 1 0,o_ 2 (c_ (.cst .nilFunc))]
def R78_1:=R_ [o_ 3 (eMkfn (.func 109) [] [z_ 1]),V_ 2 3]
def B78:=sq R78_0 (sq R78_1 .ret)
def A78:CF:=⟨[rTmp 2],B78,4⟩
theorem c78:ctF pG 78=some A78:=by kernel_rfl
def R79_0:=R_ [F_ 2]
def R79_1:=R_ [V_ 5 0,o_ 6 (d_ (cEq false .num) 5 (.str [])),V_ 7 6,hv_ 7 8 0,h_ 7 9 (u_ cLenS 8),h_ 7 10 (d_ (cBin .gtr) 9 (.int .i64 24)),Q_ 11 7 10]
def R79_2:=R_ [F_ 2]
def R79_3:=R_ [V_ 12 0,o_ 13 (u_ cLenS 12),I_ 14 0]
def R79_4:=R_ [B_ 15 14 13]
def R79_5:=R_ [V_ 16 14,V_ 3 16]
def R79_6:=R_ [V_ 17 0,V_ 18 3,o_ 19 (b_ cIxs 17 18),V_ 4 19]
def R79_7:=R_ [V_ 21 4,o_ 22 (d_ (cBin .geq) 21 (.int .u8 97)),V_ 23 22,gv_ 23 24 4,g_ 23 25 (d_ (cBin .leq) 24 (.int .u8 122)),P_ 26 23 25,V_ 20 26]
def R79_8:=R_ [V_ 28 3,o_ 29 (d_ (cBin .gtr) 28 (.int .i64 0)),V_ 30 29,gv_ 30 31 4,g_ 30 32 (d_ (cBin .geq) 31 (.int .u8 48)),gv_ 30 33 32,gv_ 33 34 4,g_ 33 35 (d_ (cBin .leq) 34 (.int .u8 57)),g_ 30 36 (p_ 33 35),gv_ 30 37 36,hv_ 37 38 4,h_ 37 39 (d_ (cEq false .num) 38 (.int .u8 95)),g_ 30 40 (q_ 37 39),P_ 41 30 40,V_ 27 41]
def R79_9:=R_ [F_ 2]
def R79_10:=R_ [D_ 42 14 1,V_ 14 42]
def L79_0:=sq R79_4 (sq (cd 15 .skip (.exit 0)) (sq (.block 1 (sq R79_5 (sq R79_6 (.block 2 (sq R79_7 (cd 20 .skip (sq R79_8 (cd 27 .skip (sq R79_9 .ret))))))))) R79_10))
def R79_11:=R_ [T_ 2]
def B79:=sq R79_0 (sq (sq R79_1 (cd 11 (sq R79_2 .ret) .skip)) (sq (sq R79_3 (.block 0 (.loop L79_0))) (sq R79_11 .ret)))
def A79:CF:=⟨[rTmp 2],B79,43⟩
theorem c79:ctF pG 79=some A79:=by kernel_rfl
def R80_0:=R_ [F_ 2]
def R80_1:=R_ [V_ 7 0,E_ 8 7,K_ 9 8 0,V_ 10 9,hv_ 10 11 0,h_ 10 12 (u_ cLenL 11),h_ 10 13 (d_ (cBin .gtr) 12 (.int .i64 16)),Q_ 14 10 13]
def R80_2:=R_ [F_ 2]
def R80_3:=R_ [V_ 15 0,E_ 16 15,I_ 17 0]
def R80_4:=R_ [B_ 18 17 16]
def R80_5:=R_ [V_ 19 17,J_ 20 3 15 17,N_ 21 3 20,o_ 4 (eAlloc z16_ 3),V_ 3 19,S_ 3 4 21]
def R80_6:=R_ [A_ 22 0 4,L_ 23 22,y_ 24 79 [z_ 23],o_ 25 (u_ (cUn .not) 24),V_ 26 25,ha_ 26 27 1 4,hl_ 26 28 27,h_ 26 29 (d_ (cBin .lss) 28 (.int .i64 1)),Q_ 30 26 29,V_ 31 30,ha_ 31 32 1 4,hl_ 31 33 32,h_ 31 34 (d_ (cBin .gtr) 33 (.int .i64 3)),Q_ 35 31 34]
def R80_7:=R_ [F_ 2]
def R80_8:=R_ [V_ 36 0,V_ 37 3,o_ 38 (eSl (cSlc 3) (z_ 36) none (some (z_ 37)) none),E_ 39 38,I_ 40 0]
def R80_9:=R_ [B_ 41 40 39]
def R80_10:=R_ [J_ 42 3 38 40,N_ 43 3 42,o_ 6 (eAlloc z16_ 3),S_ 3 6 43]
def R80_11:=R_ [A_ 44 0 6,L_ 45 44,A_ 46 0 4,L_ 47 46,o_ 48 (b_ (cEq false .num) 45 47)]
def R80_12:=R_ [F_ 2]
def R80_13:=R_ [D_ 49 40 1,V_ 40 49]
def L80_0:=sq R80_9 (sq (cd 41 .skip (.exit 2)) (sq (.block 3 (sq R80_10 (sq R80_11 (cd 48 (sq R80_12 .ret) .skip)))) R80_13))
def R80_14:=R_ [D_ 50 17 1,V_ 17 50]
def L80_1:=sq R80_4 (sq (cd 18 .skip (.exit 0)) (sq (.block 1 (sq R80_5 (sq (sq R80_6 (cd 35 (sq R80_7 .ret) .skip)) (sq R80_8 (.block 2 (.loop L80_0)))))) R80_14))
def R80_15:=R_ [T_ 2]
def B80:=sq R80_0 (sq (sq R80_1 (cd 14 (sq R80_2 .ret) .skip)) (sq (sq R80_3 (.block 0 (.loop L80_1))) (sq R80_15 .ret)))
def A80:CF:=⟨[rTmp 2],B80,51⟩
theorem c80:ctF pG 80=some A80:=by kernel_rfl
def R81_0:=R_ [F_ 4]
def R81_1:=R_ [V_ 5 0,V_ 6 1,y_ 7 110 [z_ 5,z_ 6],o_ 8 (d_ (cBin .geq) 7 (.int .i64 0)),V_ 4 8]
def B81:=sq R81_0 (sq R81_1 .ret)
def A81:CF:=⟨[rTmp 4],B81,9⟩
theorem c81:ctF pG 81=some A81:=by kernel_rfl
def R82_0:=R_ [X_ 2 0,F_ 3]
def R82_1:=R_ [A_ 4 1 2,L_ 5 4,A_ 6 1 1,L_ 7 6,o_ 8 (b_ (cEq false .num) 5 7),V_ 3 8]
def B82:=sq R82_0 (sq R82_1 .ret)
def A82:CF:=⟨[rTmp 3],B82,9⟩
theorem c82:ctF pG 82=some A82:=by kernel_rfl
def R83_0:=R_ [X_ 2 0,X_ 3 1,o_ 4 (eAlloc z2_ 4),F_ 5]
def R83_1:=R_ [A_ 6 0 2,L_ 7 6,o_ 8 (eMkfn (.func 113) [] [z_ 3]),y_ 9 112 [z_ 7,z_ 8],W_ 10 0 9,W_ 11 1 9,y_ 12 111 [z_ 10,z_ 11],W_ 13 0 12,W_ 14 1 12,S_ 4 4 13,V_ 5 14]
def B83:=sq R83_0 (sq R83_1 .ret)
def A83:CF:=⟨[rCelN 4 4,rTmp 5],B83,15⟩
theorem c83:ctF pG 83=some A83:=by kernel_rfl
def R84_0:=R_ [X_ 2 0,F_ 4]
def R84_1:=R_ [V_ 7 1,E_ 8 7,K_ 9 8 0,V_ 10 9,hv_ 10 11 1,h_ 10 12 (u_ cLenL 11),h_ 10 13 (d_ (cBin .gtr) 12 (.int .i64 16)),Q_ 14 10 13]
def R84_2:=R_ [F_ 4]
def R84_3:=R_ [V_ 15 1,E_ 16 15,I_ 17 0]
def R84_4:=R_ [B_ 18 17 16]
def R84_5:=R_ [V_ 19 17,J_ 20 1 15 17,L_ 21 20,V_ 5 19,V_ 6 21]
def R84_6:=R_ [V_ 22 6,o_ 23 (d_ (cBin .lss) 22 (.int .i64 0)),V_ 24 23,hv_ 24 25 6,ha_ 24 26 2 2,hl_ 24 27 26,h_ 24 28 (u_ cLenL 27),h_ 24 29 (b_ (cBin .geq) 25 28),Q_ 30 24 29,V_ 31 30,hv_ 31 32 1,hv_ 31 33 5,h_ 31 34 (eSl (cSlc 1) (z_ 32) none (some (z_ 33)) none),hv_ 31 35 6,gcP (z_ 31) false (pdT 36) 114 [z_ 34,z_ 35],Q_ 37 31 36]
def R84_7:=R_ [F_ 4]
def R84_8:=R_ [D_ 38 17 1,V_ 17 38]
def L84_0:=sq R84_4 (sq (cd 18 .skip (.exit 0)) (sq (.block 1 (sq R84_5 (sq R84_6 (cd 37 (sq R84_7 .ret) .skip)))) R84_8))
def R84_9:=R_ [T_ 4]
def B84:=sq R84_0 (sq (sq R84_1 (cd 14 (sq R84_2 .ret) .skip)) (sq (sq R84_3 (.block 0 (.loop L84_0))) (sq R84_9 .ret)))
def A84:CF:=⟨[rTmp 4],B84,39⟩
theorem c84:ctF pG 84=some A84:=by kernel_rfl
def R85_0:=R_ [F_ 4]
def R85_1:=R_ [V_ 5 0,V_ 6 1,y_ 7 115 [z_ 5,z_ 6],o_ 8 (d_ (cBin .geq) 7 (.int .i64 0)),V_ 4 8]
def B85:=sq R85_0 (sq R85_1 .ret)
def A85:CF:=⟨[rTmp 4],B85,9⟩
theorem c85:ctF pG 85=some A85:=by kernel_rfl
def R86_0:=R_ [X_ 2 0,F_ 3]
def R86_1:=R_ [A_ 4 2 2,L_ 5 4,A_ 6 2 1,L_ 7 6,o_ 8 (b_ (cEq false .num) 5 7),V_ 3 8]
def B86:=sq R86_0 (sq R86_1 .ret)
def A86:CF:=⟨[rTmp 3],B86,9⟩
theorem c86:ctF pG 86=some A86:=by kernel_rfl
def R87_0:=R_ [X_ 2 0,X_ 3 1,I_ 4 0,I_ 5 0]
def R87_1:=R_ [N_ 6 3 2,y_ 7 47 [z_ 6],o_ 8 (u_ (cUn .not) 7),V_ 9 8,hn_ 9 10 3 3,gcP (z_ 9) false (pdT 11) 47 [z_ 10],h_ 9 12 (u_ (cUn .not) 11),Q_ 13 9 12]
def R87_2:=R_ [I_ 4 0,I_ 5 5]
def R87_3:=R_ [N_ 14 3 2,N_ 15 3 3,y_ 16 116 [z_ 14,z_ 15],V_ 4 16,I_ 5 0]
def B87:=sq R87_0 (sq (sq R87_1 (cd 13 (sq R87_2 .ret) .skip)) (sq R87_3 .ret))
def A87:CF:=⟨[rTmp 4,rTmp 5],B87,17⟩
theorem c87:ctF pG 87=some A87:=by kernel_rfl
def R88_0:=R_ [o_ 0 (c_ (.cst .nilFunc))]
def R88_1:=R_ [o_ 1 (eAlloc [.int .i64 0] 1),oP pdN (eStore 1 (z_ 1) (constG (.int .i64 0)))]
def R88_2:=R_ [o_ 2 (eMkfn (.func 117) [] [z_ 1]),V_ 0 2]
def B88:=sq R88_0 (sq R88_1 (sq R88_2 .ret))
def A88:CF:=⟨[rTmp 0],B88,3⟩
theorem c88:ctF pG 88=some A88:=by kernel_rfl
def R89_0:=R_ [o_ 4 (c_ (.str [])),I_ 5 0]
def R89_1:=R_ [V_ 14 0,V_ 15 1,y_ 16 60 [z_ 14,z_ 15],V_ 6 16]
def R89_2:=R_ [V_ 17 6,H_ 18 17 0]
def R89_3:=R_ [V_ 19 6,o_ 4 (c_ (.str [])),V_ 5 19]
def R89_4:=R_ [y_ 20 118 [],V_ 7 20]
def R89_5:=R_ [I_ 8 0]
def R89_6:=R_ [V_ 21 8,V_ 22 1,E_ 23 22,B_ 24 21 23]
def R89_7:=R_ [o_ 9 (c_ (.int .u8 0))]
def R89_8:=R_ [V_ 27 8,V_ 10 27]
def R89_9:=R_ [V_ 28 10,V_ 29 1,E_ 30 29,B_ 31 28 30,V_ 32 31,gv_ 32 33 10,gv_ 32 34 8,g_ 32 35 (d_ (cBin .add) 34 (.int .i64 8)),g_ 32 36 (b_ (cBin .lss) 33 35),P_ 37 32 36]
def R89_10:=R_ [V_ 40 1,V_ 41 10,J_ 42 3 40 41,A_ 43 0 42,L_ 44 43,K_ 45 44 0]
def R89_11:=R_ [V_ 46 9,V_ 47 10,V_ 48 8,o_ 49 (b_ (cBin .sub) 47 48),o_ 50 (e2 (cBin .shl) (constG (.int .u8 1)) (z_ 49)),o_ 51 (b_ (cBin .or) 46 50),V_ 9 51]
def R89_12:=R_ [V_ 38 10,D_ 39 38 1,V_ 10 39]
def L89_0:=sq (sq R89_9 (cd 37 .skip (.exit 2))) (sq (.block 3 (sq R89_10 (cd 45 R89_11 .skip))) R89_12)
def R89_13:=R_ [V_ 52 7,V_ 53 9,y_ 54 119 [z_ 52,z_ 53]]
def R89_14:=R_ [V_ 25 8,D_ 26 25 8,V_ 8 26]
def L89_1:=sq (sq R89_6 (cd 24 .skip (.exit 0))) (sq (.block 1 (sq R89_7 (sq (sq R89_8 (.block 2 (.loop L89_0))) R89_13))) R89_14)
def R89_15:=R_ [y_ 55 120 [],o_ 11 (eAlloc z8_ 9),S_ 9 11 55]
def R89_16:=R_ [V_ 56 1,E_ 57 56,I_ 58 0]
def R89_17:=R_ [B_ 59 58 57]
def R89_18:=R_ [J_ 60 3 56 58,N_ 61 3 60,o_ 13 (eAlloc z1_ 3),S_ 3 13 61]
def R89_19:=R_ [A_ 62 0 13,L_ 63 62,H_ 64 63 0]
def R89_20:CT:=.drw [65,66,67,68,69,70,71,72,73] [ia_ [13] 65 0 13 1,il_ [65] 66 65 1,i_ [66] 67 (d_ (cBin .sub) 66 (.int .i64 1)) 1,i_ [11,67] 68 (b_ (cIxarr 3 3) 11 67) 1,ia_ [68] 69 1 68 1,il_ [69] 70 69 1,iv_ [7] 71 7 1,in_ [13] 72 3 13 1,vI [70,71,72] (pdT 73) (z_ 70) [z_ 71,z_ 72]]
def R89_21:=R_ [D_ 74 58 1,V_ 58 74]
def L89_2:=sq R89_17 (sq (cd 59 .skip (.exit 4)) (sq (.block 5 (sq R89_18 (sq R89_19 (cd 64 R89_20 .skip)))) R89_21))
def R89_22:=R_ [V_ 75 7,y_ 76 121 [z_ 75],o_ 77 (d_ (cBin .gtr) 76 (.int .i64 160))]
def R89_23:=R_ [o_ 4 (c_ (.str [])),I_ 5 51]
def R89_24:=R_ [V_ 78 7,y_ 79 122 [z_ 78],o_ 80 (eB2s (z_ 79)),V_ 4 80,I_ 5 0]
def B89:=sq R89_0 (sq (sq R89_1 (sq R89_2 (cd 18 (sq R89_3 .ret) .skip))) (sq R89_4 (sq (sq R89_5 (.block 0 (.loop L89_1))) (sq R89_15 (sq (sq R89_16 (.block 4 (.loop L89_2))) (sq (sq R89_22 (cd 77 (sq R89_23 .ret) .skip)) (sq R89_24 .ret)))))))
def A89:CF:=⟨[rTmp 4,rTmp 5],B89,81⟩
theorem c89:ctF pG 89=some A89:=by kernel_rfl
def R90_0:=R_ [X_ 2 0,o_ 4 (c_ (.cst (.slice none 0 0)))]
def R90_1:=R_ [o_ 5 (c_ (.cst (.slice none 0 0)))]
def R90_2:=R_ [A_ 8 1 2,L_ 9 8,E_ 10 9,I_ 11 0]
def R90_3:=R_ [B_ 12 11 10]
def R90_4:=R_ [J_ 13 6 9 11,N_ 14 6 13,o_ 7 (eAlloc z3_ 6),S_ 6 7 14]
def R90_5:=R_ [A_ 15 1 7,L_ 16 15,V_ 17 1,o_ 18 (b_ (cEq false .num) 16 17)]
def R90_6:=R_ [A_ 19 3 7,L_ 20 19,y_ 21 123 [z_ 20],A_ 22 3 7,S_ 1 22 21]
def R90_7:=R_ [V_ 23 5,N_ 24 6 7,o_ 25 (eBslice z3_ 1 6 [(0,6,(z_ 24))]),o_ 26 (eApp 6 56 (z_ 23) (z_ 25)),V_ 5 26]
def R90_8:=R_ [D_ 27 11 1,V_ 11 27]
def L90_0:=sq R90_3 (sq (cd 12 .skip (.exit 0)) (sq (.block 1 (sq R90_4 (sq R90_5 (cd 18 (sq R90_6 R90_7) .skip)))) R90_8))
def R90_9:=R_ [V_ 28 5,V_ 4 28]
def B90:=sq R90_0 (sq R90_1 (sq (sq R90_2 (.block 0 (.loop L90_0))) (sq R90_9 .ret)))
def A90:CF:=⟨[rTmp 4],B90,29⟩
theorem c90:ctF pG 90=some A90:=by kernel_rfl
def R91_0:=R_ [X_ 2 0,o_ 4 (c_ (.str [])),F_ 5,I_ 6 0]
def R91_1:=R_ [o_ 7 (c_ (.cst (.slice none 0 0)))]
def R91_2:=R_ [F_ 8]
def R91_3:=R_ [A_ 13 3 2,L_ 14 13,E_ 15 14,I_ 16 0]
def R91_4:=R_ [B_ 17 16 15]
def R91_5:=R_ [J_ 18 1 14 16,L_ 19 18,V_ 10 19]
def R91_6:=R_ [V_ 20 7,V_ 21 1,V_ 22 10,J_ 23 3 21 22,N_ 24 3 23,o_ 25 (eBslice z1_ 1 3 [(0,3,(z_ 24))]),o_ 26 (eApp 3 32 (z_ 20) (z_ 25)),V_ 7 26]
def R91_7:=R_ [V_ 27 8,V_ 28 27,hv_ 28 29 1,hv_ 28 30 10,h_ 28 31 (b_ (cIxa 3) 29 30),ha_ 28 32 0 31,hl_ 28 33 32,h_ 28 34 (d_ (cEq false .num) 33 (.int .i64 0)),Q_ 35 28 34,V_ 8 35]
def R91_8:=R_ [D_ 36 16 1,V_ 16 36]
def L91_0:=sq R91_4 (sq (cd 17 .skip (.exit 0)) (sq (.block 1 (sq R91_5 (sq R91_6 R91_7))) R91_8))
def R91_9:=R_ [V_ 38 7,y_ 39 124 [z_ 38],V_ 37 39,W_ 40 0 37,W_ 41 1 37,V_ 11 40,V_ 12 41]
def R91_10:=R_ [V_ 42 11,V_ 43 8,V_ 44 12,V_ 4 42,V_ 5 43,V_ 6 44]
def B91:=sq R91_0 (sq R91_1 (sq R91_2 (sq (sq R91_3 (.block 0 (.loop L91_0))) (sq R91_9 (sq R91_10 .ret)))))
def A91:CF:=⟨[rTmp 4,rTmp 5,rTmp 6],B91,45⟩
theorem c91:ctF pG 91=some A91:=by kernel_rfl
def R92_0:=R_ [X_ 2 0,F_ 4]
def R92_1:=R_ [o_ 11 (eMkmap),V_ 5 11]
def R92_2:=R_ [V_ 12 1,E_ 13 12,I_ 14 0]
def R92_3:=R_ [B_ 15 14 13]
def R92_4:=R_ [J_ 16 1 12 14,L_ 17 16,V_ 7 17]
def R92_5:=R_ [N_ 19 6 2,V_ 20 7,y_ 21 91 [z_ 19,z_ 20],V_ 18 21,W_ 22 0 18,W_ 23 1 18,W_ 24 2 18,V_ 8 22,V_ 9 23,V_ 10 24]
def R92_6:=R_ [V_ 25 9,o_ 26 (u_ (cUn .not) 25)]
def R92_7:=R_ [V_ 27 5,V_ 28 8,o_ 29 (eLookup .s (.int .i64 0) false (z_ 27) (z_ 28)),D_ 30 29 1,oP pdN (eMput .s (z_ 27) (z_ 28) (z_ 30))]
def R92_8:=R_ [V_ 31 5,V_ 32 8,o_ 33 (eLookup .s (.int .i64 0) false (z_ 31) (z_ 32)),o_ 34 (d_ (cBin .gtr) 33 (.int .i64 1))]
def R92_9:=R_ [T_ 4]
def R92_10:=R_ [D_ 35 14 1,V_ 14 35]
def L92_0:=sq R92_3 (sq (cd 15 .skip (.exit 0)) (sq (.block 1 (sq R92_4 (sq R92_5 (sq R92_6 (cd 26 (sq R92_7 (sq R92_8 (cd 34 (sq R92_9 .ret) .skip))) .skip))))) R92_10))
def R92_11:=R_ [F_ 4]
def B92:=sq R92_0 (sq R92_1 (sq (sq R92_2 (.block 0 (.loop L92_0))) (sq R92_11 .ret)))
def A92:CF:=⟨[rTmp 4],B92,36⟩
theorem c92:ctF pG 92=some A92:=by kernel_rfl
def R97_0:=R_ [X_ 1 0,F_ 2]
def R97_1:=R_ [A_ 3 0 1,L_ 4 3,K_ 5 4 0]
def R97_2:=R_ [A_ 6 1 1,L_ 7 6,K_ 8 7 0,V_ 9 8,ga_ 9 10 2 1,gl_ 9 11 10,g_ 9 12 (d_ (cEq false .num) 11 (.str [])),P_ 13 9 12,V_ 2 13]
def R97_3:=R_ [A_ 14 0 1,L_ 15 14,K_ 16 15 1]
def R97_4:=R_ [A_ 17 2 1,L_ 18 17,o_ 19 (d_ (cEq false .num) 18 (.str [])),V_ 2 19]
def R97_5:=R_ [A_ 20 0 1,L_ 21 20,K_ 22 21 2]
def R97_6:=R_ [A_ 23 1 1,L_ 24 23,K_ 25 24 0,V_ 26 25,ga_ 26 27 2 1,gl_ 26 28 27,g_ 26 29 (u_ cLenS 28),g_ 26 30 (d_ (cBin .leq) 29 (.int .i64 64)),P_ 31 26 30,V_ 2 31]
def R97_7:=R_ [A_ 32 0 1,L_ 33 32,K_ 34 33 3,V_ 35 34,ga_ 35 36 2 1,gl_ 35 37 36,g_ 35 38 (d_ (cEq false .num) 37 (.str [])),P_ 39 35 38,V_ 40 39,ga_ 40 41 1 1,gl_ 40 42 41,g_ 40 43 (d_ (cBin .geq) 42 (.int .i64 0)),P_ 44 40 43,V_ 45 44,ga_ 45 46 1 1,gl_ 45 47 46,g_ 45 48 (d_ (cBin .leq) 47 (.int .i64 1)),P_ 49 45 48,V_ 2 49]
def B97:=sq R97_0 (sq (sq R97_1 (cd 5 (sq R97_2 .ret) .skip)) (sq (sq R97_3 (cd 16 (sq R97_4 .ret) .skip)) (sq (sq R97_5 (cd 22 (sq R97_6 .ret) .skip)) (sq R97_7 .ret))))
def A97:CF:=⟨[rTmp 2],B97,50⟩
theorem c97:ctF pG 97=some A97:=by kernel_rfl
def R103_0:=R_ [I_ 4 0]
def R103_1:=R_ [V_ 6 0,y_ 7 37 [z_ 6],o_ 8 (u_ (cUn .not) 7),V_ 9 8,hv_ 9 10 1,h_ 9 11 (u_ cLenL 10),hv_ 9 12 0,h_ 9 13 (u_ cLenL 12),h_ 9 14 (b_ (cEq true .num) 11 13),Q_ 15 9 14]
def R103_2:=R_ [I_ 4 1]
def R103_3:=R_ [I_ 5 0]
def R103_4:=R_ [V_ 16 5,V_ 17 1,E_ 18 17,B_ 19 16 18]
def R103_5:=R_ [V_ 22 1,V_ 23 5,J_ 24 3 22 23,N_ 25 3 24,y_ 26 97 [z_ 25],o_ 27 (u_ (cUn .not) 26)]
def R103_6:=R_ [I_ 4 5]
def R103_7:CT:=.drw [28,29,30,31,32,33,34,35,36,37,38,39,40,41,42,43,44,45,46] [iv_ [1] 28 1 1,iv_ [5] 29 5 1,iJ_ [28,29] 30 3 28 29 1,ia_ [30] 31 0 30 1,il_ [31] 32 31 1,i_ [32] 33 (d_ (cEq true .num) 32 (.int .i64 0)) 1,iv_ [33] 34 33 1,goI [34,1] (z_ 34) true (pdT 35) (v_ 1) 1,goI [34,5] (z_ 34) true (pdT 36) (v_ 5) 1,goI [34,35,36] (z_ 34) true (pdT 37) (b_ (cIxa 3) 35 36) 1,goI [34,37] (z_ 34) true (pdT 38) (a_ 0 37) 1,goI [34,38] (z_ 34) true (pdT 39) (l_ 38) 1,goI [34,0] (z_ 34) true (pdT 40) (v_ 0) 1,goI [34,5] (z_ 34) true (pdT 41) (v_ 5) 1,goI [34,40,41] (z_ 34) true (pdT 42) (b_ (cIxa 3) 40 41) 1,goI [34,42] (z_ 34) true (pdT 43) (a_ 1 42) 1,goI [34,43] (z_ 34) true (pdT 44) (l_ 43) 1,goI [34,39,44] (z_ 34) true (pdT 45) (b_ (cEq true .num) 39 44) 1,i_ [34,45] 46 (p_ 34 45) 1]
def R103_8:=R_ [I_ 4 30]
def R103_9:=R_ [V_ 47 1,V_ 48 5,J_ 49 3 47 48,A_ 50 0 49,L_ 51 50,K_ 52 51 0,V_ 53 52,gv_ 53 54 0,gv_ 53 55 5,g_ 53 56 (b_ (cIxa 3) 54 55),ga_ 53 57 2 56,gl_ 53 58 57,P_ 59 53 58]
def R103_10:=R_ [I_ 4 50]
def R103_11:=R_ [V_ 20 5,D_ 21 20 1,V_ 5 21]
def L103_0:=sq (sq R103_4 (cd 19 .skip (.exit 0))) (sq (.block 1 (sq (sq R103_5 (cd 27 (sq R103_6 .ret) .skip)) (sq (sq R103_7 (cd 46 (sq R103_8 .ret) .skip)) (sq R103_9 (cd 59 (sq R103_10 .ret) .skip))))) R103_11)
def R103_12:=R_ [I_ 4 0]
def B103:=sq R103_0 (sq (sq R103_1 (cd 15 (sq R103_2 .ret) .skip)) (sq (sq R103_3 (.block 0 (.loop L103_0))) (sq R103_12 .ret)))
def A103:CF:=⟨[rTmp 4],B103,60⟩
theorem c103:ctF pG 103=some A103:=by kernel_rfl
def R104_0:=R_ [X_ 1 0,o_ 2 (c_ (.cst (.slice none 0 0)))]
def R104_1:=R_ [A_ 4 0 1,L_ 5 4,K_ 6 5 3]
def R104_2:=R_ [A_ 7 1 1,L_ 8 7,o_ 9 (u_ (cToInt .u8) 8),o_ 10 (eBslice z13_ 1 1 [(0,1,(z_ 9))]),V_ 2 10]
def R104_3:=R_ [A_ 11 0 1,L_ 12 11,K_ 13 12 2]
def R104_4:=R_ [A_ 14 2 1,L_ 15 14,o_ 16 (u_ cLenS 15),o_ 17 (u_ (cToInt .u64) 16),y_ 18 133 [z_ 17],V_ 3 18]
def R104_5:=R_ [V_ 19 3,A_ 20 2 1,L_ 21 20,o_ 22 (eApp 1 1 (z_ 19) (z_ 21)),V_ 2 22]
def R104_6:=R_ [A_ 23 1 1,L_ 24 23,o_ 25 (d_ (cBin .lss) 24 (.int .i64 0))]
def R104_7:=R_ [A_ 26 1 1,L_ 27 26,D_ 28 27 1,o_ 29 (u_ (cUn .neg) 28),o_ 30 (u_ (cToInt .u64) 29),o_ 31 (e2 (cBin .mul) (constG (.int .u64 2)) (z_ 30)),o_ 32 (d_ (cBin .add) 31 (.int .u64 1)),y_ 33 133 [z_ 32],V_ 2 33]
def R104_8:=R_ [A_ 34 1 1,L_ 35 34,o_ 36 (u_ (cToInt .u64) 35),o_ 37 (e2 (cBin .mul) (constG (.int .u64 2)) (z_ 36)),y_ 38 133 [z_ 37],V_ 2 38]
def B104:=sq R104_0 (sq (sq R104_1 (cd 6 (sq R104_2 .ret) .skip)) (sq (sq R104_3 (cd 13 (sq R104_4 (sq R104_5 .ret)) .skip)) (sq (sq R104_6 (cd 25 (sq R104_7 .ret) .skip)) (sq R104_8 .ret))))
def A104:CF:=⟨[rTmp 2],B104,39⟩
theorem c104:ctF pG 104=some A104:=by kernel_rfl
def R105_0:=R_ [X_ 1 0,o_ 2 (c_ (.str []))]
def R105_1:=R_ [A_ 8 0 1,L_ 9 8,K_ 10 9 0]
def R105_2:=R_ [o_ 2 (c_ (.str [1]))]
def R105_3:=R_ [A_ 11 0 1,L_ 12 11,K_ 13 12 3,V_ 14 13,ga_ 14 15 1 1,gl_ 14 16 15,g_ 14 17 (d_ (cEq false .num) 16 (.int .i64 0)),P_ 18 14 17]
def R105_4:=R_ [o_ 2 (c_ (.str [2]))]
def R105_5:=R_ [A_ 19 0 1,L_ 20 19,K_ 21 20 3]
def R105_6:=R_ [o_ 2 (c_ (.str [3]))]
def R105_7:=R_ [A_ 22 0 1,L_ 23 22,K_ 24 23 1]
def R105_8:=R_ [A_ 25 1 1,L_ 26 25,o_ 27 (u_ (cToInt .u64) 26),o_ 28 (d_ (cBin .add) 27 (.int .u64 9223372036854775808)),V_ 3 28]
def R105_9:=R_ [o_ 29 (eBslice z13_ 9 1 [(0,1,(constG (.int .u8 4))),(1,1,(constG (.int .u8 0))),(2,1,(constG (.int .u8 0))),(3,1,(constG (.int .u8 0))),(4,1,(constG (.int .u8 0))),(5,1,(constG (.int .u8 0))),(6,1,(constG (.int .u8 0))),(7,1,(constG (.int .u8 0))),(8,1,(constG (.int .u8 0)))]),V_ 4 29]
def R105_10:=R_ [I_ 5 8]
def R105_11:=R_ [V_ 30 5,o_ 31 (d_ (cBin .gtr) 30 (.int .i64 0))]
def R105_12:=R_ [V_ 34 4,V_ 35 5,V_ 36 3,o_ 37 (d_ (cBin .rem) 36 (.int .u64 256)),o_ 38 (u_ (cToInt .u8) 37),J_ 39 1 34 35,S_ 1 39 38]
def R105_13:=R_ [V_ 40 3,o_ 41 (d_ (cBin .quo) 40 (.int .u64 256)),V_ 3 41]
def R105_14:=R_ [V_ 32 5,o_ 33 (d_ (cBin .sub) 32 (.int .i64 1)),V_ 5 33]
def L105_0:=sq (sq R105_11 (cd 31 .skip (.exit 0))) (sq (.block 1 (sq R105_12 R105_13)) R105_14)
def R105_15:=R_ [V_ 42 4,o_ 43 (eB2s (z_ 42)),V_ 2 43]
def R105_16:=R_ [o_ 44 (eBslice z13_ 1 1 [(0,1,(constG (.int .u8 5)))]),V_ 6 44]
def R105_17:=R_ [I_ 7 0]
def R105_18:=R_ [V_ 45 7,A_ 46 2 1,L_ 47 46,o_ 48 (u_ cLenS 47),B_ 49 45 48]
def R105_19:=R_ [V_ 52 6,A_ 53 2 1,L_ 54 53,V_ 55 7,o_ 56 (b_ cIxs 54 55),o_ 57 (eBslice z13_ 1 1 [(0,1,(z_ 56))]),o_ 58 (eApp 1 1 (z_ 52) (z_ 57)),V_ 6 58]
def R105_20:=R_ [A_ 59 2 1,L_ 60 59,V_ 61 7,o_ 62 (b_ cIxs 60 61),o_ 63 (d_ (cEq false .num) 62 (.int .u8 0))]
def R105_21:=R_ [V_ 64 6,o_ 65 (eBslice z13_ 1 1 [(0,1,(constG (.int .u8 255)))]),o_ 66 (eApp 1 1 (z_ 64) (z_ 65)),V_ 6 66]
def R105_22:=R_ [V_ 50 7,D_ 51 50 1,V_ 7 51]
def L105_1:=sq (sq R105_18 (cd 49 .skip (.exit 2))) (sq (.block 3 (sq R105_19 (sq R105_20 (cd 63 R105_21 .skip)))) R105_22)
def R105_23:=R_ [V_ 67 6,o_ 68 (eBslice z13_ 2 1 [(0,1,(constG (.int .u8 0))),(1,1,(constG (.int .u8 1)))]),o_ 69 (eApp 1 1 (z_ 67) (z_ 68)),o_ 70 (eB2s (z_ 69)),V_ 2 70]
def B105:=sq R105_0 (sq (sq R105_1 (cd 10 (sq R105_2 .ret) .skip)) (sq (sq R105_3 (cd 18 (sq R105_4 .ret) .skip)) (sq (sq R105_5 (cd 21 (sq R105_6 .ret) .skip)) (sq (sq R105_7 (cd 24 (sq R105_8 (sq R105_9 (sq (sq R105_10 (.block 0 (.loop L105_0))) (sq R105_15 .ret)))) .skip)) (sq R105_16 (sq (sq R105_17 (.block 2 (.loop L105_1))) (sq R105_23 .ret)))))))
def A105:CF:=⟨[rTmp 2],B105,71⟩
theorem c105:ctF pG 105=some A105:=by kernel_rfl
def R106_0:=R_ [X_ 2 0,X_ 3 1,F_ 4]
def R106_1:CT:=.drw [5,6,7,8,9,10,11] [ia_ [2] 5 0 2 1,il_ [5] 6 5 1,cI [6] (pdT 7) 134 [z_ 6],ia_ [2] 8 7 2 2,il_ [8] 9 8 2,i_ [9] 10 (u_ cLenL 9) 2,i_ [7,10] 11 (b_ (cEq true .num) 7 10) 1]
def R106_2:=R_ [F_ 4]
def R106_3:=R_ [A_ 12 0 2,L_ 13 12,K_ 14 13 1,V_ 15 14,ga_ 15 16 1 2,gn_ 15 17 3 16,gcP (z_ 15) true (pdT 18) 47 [z_ 17],g_ 15 19 (u_ (cUn .not) 18),P_ 20 15 19,V_ 21 20,ha_ 21 22 0 2,hl_ 21 23 22,h_ 21 24 (d_ (cEq false .num) 23 (.int .i64 3)),hv_ 21 25 24,ga_ 25 26 6 2,gl_ 25 27 26,g_ 25 28 (d_ (cBin .lss) 27 (.int .i64 0)),gv_ 25 29 28,ha_ 29 30 6 2,hl_ 29 31 30,hl_ 29 32 3,h_ 29 33 (b_ (cBin .geq) 31 32),g_ 25 34 (q_ 29 33),h_ 21 35 (p_ 25 34),Q_ 36 21 35]
def R106_4:=R_ [F_ 4]
def R106_5:=R_ [A_ 37 7 2,L_ 38 37,o_ 39 (eMkfn (.func 136) [] [z_ 3]),y_ 40 135 [z_ 38,z_ 39],o_ 41 (u_ (cUn .not) 40),V_ 4 41]
def B106:=sq R106_0 (sq (sq R106_1 (cd 11 (sq R106_2 .ret) .skip)) (sq (sq R106_3 (cd 36 (sq R106_4 .ret) .skip)) (sq R106_5 .ret)))
def A106:CF:=⟨[rTmp 4],B106,42⟩
theorem c106:ctF pG 106=some A106:=by kernel_rfl
def R107_0:=R_ [F_ 2]
def R107_1:=R_ [V_ 3 0,y_ 4 137 [z_ 3,(constG (.fn (.func 138) [] []))],o_ 5 (u_ (cUn .not) 4),V_ 2 5]
def B107:=sq R107_0 (sq R107_1 .ret)
def A107:CF:=⟨[rTmp 2],B107,6⟩
theorem c107:ctF pG 107=some A107:=by kernel_rfl
def R108_0:=R_ [X_ 2 0,o_ 4 (eAlloc z1_ 3),I_ 5 0]
def R108_1:=R_ [A_ 11 0 2,L_ 12 11]
def R108_2:=R_ [K_ 14 12 1,V_ 13 14]
def R108_3:=R_ [A_ 15 1 2,N_ 16 3 15,S_ 3 4 16,I_ 5 0]
def R108_4:=R_ [K_ 18 12 3,V_ 17 18]
def R108_5:=R_ [V_ 19 1,A_ 20 6 2,L_ 21 20,J_ 22 3 19 21,N_ 23 3 22,S_ 3 4 23,I_ 5 0]
def R108_6:=R_ [o_ 6 (eAlloc [.int .i64 0,.int .i64 0,.str [],.int .i64 0,.int .i64 0,.str []] 6)]
def R108_7:=R_ [A_ 24 7 2,L_ 25 24,E_ 26 25,I_ 27 0]
def R108_8:=R_ [B_ 28 27 26]
def R108_9:=R_ [V_ 29 27,J_ 30 8 25 27,N_ 31 8 30,o_ 8 (eAlloc z5_ 8),V_ 7 29,S_ 8 8 31]
def R108_10:=R_ [N_ 33 8 8,V_ 34 1,y_ 35 108 [z_ 33,z_ 34],V_ 32 35,W_ 36 0 32,W_ 37 1 32,o_ 9 (eAlloc z1_ 3),S_ 3 9 36,V_ 10 37]
def R108_11:=R_ [V_ 38 10,H_ 39 38 0]
def R108_12:=R_ [o_ 40 (eBuild z1_ 3 []),V_ 41 10,S_ 3 4 40,V_ 5 41]
def R108_13:=R_ [V_ 42 7,N_ 43 3 9,o_ 44 (b_ (cIxarr 2 3) 6 42),S_ 3 44 43]
def R108_14:=R_ [D_ 45 27 1,V_ 27 45]
def L108_0:=sq R108_8 (sq (cd 28 .skip (.exit 1)) (sq (.block 2 (sq R108_9 (sq R108_10 (sq (sq R108_11 (cd 39 (sq R108_12 .ret) .skip)) R108_13)))) R108_14))
def R108_15:=R_ [A_ 46 0 2,L_ 47 46]
def R108_16:=R_ [K_ 49 47 4,V_ 48 49]
def R108_17:=R_ [o_ 50 (d_ (cIxarr 2 3) 6 (.int .i64 0)),N_ 51 3 50,y_ 52 139 [z_ 51],W_ 53 0 52,W_ 54 1 52,S_ 3 4 53,V_ 5 54]
def R108_18:=R_ [K_ 56 47 5,V_ 55 56]
def R108_19:=R_ [o_ 57 (d_ (cIxarr 2 3) 6 (.int .i64 0)),N_ 58 3 57,y_ 59 140 [z_ 58],W_ 60 0 59,W_ 61 1 59,S_ 3 4 60,V_ 5 61]
def R108_20:=R_ [K_ 63 47 6,V_ 62 63]
def R108_21:=R_ [o_ 64 (d_ (cIxarr 2 3) 6 (.int .i64 0)),A_ 65 0 64,L_ 66 65,K_ 67 66 0,y_ 68 141 [z_ 67],S_ 3 4 68,I_ 5 0]
def R108_22:=R_ [K_ 70 47 7,V_ 69 70]
def R108_23:=R_ [o_ 71 (d_ (cIxarr 2 3) 6 (.int .i64 0)),A_ 72 0 71,L_ 73 72,H_ 74 73 0,y_ 75 141 [z_ 74],S_ 3 4 75,I_ 5 0]
def R108_24:CT:=.drw [76,77,78,79,80,81,82,83,84,85,86,87] [cI [] (pdT 76) 142 [],ia_ [2] 77 0 2 2,il_ [77] 78 77 2,i_ [78] 79 (d_ (cBin .sub) 78 (.int .i64 8)) 2,i_ [76,79] 80 (b_ (cIxv 14 1 false) 76 79) 1,i_ [6] 81 (d_ (cIxarr 2 3) 6 (.int .i64 0)) 2,in_ [81] 82 3 81 2,i_ [6] 83 (d_ (cIxarr 2 3) 6 (.int .i64 1)) 2,in_ [83] 84 3 83 2,vI [80,82,84] (pdT 85) (z_ 80) [z_ 82,z_ 84],i_ [85] 86 (u_ (cExt 0) 85) 1,i_ [85] 87 (u_ (cExt 1) 85) 1,j_ [4,86] (s_ 3 4 86),iv_ [87] 5 87 1]
def B108:=sq R108_0 (sq (sq R108_1 (.block 0 (sq R108_2 (cd 13 (sq R108_3 .ret) (sq R108_4 (cd 17 (sq R108_5 .ret) .skip)))))) (sq R108_6 (sq (sq R108_7 (.block 1 (.loop L108_0))) (sq (sq R108_15 (.block 3 (sq R108_16 (cd 48 (sq R108_17 .ret) (sq R108_18 (cd 55 (sq R108_19 .ret) (sq R108_20 (cd 62 (sq R108_21 .ret) (sq R108_22 (cd 69 (sq R108_23 .ret) .skip)))))))))) (sq R108_24 .ret)))))
def A108:CF:=⟨[rCelN 4 3,rTmp 5],B108,88⟩
theorem c108:ctF pG 108=some A108:=by kernel_rfl
def R109_0:=R_ [A_ 7 0 1,L_ 8 7,E_ 9 8,I_ 10 0]
def R109_1:=R_ [B_ 11 10 9]
def R109_2:=R_ [J_ 12 4 8 10,N_ 13 4 12,o_ 4 (eAlloc z2_ 4),S_ 4 4 13]
def R109_3:=R_ [V_ 14 0,A_ 15 3 4,L_ 16 15,vP (pdT 17) (z_ 14) [z_ 16],o_ 18 (u_ (cUn .not) 17)]
def R109_4:=R_ [D_ 19 10 1,V_ 10 19]
def L109_0:=sq R109_1 (sq (cd 11 .skip (.exit 0)) (sq (.block 1 (sq R109_2 (sq R109_3 (cd 18 .ret .skip)))) R109_4))
def R109_5:=R_ [A_ 20 1 1,L_ 21 20,E_ 22 21,I_ 23 0]
def R109_6:=R_ [B_ 24 23 22]
def R109_7:=R_ [J_ 25 6 21 23,N_ 26 6 25,o_ 6 (eAlloc z3_ 6),S_ 6 6 26]
def R109_8:=R_ [V_ 27 0,A_ 28 5 6,L_ 29 28,vP (pdT 30) (z_ 27) [z_ 29],o_ 31 (u_ (cUn .not) 30)]
def R109_9:=R_ [D_ 32 23 1,V_ 23 32]
def L109_1:=sq R109_6 (sq (cd 24 .skip (.exit 2)) (sq (.block 3 (sq R109_7 (sq R109_8 (cd 31 .ret .skip)))) R109_9))
def B109:=sq (sq R109_0 (.block 0 (.loop L109_0))) (sq R109_5 (.block 2 (.loop L109_1)))
def A109:CF:=⟨[],B109,33⟩
theorem c109:ctF pG 109=some A109:=by kernel_rfl
def R110_0:=R_ [I_ 4 0]
def R110_1:=R_ [V_ 6 0,E_ 7 6,I_ 8 0]
def R110_2:=R_ [B_ 9 8 7]
def R110_3:=R_ [V_ 10 8,V_ 5 10]
def R110_4:=R_ [V_ 11 1,V_ 12 0,V_ 13 5,J_ 14 4 12 13,N_ 15 4 14,vP (pdT 16) (z_ 11) [z_ 15]]
def R110_5:=R_ [V_ 17 5,V_ 4 17]
def R110_6:=R_ [D_ 18 8 1,V_ 8 18]
def L110_0:=sq R110_2 (sq (cd 9 .skip (.exit 0)) (sq (.block 1 (sq R110_3 (sq R110_4 (cd 16 (sq R110_5 .ret) .skip)))) R110_6))
def R110_7:=R_ [o_ 4 (c_ (.int .i64 (-1)))]
def B110:=sq R110_0 (sq (sq R110_1 (.block 0 (.loop L110_0))) (sq R110_7 .ret))
def A110:CF:=⟨[rTmp 4],B110,19⟩
theorem c110:ctF pG 110=some A110:=by kernel_rfl
def R111_0:=R_ [X_ 2 0,o_ 4 (eAlloc z2_ 4),F_ 5]
def R111_1:=R_ [A_ 6 2 2,L_ 7 6,y_ 8 143 [z_ 7],A_ 9 2 2,S_ 1 9 8]
def R111_2:=R_ [N_ 10 4 2,V_ 11 1,S_ 4 4 10,V_ 5 11]
def B111:=sq R111_0 (sq R111_1 (sq R111_2 .ret))
def A111:CF:=⟨[rCelN 4 4,rTmp 5],B111,12⟩
theorem c111:ctF pG 111=some A111:=by kernel_rfl
def R112_0:=R_ [o_ 4 (eAlloc z2_ 4),F_ 5]
def R112_1:=R_ [V_ 9 0,E_ 10 9,I_ 11 0]
def R112_2:=R_ [B_ 12 11 10]
def R112_3:=R_ [J_ 13 4 9 11,N_ 14 4 13,o_ 7 (eAlloc z2_ 4),S_ 4 7 14]
def R112_4:=R_ [V_ 15 1,N_ 16 4 7,vP (pdT 17) (z_ 15) [z_ 16]]
def R112_5:=R_ [N_ 18 4 7,S_ 4 4 18,T_ 5]
def R112_6:=R_ [D_ 19 11 1,V_ 11 19]
def L112_0:=sq R112_2 (sq (cd 12 .skip (.exit 0)) (sq (.block 1 (sq R112_3 (sq R112_4 (cd 17 (sq R112_5 .ret) .skip)))) R112_6))
def R112_7:=R_ [o_ 8 (eAlloc z2_ 4)]
def R112_8:=R_ [N_ 20 4 8,S_ 4 4 20,F_ 5]
def B112:=sq R112_0 (sq (sq R112_1 (.block 0 (.loop L112_0))) (sq R112_7 (sq R112_8 .ret)))
def A112:CF:=⟨[rCelN 4 4,rTmp 5],B112,21⟩
theorem c112:ctF pG 112=some A112:=by kernel_rfl
def R113_0:=R_ [X_ 2 0,F_ 3]
def R113_1:=R_ [A_ 4 0 2,L_ 5 4,L_ 6 1,o_ 7 (b_ (cEq false .num) 5 6),V_ 3 7]
def B113:=sq R113_0 (sq R113_1 .ret)
def A113:CF:=⟨[rTmp 3],B113,8⟩
theorem c113:ctF pG 113=some A113:=by kernel_rfl
def R114_0:=R_ [F_ 4]
def R114_1:=R_ [V_ 5 0,V_ 6 1,y_ 7 144 [z_ 5,z_ 6],o_ 8 (d_ (cBin .geq) 7 (.int .i64 0)),V_ 4 8]
def B114:=sq R114_0 (sq R114_1 .ret)
def A114:CF:=⟨[rTmp 4],B114,9⟩
theorem c114:ctF pG 114=some A114:=by kernel_rfl
def R115_0:=R_ [I_ 4 0]
def R115_1:=R_ [V_ 6 0,E_ 7 6,I_ 8 0]
def R115_2:=R_ [B_ 9 8 7]
def R115_3:=R_ [V_ 10 8,V_ 5 10]
def R115_4:=R_ [V_ 11 1,V_ 12 0,V_ 13 5,J_ 14 6 12 13,N_ 15 6 14,vP (pdT 16) (z_ 11) [z_ 15]]
def R115_5:=R_ [V_ 17 5,V_ 4 17]
def R115_6:=R_ [D_ 18 8 1,V_ 8 18]
def L115_0:=sq R115_2 (sq (cd 9 .skip (.exit 0)) (sq (.block 1 (sq R115_3 (sq R115_4 (cd 16 (sq R115_5 .ret) .skip)))) R115_6))
def R115_7:=R_ [o_ 4 (c_ (.int .i64 (-1)))]
def B115:=sq R115_0 (sq (sq R115_1 (.block 0 (.loop L115_0))) (sq R115_7 .ret))
def A115:CF:=⟨[rTmp 4],B115,19⟩
theorem c115:ctF pG 115=some A115:=by kernel_rfl
def R116_0:=R_ [X_ 2 0,X_ 3 1,I_ 4 0]
def R116_1:=R_ [A_ 5 0 2,L_ 6 5,A_ 7 0 3,L_ 8 7,o_ 9 (b_ (cEq true .num) 6 8)]
def R116_2:CT:=.drw [10,11,12,13,14,15,16] [ia_ [2] 10 0 2 1,il_ [10] 11 10 1,cI [11] (pdT 12) 145 [z_ 11],ia_ [3] 13 0 3 2,il_ [13] 14 13 2,cI [14] (pdT 15) 145 [z_ 14],i_ [12,15] 16 (b_ (cBin .lss) 12 15) 1]
def R116_3:=R_ [o_ 4 (c_ (.int .i64 (-1)))]
def R116_4:=R_ [I_ 4 1]
def R116_5:=R_ [A_ 17 0 2,L_ 18 17,K_ 19 18 2]
def R116_6:=R_ [A_ 20 2 2,L_ 21 20,A_ 22 2 3,L_ 23 22,y_ 24 146 [z_ 21,z_ 23],V_ 4 24]
def R116_7:=R_ [A_ 25 1 2,L_ 26 25,A_ 27 1 3,L_ 28 27,B_ 29 26 28]
def R116_8:=R_ [o_ 4 (c_ (.int .i64 (-1)))]
def R116_9:=R_ [A_ 30 1 2,L_ 31 30,A_ 32 1 3,L_ 33 32,o_ 34 (b_ (cBin .gtr) 31 33)]
def R116_10:=R_ [I_ 4 1]
def R116_11:=R_ [I_ 4 0]
def B116:=sq R116_0 (sq (sq R116_1 (cd 9 (sq (sq R116_2 (cd 16 (sq R116_3 .ret) .skip)) (sq R116_4 .ret)) .skip)) (sq (sq R116_5 (cd 19 (sq R116_6 .ret) .skip)) (sq (sq R116_7 (cd 29 (sq R116_8 .ret) .skip)) (sq (sq R116_9 (cd 34 (sq R116_10 .ret) .skip)) (sq R116_11 .ret)))))
def A116:CF:=⟨[rTmp 4],B116,35⟩
theorem c116:ctF pG 116=some A116:=by kernel_rfl
def R117_0:=R_ [I_ 3 0]
def R117_1:=R_ [V_ 4 0,H_ 5 4 0,V_ 6 5,gl_ 6 7 1,g_ 6 8 (d_ (cEq false .num) 7 (.int .i64 0)),gv_ 6 9 8,hv_ 9 10 0,hl_ 9 11 1,h_ 9 12 (b_ (cBin .lss) 10 11),g_ 6 13 (q_ 9 12),P_ 14 6 13]
def R117_2:=R_ [V_ 15 0,S_ 1 1 15]
def R117_3:=R_ [L_ 16 1,V_ 3 16]
def B117:=sq R117_0 (sq (sq R117_1 (cd 14 R117_2 .skip)) (sq R117_3 .ret))
def A117:CF:=⟨[rTmp 3],B117,17⟩
theorem c117:ctF pG 117=some A117:=by kernel_rfl
def R118_0:=R_ [o_ 0 (c_ (.cst (.pointer none)))]
def R118_1:=R_ [o_ 1 (eBuild [.bool false,(.cst (.slice none 0 0))] 2 [(0,1,(constG (.bool true)))]),o_ 2 (eBuild [.bool false,(.cst (.slice none 0 0))] 2 [(0,2,(z_ 1))]),X_ 3 2,V_ 0 3]
def B118:=sq R118_0 (sq R118_1 .ret)
def A118:CF:=⟨[rTmp 0],B118,4⟩
theorem c118:ctF pG 118=some A118:=by kernel_rfl
def R119_0:=R_ [V_ 4 0,V_ 5 1,y_ 6 147 [z_ 4,z_ 5,(constG (.int .i64 1))]]
def B119:CT:=R119_0
def A119:CF:=⟨[],B119,7⟩
theorem c119:ctF pG 119=some A119:=by kernel_rfl
def R120_0:=R_ [o_ 0 (eAlloc z8_ 9)]
def R120_1:=R_ [o_ 1 (eBuild z17_ 3 [(0,1,(constG (.int .i64 1))),(1,1,(constG (.fn (.func 148) [] []))),(2,1,(constG (.fn (.func 150) [] [])))]),o_ 2 (eBuild z17_ 3 [(0,1,(constG (.int .i64 2))),(1,1,(constG (.fn (.func 152) [] []))),(2,1,(constG (.fn (.func 154) [] [])))]),o_ 3 (eBuild z17_ 3 [(0,1,(constG (.int .i64 3))),(1,1,(constG (.fn (.func 156) [] []))),(2,1,(constG (.fn (.func 157) [] [])))]),o_ 4 (eBuild z8_ 9 [(0,3,(z_ 1)),(3,3,(z_ 2)),(6,3,(z_ 3))]),S_ 9 0 4]
def B120:=sq R120_0 (sq R120_1 .ret)
def A120:CF:=⟨[rCelN 0 9],B120,5⟩
theorem c120:ctF pG 120=some A120:=by kernel_rfl
def R121_0:=R_ [I_ 2 0]
def R121_1:=R_ [V_ 3 0,o_ 4 (d_ (cEq false .ptr) 3 (.cst (.pointer none)))]
def R121_2:=R_ [I_ 2 0]
def R121_3:=R_ [V_ 5 0,o_ 6 (eNilc (z_ 5)),A_ 7 0 6,A_ 8 1 7,L_ 9 8,E_ 10 9,V_ 2 10]
def B121:=sq R121_0 (sq (sq R121_1 (cd 4 (sq R121_2 .ret) .skip)) (sq R121_3 .ret))
def A121:CF:=⟨[rTmp 2],B121,11⟩
theorem c121:ctF pG 121=some A121:=by kernel_rfl
def R122_0:=R_ [o_ 2 (c_ (.cst (.slice none 0 0)))]
def R122_1:=R_ [V_ 3 0,o_ 4 (d_ (cEq false .ptr) 3 (.cst (.pointer none)))]
def R122_2:=R_ [o_ 2 (c_ (.cst (.slice none 0 0)))]
def R122_3:=R_ [V_ 5 0,o_ 6 (eNilc (z_ 5)),A_ 7 0 6,A_ 8 1 7,L_ 9 8,o_ 10 (eApp 1 1 (constG (.cst (.slice none 0 0))) (z_ 9)),V_ 2 10]
def B122:=sq R122_0 (sq (sq R122_1 (cd 4 (sq R122_2 .ret) .skip)) (sq R122_3 .ret))
def A122:CF:=⟨[rTmp 2],B122,11⟩
theorem c122:ctF pG 122=some A122:=by kernel_rfl
def R123_0:=R_ [o_ 2 (c_ (.cst (.slice none 0 0)))]
def R123_1:=R_ [V_ 3 0,o_ 4 (d_ (cEq false .slice) 3 (.cst (.slice none 0 0)))]
def R123_2:=R_ [o_ 2 (c_ (.cst (.slice none 0 0)))]
def R123_3:=R_ [o_ 5 (eBslice [.int .i64 0] 0 1 []),V_ 6 0,o_ 7 (eApp 1 8 (z_ 5) (z_ 6)),V_ 2 7]
def B123:=sq R123_0 (sq (sq R123_1 (cd 4 (sq R123_2 .ret) .skip)) (sq R123_3 .ret))
def A123:CF:=⟨[rTmp 2],B123,8⟩
theorem c123:ctF pG 123=some A123:=by kernel_rfl
def R124_0:=R_ [o_ 2 (c_ (.str [])),I_ 3 0]
def R124_1:=R_ [V_ 7 0,E_ 8 7,o_ 9 (d_ (cBin .gtr) 8 (.int .i64 16))]
def R124_2:=R_ [o_ 2 (c_ (.str [])),I_ 3 1]
def R124_3:=R_ [o_ 4 (c_ (.cst (.slice none 0 0)))]
def R124_4:=R_ [V_ 10 0,E_ 11 10,I_ 12 0]
def R124_5:=R_ [B_ 13 12 11]
def R124_6:=R_ [J_ 14 3 10 12,N_ 15 3 14,o_ 6 (eAlloc z1_ 3),S_ 3 6 15]
def R124_7:=R_ [N_ 16 3 6,y_ 17 47 [z_ 16],o_ 18 (u_ (cUn .not) 17)]
def R124_8:=R_ [o_ 2 (c_ (.str [])),I_ 3 5]
def R124_9:=R_ [V_ 19 4,N_ 20 3 6,y_ 21 159 [z_ 19,z_ 20],V_ 4 21]
def R124_10:=R_ [D_ 22 12 1,V_ 12 22]
def L124_0:=sq R124_5 (sq (cd 13 .skip (.exit 0)) (sq (.block 1 (sq R124_6 (sq (sq R124_7 (cd 18 (sq R124_8 .ret) .skip)) R124_9))) R124_10))
def R124_11:=R_ [V_ 23 4,E_ 24 23,o_ 25 (d_ (cBin .gtr) 24 (.int .i64 140))]
def R124_12:=R_ [o_ 2 (c_ (.str [])),I_ 3 51]
def R124_13:=R_ [V_ 26 4,o_ 27 (eB2s (z_ 26)),V_ 2 27,I_ 3 0]
def B124:=sq R124_0 (sq (sq R124_1 (cd 9 (sq R124_2 .ret) .skip)) (sq R124_3 (sq (sq R124_4 (.block 0 (.loop L124_0))) (sq (sq R124_11 (cd 25 (sq R124_12 .ret) .skip)) (sq R124_13 .ret)))))
def A124:CF:=⟨[rTmp 2,rTmp 3],B124,28⟩
theorem c124:ctF pG 124=some A124:=by kernel_rfl
def R133_0:=R_ [o_ 2 (c_ (.cst (.slice none 0 0)))]
def R133_1:=R_ [o_ 3 (c_ (.cst (.slice none 0 0)))]
def R133_2:=R_ [V_ 4 0,o_ 5 (d_ (cBin .gtr) 4 (.int .u64 127))]
def R133_3:=R_ [V_ 6 3,V_ 7 0,o_ 8 (d_ (cBin .rem) 7 (.int .u64 128)),o_ 9 (u_ (cToInt .u8) 8),o_ 10 (d_ (cBin .add) 9 (.int .u8 128)),o_ 11 (eBslice z13_ 1 1 [(0,1,(z_ 10))]),o_ 12 (eApp 1 1 (z_ 6) (z_ 11)),V_ 3 12]
def R133_4:=R_ [V_ 13 0,o_ 14 (d_ (cBin .quo) 13 (.int .u64 128)),V_ 0 14]
def L133_0:=sq (sq R133_2 (cd 5 .skip (.exit 0))) (.block 1 (sq R133_3 R133_4))
def R133_5:=R_ [V_ 15 3,V_ 16 0,o_ 17 (u_ (cToInt .u8) 16),o_ 18 (eBslice z13_ 1 1 [(0,1,(z_ 17))]),o_ 19 (eApp 1 1 (z_ 15) (z_ 18)),V_ 2 19]
def B133:=sq R133_0 (sq R133_1 (sq (.block 0 (.loop L133_0)) (sq R133_5 .ret)))
def A133:CF:=⟨[rTmp 2],B133,20⟩
theorem c133:ctF pG 133=some A133:=by kernel_rfl
def R134_0:=R_ [I_ 2 0]
def R134_1:=R_ [V_ 4 0,K_ 5 4 1,V_ 6 5,hv_ 6 7 0,h_ 6 8 (d_ (cEq false .num) 7 (.int .i64 3)),Q_ 9 6 8,V_ 3 9]
def R134_2:=R_ [I_ 2 0]
def R134_3:=R_ [V_ 11 0,o_ 12 (d_ (cBin .geq) 11 (.int .i64 4)),V_ 13 12,gv_ 13 14 0,g_ 13 15 (d_ (cBin .leq) 14 (.int .i64 7)),P_ 16 13 15,V_ 10 16]
def R134_4:=R_ [I_ 2 1]
def R134_5:=R_ [V_ 18 0,o_ 19 (d_ (cBin .geq) 18 (.int .i64 8)),V_ 20 19,gv_ 20 21 0,g_ 20 22 (d_ (cBin .leq) 21 (.int .i64 21)),P_ 23 20 22,V_ 17 23]
def R134_6:=R_ [I_ 2 2]
def R134_7:=R_ [o_ 2 (c_ (.int .i64 (-1)))]
def B134:=sq R134_0 (sq (.block 0 (sq R134_1 (cd 3 (sq R134_2 .ret) (sq R134_3 (cd 10 (sq R134_4 .ret) (sq R134_5 (cd 17 (sq R134_6 .ret) .skip))))))) (sq R134_7 .ret))
def A134:CF:=⟨[rTmp 2],B134,24⟩
theorem c134:ctF pG 134=some A134:=by kernel_rfl
def R135_0:=R_ [F_ 4]
def R135_1:=R_ [V_ 5 0,V_ 6 1,y_ 7 164 [z_ 5,z_ 6],o_ 8 (d_ (cBin .geq) 7 (.int .i64 0)),V_ 4 8]
def B135:=sq R135_0 (sq R135_1 .ret)
def A135:CF:=⟨[rTmp 4],B135,9⟩
theorem c135:ctF pG 135=some A135:=by kernel_rfl
def R136_0:=R_ [X_ 2 0,F_ 3]
def R136_1:=R_ [N_ 4 8 2,L_ 5 1,y_ 6 106 [z_ 4,z_ 5],o_ 7 (u_ (cUn .not) 6),V_ 3 7]
def B136:=sq R136_0 (sq R136_1 .ret)
def A136:CF:=⟨[rTmp 3],B136,8⟩
theorem c136:ctF pG 136=some A136:=by kernel_rfl
def R137_0:=R_ [F_ 4]
def R137_1:=R_ [V_ 5 0,V_ 6 1,y_ 7 165 [z_ 5,z_ 6],o_ 8 (d_ (cBin .geq) 7 (.int .i64 0)),V_ 4 8]
def B137:=sq R137_0 (sq R137_1 .ret)
def A137:CF:=⟨[rTmp 4],B137,9⟩
theorem c137:ctF pG 137=some A137:=by kernel_rfl
def R139_0:=R_ [X_ 1 0,o_ 2 (eAlloc z1_ 3),I_ 3 0]
def R139_1:=R_ [o_ 4 (eBuild z1_ 3 [(0,1,(constG (.int .i64 1)))]),N_ 5 3 1,y_ 6 166 [z_ 4,z_ 5,(constG (.fn (.func 167) [] []))],W_ 7 0 6,W_ 8 1 6,S_ 3 2 7,V_ 3 8]
def B139:=sq R139_0 (sq R139_1 .ret)
def A139:CF:=⟨[rCelN 2 3,rTmp 3],B139,9⟩
theorem c139:ctF pG 139=some A139:=by kernel_rfl
def R140_0:=R_ [X_ 1 0,o_ 2 (eAlloc z1_ 3),I_ 3 0]
def R140_1:=R_ [N_ 5 3 1,o_ 6 (eBslice z1_ 1 3 [(0,3,(z_ 5))]),y_ 7 168 [(constG (.int .i64 3)),z_ 6],V_ 4 7]
def R140_2:=R_ [V_ 8 4,H_ 9 8 0,V_ 10 9,ha_ 10 11 0 1,hl_ 10 12 11,h_ 10 13 (d_ (cEq false .num) 12 (.int .i64 0)),Q_ 14 10 13]
def R140_3:=R_ [o_ 15 (eBuild z1_ 3 []),V_ 16 4,S_ 3 2 15,V_ 3 16]
def R140_4:=R_ [A_ 17 1 1,L_ 18 17,K_ 19 18 0,y_ 20 169 [z_ 19],S_ 3 2 20,I_ 3 0]
def B140:=sq R140_0 (sq (sq R140_1 (sq R140_2 (cd 14 (sq R140_3 .ret) .skip))) (sq R140_4 .ret))
def A140:CF:=⟨[rCelN 2 3,rTmp 3],B140,21⟩
theorem c140:ctF pG 140=some A140:=by kernel_rfl
def R141_0:=R_ [o_ 2 (eAlloc z1_ 3)]
def R141_1:=R_ [o_ 4 (eBuild z1_ 3 [(0,1,(constG (.int .i64 3)))]),o_ 3 (eAlloc z1_ 3),S_ 3 3 4]
def R141_2:=R_ [V_ 5 0]
def R141_3:=R_ [A_ 6 1 3,oP pdN (eStore 1 (z_ 6) (constG (.int .i64 1)))]
def R141_4:=R_ [N_ 7 3 3,S_ 3 2 7]
def B141:=sq R141_0 (sq R141_1 (sq (sq R141_2 (cd 5 R141_3 .skip)) (sq R141_4 .ret)))
def A141:CF:=⟨[rCelN 2 3],B141,8⟩
theorem c141:ctF pG 141=some A141:=by kernel_rfl
def R142_0:=R_ [o_ 0 (eAlloc z9_ 14)]
def R142_1:=R_ [o_ 1 (eBuild z9_ 14 [(0,1,(constG (.fn (.func 170) [] []))),(1,1,(constG (.fn (.func 171) [] []))),(2,1,(constG (.fn (.func 172) [] []))),(3,1,(constG (.fn (.func 173) [] []))),(4,1,(constG (.fn (.func 174) [] []))),(5,1,(constG (.fn (.func 175) [] []))),(6,1,(constG (.fn (.func 176) [] []))),(7,1,(constG (.fn (.func 177) [] []))),(8,1,(constG (.fn (.func 178) [] []))),(9,1,(constG (.fn (.func 179) [] []))),(10,1,(constG (.fn (.func 180) [] []))),(11,1,(constG (.fn (.func 181) [] []))),(12,1,(constG (.fn (.func 182) [] []))),(13,1,(constG (.fn (.func 183) [] [])))]),S_ 14 0 1]
def B142:=sq R142_0 (sq R142_1 .ret)
def A142:CF:=⟨[rCelN 0 14],B142,2⟩
theorem c142:ctF pG 142=some A142:=by kernel_rfl
def R143_0:=R_ [o_ 2 (c_ (.cst (.slice none 0 0)))]
def R143_1:=R_ [V_ 3 0,o_ 4 (d_ (cEq false .slice) 3 (.cst (.slice none 0 0)))]
def R143_2:=R_ [o_ 2 (c_ (.cst (.slice none 0 0)))]
def R143_3:=R_ [o_ 5 (eBslice z16_ 0 3 []),V_ 6 0,o_ 7 (eApp 3 32 (z_ 5) (z_ 6)),V_ 2 7]
def B143:=sq R143_0 (sq (sq R143_1 (cd 4 (sq R143_2 .ret) .skip)) (sq R143_3 .ret))
def A143:CF:=⟨[rTmp 2],B143,8⟩
theorem c143:ctF pG 143=some A143:=by kernel_rfl
def R144_0:=R_ [I_ 4 0]
def R144_1:=R_ [V_ 6 0,E_ 7 6,I_ 8 0]
def R144_2:=R_ [B_ 9 8 7]
def R144_3:=R_ [V_ 10 8,V_ 5 10]
def R144_4:=R_ [V_ 11 1,V_ 12 0,V_ 13 5,J_ 14 1 12 13,L_ 15 14,o_ 16 (b_ (cEq false .num) 11 15)]
def R144_5:=R_ [V_ 17 5,V_ 4 17]
def R144_6:=R_ [D_ 18 8 1,V_ 8 18]
def L144_0:=sq R144_2 (sq (cd 9 .skip (.exit 0)) (sq (.block 1 (sq R144_3 (sq R144_4 (cd 16 (sq R144_5 .ret) .skip)))) R144_6))
def R144_7:=R_ [o_ 4 (c_ (.int .i64 (-1)))]
def B144:=sq R144_0 (sq (sq R144_1 (.block 0 (.loop L144_0))) (sq R144_7 .ret))
def A144:CF:=⟨[rTmp 4],B144,19⟩
theorem c144:ctF pG 144=some A144:=by kernel_rfl
def R145_0:=R_ [I_ 2 0]
def R145_1:=R_ [I_ 3 0]
def R145_2:=R_ [V_ 4 0]
def R145_3:=R_ [K_ 6 4 2,V_ 5 6]
def R145_4:=R_ [K_ 8 4 1,V_ 7 8]
def R145_5:=R_ [K_ 10 4 3,V_ 9 10]
def R145_6:=R_ [V_ 11 3,D_ 12 11 1,V_ 3 12]
def R145_7:=R_ [V_ 13 3,D_ 14 13 1,V_ 3 14]
def R145_8:=R_ [V_ 15 3,D_ 16 15 1,V_ 3 16]
def R145_9:=R_ [V_ 17 3,V_ 2 17]
def B145:=sq R145_0 (sq R145_1 (sq (sq R145_2 (.block 0 (sq (.block 3 (sq (.block 2 (sq (.block 1 (sq (sq (sq R145_3 (cd 5 (.exit 1) .skip)) (sq (sq R145_4 (cd 7 (.exit 2) .skip)) (sq R145_5 (cd 9 (.exit 3) .skip)))) (.exit 0))) R145_6)) R145_7)) (sq R145_8 (.exit 0))))) (sq R145_9 .ret)))
def A145:CF:=⟨[rTmp 2],B145,18⟩
theorem c145:ctF pG 145=some A145:=by kernel_rfl
def R146_0:=R_ [I_ 4 0]
def R146_1:=R_ [V_ 5 0,V_ 6 1,y_ 7 184 [z_ 5,z_ 6],V_ 4 7]
def B146:=sq R146_0 (sq R146_1 .ret)
def A146:CF:=⟨[rTmp 4],B146,8⟩
theorem c146:ctF pG 146=some A146:=by kernel_rfl
def R147_0:=R_ [V_ 7 0,o_ 8 (d_ (cEq false .ptr) 7 (.cst (.pointer none))),V_ 9 8,hv_ 9 10 0,h_ 9 11 (eNilc (z_ 10)),ha_ 9 12 0 11,ha_ 9 13 0 12,hl_ 9 14 13,h_ 9 15 (u_ (cUn .not) 14),Q_ 16 9 15]
def R147_1:=R_ [V_ 17 2,I_ 18 0]
def R147_2:=R_ [B_ 19 18 17]
def R147_3:=R_ [V_ 20 18,V_ 6 20]
def R147_4:CT:=.drw [21,22,23,24,25,26,27,28,29,30,31,32,33,34,35,36,37] [iv_ [0] 22 0 1,i_ [22] 23 (eNilc (z_ 22)) 1,ia_ [23] 24 0 23 1,ia_ [24] 25 1 24 1,il_ [25] 26 25 1,iv_ [1] 27 1 1,i_ [27] 28 (u_ (cToInt .u64) 27) 1,iv_ [6] 29 6 1,i_ [29] 30 (e2 (cBin .mul) (constG (.int .i64 8)) (z_ 29)) 1,i_ [28,30] 31 (b_ (cBin .shr) 28 30) 1,i_ [31] 32 (u_ (cToInt .u8) 31) 1,i_ [32] 33 (eBslice z13_ 1 1 [(0,1,(z_ 32))]) 1,mI [26,33] (pdT 34) (eApp 1 1 (z_ 26) (z_ 33)),iv_ [0] 21 0 2,i_ [21] 35 (eNilc (z_ 21)) 1,ia_ [35] 36 0 35 1,ia_ [36] 37 1 36 1,j_ [37,34] (s_ 1 37 34)]
def R147_5:=R_ [D_ 38 18 1,V_ 18 38]
def L147_0:=sq R147_2 (sq (cd 19 .skip (.exit 0)) (sq (.block 1 (sq R147_3 R147_4)) R147_5))
def B147:=sq (sq R147_0 (cd 16 .ret .skip)) (sq R147_1 (.block 0 (.loop L147_0)))
def A147:CF:=⟨[],B147,39⟩
theorem c147:ctF pG 147=some A147:=by kernel_rfl
def R148_0:=R_ [X_ 3 1]
def R148_1:=R_ [V_ 4 0,A_ 5 1 3,L_ 6 5,y_ 7 149 [z_ 4,z_ 6]]
def B148:=sq R148_0 R148_1
def A148:CF:=⟨[],B148,8⟩
theorem c148:ctF pG 148=some A148:=by kernel_rfl
def R149_0:=R_ [V_ 4 0,V_ 5 1,o_ 6 (u_ (cToInt .u64) 5),o_ 7 (d_ (cBin .shl) 6 (.int .u64 1)),V_ 8 1,o_ 9 (d_ (cBin .shr) 8 (.int .u64 63)),o_ 10 (u_ (cToInt .u64) 9),o_ 11 (b_ (cBin .xor) 7 10),y_ 12 185 [z_ 4,z_ 11]]
def B149:CT:=R149_0
def A149:CF:=⟨[],B149,13⟩
theorem c149:ctF pG 149=some A149:=by kernel_rfl
def R152_0:=R_ [X_ 3 1]
def R152_1:=R_ [V_ 4 0,A_ 5 2 3,L_ 6 5,y_ 7 153 [z_ 4,z_ 6]]
def B152:=sq R152_0 R152_1
def A152:CF:=⟨[],B152,8⟩
theorem c152:ctF pG 152=some A152:=by kernel_rfl
def R153_0:=R_ [V_ 4 0,V_ 5 1,o_ 6 (u_ cLenS 5),o_ 7 (u_ (cToInt .u64) 6),y_ 8 185 [z_ 4,z_ 7]]
def R153_1:=R_ [V_ 9 0,V_ 10 1,o_ 11 (eS2b (z_ 10)),y_ 12 187 [z_ 9,z_ 11]]
def B153:=sq R153_0 R153_1
def A153:CF:=⟨[],B153,13⟩
theorem c153:ctF pG 153=some A153:=by kernel_rfl
def R156_0:=R_ [X_ 3 1]
def R156_1:=R_ [V_ 4 0,A_ 5 1 3,L_ 6 5,o_ 7 (u_ (cToInt .u8) 6),y_ 8 119 [z_ 4,z_ 7]]
def B156:=sq R156_0 R156_1
def A156:CF:=⟨[],B156,9⟩
theorem c156:ctF pG 156=some A156:=by kernel_rfl
def R159_0:=R_ [X_ 3 1,o_ 4 (c_ (.cst (.slice none 0 0)))]
def R159_1:=R_ [A_ 8 0 3,L_ 9 8]
def R159_2:=R_ [K_ 11 9 3,V_ 10 11]
def R159_3:=R_ [V_ 12 0,A_ 13 1 3,L_ 14 13,o_ 15 (e2 (cBin .add) (constG (.int .i64 2)) (z_ 14)),o_ 16 (u_ (cToInt .u8) 15),o_ 17 (eBslice z13_ 1 1 [(0,1,(z_ 16))]),o_ 18 (eApp 1 1 (z_ 12) (z_ 17)),V_ 4 18]
def R159_4:=R_ [K_ 20 9 1,V_ 19 20]
def R159_5:=R_ [V_ 21 0,o_ 22 (eBslice z13_ 1 1 [(0,1,(constG (.int .u8 4)))]),o_ 23 (eApp 1 1 (z_ 21) (z_ 22)),V_ 0 23]
def R159_6:=R_ [A_ 24 1 3,L_ 25 24,o_ 26 (u_ (cToInt .u64) 25),o_ 27 (d_ (cBin .xor) 26 (.int .u64 9223372036854775808)),V_ 5 27]
def R159_7:=R_ [I_ 6 56]
def R159_8:=R_ [V_ 28 6,o_ 29 (d_ (cBin .geq) 28 (.int .i64 0))]
def R159_9:=R_ [V_ 32 0,V_ 33 5,V_ 34 6,o_ 35 (b_ (cBin .shr) 33 34),o_ 36 (u_ (cToInt .u8) 35),o_ 37 (eBslice z13_ 1 1 [(0,1,(z_ 36))]),o_ 38 (eApp 1 1 (z_ 32) (z_ 37)),V_ 0 38]
def R159_10:=R_ [V_ 30 6,o_ 31 (d_ (cBin .sub) 30 (.int .i64 8)),V_ 6 31]
def L159_0:=sq (sq R159_8 (cd 29 .skip (.exit 1))) (sq (.block 2 R159_9) R159_10)
def R159_11:=R_ [V_ 39 0,V_ 4 39]
def R159_12:=R_ [K_ 41 9 2,V_ 40 41]
def R159_13:=R_ [V_ 42 0,o_ 43 (eBslice z13_ 1 1 [(0,1,(constG (.int .u8 5)))]),o_ 44 (eApp 1 1 (z_ 42) (z_ 43)),V_ 0 44]
def R159_14:=R_ [A_ 45 2 3,L_ 46 45,o_ 47 (u_ cLenS 46),I_ 48 0]
def R159_15:=R_ [B_ 49 48 47]
def R159_16:=R_ [V_ 50 48,V_ 7 50]
def R159_17:=R_ [V_ 51 0,A_ 52 2 3,L_ 53 52,V_ 54 7,o_ 55 (b_ cIxs 53 54),o_ 56 (eBslice z13_ 1 1 [(0,1,(z_ 55))]),o_ 57 (eApp 1 1 (z_ 51) (z_ 56)),V_ 0 57]
def R159_18:=R_ [A_ 58 2 3,L_ 59 58,V_ 60 7,o_ 61 (b_ cIxs 59 60),o_ 62 (d_ (cEq false .num) 61 (.int .u8 0))]
def R159_19:=R_ [V_ 63 0,o_ 64 (eBslice z13_ 1 1 [(0,1,(constG (.int .u8 255)))]),o_ 65 (eApp 1 1 (z_ 63) (z_ 64)),V_ 0 65]
def R159_20:=R_ [D_ 66 48 1,V_ 48 66]
def L159_1:=sq R159_15 (sq (cd 49 .skip (.exit 3)) (sq (.block 4 (sq R159_16 (sq R159_17 (sq R159_18 (cd 62 R159_19 .skip))))) R159_20))
def R159_21:=R_ [V_ 67 0,o_ 68 (eBslice z13_ 2 1 [(0,1,(constG (.int .u8 0))),(1,1,(constG (.int .u8 1)))]),o_ 69 (eApp 1 1 (z_ 67) (z_ 68)),V_ 4 69]
def R159_22:=R_ [V_ 70 0,o_ 71 (eBslice z13_ 1 1 [(0,1,(constG (.int .u8 1)))]),o_ 72 (eApp 1 1 (z_ 70) (z_ 71)),V_ 4 72]
def B159:=sq R159_0 (sq (sq R159_1 (.block 0 (sq R159_2 (cd 10 (sq R159_3 .ret) (sq R159_4 (cd 19 (sq R159_5 (sq R159_6 (sq (sq R159_7 (.block 1 (.loop L159_0))) (sq R159_11 .ret)))) (sq R159_12 (cd 40 (sq R159_13 (sq (sq R159_14 (.block 3 (.loop L159_1))) (sq R159_21 .ret))) .skip)))))))) (sq R159_22 .ret))
def A159:CF:=⟨[rTmp 4],B159,73⟩
theorem c159:ctF pG 159=some A159:=by kernel_rfl
def R164_0:=R_ [I_ 4 0]
def R164_1:=R_ [V_ 6 0,E_ 7 6,I_ 8 0]
def R164_2:=R_ [B_ 9 8 7]
def R164_3:=R_ [V_ 10 8,V_ 5 10]
def R164_4:=R_ [V_ 11 1,V_ 12 0,V_ 13 5,J_ 14 8 12 13,N_ 15 8 14,vP (pdT 16) (z_ 11) [z_ 15]]
def R164_5:=R_ [V_ 17 5,V_ 4 17]
def R164_6:=R_ [D_ 18 8 1,V_ 8 18]
def L164_0:=sq R164_2 (sq (cd 9 .skip (.exit 0)) (sq (.block 1 (sq R164_3 (sq R164_4 (cd 16 (sq R164_5 .ret) .skip)))) R164_6))
def R164_7:=R_ [o_ 4 (c_ (.int .i64 (-1)))]
def B164:=sq R164_0 (sq (sq R164_1 (.block 0 (.loop L164_0))) (sq R164_7 .ret))
def A164:CF:=⟨[rTmp 4],B164,19⟩
theorem c164:ctF pG 164=some A164:=by kernel_rfl
def R165_0:=R_ [I_ 4 0]
def R165_1:=R_ [V_ 6 0,E_ 7 6,I_ 8 0]
def R165_2:=R_ [B_ 9 8 7]
def R165_3:=R_ [V_ 10 8,V_ 5 10]
def R165_4:=R_ [V_ 11 1,V_ 12 0,V_ 13 5,J_ 14 3 12 13,N_ 15 3 14,vP (pdT 16) (z_ 11) [z_ 15]]
def R165_5:=R_ [V_ 17 5,V_ 4 17]
def R165_6:=R_ [D_ 18 8 1,V_ 8 18]
def L165_0:=sq R165_2 (sq (cd 9 .skip (.exit 0)) (sq (.block 1 (sq R165_3 (sq R165_4 (cd 16 (sq R165_5 .ret) .skip)))) R165_6))
def R165_7:=R_ [o_ 4 (c_ (.int .i64 (-1)))]
def B165:=sq R165_0 (sq (sq R165_1 (.block 0 (.loop L165_0))) (sq R165_7 .ret))
def A165:CF:=⟨[rTmp 4],B165,19⟩
theorem c165:ctF pG 165=some A165:=by kernel_rfl
def R166_0:=R_ [X_ 3 0,X_ 4 1,o_ 6 (eAlloc z1_ 3),I_ 7 0]
def R166_1:=R_ [N_ 11 3 3,N_ 12 3 4,o_ 13 (eBslice z1_ 2 3 [(0,3,(z_ 11)),(3,3,(z_ 12))]),y_ 14 168 [(constG (.int .i64 1)),z_ 13],V_ 8 14]
def R166_2:=R_ [V_ 15 8,H_ 16 15 0,V_ 17 16,ha_ 17 18 0 3,hl_ 17 19 18,h_ 17 20 (d_ (cEq false .num) 19 (.int .i64 0)),Q_ 21 17 20,V_ 22 21,ha_ 22 23 0 4,hl_ 22 24 23,h_ 22 25 (d_ (cEq false .num) 24 (.int .i64 0)),Q_ 26 22 25]
def R166_3:=R_ [o_ 27 (eBuild z1_ 3 []),V_ 28 8,S_ 3 6 27,V_ 7 28]
def R166_4:=R_ [V_ 30 2,A_ 31 1 3,L_ 32 31,A_ 33 1 4,L_ 34 33,vP (pdT 35) (z_ 30) [z_ 32,z_ 34],V_ 29 35,W_ 36 0 29,W_ 37 1 29,V_ 9 36,V_ 10 37]
def R166_5:=R_ [V_ 38 10,o_ 39 (u_ (cUn .not) 38)]
def R166_6:=R_ [o_ 40 (eBuild z1_ 3 []),S_ 3 6 40,I_ 7 31]
def R166_7:=R_ [V_ 41 9,o_ 42 (eBuild z1_ 3 [(0,1,(constG (.int .i64 1))),(1,1,(z_ 41))]),S_ 3 6 42,I_ 7 0]
def B166:=sq R166_0 (sq (sq R166_1 (sq R166_2 (cd 26 (sq R166_3 .ret) .skip))) (sq R166_4 (sq (sq R166_5 (cd 39 (sq R166_6 .ret) .skip)) (sq R166_7 .ret))))
def A166:CF:=⟨[rCelN 6 3,rTmp 7],B166,43⟩
theorem c166:ctF pG 166=some A166:=by kernel_rfl
def R167_0:=R_ [I_ 4 0,F_ 5]
def R167_1:=R_ [V_ 6 1,o_ 7 (u_ (cUn .neg) 6),V_ 8 1,o_ 9 (d_ (cEq true .num) 8 (.int .i64 (-9223372036854775808))),V_ 4 7,V_ 5 9]
def B167:=sq R167_0 (sq R167_1 .ret)
def A167:CF:=⟨[rTmp 4,rTmp 5],B167,10⟩
theorem c167:ctF pG 167=some A167:=by kernel_rfl
def R168_0:=R_ [I_ 4 0]
def R168_1:=R_ [V_ 9 1,E_ 10 9,I_ 11 0]
def R168_2:=R_ [B_ 12 11 10]
def R168_3:=R_ [J_ 13 3 9 11,N_ 14 3 13,o_ 6 (eAlloc z1_ 3),S_ 3 6 14]
def R168_4:=R_ [N_ 15 3 6,y_ 16 47 [z_ 15],o_ 17 (u_ (cUn .not) 16)]
def R168_5:=R_ [I_ 4 5]
def R168_6:=R_ [D_ 18 11 1,V_ 11 18]
def L168_0:=sq R168_2 (sq (cd 12 .skip (.exit 0)) (sq (.block 1 (sq R168_3 (sq R168_4 (cd 17 (sq R168_5 .ret) .skip)))) R168_6))
def R168_7:=R_ [V_ 19 1,E_ 20 19,I_ 21 0]
def R168_8:=R_ [B_ 22 21 20]
def R168_9:=R_ [J_ 23 3 19 21,N_ 24 3 23,o_ 8 (eAlloc z1_ 3),S_ 3 8 24]
def R168_10:=R_ [A_ 25 0 8,L_ 26 25,H_ 27 26 0,V_ 28 27,ga_ 28 29 0 8,gl_ 28 30 29,gv_ 28 31 0,g_ 28 32 (b_ (cEq true .num) 30 31),P_ 33 28 32]
def R168_11:=R_ [I_ 4 30]
def R168_12:=R_ [D_ 34 21 1,V_ 21 34]
def L168_1:=sq R168_8 (sq (cd 22 .skip (.exit 2)) (sq (.block 3 (sq R168_9 (sq R168_10 (cd 33 (sq R168_11 .ret) .skip)))) R168_12))
def R168_13:=R_ [I_ 4 0]
def B168:=sq R168_0 (sq (sq R168_1 (.block 0 (.loop L168_0))) (sq (sq R168_7 (.block 2 (.loop L168_1))) (sq R168_13 .ret)))
def A168:CF:=⟨[rTmp 4],B168,35⟩
theorem c168:ctF pG 168=some A168:=by kernel_rfl
def R169_0:=R_ [o_ 2 (eAlloc z1_ 3)]
def R169_1:=R_ [V_ 3 0]
def R169_2:=R_ [o_ 4 (eBuild z1_ 3 [(0,1,(constG (.int .i64 3))),(1,1,(constG (.int .i64 1)))]),S_ 3 2 4]
def R169_3:=R_ [o_ 5 (eBuild z1_ 3 [(0,1,(constG (.int .i64 3)))]),S_ 3 2 5]
def B169:=sq R169_0 (sq (sq R169_1 (cd 3 (sq R169_2 .ret) .skip)) (sq R169_3 .ret))
def A169:CF:=⟨[rCelN 2 3],B169,6⟩
theorem c169:ctF pG 169=some A169:=by kernel_rfl
def R170_0:=R_ [X_ 2 0,X_ 3 1,o_ 4 (eAlloc z1_ 3),I_ 5 0]
def R170_1:=R_ [N_ 6 3 2,N_ 7 3 3,y_ 8 166 [z_ 6,z_ 7,(constG (.fn (.func 196) [] []))],W_ 9 0 8,W_ 10 1 8,S_ 3 4 9,V_ 5 10]
def B170:=sq R170_0 (sq R170_1 .ret)
def A170:CF:=⟨[rCelN 4 3,rTmp 5],B170,11⟩
theorem c170:ctF pG 170=some A170:=by kernel_rfl
def R171_0:=R_ [X_ 2 0,X_ 3 1,o_ 4 (eAlloc z1_ 3),I_ 5 0]
def R171_1:=R_ [N_ 6 3 2,N_ 7 3 3,y_ 8 166 [z_ 6,z_ 7,(constG (.fn (.func 197) [] []))],W_ 9 0 8,W_ 10 1 8,S_ 3 4 9,V_ 5 10]
def B171:=sq R171_0 (sq R171_1 .ret)
def A171:CF:=⟨[rCelN 4 3,rTmp 5],B171,11⟩
theorem c171:ctF pG 171=some A171:=by kernel_rfl
def R172_0:=R_ [X_ 2 0,X_ 3 1,o_ 4 (eAlloc z1_ 3),I_ 5 0]
def R172_1:=R_ [N_ 6 3 2,N_ 7 3 3,y_ 8 166 [z_ 6,z_ 7,(constG (.fn (.func 198) [] []))],W_ 9 0 8,W_ 10 1 8,S_ 3 4 9,V_ 5 10]
def B172:=sq R172_0 (sq R172_1 .ret)
def A172:CF:=⟨[rCelN 4 3,rTmp 5],B172,11⟩
theorem c172:ctF pG 172=some A172:=by kernel_rfl
def R173_0:=R_ [X_ 2 0,X_ 3 1,o_ 4 (eAlloc z1_ 3),I_ 5 0]
def R173_1:=R_ [N_ 6 3 2,N_ 7 3 3,o_ 8 (eBslice z1_ 2 3 [(0,3,(z_ 6)),(3,3,(z_ 7))]),y_ 9 168 [(constG (.int .i64 1)),z_ 8],K_ 10 9 0,V_ 11 10,ga_ 11 12 0 2,gl_ 11 13 12,g_ 11 14 (d_ (cEq true .num) 13 (.int .i64 0)),P_ 15 11 14,V_ 16 15,ga_ 16 17 0 3,gl_ 16 18 17,g_ 16 19 (d_ (cEq true .num) 18 (.int .i64 0)),P_ 20 16 19,V_ 21 20,ga_ 21 22 1 3,gl_ 21 23 22,g_ 21 24 (d_ (cEq false .num) 23 (.int .i64 0)),P_ 25 21 24]
def R173_2:=R_ [o_ 26 (eBuild z1_ 3 []),S_ 3 4 26,I_ 5 32]
def R173_3:=R_ [N_ 27 3 2,N_ 28 3 3,y_ 29 166 [z_ 27,z_ 28,(constG (.fn (.func 199) [] []))],W_ 30 0 29,W_ 31 1 29,S_ 3 4 30,V_ 5 31]
def B173:=sq R173_0 (sq (sq R173_1 (cd 25 (sq R173_2 .ret) .skip)) (sq R173_3 .ret))
def A173:CF:=⟨[rCelN 4 3,rTmp 5],B173,32⟩
theorem c173:ctF pG 173=some A173:=by kernel_rfl
def R174_0:=R_ [X_ 2 0,X_ 3 1,o_ 4 (eAlloc z1_ 3),I_ 5 0]
def R174_1:=R_ [N_ 6 3 2,N_ 7 3 3,o_ 8 (eBslice z1_ 2 3 [(0,3,(z_ 6)),(3,3,(z_ 7))]),y_ 9 168 [(constG (.int .i64 1)),z_ 8],K_ 10 9 0,V_ 11 10,ga_ 11 12 0 2,gl_ 11 13 12,g_ 11 14 (d_ (cEq true .num) 13 (.int .i64 0)),P_ 15 11 14,V_ 16 15,ga_ 16 17 0 3,gl_ 16 18 17,g_ 16 19 (d_ (cEq true .num) 18 (.int .i64 0)),P_ 20 16 19,V_ 21 20,ga_ 21 22 1 3,gl_ 21 23 22,g_ 21 24 (d_ (cEq false .num) 23 (.int .i64 0)),P_ 25 21 24]
def R174_2:=R_ [o_ 26 (eBuild z1_ 3 []),S_ 3 4 26,I_ 5 32]
def R174_3:=R_ [N_ 27 3 2,N_ 28 3 3,y_ 29 166 [z_ 27,z_ 28,(constG (.fn (.func 200) [] []))],W_ 30 0 29,W_ 31 1 29,S_ 3 4 30,V_ 5 31]
def B174:=sq R174_0 (sq (sq R174_1 (cd 25 (sq R174_2 .ret) .skip)) (sq R174_3 .ret))
def A174:CF:=⟨[rCelN 4 3,rTmp 5],B174,32⟩
theorem c174:ctF pG 174=some A174:=by kernel_rfl
def R175_0:=R_ [X_ 2 0,X_ 3 1,o_ 4 (eAlloc z1_ 3),I_ 5 0]
def R175_1:=R_ [N_ 7 3 2,N_ 8 3 3,o_ 9 (eBslice z1_ 2 3 [(0,3,(z_ 7)),(3,3,(z_ 8))]),y_ 10 168 [(constG (.int .i64 2)),z_ 9],V_ 6 10]
def R175_2:=R_ [V_ 11 6,H_ 12 11 0,V_ 13 12,ha_ 13 14 0 2,hl_ 13 15 14,h_ 13 16 (d_ (cEq false .num) 15 (.int .i64 0)),Q_ 17 13 16,V_ 18 17,ha_ 18 19 0 3,hl_ 18 20 19,h_ 18 21 (d_ (cEq false .num) 20 (.int .i64 0)),Q_ 22 18 21]
def R175_3:=R_ [o_ 23 (eBuild z1_ 3 []),V_ 24 6,S_ 3 4 23,V_ 5 24]
def R175_4:=R_ [A_ 25 2 2,L_ 26 25,o_ 27 (u_ cLenS 26),A_ 28 2 3,L_ 29 28,o_ 30 (u_ cLenS 29),o_ 31 (b_ (cBin .add) 27 30),o_ 32 (d_ (cBin .gtr) 31 (.int .i64 64))]
def R175_5:=R_ [o_ 33 (eBuild z1_ 3 []),S_ 3 4 33,I_ 5 3]
def R175_6:=R_ [A_ 34 2 2,L_ 35 34,A_ 36 2 3,L_ 37 36,o_ 38 (b_ (cBin .add) 35 37),o_ 39 (eBuild z1_ 3 [(0,1,(constG (.int .i64 2))),(2,1,(z_ 38))]),S_ 3 4 39,I_ 5 0]
def B175:=sq R175_0 (sq (sq R175_1 (sq R175_2 (cd 22 (sq R175_3 .ret) .skip))) (sq (sq R175_4 (cd 32 (sq R175_5 .ret) .skip)) (sq R175_6 .ret)))
def A175:CF:=⟨[rCelN 4 3,rTmp 5],B175,40⟩
theorem c175:ctF pG 175=some A175:=by kernel_rfl
def R176_0:=R_ [X_ 2 0,X_ 3 1,o_ 4 (eAlloc z1_ 3),I_ 5 0]
def R176_1:=R_ [N_ 6 3 2,N_ 7 3 3,y_ 8 201 [z_ 6,z_ 7,(constG (.fn (.func 202) [] []))],W_ 9 0 8,W_ 10 1 8,S_ 3 4 9,V_ 5 10]
def B176:=sq R176_0 (sq R176_1 .ret)
def A176:CF:=⟨[rCelN 4 3,rTmp 5],B176,11⟩
theorem c176:ctF pG 176=some A176:=by kernel_rfl
def R177_0:=R_ [X_ 2 0,X_ 3 1,o_ 4 (eAlloc z1_ 3),I_ 5 0]
def R177_1:=R_ [N_ 6 3 2,N_ 7 3 3,y_ 8 201 [z_ 6,z_ 7,(constG (.fn (.func 203) [] []))],W_ 9 0 8,W_ 10 1 8,S_ 3 4 9,V_ 5 10]
def B177:=sq R177_0 (sq R177_1 .ret)
def A177:CF:=⟨[rCelN 4 3,rTmp 5],B177,11⟩
theorem c177:ctF pG 177=some A177:=by kernel_rfl
def R178_0:=R_ [X_ 2 0,X_ 3 1,o_ 4 (eAlloc z1_ 3),I_ 5 0]
def R178_1:=R_ [N_ 6 3 2,N_ 7 3 3,y_ 8 201 [z_ 6,z_ 7,(constG (.fn (.func 204) [] []))],W_ 9 0 8,W_ 10 1 8,S_ 3 4 9,V_ 5 10]
def B178:=sq R178_0 (sq R178_1 .ret)
def A178:CF:=⟨[rCelN 4 3,rTmp 5],B178,11⟩
theorem c178:ctF pG 178=some A178:=by kernel_rfl
def R179_0:=R_ [X_ 2 0,X_ 3 1,o_ 4 (eAlloc z1_ 3),I_ 5 0]
def R179_1:=R_ [N_ 6 3 2,N_ 7 3 3,y_ 8 201 [z_ 6,z_ 7,(constG (.fn (.func 205) [] []))],W_ 9 0 8,W_ 10 1 8,S_ 3 4 9,V_ 5 10]
def B179:=sq R179_0 (sq R179_1 .ret)
def A179:CF:=⟨[rCelN 4 3,rTmp 5],B179,11⟩
theorem c179:ctF pG 179=some A179:=by kernel_rfl
def R180_0:=R_ [X_ 2 0,X_ 3 1,o_ 4 (eAlloc z1_ 3),I_ 5 0]
def R180_1:=R_ [N_ 6 3 2,N_ 7 3 3,y_ 8 201 [z_ 6,z_ 7,(constG (.fn (.func 206) [] []))],W_ 9 0 8,W_ 10 1 8,S_ 3 4 9,V_ 5 10]
def B180:=sq R180_0 (sq R180_1 .ret)
def A180:CF:=⟨[rCelN 4 3,rTmp 5],B180,11⟩
theorem c180:ctF pG 180=some A180:=by kernel_rfl
def R181_0:=R_ [X_ 2 0,X_ 3 1,o_ 4 (eAlloc z1_ 3),I_ 5 0]
def R181_1:=R_ [N_ 6 3 2,N_ 7 3 3,y_ 8 201 [z_ 6,z_ 7,(constG (.fn (.func 207) [] []))],W_ 9 0 8,W_ 10 1 8,S_ 3 4 9,V_ 5 10]
def B181:=sq R181_0 (sq R181_1 .ret)
def A181:CF:=⟨[rCelN 4 3,rTmp 5],B181,11⟩
theorem c181:ctF pG 181=some A181:=by kernel_rfl
def R182_0:=R_ [X_ 2 0,X_ 3 1,o_ 4 (eAlloc z1_ 3),I_ 5 0]
def R182_1:=R_ [N_ 8 3 2,N_ 9 3 3,o_ 10 (eBslice z1_ 2 3 [(0,3,(z_ 8)),(3,3,(z_ 9))]),y_ 11 168 [(constG (.int .i64 3)),z_ 10],V_ 6 11]
def R182_2:=R_ [V_ 12 6,H_ 13 12 0]
def R182_3:=R_ [o_ 14 (eBuild z1_ 3 []),V_ 15 6,S_ 3 4 14,V_ 5 15]
def R182_4:=R_ [y_ 16 169 [(constG (.bool false))],o_ 7 (eAlloc z1_ 3),S_ 3 7 16]
def R182_5:=R_ [N_ 18 3 2,N_ 19 3 7,o_ 20 (b_ (cEqA false [.i,.i,.s]) 18 19),V_ 21 20,hn_ 21 22 3 3,hn_ 21 23 3 7,h_ 21 24 (b_ (cEqA false [.i,.i,.s]) 22 23),Q_ 25 21 24,V_ 17 25]
def R182_6:=R_ [N_ 26 3 7,S_ 3 4 26,I_ 5 0]
def R182_7:=R_ [A_ 28 0 2,L_ 29 28,K_ 30 29 0,V_ 31 30,ha_ 31 32 0 3,hl_ 31 33 32,h_ 31 34 (d_ (cEq false .num) 33 (.int .i64 0)),Q_ 35 31 34,V_ 27 35]
def R182_8:=R_ [o_ 36 (eBuild z1_ 3 []),S_ 3 4 36,I_ 5 0]
def R182_9:=R_ [y_ 37 169 [(constG (.bool true))],S_ 3 4 37,I_ 5 0]
def B182:=sq R182_0 (sq (sq R182_1 (sq R182_2 (cd 13 (sq R182_3 .ret) .skip))) (sq R182_4 (sq (.block 0 (sq R182_5 (cd 17 (sq R182_6 .ret) (sq R182_7 (cd 27 (sq R182_8 .ret) .skip))))) (sq R182_9 .ret))))
def A182:CF:=⟨[rCelN 4 3,rTmp 5],B182,38⟩
theorem c182:ctF pG 182=some A182:=by kernel_rfl
def R183_0:=R_ [X_ 2 0,X_ 3 1,o_ 4 (eAlloc z1_ 3),I_ 5 0]
def R183_1:=R_ [N_ 8 3 2,N_ 9 3 3,o_ 10 (eBslice z1_ 2 3 [(0,3,(z_ 8)),(3,3,(z_ 9))]),y_ 11 168 [(constG (.int .i64 3)),z_ 10],V_ 6 11]
def R183_2:=R_ [V_ 12 6,H_ 13 12 0]
def R183_3:=R_ [o_ 14 (eBuild z1_ 3 []),V_ 15 6,S_ 3 4 14,V_ 5 15]
def R183_4:=R_ [y_ 16 169 [(constG (.bool true))],o_ 7 (eAlloc z1_ 3),S_ 3 7 16]
def R183_5:=R_ [N_ 18 3 2,N_ 19 3 7,o_ 20 (b_ (cEqA false [.i,.i,.s]) 18 19),V_ 21 20,hn_ 21 22 3 3,hn_ 21 23 3 7,h_ 21 24 (b_ (cEqA false [.i,.i,.s]) 22 23),Q_ 25 21 24,V_ 17 25]
def R183_6:=R_ [N_ 26 3 7,S_ 3 4 26,I_ 5 0]
def R183_7:=R_ [A_ 28 0 2,L_ 29 28,K_ 30 29 0,V_ 31 30,ha_ 31 32 0 3,hl_ 31 33 32,h_ 31 34 (d_ (cEq false .num) 33 (.int .i64 0)),Q_ 35 31 34,V_ 27 35]
def R183_8:=R_ [o_ 36 (eBuild z1_ 3 []),S_ 3 4 36,I_ 5 0]
def R183_9:=R_ [y_ 37 169 [(constG (.bool false))],S_ 3 4 37,I_ 5 0]
def B183:=sq R183_0 (sq (sq R183_1 (sq R183_2 (cd 13 (sq R183_3 .ret) .skip))) (sq R183_4 (sq (.block 0 (sq R183_5 (cd 17 (sq R183_6 .ret) (sq R183_7 (cd 27 (sq R183_8 .ret) .skip))))) (sq R183_9 .ret))))
def A183:CF:=⟨[rCelN 4 3,rTmp 5],B183,38⟩
theorem c183:ctF pG 183=some A183:=by kernel_rfl
def R184_0:=R_ [I_ 4 0]
def R184_1:=R_ [V_ 5 0,V_ 6 1,o_ 7 (b_ cCmpS 5 6),V_ 4 7]
def B184:=sq R184_0 (sq R184_1 .ret)
def A184:CF:=⟨[rTmp 4],B184,8⟩
theorem c184:ctF pG 184=some A184:=by kernel_rfl
def R185_0:=R_ [V_ 4 1,o_ 5 (d_ (cBin .gtr) 4 (.int .u64 127))]
def R185_1:=R_ [V_ 8 0,V_ 9 1,o_ 10 (u_ (cToInt .u8) 9),o_ 11 (d_ (cBin .or) 10 (.int .u8 128)),y_ 12 119 [z_ 8,z_ 11]]
def R185_2:=R_ [V_ 6 1,o_ 7 (d_ (cBin .shr) 6 (.int .u64 7)),V_ 1 7]
def L185_0:=sq (sq R185_0 (cd 5 .skip (.exit 0))) (sq (.block 1 R185_1) R185_2)
def R185_3:=R_ [V_ 13 0,V_ 14 1,o_ 15 (u_ (cToInt .u8) 14),y_ 16 119 [z_ 13,z_ 15]]
def B185:=sq (.block 0 (.loop L185_0)) R185_3
def A185:CF:=⟨[],B185,17⟩
theorem c185:ctF pG 185=some A185:=by kernel_rfl
def R187_0:=R_ [V_ 4 0,o_ 5 (d_ (cEq true .ptr) 4 (.cst (.pointer none))),V_ 6 5,gv_ 6 7 0,g_ 6 8 (eNilc (z_ 7)),ga_ 6 9 0 8,ga_ 6 10 0 9,gl_ 6 11 10,P_ 12 6 11]
def R187_1:=R_ [V_ 13 0,V_ 14 0,o_ 15 (eNilc (z_ 14)),A_ 16 0 15,A_ 17 1 16,L_ 18 17,V_ 19 1,o_ 20 (eApp 1 1 (z_ 18) (z_ 19)),o_ 21 (eNilc (z_ 13)),A_ 22 0 21,A_ 23 1 22,S_ 1 23 20]
def B187:=sq R187_0 (cd 12 R187_1 .skip)
def A187:CF:=⟨[],B187,24⟩
theorem c187:ctF pG 187=some A187:=by kernel_rfl
def R196_0:=R_ [I_ 4 0,F_ 5]
def R196_1:=R_ [V_ 7 0,V_ 8 1,o_ 9 (b_ (cBin .add) 7 8),V_ 6 9]
def R196_2:=R_ [V_ 10 6,V_ 11 0,o_ 12 (d_ (cBin .lss) 11 (.int .i64 0)),V_ 13 1,o_ 14 (d_ (cBin .lss) 13 (.int .i64 0)),o_ 15 (b_ (cEq true .bool) 12 14),V_ 16 15,hv_ 16 17 6,h_ 16 18 (d_ (cBin .lss) 17 (.int .i64 0)),hv_ 16 19 0,h_ 16 20 (d_ (cBin .lss) 19 (.int .i64 0)),h_ 16 21 (b_ (cEq false .bool) 18 20),Q_ 22 16 21,V_ 4 10,V_ 5 22]
def B196:=sq R196_0 (sq R196_1 (sq R196_2 .ret))
def A196:CF:=⟨[rTmp 4,rTmp 5],B196,23⟩
theorem c196:ctF pG 196=some A196:=by kernel_rfl
def R197_0:=R_ [I_ 4 0,F_ 5]
def R197_1:=R_ [V_ 7 0,V_ 8 1,o_ 9 (b_ (cBin .sub) 7 8),V_ 6 9]
def R197_2:=R_ [V_ 10 6,V_ 11 0,o_ 12 (d_ (cBin .lss) 11 (.int .i64 0)),V_ 13 1,o_ 14 (d_ (cBin .lss) 13 (.int .i64 0)),o_ 15 (b_ (cEq false .bool) 12 14),V_ 16 15,hv_ 16 17 6,h_ 16 18 (d_ (cBin .lss) 17 (.int .i64 0)),hv_ 16 19 0,h_ 16 20 (d_ (cBin .lss) 19 (.int .i64 0)),h_ 16 21 (b_ (cEq false .bool) 18 20),Q_ 22 16 21,V_ 4 10,V_ 5 22]
def B197:=sq R197_0 (sq R197_1 (sq R197_2 .ret))
def A197:CF:=⟨[rTmp 4,rTmp 5],B197,23⟩
theorem c197:ctF pG 197=some A197:=by kernel_rfl
def R198_0:=R_ [I_ 4 0,F_ 5]
def R198_1:=R_ [V_ 7 0,K_ 8 7 0,V_ 9 8,hv_ 9 10 1,h_ 9 11 (d_ (cEq false .num) 10 (.int .i64 0)),Q_ 12 9 11]
def R198_2:=R_ [I_ 4 0,T_ 5]
def R198_3:=R_ [V_ 13 0,V_ 14 1,o_ 15 (b_ (cBin .mul) 13 14),V_ 6 15]
def R198_4:CT:=.drw [16,17,18,19,20,21,22,23,24,25,26,27,28,29,30,31,32,33,34,35,36,37,38] [iv_ [6] 16 6 1,iv_ [0] 17 0 1,i_ [17] 18 (d_ (cEq false .num) 17 (.int .i64 (-1))) 1,iv_ [18] 19 18 1,goI [19,1] (z_ 19) true (pdT 20) (v_ 1) 1,goI [19,20] (z_ 19) true (pdT 21) (d_ (cEq false .num) 20 (.int .i64 (-9223372036854775808))) 1,i_ [19,21] 22 (p_ 19 21) 1,iv_ [22] 23 22 1,goI [23,1] (z_ 23) false (pdT 24) (v_ 1) 1,goI [23,24] (z_ 23) false (pdT 25) (d_ (cEq false .num) 24 (.int .i64 (-1))) 1,goI [23,25] (z_ 23) false (pdT 26) (v_ 25) 1,goI [26,0] (z_ 26) true (pdT 27) (v_ 0) 1,goI [26,27] (z_ 26) true (pdT 28) (d_ (cEq false .num) 27 (.int .i64 (-9223372036854775808))) 1,goI [23,26,28] (z_ 23) false (pdT 29) (p_ 26 28) 1,i_ [23,29] 30 (q_ 23 29) 1,i_ [30] 31 (u_ (cUn .not) 30) 1,iv_ [31] 32 31 1,goI [32,6] (z_ 32) true (pdT 33) (v_ 6) 1,goI [32,1] (z_ 32) true (pdT 34) (v_ 1) 1,goI [32,33,34] (z_ 32) true (pdT 35) (b_ (cBin .quo) 33 34) 1,goI [32,0] (z_ 32) true (pdT 36) (v_ 0) 1,goI [32,35,36] (z_ 32) true (pdT 37) (b_ (cEq false .num) 35 36) 1,i_ [32,37] 38 (p_ 32 37) 1,iv_ [16] 4 16 1,iv_ [38] 5 38 1]
def B198:=sq R198_0 (sq (sq R198_1 (cd 12 (sq R198_2 .ret) .skip)) (sq R198_3 (sq R198_4 .ret)))
def A198:CF:=⟨[rTmp 4,rTmp 5],B198,39⟩
theorem c198:ctF pG 198=some A198:=by kernel_rfl
def R199_0:=R_ [I_ 4 0,F_ 5]
def R199_1:=R_ [V_ 6 0,o_ 7 (d_ (cEq false .num) 6 (.int .i64 (-9223372036854775808))),V_ 8 7,gv_ 8 9 1,g_ 8 10 (d_ (cEq false .num) 9 (.int .i64 (-1))),P_ 11 8 10]
def R199_2:=R_ [I_ 4 0,F_ 5]
def R199_3:=R_ [V_ 12 0,V_ 13 1,o_ 14 (b_ (cBin .quo) 12 13),V_ 4 14,T_ 5]
def B199:=sq R199_0 (sq (sq R199_1 (cd 11 (sq R199_2 .ret) .skip)) (sq R199_3 .ret))
def A199:CF:=⟨[rTmp 4,rTmp 5],B199,15⟩
theorem c199:ctF pG 199=some A199:=by kernel_rfl
def R200_0:=R_ [I_ 4 0,F_ 5]
def R200_1:=R_ [V_ 6 1,o_ 7 (d_ (cEq false .num) 6 (.int .i64 (-1)))]
def R200_2:=R_ [I_ 4 0,T_ 5]
def R200_3:=R_ [V_ 8 0,V_ 9 1,o_ 10 (b_ (cBin .rem) 8 9),V_ 4 10,T_ 5]
def B200:=sq R200_0 (sq (sq R200_1 (cd 7 (sq R200_2 .ret) .skip)) (sq R200_3 .ret))
def A200:CF:=⟨[rTmp 4,rTmp 5],B200,11⟩
theorem c200:ctF pG 200=some A200:=by kernel_rfl
def R201_0:=R_ [X_ 3 0,X_ 4 1,o_ 6 (eAlloc z1_ 3),I_ 7 0]
def R201_1:=R_ [N_ 8 3 3,y_ 9 47 [z_ 8],o_ 10 (u_ (cUn .not) 9),V_ 11 10,hn_ 11 12 3 4,gcP (z_ 11) false (pdT 13) 47 [z_ 12],h_ 11 14 (u_ (cUn .not) 13),Q_ 15 11 14]
def R201_2:=R_ [o_ 16 (eBuild z1_ 3 []),S_ 3 6 16,I_ 7 5]
def R201_3:=R_ [A_ 17 0 3,L_ 18 17,K_ 19 18 0,V_ 20 19,ha_ 20 21 0 4,hl_ 20 22 21,h_ 20 23 (d_ (cEq false .num) 22 (.int .i64 0)),Q_ 24 20 23]
def R201_4:=R_ [o_ 25 (eBuild z1_ 3 []),S_ 3 6 25,I_ 7 0]
def R201_5:=R_ [A_ 26 0 3,L_ 27 26,A_ 28 0 4,L_ 29 28,o_ 30 (b_ (cEq true .num) 27 29)]
def R201_6:=R_ [o_ 31 (eBuild z1_ 3 []),S_ 3 6 31,I_ 7 30]
def R201_7:=R_ [V_ 32 2,N_ 33 3 3,N_ 34 3 4,y_ 35 116 [z_ 33,z_ 34],vP (pdT 36) (z_ 32) [z_ 35],y_ 37 169 [z_ 36],S_ 3 6 37,I_ 7 0]
def B201:=sq R201_0 (sq (sq R201_1 (cd 15 (sq R201_2 .ret) .skip)) (sq (sq R201_3 (cd 24 (sq R201_4 .ret) .skip)) (sq (sq R201_5 (cd 30 (sq R201_6 .ret) .skip)) (sq R201_7 .ret))))
def A201:CF:=⟨[rCelN 6 3,rTmp 7],B201,38⟩
theorem c201:ctF pG 201=some A201:=by kernel_rfl
def R202_0:=R_ [F_ 2]
def R202_1:=R_ [V_ 3 0,K_ 4 3 0,V_ 2 4]
def B202:=sq R202_0 (sq R202_1 .ret)
def A202:CF:=⟨[rTmp 2],B202,5⟩
theorem c202:ctF pG 202=some A202:=by kernel_rfl
def R203_0:=R_ [F_ 2]
def R203_1:=R_ [V_ 3 0,H_ 4 3 0,V_ 2 4]
def B203:=sq R203_0 (sq R203_1 .ret)
def A203:CF:=⟨[rTmp 2],B203,5⟩
theorem c203:ctF pG 203=some A203:=by kernel_rfl
def R204_0:=R_ [F_ 2]
def R204_1:=R_ [V_ 3 0,o_ 4 (d_ (cBin .lss) 3 (.int .i64 0)),V_ 2 4]
def B204:=sq R204_0 (sq R204_1 .ret)
def A204:CF:=⟨[rTmp 2],B204,5⟩
theorem c204:ctF pG 204=some A204:=by kernel_rfl
def R205_0:=R_ [F_ 2]
def R205_1:=R_ [V_ 3 0,o_ 4 (d_ (cBin .leq) 3 (.int .i64 0)),V_ 2 4]
def B205:=sq R205_0 (sq R205_1 .ret)
def A205:CF:=⟨[rTmp 2],B205,5⟩
theorem c205:ctF pG 205=some A205:=by kernel_rfl
def R206_0:=R_ [F_ 2]
def R206_1:=R_ [V_ 3 0,o_ 4 (d_ (cBin .gtr) 3 (.int .i64 0)),V_ 2 4]
def B206:=sq R206_0 (sq R206_1 .ret)
def A206:CF:=⟨[rTmp 2],B206,5⟩
theorem c206:ctF pG 206=some A206:=by kernel_rfl
def R207_0:=R_ [F_ 2]
def R207_1:=R_ [V_ 3 0,o_ 4 (d_ (cBin .geq) 3 (.int .i64 0)),V_ 2 4]
def B207:=sq R207_0 (sq R207_1 .ret)
def A207:CF:=⟨[rTmp 2],B207,5⟩
theorem c207:ctF pG 207=some A207:=by kernel_rfl
def R226_0:=R_ [X_ 2 0,o_ 4 (c_ (.cst .nilIface)),I_ 5 0]
def R226_1:=R_ [N_ 6 3 2,V_ 7 1,y_ 8 228 [z_ 6,z_ 7,(constG (.fn (.func 229) [] []))],W_ 9 0 8,W_ 10 1 8,V_ 4 9,V_ 5 10]
def B226:=sq R226_0 (sq R226_1 .ret)
def A226:CF:=⟨[rTmp 4,rTmp 5],B226,11⟩
theorem c226:ctF pG 226=some A226:=by kernel_rfl
def R227_0:=R_ [X_ 3 0,X_ 4 1,X_ 5 2,o_ 6 (c_ (.cst .nilIface)),I_ 7 0]
def R227_1:=R_ [A_ 10 0 3,A_ 11 0 10,A_ 12 1 11,L_ 13 12,o_ 14 (eMkfn (.func 230) [] [z_ 4]),y_ 15 115 [z_ 13,z_ 14],V_ 8 15]
def R227_2:=R_ [V_ 16 8,o_ 17 (d_ (cBin .lss) 16 (.int .i64 0))]
def R227_3:=R_ [o_ 18 (eBuild z15_ 4 []),X_ 19 18,o_ 20 (u_ (cMkif 260) 19),V_ 6 20,I_ 7 0]
def R227_4:=R_ [A_ 21 0 3,A_ 22 0 21,A_ 23 1 22,L_ 24 23,V_ 25 8,J_ 26 6 24 25,N_ 27 6 26,o_ 9 (eAlloc z3_ 6),S_ 6 9 27]
def R227_5:=R_ [N_ 28 3 3,A_ 29 1 9,L_ 30 29,o_ 31 (eMkfn (.func 231) [] [z_ 9,z_ 5]),y_ 32 228 [z_ 28,z_ 30,z_ 31],W_ 33 0 32,W_ 34 1 32,V_ 6 33,V_ 7 34]
def B227:=sq R227_0 (sq R227_1 (sq (sq R227_2 (cd 17 (sq R227_3 .ret) .skip)) (sq R227_4 (sq R227_5 .ret))))
def A227:CF:=⟨[rTmp 6,rTmp 7],B227,35⟩
theorem c227:ctF pG 227=some A227:=by kernel_rfl
def R228_0:=R_ [X_ 3 0,X_ 4 1,o_ 6 (c_ (.cst .nilIface)),I_ 7 0]
def R228_1:=R_ [A_ 9 0 3,A_ 10 0 9,A_ 11 0 10,L_ 12 11,o_ 13 (eMkfn (.func 233) [] [z_ 4]),y_ 14 110 [z_ 12,z_ 13],V_ 8 14]
def R228_2:=R_ [V_ 15 8,o_ 16 (d_ (cBin .lss) 15 (.int .i64 0)),V_ 17 16,hv_ 17 18 8,ha_ 17 19 0 3,ha_ 17 20 2 19,hl_ 17 21 20,h_ 17 22 (u_ cLenL 21),h_ 17 23 (b_ (cBin .geq) 18 22),Q_ 24 17 23]
def R228_3:=R_ [o_ 25 (eBuild z15_ 4 []),X_ 26 25,o_ 27 (u_ (cMkif 260) 26),V_ 6 27,I_ 7 0]
def R228_4:=R_ [V_ 28 8,o_ 29 (u_ (cToInt .u32) 28),o_ 30 (d_ (cBin .add) 29 (.int .u32 1)),A_ 31 0 3,A_ 32 2 31,L_ 33 32,V_ 34 8,J_ 35 1 33 34,L_ 36 35,V_ 37 2,o_ 38 (eBuild z15_ 4 [(0,1,(z_ 30)),(1,1,(z_ 36)),(3,1,(z_ 37))]),X_ 39 38,o_ 40 (u_ (cMkif 260) 39),V_ 6 40,I_ 7 0]
def B228:=sq R228_0 (sq R228_1 (sq (sq R228_2 (cd 24 (sq R228_3 .ret) .skip)) (sq R228_4 .ret)))
def A228:CF:=⟨[rTmp 6,rTmp 7],B228,41⟩
theorem c228:ctF pG 228=some A228:=by kernel_rfl
def R229_0:=R_ [F_ 2]
def R229_1:=R_ [T_ 2]
def B229:=sq R229_0 (sq R229_1 .ret)
def A229:CF:=⟨[rTmp 2],B229,3⟩
theorem c229:ctF pG 229=some A229:=by kernel_rfl
def R230_0:=R_ [X_ 2 0,F_ 3]
def R230_1:=R_ [A_ 4 0 2,L_ 5 4,L_ 6 1,o_ 7 (b_ (cEq false .num) 5 6),V_ 3 7]
def B230:=sq R230_0 (sq R230_1 .ret)
def A230:CF:=⟨[rTmp 3],B230,8⟩
theorem c230:ctF pG 230=some A230:=by kernel_rfl
def R231_0:=R_ [F_ 4]
def R231_1:=R_ [N_ 5 6 1,N_ 6 11 2,V_ 7 0,y_ 8 232 [z_ 5,z_ 6,z_ 7],V_ 4 8]
def B231:=sq R231_0 (sq R231_1 .ret)
def A231:CF:=⟨[rTmp 4],B231,9⟩
theorem c231:ctF pG 231=some A231:=by kernel_rfl
def R232_0:=R_ [X_ 3 0,X_ 4 1,F_ 6]
def R232_1:=R_ [A_ 14 0 4,L_ 15 14,E_ 16 15,V_ 7 16]
def R232_2:=R_ [V_ 17 7,A_ 18 3 3,L_ 19 18,E_ 20 19,o_ 21 (b_ (cBin .gtr) 17 20),V_ 22 21,ha_ 22 23 1 4,hl_ 22 24 23,hv_ 22 25 24,ha_ 25 26 6 4,hl_ 25 27 26,h_ 22 28 (q_ 25 27),hv_ 22 29 28,gv_ 29 30 7,ga_ 29 31 3 3,gl_ 29 32 31,g_ 29 33 (u_ cLenL 32),g_ 29 34 (b_ (cEq false .num) 30 33),h_ 22 35 (p_ 29 34),Q_ 36 22 35]
def R232_3:=R_ [F_ 6]
def R232_4:=R_ [A_ 37 1 4,L_ 38 37,V_ 39 38,ha_ 39 40 6 4,hl_ 39 41 40,Q_ 42 39 41]
def R232_5:=R_ [V_ 43 7,D_ 44 43 1,V_ 7 44]
def R232_6:=R_ [A_ 45 3 3,L_ 46 45,V_ 47 7,o_ 48 (eSl (cSlc 1) (z_ 46) none (some (z_ 47)) none),E_ 49 48,I_ 50 0]
def R232_7:=R_ [B_ 51 50 49]
def R232_8:=R_ [V_ 52 50,J_ 53 1 48 50,L_ 54 53,V_ 8 52,V_ 9 54]
def R232_9:CT:=.drw [55,56,57,58,59,60,61,62,63,64,65,66,67,68,69,70,71,72,73,74,75,76,77,78,79,80,81,82,83,84,85,86,87,88,89] [iv_ [9] 55 9 1,i_ [55] 56 (d_ (cBin .lss) 55 (.int .i64 0)) 1,iv_ [56] 57 56 1,goI [57,9] (z_ 57) false (pdT 58) (v_ 9) 1,goI [57,2] (z_ 57) false (pdT 59) (v_ 2) 1,goI [57,59] (z_ 57) false (pdT 60) (u_ cLenL 59) 1,goI [57,58,60] (z_ 57) false (pdT 61) (b_ (cBin .geq) 58 60) 1,i_ [57,61] 62 (q_ 57 61) 1,iv_ [62] 63 62 1,goI [63,2] (z_ 63) false (pdT 64) (v_ 2) 1,goI [63,9] (z_ 63) false (pdT 65) (v_ 9) 1,goI [63,64,65] (z_ 63) false (pdT 66) (b_ (cIxa 3) 64 65) 1,goI [63,66] (z_ 63) false (pdT 67) (a_ 0 66) 1,goI [63,67] (z_ 63) false (pdT 68) (l_ 67) 1,goI [63,68] (z_ 63) false (pdT 69) (d_ (cEq false .num) 68 (.int .i64 0)) 1,i_ [63,69] 70 (q_ 63 69) 1,iv_ [70] 71 70 1,goI [71,8] (z_ 71) false (pdT 72) (v_ 8) 1,goI [71,4] (z_ 71) false (pdT 73) (a_ 0 4) 1,goI [71,73] (z_ 71) false (pdT 74) (l_ 73) 1,goI [71,74] (z_ 71) false (pdT 75) (u_ cLenL 74) 1,goI [71,72,75] (z_ 71) false (pdT 76) (b_ (cBin .lss) 72 75) 1,goI [71,76] (z_ 71) false (pdT 77) (v_ 76) 1,goI [77,2] (z_ 77) true (pdT 78) (v_ 2) 1,goI [77,9] (z_ 77) true (pdT 79) (v_ 9) 1,goI [77,78,79] (z_ 77) true (pdT 80) (b_ (cIxa 3) 78 79) 1,goI [77,80] (z_ 77) true (pdT 81) (n_ 3 80) 1,goI [77,4] (z_ 77) true (pdT 82) (a_ 0 4) 1,goI [77,82] (z_ 77) true (pdT 83) (l_ 82) 1,goI [77,8] (z_ 77) true (pdT 84) (v_ 8) 1,goI [77,83,84] (z_ 77) true (pdT 85) (b_ (cIxa 3) 83 84) 1,goI [77,85] (z_ 77) true (pdT 86) (n_ 3 85) 1,goI [77,81,86] (z_ 77) true (pdT 87) (b_ (cEqA true [.i,.i,.s]) 81 86) 1,goI [71,77,87] (z_ 71) false (pdT 88) (p_ 77 87) 1,i_ [71,88] 89 (q_ 71 88) 1]
def R232_10:=R_ [F_ 6]
def R232_11:=R_ [D_ 90 50 1,V_ 50 90]
def L232_0:=sq R232_7 (sq (cd 51 .skip (.exit 0)) (sq (.block 1 (sq R232_8 (sq R232_9 (cd 89 (sq R232_10 .ret) .skip)))) R232_11))
def R232_12:=R_ [A_ 91 1 4,L_ 92 91]
def R232_13:CT:=.drw [94,95,96,97,98,99,100,101,102,103,104,105,93,106,107] [iv_ [2] 94 2 1,ia_ [3] 95 3 3 1,il_ [95] 96 95 1,iv_ [7] 97 7 1,i_ [97] 98 (d_ (cBin .sub) 97 (.int .i64 1)) 1,iJ_ [96,98] 99 1 96 98 1,il_ [99] 100 99 1,iJ_ [94,100] 101 3 94 100 1,in_ [101] 102 3 101 1,ia_ [4] 103 2 4 1,in_ [103] 104 3 103 1,cI [102,104] (pdT 105) 87 [z_ 102,z_ 104],iv_ [105] 93 105 1,i_ [93] 106 (u_ (cExt 0) 93) 1,i_ [93] 107 (u_ (cExt 1) 93) 1,iv_ [106] 10 106 1,iv_ [107] 11 107 1]
def R232_14:=R_ [V_ 108 11,H_ 109 108 0,V_ 110 109,ha_ 110 111 2 4,ha_ 110 112 0 111,hl_ 110 113 112,h_ 110 114 (d_ (cEq false .num) 113 (.int .i64 0)),Q_ 115 110 114,V_ 116 115,hv_ 116 117 10,h_ 116 118 (d_ (cBin .lss) 117 (.int .i64 0)),Q_ 119 116 118,V_ 120 119,hv_ 120 121 10,h_ 120 122 (d_ (cEq false .num) 121 (.int .i64 0)),hv_ 120 123 122,ga_ 123 124 5 4,gl_ 123 125 124,g_ 123 126 (u_ (cUn .not) 125),h_ 120 127 (p_ 123 126),Q_ 128 120 127]
def R232_15:=R_ [F_ 6]
def R232_16:=R_ [A_ 129 6 4,L_ 130 129]
def R232_17:CT:=.drw [132,133,134,135,136,137,138,139,140,141,142,143,131,144,145] [iv_ [2] 132 2 1,ia_ [3] 133 3 3 1,il_ [133] 134 133 1,iv_ [7] 135 7 1,i_ [135] 136 (d_ (cBin .sub) 135 (.int .i64 1)) 1,iJ_ [134,136] 137 1 134 136 1,il_ [137] 138 137 1,iJ_ [132,138] 139 3 132 138 1,in_ [139] 140 3 139 1,ia_ [4] 141 7 4 1,in_ [141] 142 3 141 1,cI [140,142] (pdT 143) 87 [z_ 140,z_ 142],iv_ [143] 131 143 1,i_ [131] 144 (u_ (cExt 0) 131) 1,i_ [131] 145 (u_ (cExt 1) 131) 1,iv_ [144] 12 144 1,iv_ [145] 13 145 1]
def R232_18:=R_ [V_ 146 13,H_ 147 146 0,V_ 148 147,ha_ 148 149 7 4,ha_ 148 150 0 149,hl_ 148 151 150,h_ 148 152 (d_ (cEq false .num) 151 (.int .i64 0)),Q_ 153 148 152,V_ 154 153,hv_ 154 155 12,h_ 154 156 (d_ (cBin .gtr) 155 (.int .i64 0)),Q_ 157 154 156,V_ 158 157,hv_ 158 159 12,h_ 158 160 (d_ (cEq false .num) 159 (.int .i64 0)),hv_ 158 161 160,ga_ 161 162 10 4,gl_ 161 163 162,g_ 161 164 (u_ (cUn .not) 163),h_ 158 165 (p_ 161 164),Q_ 166 158 165]
def R232_19:=R_ [F_ 6]
def R232_20:=R_ [T_ 6]
def B232:=sq R232_0 (sq R232_1 (sq (sq R232_2 (cd 36 (sq R232_3 .ret) .skip)) (sq (sq R232_4 (cd 42 R232_5 .skip)) (sq (sq R232_6 (.block 0 (.loop L232_0))) (sq (sq R232_12 (cd 92 (sq R232_13 (sq R232_14 (cd 128 (sq R232_15 .ret) .skip))) .skip)) (sq (sq R232_16 (cd 130 (sq R232_17 (sq R232_18 (cd 166 (sq R232_19 .ret) .skip))) .skip)) (sq R232_20 .ret)))))))
def A232:CF:=⟨[rTmp 6],B232,167⟩
theorem c232:ctF pG 232=some A232:=by kernel_rfl
def R233_0:=R_ [X_ 2 0,F_ 3]
def R233_1:=R_ [A_ 4 0 2,L_ 5 4,L_ 6 1,o_ 7 (b_ (cEq false .num) 5 6),V_ 3 7]
def B233:=sq R233_0 (sq R233_1 .ret)
def A233:CF:=⟨[rTmp 3],B233,8⟩
theorem c233:ctF pG 233=some A233:=by kernel_rfl
def R235_0:=R_ [o_ 2 (c_ (.cst (.slice none 0 0))),o_ 3 (eAlloc [.int .u32 0,.int .i64 0] 2),F_ 4,I_ 5 0]
def R235_1:CT:=.drw [7,8,9,10,11,12,13,14,15,16] [iv_ [0] 7 0 1,i_ [7] 8 (eNilc (z_ 7)) 1,ia_ [8] 9 2 8 1,il_ [9] 10 9 1,iv_ [0] 11 0 1,i_ [11] 12 (eNilc (z_ 11)) 1,ia_ [12] 13 1 12 1,il_ [13] 14 13 1,i_ [14] 15 (u_ cLenL 14) 1,i_ [10,15] 16 (b_ (cBin .lss) 10 15) 1]
def R235_2:=R_ [V_ 17 0,o_ 18 (eNilc (z_ 17)),A_ 19 2 18,L_ 20 19,V_ 6 20]
def R235_3:=R_ [V_ 21 0,o_ 22 (eNilc (z_ 21)),A_ 23 2 22,L_ 24 23,D_ 25 24 1,o_ 26 (eNilc (z_ 21)),A_ 27 2 26,S_ 1 27 25]
def R235_4:CT:=.drw [28,29,30,31,32,33,34,35,36,37,38,39] [iv_ [0] 28 0 1,i_ [28] 29 (eNilc (z_ 28)) 1,ia_ [29] 30 3 29 1,il_ [30] 31 30 1,iv_ [0] 32 0 1,i_ [32] 33 (eNilc (z_ 32)) 1,ia_ [33] 34 1 33 1,il_ [34] 35 34 1,iv_ [6] 36 6 1,iJ_ [35,36] 37 1 35 36 1,il_ [37] 38 37 1,vI [31,38] (pdT 39) (z_ 31) [z_ 38]]
def R235_5:CT:=.drw [40,41,42,43,44,45,46,47,48,49,50,51,52,53] [iv_ [0] 40 0 1,i_ [40] 41 (eNilc (z_ 40)) 1,ia_ [41] 42 1 41 1,il_ [42] 43 42 1,iv_ [6] 44 6 1,iJ_ [43,44] 45 1 43 44 1,il_ [45] 46 45 1,cI [46] (pdT 47) 28 [z_ 46],iv_ [0] 48 0 2,i_ [48] 49 (eNilc (z_ 48)) 2,ia_ [49] 50 0 49 2,il_ [50] 51 50 2,iv_ [6] 52 6 2,i_ [51,52] 53 (eBuild [.int .u32 0,.int .i64 0] 2 [(0,1,(z_ 51)),(1,1,(z_ 52))]) 2,iv_ [47] 2 47 1,j_ [3,53] (s_ 2 3 53),i_ [] 4 (c_ (.bool true)) 1,i_ [] 5 (c_ (.int .i64 0)) 1]
def L235_0:=sq (sq R235_1 (cd 16 .skip (.exit 0))) (.block 1 (sq R235_2 (sq R235_3 (sq R235_4 (cd 39 (sq R235_5 .ret) .skip)))))
def R235_6:=R_ [o_ 54 (eBuild [.int .u32 0,.int .i64 0] 2 []),o_ 2 (c_ (.cst (.slice none 0 0))),S_ 2 3 54,F_ 4,I_ 5 0]
def B235:=sq R235_0 (sq (.block 0 (.loop L235_0)) (sq R235_6 .ret))
def A235:CF:=⟨[rTmp 2,rCelN 3 2,rTmp 4,rTmp 5],B235,55⟩
theorem c235:ctF pG 235=some A235:=by kernel_rfl
end Go.Abs
