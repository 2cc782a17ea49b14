/- A part. -/
import Derived.Test.YtlhafglnokpioaaGreatProg
import Derived.KernelRfl
import Derived.Test.YtlhafglnokpioaaGreatAbs6
noncomputable section
namespace Go.Abs
open Go.Proofs
set_option maxRecDepth 100000
noncomputable  abbrev pG:=Tryz.prog
abbrev z_ (a:Nat):G:=ar a
abbrev v_ (a:Nat):Eff:=ej (ar a)
abbrev c_ (x:AV):Eff:=ej (aT x)
abbrev a_ (k a:Nat):Eff:=e1 (xn k) (ar a)
abbrev l_ (a:Nat):Eff:=sQ (ar a)
abbrev n_ (n a:Nat):Eff:=iI n (ar a)
abbrev u_ (f:AV->bb)(a:Nat):Eff:=e1 f (ar a)
abbrev b_ (f:AV->AV->bb)(a b:Nat):Eff:=e2 f (ar a) (ar b)
abbrev d_ (f:AV->AV->bb)(a:Nat)(x:AV):Eff:=e2 f (ar a) (aT x)
abbrev s_ (n a b:Nat):Eff:=dm n (ar a) (ar b)
abbrev p_ (a b:Nat):Eff:=wV (ar a) (ar b) (aT (.bool false))
abbrev q_ (a b:Nat):Eff:=wV (ar a) (aT (.bool true)) (ar b)
abbrev x_ (a:Nat):Eff:=Fh (ar a)
abbrev o_ (d:Nat)(e:Eff):Option GO:=oP (bm d) e
abbrev g_ (a d:Nat)(e:Eff):Option GO:=gP (ar a) true (bm d) e
abbrev h_ (a d:Nat)(e:Eff):Option GO:=gP (ar a) false (bm d) e
abbrev i_ (l:List Nat)(d:Nat)(e:Eff)(c:Nat):Option RO:=oI l (bm d) e c
abbrev j_ (l:List Nat)(e:Eff):Option RO:=mI l pZ e
abbrev y_ (d:Nat)(f:FuncId)(l:List G):Option GO:=cP (bm d) f l
abbrev ug:List AV:=[(.int .i64 0),(.int .i64 0),(.int .i64 0),(.str []),(.str []),(.str []),(.int .i64 0),(.al (.slice none 0 0))]
@[simp] theorem z1_e:ug=[(.int .i64 0),(.int .i64 0),(.int .i64 0),(.str []),(.str []),(.str []),(.int .i64 0),(.al (.slice none 0 0))]:=Eq.trans rfl rfl
abbrev fq:List AV:=[(.int .i64 0),(.int .i64 0),(.str [])]
@[simp] theorem z2_e:fq=[(.int .i64 0),(.int .i64 0),(.str [])]:=Eq.trans rfl rfl
abbrev z3_:List AV:=[(.int .i64 0),(.str []),(.str []),(.al (.slice none 0 0)),(.al (.slice none 0 0)),(.bool false),(.al (.slice none 0 0)),(.al (.slice none 0 0)),(.int .i64 0),(.int .i64 0),(.int .i64 0),(.str []),(.str []),(.str []),(.int .i64 0),(.al (.slice none 0 0)),(.bool false),(.bool false),(.al (.slice none 0 0)),(.al (.slice none 0 0)),(.int .i64 0),(.int .i64 0),(.int .i64 0),(.str []),(.str []),(.str []),(.int .i64 0),(.al (.slice none 0 0)),(.al (.slice none 0 0)),(.bool false),(.int .i64 0)]
@[simp] theorem z3_e:z3_=[(.int .i64 0),(.str []),(.str []),(.al (.slice none 0 0)),(.al (.slice none 0 0)),(.bool false),(.al (.slice none 0 0)),(.al (.slice none 0 0)),(.int .i64 0),(.int .i64 0),(.int .i64 0),(.str []),(.str []),(.str []),(.int .i64 0),(.al (.slice none 0 0)),(.bool false),(.bool false),(.al (.slice none 0 0)),(.al (.slice none 0 0)),(.int .i64 0),(.int .i64 0),(.int .i64 0),(.str []),(.str []),(.str []),(.int .i64 0),(.al (.slice none 0 0)),(.al (.slice none 0 0)),(.bool false),(.int .i64 0)]:=Eq.trans rfl rfl
abbrev z4_:List AV:=[(.int .i64 0),(.str []),(.int .u32 0),(.str []),(.al (.slice none 0 0)),(.int .u32 0),(.int .u32 0),(.int .u32 0),(.str []),(.al (.slice none 0 0)),(.bool false),(.int .u32 0),(.al (.slice none 0 0)),(.al (.slice none 0 0)),(.al (.slice none 0 0)),(.al (.slice none 0 0)),(.al (.slice none 0 0)),(.al (.slice none 0 0)),(.al (.slice none 0 0)),(.al (.slice none 0 0)),(.al (.slice none 0 0)),(.al (.slice none 0 0)),(.bool false),(.bool false),(.int .i64 0)]
@[simp] theorem z4_e:z4_=[(.int .i64 0),(.str []),(.int .u32 0),(.str []),(.al (.slice none 0 0)),(.int .u32 0),(.int .u32 0),(.int .u32 0),(.str []),(.al (.slice none 0 0)),(.bool false),(.int .u32 0),(.al (.slice none 0 0)),(.al (.slice none 0 0)),(.al (.slice none 0 0)),(.al (.slice none 0 0)),(.al (.slice none 0 0)),(.al (.slice none 0 0)),(.al (.slice none 0 0)),(.al (.slice none 0 0)),(.al (.slice none 0 0)),(.al (.slice none 0 0)),(.bool false),(.bool false),(.int .i64 0)]:=Eq.trans rfl rfl
abbrev uG:List AV:=[(.int .u32 0),(.str []),(.al (.slice none 0 0)),(.int .u32 0)]
@[simp] theorem z5_e:uG=[(.int .u32 0),(.str []),(.al (.slice none 0 0)),(.int .u32 0)]:=Eq.trans rfl rfl
abbrev QH:List AV:=[(.int .u32 0),(.int .u32 0),(.str []),(.al (.slice none 0 0)),(.bool false),(.int .u32 0)]
@[simp] theorem z6_e:QH=[(.int .u32 0),(.int .u32 0),(.str []),(.al (.slice none 0 0)),(.bool false),(.int .u32 0)]:=Eq.trans rfl rfl
abbrev GL:List AV:=[(.al (.slice none 0 0)),(.al (.slice none 0 0)),(.al (.slice none 0 0))]
@[simp] theorem z7_e:GL=[(.al (.slice none 0 0)),(.al (.slice none 0 0)),(.al (.slice none 0 0))]:=Eq.trans rfl rfl
abbrev z8_:List AV:=[(.bool false),(.bool false),(.al (.slice none 0 0)),(.al (.slice none 0 0)),(.int .i64 0),(.int .i64 0),(.int .i64 0),(.str []),(.str []),(.str []),(.int .i64 0),(.al (.slice none 0 0)),(.al (.slice none 0 0)),(.bool false),(.int .i64 0)]
@[simp] theorem z8_e:z8_=[(.bool false),(.bool false),(.al (.slice none 0 0)),(.al (.slice none 0 0)),(.int .i64 0),(.int .i64 0),(.int .i64 0),(.str []),(.str []),(.str []),(.int .i64 0),(.al (.slice none 0 0)),(.al (.slice none 0 0)),(.bool false),(.int .i64 0)]:=Eq.trans rfl rfl
abbrev QL:List AV:=[(.int .i64 0),(.int .i64 0),(.int .i64 0),(.bool false),(.bool false)]
@[simp] theorem z9_e:QL=[(.int .i64 0),(.int .i64 0),(.int .i64 0),(.bool false),(.bool false)]:=Eq.trans rfl rfl
abbrev zP:List AV:=[(.al (.slice none 0 0)),(.al (.slice none 0 0)),(.al (.slice none 0 0)),(.int .i64 0)]
@[simp] theorem atw:zP=[(.al (.slice none 0 0)),(.al (.slice none 0 0)),(.al (.slice none 0 0)),(.int .i64 0)]:=Eq.trans rfl rfl
abbrev OH:List AV:=[(.str []),(.str []),(.int .i64 0),(.int .i64 0),(.int .i64 0),(.str []),(.str []),(.str []),(.int .i64 0),(.al (.slice none 0 0))]
@[simp] theorem atv:OH=[(.str []),(.str []),(.int .i64 0),(.int .i64 0),(.int .i64 0),(.str []),(.str []),(.str []),(.int .i64 0),(.al (.slice none 0 0))]:=Eq.trans rfl rfl
abbrev DC:List AV:=[(.al (.slice none 0 0)),(.al (.slice none 0 0))]
@[simp] theorem atu:DC=[(.al (.slice none 0 0)),(.al (.slice none 0 0))]:=Eq.trans rfl rfl
abbrev Z9:List AV:=[(.int .i64 0),(.al .nilFunc),(.al .nilFunc),(.int .i64 0),(.al .nilFunc),(.al .nilFunc),(.int .i64 0),(.al .nilFunc),(.al .nilFunc)]
@[simp] theorem att:Z9=[(.int .i64 0),(.al .nilFunc),(.al .nilFunc),(.int .i64 0),(.al .nilFunc),(.al .nilFunc),(.int .i64 0),(.al .nilFunc),(.al .nilFunc)]:=Eq.trans rfl rfl
abbrev rZ:List AV:=[(.al (.slice none 0 0))]
@[simp] theorem atr:rZ=[(.al (.slice none 0 0))]:=Eq.trans rfl rfl
abbrev Dz:List AV:=[(.str []),(.int .i64 0),(.bool false)]
@[simp] theorem atq:Dz=[(.str []),(.int .i64 0),(.bool false)]:=Eq.trans rfl rfl
abbrev afA:List AV:=[(.al .nilFunc),(.al .nilFunc),(.al .nilFunc),(.al .nilFunc),(.al .nilFunc),(.al .nilFunc),(.al .nilFunc),(.al .nilFunc),(.al .nilFunc),(.al .nilFunc),(.al .nilFunc),(.al .nilFunc),(.al .nilFunc),(.al .nilFunc)]
@[simp] theorem atp:afA=[(.al .nilFunc),(.al .nilFunc),(.al .nilFunc),(.al .nilFunc),(.al .nilFunc),(.al .nilFunc),(.al .nilFunc),(.al .nilFunc),(.al .nilFunc),(.al .nilFunc),(.al .nilFunc),(.al .nilFunc),(.al .nilFunc),(.al .nilFunc)]:=Eq.trans rfl rfl
abbrev yb:List AV:=[(.int .u8 0)]
@[simp] theorem ato:yb=[(.int .u8 0)]:=Eq.trans rfl rfl
abbrev akv:List AV:=[(.str []),(.int .i64 0),(.int .i64 0),(.int .i64 0),(.str []),(.str []),(.str []),(.int .i64 0),(.al (.slice none 0 0))]
@[simp] theorem atn:akv=[(.str []),(.int .i64 0),(.int .i64 0),(.int .i64 0),(.str []),(.str []),(.str []),(.int .i64 0),(.al (.slice none 0 0))]:=Eq.trans rfl rfl
abbrev afz:List AV:=[(.int .i64 0),(.int .i64 0),(.int .i64 0),(.str []),(.str []),(.str []),(.int .i64 0),(.al (.slice none 0 0)),(.str [])]
@[simp] theorem atm:afz=[(.int .i64 0),(.int .i64 0),(.int .i64 0),(.str []),(.str []),(.str []),(.int .i64 0),(.al (.slice none 0 0)),(.str [])]:=Eq.trans rfl rfl
abbrev ya:List AV:=[(.int .i64 0)]
@[simp] theorem atl:ya=[(.int .i64 0)]:=Eq.trans rfl rfl
abbrev Z8:List AV:=[(.int .i64 0),(.al .nilFunc),(.al .nilFunc)]
@[simp] theorem atk:Z8=[(.int .i64 0),(.al .nilFunc),(.al .nilFunc)]:=Eq.trans rfl rfl
abbrev R_(l:List (Option GO)):CT:=.mc l
@[simp] theorem R_e(l:List (Option GO)):R_ l=.mc l:=Eq.trans rfl rfl
abbrev V_(d a:Nat):Option GO:=o_ d (v_ a)
abbrev A_(d k a:Nat):Option GO:=o_ d (a_ k a)
abbrev L_(d a:Nat):Option GO:=o_ d (l_ a)
abbrev I_(d:Nat)(n:Int):Option GO:=o_ d (c_ (.int .i64 n))
abbrev S_(n a b:Nat):Option GO:=oP pZ (s_ n a b)
abbrev N_(d n a:Nat):Option GO:=o_ d (n_ n a)
abbrev F_(d:Nat):Option GO:=o_ d (c_ (.bool false))
abbrev T_(d:Nat):Option GO:=o_ d (c_ (.bool true))
abbrev E_(d a:Nat):Option GO:=o_ d (u_ aZ a)
abbrev D_(d a:Nat)(n:Int):Option GO:=o_ d (d_ (dq .add) a (.int .i64 n))
abbrev B_(d a b:Nat):Option GO:=o_ d (b_ (dq .lss) a b)
abbrev P_(d a b:Nat):Option GO:=o_ d (p_ a b)
abbrev Q_(d a b:Nat):Option GO:=o_ d (q_ a b)
abbrev X_(d a:Nat):Option GO:=o_ d (x_ a)
abbrev W_(d k a:Nat):Option GO:=o_ d (u_ (mN k) a)
abbrev J_(d k a b:Nat):Option GO:=o_ d (b_ (e9 k) a b)
abbrev K_(d a:Nat)(n:Int):Option GO:=o_ d (d_ (js false .num) a (.int .i64 n))
abbrev H_(d a:Nat)(n:Int):Option GO:=o_ d (d_ (js true .num) a (.int .i64 n))
abbrev eo(c d k a:Nat):Option GO:=g_ c d (a_ k a)
abbrev fa(c d a:Nat):Option GO:=g_ c d (l_ a)
abbrev jo(c d a:Nat):Option GO:=g_ c d (v_ a)
abbrev GI(c d k a:Nat):Option GO:=g_ c d (n_ k a)
abbrev gQ(c d k a:Nat):Option GO:=h_ c d (a_ k a)
abbrev ij(c d a:Nat):Option GO:=h_ c d (l_ a)
abbrev qa(c d a:Nat):Option GO:=h_ c d (v_ a)
abbrev Lq(c d k a:Nat):Option GO:=h_ c d (n_ k a)
abbrev bP(l:List Nat)(d k a c:Nat):Option RO:=i_ l d (a_ k a) c
abbrev cC(l:List Nat)(d a c:Nat):Option RO:=i_ l d (l_ a) c
abbrev bu(l:List Nat)(d a c:Nat):Option RO:=i_ l d (v_ a) c
abbrev m9(l:List Nat)(d k a c:Nat):Option RO:=i_ l d (n_ k a) c
abbrev jK(l:List Nat)(d k a b c:Nat):Option RO:=i_ l d (b_ (e9 k) a b) c
abbrev sq(a b:CT):CT:=.seq a b
@[simp] theorem sqe(a b:CT):sq a b=.seq a b:=Eq.trans rfl rfl
abbrev cd(a:Nat)(b c:CT):CT:=.cond (z_ a) b c
@[simp] theorem cde(a:Nat)(b c:CT):cd a b c=.cond (z_ a) b c:=Eq.trans rfl rfl
abbrev rt(a:CT):CT:=.seq a .ret
@[simp] theorem rte(a:CT):rt a=.seq a .ret:=Eq.trans rfl rfl
abbrev iq(a:CT)(n:Nat)(b c:CT):CT:=.seq (.seq a (.cond (z_ n) b .skip)) c
@[simp] theorem iqe(a:CT)(n:Nat)(b c:CT):iq a n b c=.seq (.seq a (.cond (z_ n) b .skip)) c:=Eq.trans rfl rfl
abbrev lp(a:CT)(n i j:Nat)(b c:CT):CT:=.seq (.seq a (.cond (z_ n) .skip (.exit i))) (.seq (.block j b) c)
@[simp] theorem lpe(a:CT)(n i j:Nat)(b c:CT):lp a n i j b c=.seq (.seq a (.cond (z_ n) .skip (.exit i))) (.seq (.block j b) c):=Eq.trans rfl rfl
abbrev sr(l:List (Option GO))(b:CT):CT:=.seq (.mc l) b
abbrev rr(l:List (Option GO)):CT:=.seq (.mc l) .ret
abbrev ir(l:List (Option GO))(n:Nat)(b c:CT):CT:=.seq (.seq (.mc l) (.cond (z_ n) b .skip)) c
abbrev lr(l:List (Option GO))(n i j:Nat)(b c:CT):CT:=.seq (.seq (.mc l) (.cond (z_ n) .skip (.exit i))) (.seq (.block j b) c)
abbrev bl(n:Nat)(a:CT):CT:=.block n (.loop a)
@[simp] theorem ble(n:Nat)(a:CT):bl n a=.block n (.loop a):=Eq.trans rfl rfl
abbrev cF(n:FuncId):=HU pG n
abbrev di(f:AV->AV->bb)(a:Nat)(n:Int):Eff:=e2 f (ar a) (aT (.int .i64 n))
abbrev cX:AV->AV->bb:=js false .num
abbrev kH:AV->AV->bb:=js true .num
abbrev sK:AV->AV->bb:=dq .lss
abbrev qP:AV->AV->bb:=dq .gtr
abbrev rX:AV->AV->bb:=dq .geq
abbrev HH:AV->AV->bb:=dq .leq
abbrev rG:AV->AV->bb:=dq .add
abbrev lD:AV->AV->bb:=dq .sub
abbrev un(a:Nat):Eff:=e1 (cUn .not) (ar a)
abbrev kf(n:FuncId):G:=aT (.fn (.func n) [] [])
abbrev kI(n:Int):G:=aT (.int .i64 n)
abbrev gI(l:List Nat)(a d:Nat)(e:Eff)(c:Nat):Option RO:=goI l (ar a) true (bm d) e c
abbrev hI(l:List Nat)(a d:Nat)(e:Eff)(c:Nat):Option RO:=goI l (ar a) false (bm d) e c
def aiN:=R_ [y_ 29 13 [],V_ 6 29]
def aiM:=R_ [N_ 31 3 3,V_ 32 1,V_ 33 2,o_ 34 (aN z3_ 31 [(0,1,kI 5),(1,1,z_ 32),(6,1,z_ 33)]),y_ 35 10 [z_ 31,z_ 34],V_ 30 35,W_ 36 0 30,W_ 37 1 30,W_ 38 2 30,o_ 7 (ak GL 3),o_ 8 (ak zP 4),S_ 3 7 36,S_ 4 8 37,V_ 9 38]
def aiL:=R_ [V_ 39 9,H_ 40 39 0]
def aou:=R_ [y_ 41 13 [],V_ 6 41]
def aot:=R_ [N_ 42 3 3,y_ 43 9 [z_ 42],o_ 10 (ak GL 3),S_ 3 10 43]
def aos:=R_ [I_ 11 0]
def ad9:=R_ [V_ 63 14,H_ 64 63 0,V_ 65 64,gQ 65 66 3 13,ij 65 67 66,h_ 65 68 (di kH 67 1),Q_ 69 65 68]
def ad8:=R_ [N_ 70 3 12,S_ 3 10 70]
def ad7:=R_ [V_ 48 11,D_ 49 48 1,V_ 11 49]
def acC:CT:=lr [V_ 44 11,V_ 45 2,E_ 46 45,B_ 47 44 46] 47 0 1 (sq (.fb [51,52,53,54,55,56,57,58,59,50,60,61,62,12,13] [m9 [10] 51 3 10 1,bu [1] 52 1 1,bu [2] 53 2 1,bu [11] 54 11 1,bu [11] 55 11 1,i_ [55] 56 (di rG 55 1) 1,i_ [53,54,56] 57 (Bd (mL 1) (z_ 53) (some (z_ 54)) (some (z_ 56)) none) 1,i_ [52,57] 58 (aN z3_ 31 [(0,1,kI 5),(1,1,z_ 52),(6,1,z_ 57)]) 1,cI [51,58] (bm 59) 10 [z_ 51,z_ 58],bu [59] 50 59 1,i_ [50] 60 (u_ (mN 0) 50) 1,i_ [] 12 (ak GL 3) 2,i_ [] 13 (ak zP 4) 2,j_ [12,60] (s_ 3 12 60),i_ [50] 61 (u_ (mN 1) 50) 2,j_ [13,61] (s_ 4 13 61),i_ [50] 62 (u_ (mN 2) 50) 3,bu [62] 14 62 1]) (iq ad9 69 (rr [F_ 6]) ad8)) ad7
def VI:=R_ [N_ 72 3 7,V_ 73 1,o_ 74 (aN z3_ 31 [(0,1,kI 6),(1,1,z_ 73)]),y_ 75 10 [z_ 72,z_ 74],V_ 71 75,W_ 76 0 71,W_ 77 1 71,W_ 78 2 71,o_ 15 (ak GL 3),o_ 16 (ak zP 4),S_ 3 15 76,S_ 4 16 77,V_ 17 78]
def VH:=R_ [N_ 80 3 15,V_ 81 1,o_ 82 (aN OH 10 [(0,1,z_ 81)]),o_ 83 (aK OH 1 10 [(0,10,z_ 82)]),o_ 84 (aN z8_ 15 [(1,1,(aT (.bool true))),(3,1,z_ 83)]),o_ 85 (aN z3_ 31 [(0,1,kI 8),(16,15,z_ 84)]),y_ 86 10 [z_ 80,z_ 85],V_ 79 86,W_ 87 0 79,W_ 88 1 79,W_ 89 2 79,o_ 18 (ak GL 3),o_ 19 (ak zP 4),S_ 3 18 87,S_ 4 19 88,V_ 20 89]
def VG:=R_ [A_ 90 3 8,L_ 91 90,V_ 92 2,E_ 93 92,o_ 94 (b_ cX 91 93),V_ 95 94,GI 95 96 3 7,GI 95 97 3 10,kM (z_ 95) true (bm 98) 11 [z_ 96,z_ 97],P_ 99 95 98,V_ 100 99,jo 100 101 17,g_ 100 102 (di cX 101 0),P_ 103 100 102,V_ 104 103,jo 104 105 20,g_ 104 106 (di cX 105 0),P_ 107 104 106,V_ 108 107,eo 108 109 2 19,fa 108 110 109,g_ 108 111 (u_ aZ 110),g_ 108 112 (di cX 111 0),P_ 113 108 112,V_ 114 113,kM (z_ 114) true (bm 115) 13 [],P_ 116 114 115,V_ 6 116]
def A6:CF:=⟨[aI 6],sr [X_ 3 0,F_ 6] (ir [N_ 21 3 3,o_ 22 (aN z8_ 15 []),y_ 23 8 [z_ 21,z_ 22],V_ 24 23,qa 24 25 2,h_ 24 26 (u_ aZ 25),h_ 24 27 (di qP 26 50),Q_ 28 24 27] 28 (rt aiN) (sq aiM (iq aiL 40 (rt aou) (sq aot (sq (sq aos (bl 0 acC)) (sq VI (sq VH (rt VG)))))))),117⟩
theorem c6:cF 6=some A6:=by kernel_rfl
def acB:CT:=lr [V_ 10 7,A_ 11 2 2,L_ 12 11,E_ 13 12,B_ 14 10 13] 14 0 1 (sr [V_ 17 5,A_ 18 2 2,L_ 19 18,V_ 20 7,J_ 21 1 19 20,L_ 22 21,E_ 23 22,o_ 24 (b_ rG 17 23),V_ 5 24] (sr [V_ 25 6,A_ 26 2 2,L_ 27 26,V_ 28 7,J_ 29 1 27 28,L_ 30 29,E_ 31 30,o_ 32 (wW Hm [z_ 25,z_ 31]),V_ 6 32] (sr [V_ 33 5,o_ 34 (di qP 33 5000)] (cd 34 (rr [T_ 4]) .skip)))) (R_ [V_ 15 7,D_ 16 15 1,V_ 7 16])
def adZ:=R_ [I_ 8 1]
def adY:=R_ [I_ 9 0]
def aoz:CT:=lr [V_ 35 9,A_ 36 3 3,L_ 37 36,E_ 38 37,B_ 39 35 38] 39 2 3 (sr [V_ 42 8,V_ 43 6,o_ 44 (b_ (dq .mul) 42 43),V_ 8 44] (sr [V_ 45 8,o_ 46 (di qP 45 30000)] (cd 46 (rr [T_ 4]) .skip))) (R_ [V_ 40 9,D_ 41 40 1,V_ 9 41])
def adX:=R_ [F_ 4]
def A8:CF:=⟨[aI 4],sr [X_ 2 0,X_ 3 1,F_ 4] (sr [I_ 5 0] (sr [I_ 6 1] (sq (sr [I_ 7 0] (bl 0 acB)) (sq adZ (sq (sq adY (bl 2 aoz)) (rt adX)))))),47⟩
theorem c8:cF 8=some A8:=by kernel_rfl
def aor:=R_ [I_ 4 0]
def aoq:=R_ [V_ 26 6,D_ 27 26 1,V_ 6 27]
def acA:CT:=lr [V_ 18 6,A_ 19 2 1,L_ 20 19,V_ 21 4,J_ 22 1 20 21,L_ 23 22,E_ 24 23,B_ 25 18 24] 25 2 3 (R_ [V_ 28 5,o_ 29 (aK fq 0 3 []),A_ 30 2 1,L_ 31 30,V_ 32 4,J_ 33 1 31 32,L_ 34 33,V_ 35 6,J_ 36 1 34 35,L_ 37 36,o_ 38 (db 3 32 (z_ 29) (z_ 37)),o_ 39 (aK rZ 1 1 [(0,1,z_ 38)]),o_ 40 (db 1 24 (z_ 28) (z_ 39)),V_ 5 40]) aoq
def aop:=R_ [A_ 41 2 3,L_ 42 41,V_ 43 5,o_ 44 (aK rZ 1 1 [(0,1,z_ 43)]),o_ 45 (db 1 24 (z_ 42) (z_ 44)),A_ 46 2 3,S_ 1 46 45]
def adP:=R_ [V_ 16 4,D_ 17 16 1,V_ 4 17]
def aiU:CT:=lr [V_ 11 4,A_ 12 2 1,L_ 13 12,E_ 14 13,B_ 15 11 14] 15 0 1 (sr [o_ 5 (c_ (.al (.slice none 0 0)))] (sq (sr [I_ 6 0] (bl 2 acA)) aop)) adP
def adO:=R_ [N_ 47 3 3,S_ 3 2 47]
def A9:CF:=⟨[bU 2 3],sr [X_ 1 0,o_ 2 (ak GL 3)] (sr [A_ 7 0 1,N_ 8 2 7,y_ 9 22 [z_ 8],o_ 10 (aN GL 3 [(0,2,z_ 9)]),o_ 3 (ak GL 3),S_ 3 3 10] (sq (sq aor (bl 0 aiU)) (rt adO))),48⟩
theorem c9:cF 9=some A9:=by kernel_rfl
def N3:=R_ [N_ 11 3 2,y_ 12 19 [z_ 11],o_ 13 (un 12)]
def afn:=R_ [o_ 14 (aN GL 3 []),o_ 15 (aN zP 4 []),S_ 3 4 14,S_ 4 5 15,I_ 6 1]
def Zn:=R_ [A_ 17 0 2,N_ 18 2 17,N_ 19 31 3,y_ 20 23 [z_ 18,z_ 19],V_ 16 20,W_ 21 0 16,W_ 22 1 16,o_ 7 (ak z4_ 25),S_ 25 7 21,V_ 8 22]
def Zm:=R_ [V_ 23 8,H_ 24 23 0]
def afm:=R_ [o_ 25 (aN GL 3 []),o_ 26 (aN zP 4 []),V_ 27 8,S_ 3 4 25,S_ 4 5 26,V_ 6 27]
def afl:CT:=.fb [28,29,30,31,32] [m9 [2] 28 3 2 1,cI [28] (bm 29) 24 [z_ 28],m9 [7] 30 25 7 2,i_ [29,30] 31 (aN [(.al (.slice none 0 0)),(.al (.slice none 0 0)),(.al (.slice none 0 0)),.int .i64 0,.str [],.int .u32 0,.str [],(.al (.slice none 0 0)),.int .u32 0,.int .u32 0,.int .u32 0,.str [],(.al (.slice none 0 0)),.bool false,.int .u32 0,(.al (.slice none 0 0)),(.al (.slice none 0 0)),(.al (.slice none 0 0)),(.al (.slice none 0 0)),(.al (.slice none 0 0)),(.al (.slice none 0 0)),(.al (.slice none 0 0)),(.al (.slice none 0 0)),(.al (.slice none 0 0)),(.al (.slice none 0 0)),.bool false,.bool false,.int .i64 0,(.al (.slice none 0 0)),(.al (.slice none 0 0)),(.al (.slice none 0 0)),.int .i64 0] 32 [(0,3,z_ 29),(3,25,z_ 30)]) 1,i_ [31] 32 (x_ 31) 1,bu [32] 9 32 1]
def afk:CT:=.fb [33,34,35,36] [cI [] (bm 33) 25 [],bP [3] 34 0 3 2,cC [34] 35 34 2,i_ [33,35] 36 (jq .i (.al .nilFunc) false (z_ 33) (z_ 35)) 1,bu [36] 10 36 1]
def afj:=R_ [V_ 37 10,o_ 38 (d_ (js true .func) 37 (.al .nilFunc))]
def afi:=R_ [V_ 39 10,V_ 40 9,vP (bm 41) (z_ 39) [z_ 40],V_ 8 41]
def JM:=R_ [V_ 42 8,H_ 43 42 0]
def Zp:=R_ [o_ 44 (aN GL 3 []),o_ 45 (aN zP 4 []),V_ 46 8,S_ 3 4 44,S_ 4 5 45,V_ 6 46]
def Zo:CT:=.fb [47,48,49,50,51,52,53,54] [bu [9] 47 9 1,i_ [47] 48 (aU (z_ 47)) 1,bP [48] 49 0 48 1,m9 [49] 50 3 49 1,j_ [4,50] (s_ 3 4 50),bu [9] 51 9 2,i_ [51] 52 (aU (z_ 51)) 2,bP [52] 53 28 52 2,m9 [53] 54 4 53 2,j_ [5,54] (s_ 4 5 54),i_ [] 6 (c_ (.int .i64 0)) 1]
def A10:CF:=⟨[bU 4 3,bU 5 4,aI 6],sr [X_ 2 0,X_ 3 1,o_ 4 (ak GL 3),o_ 5 (ak zP 4),I_ 6 0] (iq N3 13 (rt afn) (sq Zn (iq Zm 24 (rt afm) (sq afl (sq (sq afk (sq afj (cd 38 afi .skip))) (iq JM 43 (rt Zp) (rt Zo))))))),55⟩
theorem c10:cF 10=some A10:=by kernel_rfl
def afh:=R_ [I_ 5 0]
def afg:CT:=.fb [28,29,30,31,32,33,34,35,36,37,38,39] [bP [2] 28 2 2 1,cC [28] 29 28 1,bu [5] 30 5 1,jK [29,30] 31 1 29 30 1,cC [31] 32 31 1,bP [3] 33 2 3 1,cC [33] 34 33 1,bu [5] 35 5 1,jK [34,35] 36 1 34 35 1,cC [36] 37 36 1,cI [32,37] (bm 38) 16 [z_ 32,z_ 37],i_ [38] 39 (un 38) 1]
def aff:=R_ [V_ 26 5,D_ 27 26 1,V_ 5 27]
def ZO:CT:=lr [V_ 21 5,A_ 22 2 2,L_ 23 22,E_ 24 23,B_ 25 21 24] 25 0 1 (sq afg (cd 39 (rr [F_ 4]) .skip)) aff
def afe:=R_ [T_ 4]
def A11:CF:=⟨[aI 4],sr [X_ 2 0,X_ 3 1,F_ 4] (ir [A_ 6 0 2,N_ 7 2 6,A_ 8 0 3,N_ 9 2 8,y_ 10 26 [z_ 7,z_ 9],o_ 11 (un 10),V_ 12 11,gQ 12 13 2 2,ij 12 14 13,h_ 12 15 (u_ aZ 14),gQ 12 16 2 3,ij 12 17 16,h_ 12 18 (u_ aZ 17),h_ 12 19 (b_ kH 15 18),Q_ 20 12 19] 20 (rr [F_ 4]) (sq (sq afh (bl 0 ZO)) (rt afe))),40⟩
theorem c11:cF 11=some A11:=by kernel_rfl
def afd:=R_ [F_ 4]
def afc:=R_ [I_ 5 0]
def afb:=R_ [F_ 4]
def afa:=R_ [V_ 15 5,D_ 16 15 1,V_ 5 16]
def ZN:CT:=lr [V_ 11 5,V_ 12 0,E_ 13 12,B_ 14 11 13] 14 0 1 (sq (.fb [17,18,19,20,21,22,23,24,25,26] [bu [0] 17 0 1,bu [5] 18 5 1,jK [17,18] 19 1 17 18 1,cC [19] 20 19 1,bu [1] 21 1 1,bu [5] 22 5 1,jK [21,22] 23 1 21 22 1,cC [23] 24 23 1,cI [20,24] (bm 25) 35 [z_ 20,z_ 24],i_ [25] 26 (un 25) 1]) (cd 26 (rt afb) .skip)) afa
def ae':=R_ [T_ 4]
def A16:CF:=⟨[aI 4],sr [F_ 4] (ir [V_ 6 0,E_ 7 6,V_ 8 1,E_ 9 8,o_ 10 (b_ kH 7 9)] 10 (rt afd) (sq (sq afc (bl 0 ZN)) (rt ae'))),27⟩
theorem c16:cF 16=some A16:=by kernel_rfl
def Ys:=R_ [F_ 2]
def ae_:=R_ [A_ 22 0 1,A_ 23 0 22,L_ 24 23,E_ 25 24,I_ 26 0]
def ae9:=R_ [F_ 2]
def ae8:=R_ [V_ 39 5,E_ 40 39,I_ 41 0]
def Yx:=R_ [F_ 2]
def Yw:=R_ [D_ 50 41 1,V_ 41 50]
def OB:CT:=sr [B_ 42 41 40] (sq (cd 42 .skip (.exit 2)) (sq (.block 3 (sr [J_ 43 1 39 41,L_ 44 43,V_ 7 44] (sr [A_ 45 2 4,L_ 46 45,V_ 47 7,y_ 48 38 [z_ 46,z_ 47],H_ 49 48 0] (cd 49 (rt Yx) .skip)))) Yw))
def Yv:=R_ [V_ 51 5,y_ 52 39 [z_ 51,kf 40],o_ 53 (un 52),V_ 54 53,gQ 54 55 0 1,Lq 54 56 2 55,Lq 54 57 4 4,qa 54 58 5,kM (z_ 54) false (bm 59) 41 [z_ 56,z_ 57,z_ 58],h_ 54 60 (di kH 59 0),Q_ 61 54 60]
def JE:=R_ [F_ 2]
def Yu:=R_ [D_ 62 26 1,V_ 26 62]
def ZM:CT:=sr [B_ 27 26 25] (sq (cd 27 .skip (.exit 0)) (sq (.block 1 (sr [V_ 28 26,J_ 29 4 24 26,N_ 30 4 29,o_ 4 (ak uG 4),V_ 3 28,S_ 4 4 30] (sr [A_ 31 2 1,L_ 32 31,V_ 33 3,J_ 34 1 32 33,L_ 35 34,V_ 5 35] (ir [V_ 36 5,E_ 37 36,o_ 38 (di qP 37 4096)] 38 (rt ae9) (sq (sq ae8 (bl 2 OB)) (sq Yv (cd 61 (rt JE) .skip))))))) Yu))
def Yt:=R_ [T_ 2]
def A19:CF:=⟨[aI 2],sr [X_ 1 0,F_ 2] (ir [A_ 8 0 1,N_ 9 2 8,y_ 10 37 [z_ 9],o_ 11 (un 10),V_ 12 11,gQ 12 13 2 1,ij 12 14 13,h_ 12 15 (u_ aZ 14),gQ 12 16 0 1,gQ 12 17 0 16,ij 12 18 17,h_ 12 19 (u_ aZ 18),h_ 12 20 (b_ kH 15 19),Q_ 21 12 20] 21 (rt Ys) (sq (sq ae_ (bl 0 ZM)) (rt Yt))),63⟩
theorem c19:cF 19=some A19:=by kernel_rfl
def ae7:=R_ [o_ 20 (aK Dz 0 3 []),A_ 21 2 5,L_ 22 21,o_ 23 (db 3 32 (z_ 20) (z_ 22)),A_ 24 2 5,S_ 1 24 23]
def ae6:=R_ [A_ 25 0 3,L_ 26 25,N_ 27 4 5,o_ 28 (aK uG 1 4 [(0,4,z_ 27)]),o_ 29 (db 4 56 (z_ 26) (z_ 28)),A_ 30 0 3,S_ 1 30 29]
def ae5:=R_ [V_ 13 4,D_ 14 13 1,V_ 4 14]
def OA:CT:=lr [V_ 8 4,A_ 9 0 1,L_ 10 9,E_ 11 10,B_ 12 8 11] 12 0 1 (sr [A_ 15 0 1,L_ 16 15,V_ 17 4,J_ 18 4 16 17,N_ 19 4 18,o_ 5 (ak uG 4),S_ 4 5 19] (sq ae7 ae6)) ae5
def ae4:=R_ [I_ 6 0]
def Yh:=R_ [o_ 43 (aK ya 0 1 []),A_ 44 3 7,L_ 45 44,o_ 46 (db 1 8 (z_ 43) (z_ 45)),A_ 47 3 7,S_ 1 47 46]
def Yg:=R_ [A_ 48 1 3,L_ 49 48,N_ 50 6 7,o_ 51 (aK QH 1 6 [(0,6,z_ 50)]),o_ 52 (db 6 56 (z_ 49) (z_ 51)),A_ 53 1 3,S_ 1 53 52]
def Yf:=R_ [V_ 36 6,D_ 37 36 1,V_ 6 37]
def Oz:CT:=lr [V_ 31 6,A_ 32 1 1,L_ 33 32,E_ 34 33,B_ 35 31 34] 35 2 3 (sr [A_ 38 1 1,L_ 39 38,V_ 40 6,J_ 41 6 39 40,N_ 42 6 41,o_ 7 (ak QH 6),S_ 6 7 42] (sq Yh Yg)) Yf
def Ye:=R_ [N_ 54 2 3,S_ 2 2 54]
def A22:CF:=⟨[bU 2 2],sr [X_ 1 0,o_ 2 (ak DC 2)] (sr [o_ 3 (ak DC 2)] (sq (sr [I_ 4 0] (bl 0 OA)) (sq (sq ae4 (bl 2 Oz)) (rt Ye)))),55⟩
theorem c22:cF 22=some A22:=by kernel_rfl
def Gq:=R_ [X_ 2 0,X_ 3 1,o_ 4 (ak z4_ 25),I_ 5 0]
def Gp:=R_ [N_ 10 2 2,y_ 11 37 [z_ 10],o_ 12 (un 11),V_ 13 12,Lq 13 14 31 3,kM (z_ 13) false (bm 15) 45 [z_ 14],h_ 13 16 (un 15),Q_ 17 13 16]
def MP:=R_ [o_ 18 (aN z4_ 25 []),S_ 25 4 18,I_ 5 1]
def X6:=R_ [N_ 19 2 2,o_ 20 (aN [(.al (.slice none 0 0)),(.al (.slice none 0 0)),.int .i64 0] 3 [(0,2,z_ 19)]),X_ 21 20,V_ 6 21]
def X5:=R_ [A_ 22 0 3,L_ 23 22,o_ 24 (aN z4_ 25 [(0,1,z_ 23)]),o_ 7 (ak z4_ 25),S_ 25 7 24]
def X4:=R_ [A_ 25 0 3,L_ 26 25]
def Gn:=R_ [K_ 28 26 1,V_ 27 28]
def ae3:=R_ [V_ 29 6,N_ 30 31 3,y_ 31 46 [z_ 29,z_ 30,z_ 7]]
def Gm:=R_ [K_ 33 26 2,V_ 32 33]
def ae2:=R_ [V_ 34 6,A_ 35 1 3,L_ 36 35,y_ 37 47 [z_ 34,z_ 36],A_ 38 2 7,S_ 4 38 37]
def xT:=R_ [K_ 40 26 3,V_ 39 40]
def Yc:=R_ [V_ 41 6,N_ 42 31 3,y_ 43 48 [z_ 41,z_ 42,z_ 7]]
def xR:=R_ [K_ 45 26 4,V_ 44 45]
def Yb:=R_ [N_ 47 2 2,A_ 48 2 3,L_ 49 48,y_ 50 49 [z_ 47,z_ 49],V_ 46 50,W_ 51 0 46,W_ 52 1 46,o_ 8 (ak QH 6),S_ 6 8 51,V_ 9 52]
def Ya:=R_ [V_ 53 6,V_ 54 9,o_ 55 (un 54),y_ 56 50 [z_ 53,kI 202,z_ 55]]
def X9:=R_ [N_ 57 6 8,A_ 58 6 7,S_ 6 58 57]
def X8:=R_ [N_ 60 2 2,A_ 61 1 8,L_ 62 61,y_ 63 51 [z_ 60,z_ 62],V_ 59 63,W_ 64 0 59,W_ 65 1 59,A_ 66 2 7,S_ 4 66 64]
def xQ:=R_ [K_ 68 26 5,V_ 67 68]
def Jx:=R_ [V_ 69 6,N_ 70 31 3,y_ 71 52 [z_ 69,z_ 70,z_ 7]]
def BX:=R_ [K_ 73 26 6,V_ 72 73]
def Jw:=R_ [V_ 74 6,A_ 75 1 3,L_ 76 75,y_ 77 47 [z_ 74,z_ 76],A_ 78 2 7,S_ 4 78 77]
def Jv:=R_ [V_ 79 6,o_ 80 (aU (z_ 79)),A_ 81 2 80,L_ 82 81,K_ 83 82 0]
def Ju:CT:=.fb [84,85,86,87,88,89,90,91] [bP [7] 85 2 7 1,m9 [85] 86 4 85 1,cI [86] (bm 87) 54 [z_ 86],bu [6] 84 6 2,bP [3] 88 8 3 2,m9 [88] 89 8 88 2,cI [84,87,89] (bm 90) 53 [z_ 84,z_ 87,z_ 89],bP [7] 91 17 7 1,j_ [91,90] (s_ 1 91 90)]
def Jt:=R_ [K_ 93 26 7,V_ 92 93]
def X7:=R_ [V_ 94 6,N_ 95 31 3,y_ 96 55 [z_ 94,z_ 95,z_ 7]]
def Js:=R_ [K_ 98 26 8,V_ 97 98]
def Jr:=R_ [V_ 99 6,A_ 100 16 3,N_ 101 15 100,y_ 102 56 [z_ 99,z_ 101,z_ 7]]
def BW:=R_ [V_ 103 6,o_ 104 (aU (z_ 103)),A_ 105 2 104,L_ 106 105,H_ 107 106 0]
def Jq:CT:=.fb [108,109,110,111,112] [i_ [] 108 (aN z4_ 25 []) 1,j_ [4,108] (s_ 25 4 108),bu [6] 109 6 2,i_ [109] 110 (aU (z_ 109)) 2,bP [110] 111 2 110 2,cC [111] 112 111 2,bu [112] 5 112 1]
def Jp:=R_ [N_ 113 25 7,S_ 25 4 113,I_ 5 0]
def A23:CF:=⟨[bU 4 25,aI 5],sq Gq (iq Gp 17 (rt MP) (sq X6 (sq X5 (sq (sq X4 (.block 0 (sq Gn (cd 27 ae3 (sq Gm (cd 32 ae2 (sq xT (cd 39 Yc (sq xR (cd 44 (sq Yb (sq Ya (sq X9 X8))) (sq xQ (cd 67 Jx (sq BX (cd 72 (sq Jw (sq Jv (cd 83 Ju .skip))) (sq Jt (cd 92 X7 (sq Js (cd 97 Jr .skip)))))))))))))))))) (iq BW 107 (rt Jq) (rt Jp)))))),114⟩
theorem c23:cF 23=some A23:=by kernel_rfl
def ae1:=R_ [A_ 17 2 5,L_ 18 17,y_ 19 57 [z_ 18],A_ 20 2 5,S_ 1 20 19]
def ae0:=R_ [A_ 21 0 3,A_ 22 0 21,L_ 23 22,N_ 24 4 5,o_ 25 (aK uG 1 4 [(0,4,z_ 24)]),o_ 26 (db 4 56 (z_ 23) (z_ 25)),A_ 27 0 3,A_ 28 0 27,S_ 1 28 26]
def aeZ:CT:=.fb [29,30,31,32,33,34,35,36,37,38,39] [bP [1] 31 2 1 1,cC [31] 32 31 1,bu [4] 33 4 1,jK [32,33] 34 1 32 33 1,cC [34] 35 34 1,cI [35] (bm 36) 58 [z_ 35],bP [3] 29 2 3 2,cC [29] 30 29 2,i_ [36] 37 (aK rZ 1 1 [(0,1,z_ 36)]) 1,mI [30,37] (bm 38) (db 1 24 (z_ 30) (z_ 37)),bP [3] 39 2 3 1,j_ [39,38] (s_ 1 39 38)]
def aeY:=R_ [D_ 40 12 1,V_ 12 40]
def Oy:CT:=sr [B_ 13 12 11] (sq (cd 13 .skip (.exit 0)) (sq (.block 1 (sr [V_ 14 12,J_ 15 4 10 12,N_ 16 4 15,o_ 5 (ak uG 4),V_ 4 14,S_ 4 5 16] (sq ae1 (sq ae0 aeZ)))) aeY))
def aeX:=R_ [A_ 41 0 1,A_ 42 1 41,L_ 43 42,E_ 44 43,I_ 45 0]
def XZ:=R_ [A_ 49 3 7,L_ 50 49,y_ 51 59 [z_ 50],A_ 52 3 7,S_ 1 52 51]
def XY:=R_ [A_ 53 0 3,A_ 54 1 53,L_ 55 54,N_ 56 6 7,o_ 57 (aK QH 1 6 [(0,6,z_ 56)]),o_ 58 (db 6 56 (z_ 55) (z_ 57)),A_ 59 0 3,A_ 60 1 59,S_ 1 60 58]
def XX:=R_ [D_ 61 45 1,V_ 45 61]
def Ox:CT:=sr [B_ 46 45 44] (sq (cd 46 .skip (.exit 2)) (sq (.block 3 (sr [J_ 47 6 43 45,N_ 48 6 47,o_ 7 (ak QH 6),S_ 6 7 48] (sq XZ XY))) XX))
def XW:=R_ [N_ 62 3 3,S_ 3 2 62]
def A24:CF:=⟨[bU 2 3],sr [X_ 1 0,o_ 2 (ak GL 3)] (sr [o_ 3 (ak GL 3)] (sq (sr [A_ 8 0 1,A_ 9 0 8,L_ 10 9,E_ 11 10,I_ 12 0] (bl 0 Oy)) (sq (sq aeX (bl 2 Ox)) (rt XW)))),63⟩
theorem c24:cF 24=some A24:=by kernel_rfl
def A25:CF:=⟨[aI 0],sr [o_ 0 (c_ (.al (.map none)))] (rr [o_ 1 (kD),oP pZ (kC .i (z_ 1) (kI 1) (kf 60)),oP pZ (kC .i (z_ 1) (kI 2) (kf 61)),oP pZ (kC .i (z_ 1) (kI 3) (kf 62)),oP pZ (kC .i (z_ 1) (kI 4) (kf 63)),oP pZ (kC .i (z_ 1) (kI 5) (kf 64)),oP pZ (kC .i (z_ 1) (kI 6) (kf 65)),oP pZ (kC .i (z_ 1) (kI 7) (kf 66)),oP pZ (kC .i (z_ 1) (kI 8) (kf 67)),V_ 2 1,V_ 0 2]),3⟩
theorem c25:cF 25=some A25:=by kernel_rfl
def aeW:CT:=.fb [20,21,22,23,24,25,26,27,28,29,30,31] [bP [2] 20 0 2 1,cC [20] 21 20 1,bu [5] 22 5 1,jK [21,22] 23 4 21 22 1,m9 [23] 24 4 23 1,bP [3] 25 0 3 1,cC [25] 26 25 1,bu [5] 27 5 1,jK [26,27] 28 4 26 27 1,m9 [28] 29 4 28 1,cI [24,29] (bm 30) 68 [z_ 24,z_ 29],i_ [30] 31 (un 30) 1]
def aeV:=R_ [V_ 18 5,D_ 19 18 1,V_ 5 19]
def ZI:CT:=lr [V_ 13 5,A_ 14 0 2,L_ 15 14,E_ 16 15,B_ 17 13 16] 17 0 1 (sq aeW (cd 31 (rr [F_ 4]) .skip)) aeV
def aeU:=R_ [A_ 32 1 2,L_ 33 32,A_ 34 1 3,L_ 35 34,y_ 36 69 [z_ 33,z_ 35],V_ 4 36]
def A26:CF:=⟨[aI 4],sr [X_ 2 0,X_ 3 1,F_ 4] (ir [A_ 6 0 2,L_ 7 6,E_ 8 7,A_ 9 0 3,L_ 10 9,E_ 11 10,o_ 12 (b_ kH 8 11)] 12 (rr [F_ 4]) (sq (sr [I_ 5 0] (bl 0 ZI)) (rt aeU))),37⟩
theorem c26:cF 26=some A26:=by kernel_rfl
def aeT:=R_ [F_ 4]
def aeS:=R_ [I_ 5 0]
def aeR:=R_ [F_ 4]
def aeQ:=R_ [V_ 15 5,D_ 16 15 1,V_ 5 16]
def ZH:CT:=lr [V_ 11 5,V_ 12 0,E_ 13 12,B_ 14 11 13] 14 0 1 (sq (.fb [17,18,19,20,21,22,23,24,25] [bu [0] 17 0 1,bu [5] 18 5 1,jK [17,18] 19 3 17 18 1,m9 [19] 20 3 19 1,bu [1] 21 1 1,bu [5] 22 5 1,jK [21,22] 23 3 21 22 1,m9 [23] 24 3 23 1,i_ [20,24] 25 (b_ (ly true [.i,.i,.s]) 20 24) 1]) (cd 25 (rt aeR) .skip)) aeQ
def aeP:=R_ [T_ 4]
def A35:CF:=⟨[aI 4],sr [F_ 4] (ir [V_ 6 0,E_ 7 6,V_ 8 1,E_ 9 8,o_ 10 (b_ kH 7 9)] 10 (rt aeT) (sq (sq aeS (bl 0 ZH)) (rt aeP))),26⟩
theorem c35:cF 35=some A35:=by kernel_rfl
def aeO:=R_ [V_ 4 25]
def Gl:=R_ [L_ 26 3,V_ 27 4,o_ 28 (jq .i (.int .i64 0) false (z_ 26) (z_ 27)),D_ 29 28 1,oP pZ (kC .i (z_ 26) (z_ 27) (z_ 29))]
def Gk:=R_ [V_ 30 4,o_ 31 (d_ cX 30 (.int .u32 0)),V_ 32 31,ij 32 33 3,qa 32 34 4,h_ 32 35 (jq .i (.int .i64 0) false (z_ 33) (z_ 34)),h_ 32 36 (di qP 35 1),Q_ 37 32 36]
def Gj:=R_ [oP pZ (dm 1 (z_ 2) (aT (.bool false)))]
def zN:Code×Code:=Ru pG 37 0
theorem afC:eT pG 120 true zN.1=aeO:=by kernel_rfl
theorem afB:eT pG 120 true zN.2=(.block 1 (sq Gl (sq Gk (cd 37 (sq Gj .ret) .skip)))):=by kernel_rfl
def aeN:=R_ [o_ 5 (c_ (.int .u32 0))]
def Xx:=R_ [A_ 38 0 1,L_ 39 38,E_ 40 39,I_ 41 0]
def I8:=R_ [A_ 46 0 7,L_ 47 46,V_ 48 5,o_ 49 (b_ HH 47 48),V_ 50 49,gQ 50 51 1 7,ij 50 52 51,kM (z_ 50) false (bm 53) 81 [z_ 52],h_ 50 54 (un 53),Q_ 55 50 54,V_ 56 55,gQ 56 57 2 7,ij 56 58 57,kM (z_ 56) false (bm 59) 82 [z_ 58],h_ 56 60 (un 59),Q_ 61 56 60,V_ 62 61,gQ 62 63 0 1,ij 62 64 63,qa 62 65 6,h_ 62 66 (Bd (mL 4) (z_ 64) none (some (z_ 65)) none),h_ 62 67 (iH (.func 84) [] [z_ 7]),kM (z_ 62) false (bm 68) 83 [z_ 66,z_ 67],Q_ 69 62 68]
def xK:=R_ [oP pZ (dm 1 (z_ 2) (aT (.bool false)))]
def Xw:=R_ [A_ 70 0 7,L_ 71 70,V_ 5 71]
def Xv:=R_ [D_ 72 41 1,V_ 41 72]
def Ou:CT:=sr [B_ 42 41 40] (sq (cd 42 .skip (.exit 2)) (sq (.block 3 (sr [V_ 43 41,J_ 44 4 39 41,N_ 45 4 44,o_ 7 (ak uG 4),V_ 6 43,S_ 4 7 45] (iq I8 69 (rt xK) Xw))) Xv))
def Xu:=R_ [o_ 5 (c_ (.int .u32 0))]
def Xt:=R_ [A_ 73 1 1,L_ 74 73,E_ 75 74,I_ 76 0]
def Xs:=R_ [N_ 82 2 1,A_ 83 1 9,L_ 84 83,y_ 85 51 [z_ 82,z_ 84],V_ 81 85,W_ 86 0 81,W_ 87 1 81,o_ 10 (ak uG 4),S_ 4 10 86,V_ 11 87]
def I7:=R_ [A_ 88 0 9,L_ 89 88,V_ 90 5,o_ 91 (b_ HH 89 90),V_ 92 91,gQ 92 93 2 9,ij 92 94 93,kM (z_ 92) false (bm 95) 81 [z_ 94],h_ 92 96 (un 95),Q_ 97 92 96,V_ 98 97,qa 98 99 11,h_ 98 100 (un 99),Q_ 101 98 100,V_ 102 101,Lq 102 103 4 10,gQ 102 104 3 9,ij 102 105 104,kM (z_ 102) false (bm 106) 85 [z_ 103,z_ 105],h_ 102 107 (un 106),Q_ 108 102 107,V_ 109 108,gQ 109 110 1 1,ij 109 111 110,qa 109 112 8,h_ 109 113 (Bd (mL 6) (z_ 111) none (some (z_ 112)) none),h_ 109 114 (iH (.func 87) [] [z_ 9]),kM (z_ 109) false (bm 115) 86 [z_ 113,z_ 114],Q_ 116 109 115]
def tA:=R_ [oP pZ (dm 1 (z_ 2) (aT (.bool false)))]
def Xr:=R_ [A_ 117 0 9,L_ 118 117,V_ 5 118]
def Xq:=R_ [D_ 119 76 1,V_ 76 119]
def Ot:CT:=sr [B_ 77 76 75] (sq (cd 77 .skip (.exit 4)) (sq (.block 5 (sr [V_ 78 76,J_ 79 6 74 76,N_ 80 6 79,o_ 9 (ak QH 6),V_ 8 78,S_ 6 9 80] (sq Xs (iq I7 116 (rt tA) Xr)))) Xq))
def Xp:=R_ [oP pZ (dm 1 (z_ 2) (aT (.bool true)))]
def A37:CF:=⟨[KE 2],sr [X_ 1 0,o_ 2 (ak [.bool false] 1)] (ir [A_ 12 0 1,L_ 13 12,E_ 14 13,o_ 15 (di qP 14 32),V_ 16 15,gQ 16 17 1 1,ij 16 18 17,h_ 16 19 (u_ aZ 18),h_ 16 20 (di qP 19 64),Q_ 21 16 20] 21 (rr [oP pZ (dm 1 (z_ 2) (aT (.bool false)))]) (sr [o_ 22 (kD),o_ 3 (ak [(.al (.map none))] 1),S_ 1 3 22] (sq (sr [N_ 23 2 1,y_ 24 80 [z_ 23]] (.block 0 (.range 120 (z_ 24) [25] zN.1 zN.2))) (sq aeN (sq (sq Xx (bl 2 Ou)) (sq Xu (sq (sq Xt (bl 4 Ot)) (rt Xp)))))))),120⟩
theorem c37:cF 37=some A37:=by kernel_rfl
def Xm:=R_ [I_ 4 1]
def aeM:=R_ [V_ 17 1,E_ 18 17,I_ 19 0]
def aeL:=R_ [I_ 4 5]
def aeK:CT:=.fb [29,30,31,32,33,34,35,36,37,38,39,40,41] [bP [6] 29 0 6 1,cC [29] 30 29 1,i_ [30] 31 (di kH 30 0) 1,bu [31] 32 31 1,gI [32,6] 32 33 (a_ 0 6) 1,gI [32,33] 32 34 (l_ 33) 1,gI [32,0] 32 35 (v_ 0) 1,gI [32,5] 32 36 (v_ 5) 1,gI [32,35,36] 32 37 (b_ (e9 3) 35 36) 1,gI [32,37] 32 38 (a_ 1 37) 1,gI [32,38] 32 39 (l_ 38) 1,gI [32,34,39] 32 40 (b_ kH 34 39) 1,i_ [32,40] 41 (p_ 32 40) 1,bu [41] 28 41 1]
def aeJ:=R_ [I_ 4 30]
def BD:=R_ [A_ 43 0 6,L_ 44 43,K_ 45 44 0,V_ 46 45,jo 46 47 0,jo 46 48 5,g_ 46 49 (b_ (e9 3) 47 48),eo 46 50 2 49,fa 46 51 50,P_ 52 46 51,V_ 42 52]
def Xo:=R_ [I_ 4 50]
def I6:=R_ [D_ 53 19 1,V_ 19 53]
def ZG:CT:=sr [B_ 20 19 18] (sq (cd 20 .skip (.exit 0)) (sq (.block 1 (sr [V_ 21 19,J_ 22 3 17 19,N_ 23 3 22,o_ 6 (ak fq 3),V_ 5 21,S_ 3 6 23] (.block 2 (sr [N_ 25 3 6,y_ 26 88 [z_ 25],o_ 27 (un 26),V_ 24 27] (cd 24 (rt aeL) (sq aeK (cd 28 (rt aeJ) (sq BD (cd 42 (rt Xo) .skip))))))))) I6))
def Xn:=R_ [I_ 4 0]
def A38:CF:=⟨[aI 4],sr [I_ 4 0] (ir [V_ 7 0,y_ 8 82 [z_ 7],o_ 9 (un 8),V_ 10 9,qa 10 11 1,h_ 10 12 (u_ aZ 11),qa 10 13 0,h_ 10 14 (u_ aZ 13),h_ 10 15 (b_ kH 12 14),Q_ 16 10 15] 16 (rt Xm) (sq (sq aeM (bl 0 ZG)) (rt Xn))),54⟩
theorem c38:cF 38=some A38:=by kernel_rfl
def aeI:=R_ [F_ 4]
def aeH:=R_ [V_ 11 5,o_ 12 (di lD 11 1),V_ 5 12]
def ZF:CT:=lr [V_ 9 5,o_ 10 (di qP 9 0)] 10 0 1 (sq (.fb [13,14,15,16,17,18,19,20,21,22,23,24] [bu [1] 13 1 1,bu [0] 14 0 1,bu [5] 15 5 1,jK [14,15] 16 1 14 15 1,cC [16] 17 16 1,bu [0] 18 0 1,bu [5] 19 5 1,i_ [19] 20 (di lD 19 1) 1,jK [18,20] 21 1 18 20 1,cC [21] 22 21 1,vI [13,17,22] (bm 23) (z_ 13) [z_ 17,z_ 22],i_ [23] 24 (di sK 23 0) 1]) (cd 24 (rt aeI) .skip)) aeH
def aeG:=R_ [T_ 4]
def A39:CF:=⟨[aI 4],sr [F_ 4] (sq (sr [V_ 6 0,E_ 7 6,o_ 8 (di lD 7 1),V_ 5 8] (bl 0 ZF)) (rt aeG)),25⟩
theorem c39:cF 39=some A39:=by kernel_rfl
def Gi:=R_ [V_ 28 7,H_ 29 28 0]
def W7:=R_ [I_ 6 0]
def W6:=R_ [V_ 30 0,V_ 31 5,J_ 32 3 30 31,N_ 33 3 32,y_ 34 88 [z_ 33]]
def aeF:=R_ [o_ 6 (c_ (.int .i64 (-1)))]
def aeE:=R_ [V_ 35 1,V_ 36 5,J_ 37 3 35 36,N_ 38 3 37,y_ 39 88 [z_ 38]]
def W9:=R_ [I_ 6 1]
def tz:=R_ [V_ 40 6,H_ 41 40 0]
def BC:=R_ [V_ 42 6,V_ 4 42]
def I5:=R_ [D_ 43 13 1,V_ 13 43]
def ZE:CT:=sr [B_ 14 13 12] (sq (cd 14 .skip (.exit 0)) (sq (.block 1 (sr [V_ 15 13,V_ 5 15] (sq (.fb [17,18,19,20,21,22,23,24,25,16,26,27] [bu [0] 17 0 1,bu [5] 18 5 1,jK [17,18] 19 3 17 18 1,m9 [19] 20 3 19 1,bu [1] 21 1 1,bu [5] 22 5 1,jK [21,22] 23 3 21 22 1,m9 [23] 24 3 23 1,cI [20,24] (bm 25) 89 [z_ 20,z_ 24],bu [25] 16 25 1,i_ [16] 26 (u_ (mN 0) 16) 1,i_ [16] 27 (u_ (mN 1) 16) 1,bu [26] 6 26 1,bu [27] 7 27 1]) (iq Gi 29 (sq W7 (sq W6 (cd 34 aeF (sq aeE (cd 39 W9 .skip))))) (sq tz (cd 41 (rt BC) .skip)))))) I5))
def W8:=R_ [V_ 44 0,E_ 45 44,V_ 46 1,E_ 47 46,o_ 48 (b_ lD 45 47),V_ 4 48]
def A40:CF:=⟨[aI 4],sr [I_ 4 0] (sq (sr [V_ 8 0,E_ 9 8,V_ 10 1,E_ 11 10,o_ 12 (wW PI [z_ 9,z_ 11]),I_ 13 0] (bl 0 ZE)) (rt W8)),49⟩
theorem c40:cF 40=some A40:=by kernel_rfl
def aeD:=R_ [V_ 21 2,E_ 22 21,I_ 23 0]
def aeC:=R_ [V_ 34 7,V_ 35 11,vP (bm 36) (z_ 34) [z_ 35]]
def aeB:=R_ [N_ 37 2 3,A_ 38 0 4,L_ 39 38,y_ 40 92 [z_ 37,z_ 39],E_ 41 40,I_ 42 0]
def W4:=R_ [V_ 55 7,V_ 56 16,vP (bm 57) (z_ 55) [z_ 56]]
def I4:=R_ [D_ 58 42 1,V_ 42 58]
def Gv:CT:=sr [B_ 43 42 41] (sq (cd 43 .skip (.exit 2)) (sq (.block 3 (sr [J_ 44 6 40 42,N_ 45 6 44,o_ 13 (ak QH 6),S_ 6 13 45] (sr [V_ 46 11,K_ 47 46 0] (cd 47 (sr [N_ 49 6 13,V_ 50 9,y_ 51 93 [z_ 49,z_ 50],V_ 48 51,W_ 52 0 48,W_ 53 1 48,W_ 54 2 48,V_ 14 52,V_ 15 53,V_ 16 54] W4) .skip)))) I4))
def W3:=R_ [D_ 59 23 1,V_ 23 59]
def ZD:CT:=sr [B_ 24 23 22] (sq (cd 24 .skip (.exit 0)) (sq (.block 1 (sr [J_ 25 1 21 23,L_ 26 25,V_ 9 26] (sr [A_ 28 2 4,L_ 29 28,V_ 30 9,y_ 31 91 [z_ 29,z_ 30],V_ 27 31,W_ 32 0 27,W_ 33 1 27,V_ 10 32,V_ 11 33] (sq aeC (sq aeB (bl 2 Gv)))))) W3))
def WZ:=R_ [V_ 60 7,vP (bm 61) (z_ 60) [kI 0],V_ 17 61]
def I3:=R_ [V_ 62 17,H_ 63 62 0]
def WY:=R_ [V_ 64 17,V_ 6 64]
def WX:=R_ [N_ 65 2 3,A_ 66 0 4,L_ 67 66,y_ 68 92 [z_ 65,z_ 67],E_ 69 68,I_ 70 0]
def WW:=R_ [I_ 6 160]
def I2:=R_ [D_ 81 70 1,V_ 70 81]
def Oq:CT:=sr [B_ 71 70 69] (sq (cd 71 .skip (.exit 4)) (sq (.block 5 (sr [J_ 72 6 68 70,N_ 73 6 72,o_ 19 (ak QH 6),S_ 6 19 73] (sr [A_ 74 4 19,L_ 75 74,V_ 76 75,GI 76 77 6 19,jo 76 78 2,kM (z_ 76) true (bm 79) 94 [z_ 77,z_ 78],P_ 80 76 79] (cd 80 (rt WW) .skip)))) I2))
def WV:=R_ [I_ 6 0]
def A41:CF:=⟨[aI 6],sr [X_ 3 0,X_ 4 1,I_ 6 0] (sr [y_ 20 90 [],V_ 7 20] (sq (sq aeD (bl 0 ZD)) (sq (sq WZ (sq I3 (cd 63 (rt WY) .skip))) (sq (sq WX (bl 4 Oq)) (rt WV))))),82⟩
theorem c41:cF 41=some A41:=by kernel_rfl
def WU:=R_ [X_ 1 0,F_ 2]
def WT:=R_ [A_ 15 0 1,L_ 16 15,o_ 17 (aN z3_ 31 [(0,1,z_ 16)]),o_ 3 (ak z3_ 31),S_ 31 3 17]
def WL:=R_ [F_ 4]
def WH:=R_ [A_ 18 0 1,L_ 19 18]
def Gh:=R_ [K_ 21 19 1,V_ 20 21]
def aeA:CT:=.fb [22,23,24,25,26,27] [bP [1] 22 1 1 1,cC [22] 23 22 1,bP [3] 26 1 3 1,j_ [26,23] (s_ 1 26 23),bP [1] 24 3 1 2,cC [24] 25 24 2,bP [3] 27 3 3 1,j_ [27,25] (s_ 1 27 25)]
def aez:=R_ [A_ 28 1 1,L_ 29 28,y_ 30 109 [z_ 29],V_ 31 30,eo 31 32 3 1,fa 31 33 32,g_ 31 34 (u_ aZ 33),kM (z_ 31) true (bm 35) 110 [z_ 34,kI 16],P_ 36 31 35,V_ 4 36]
def aey:=R_ [A_ 37 3 1,L_ 38 37,E_ 39 38,I_ 40 0]
def afs:CT:=sr [B_ 41 40 39] (sq (cd 41 .skip (.exit 1)) (sq (.block 2 (sr [J_ 42 3 38 40,N_ 43 3 42,o_ 6 (ak Dz 3),S_ 3 6 43] (R_ [V_ 44 4,V_ 45 44,eo 45 46 0 6,fa 45 47 46,kM (z_ 45) true (bm 48) 109 [z_ 47],P_ 49 45 48,V_ 50 49,eo 50 51 1 6,fa 50 52 51,g_ 50 53 (di rX 52 1),P_ 54 50 53,V_ 55 54,eo 55 56 1 6,fa 55 57 56,g_ 55 58 (di HH 57 3),P_ 59 55 58,V_ 4 59]))) (R_ [D_ 60 40 1,V_ 40 60])))
def xJ:=R_ [K_ 62 19 2,V_ 61 62]
def WR:=R_ [A_ 63 1 1,L_ 64 63,A_ 65 1 3,S_ 1 65 64]
def WQ:=R_ [A_ 66 1 1,L_ 67 66,y_ 68 109 [z_ 67],V_ 4 68]
def xI:=R_ [K_ 70 19 3,V_ 69 70]
def WO:CT:=.fb [71,72,73,74,75,76,77,78,79,80,81,82] [bP [1] 71 1 1 1,cC [71] 72 71 1,bP [3] 79 1 3 1,j_ [79,72] (s_ 1 79 72),bP [1] 73 2 1 2,cC [73] 74 73 2,bP [3] 80 2 3 1,j_ [80,74] (s_ 1 80 74),bP [1] 75 4 1 3,cC [75] 76 75 3,bP [3] 81 4 3 1,j_ [81,76] (s_ 1 81 76),bP [1] 77 5 1 4,cC [77] 78 77 4,bP [3] 82 5 3 1,j_ [82,78] (s_ 1 82 78)]
def WN:=R_ [A_ 83 1 1,L_ 84 83,y_ 85 109 [z_ 84],V_ 86 85,eo 86 87 2 1,fa 86 88 87,kM (z_ 86) true (bm 89) 109 [z_ 88],P_ 90 86 89,V_ 91 90,eo 91 92 4 1,fa 91 93 92,g_ 91 94 (u_ aZ 93),kM (z_ 91) true (bm 95) 110 [z_ 94,kI 16],P_ 96 91 95,V_ 4 96]
def WM:=R_ [A_ 97 4 1,L_ 98 97,E_ 99 98,I_ 100 0]
def afr:CT:=sr [B_ 101 100 99] (sq (cd 101 .skip (.exit 3)) (sq (.block 4 (sr [J_ 102 1 98 100,L_ 103 102,V_ 8 103] (R_ [V_ 104 4,V_ 105 104,jo 105 106 8,kM (z_ 105) true (bm 107) 109 [z_ 106],P_ 108 105 107,V_ 4 108]))) (R_ [D_ 109 100 1,V_ 100 109])))
def xH:=R_ [K_ 111 19 4,V_ 110 111]
def WJ:=R_ [A_ 112 2 1,L_ 113 112,A_ 114 2 3,S_ 1 114 113]
def WI:=R_ [A_ 115 2 1,L_ 116 115,y_ 117 109 [z_ 116],V_ 4 117]
def xG:=R_ [K_ 119 19 5,V_ 118 119]
def IZ:CT:=.fb [120,121,122,123,124,125] [bP [1] 120 1 1 1,cC [120] 121 120 1,bP [3] 124 1 3 1,j_ [124,121] (s_ 1 124 121),bP [1] 122 6 1 2,cC [122] 123 122 2,bP [3] 125 6 3 1,j_ [125,123] (s_ 1 125 123)]
def IY:=R_ [A_ 126 1 1,L_ 127 126,y_ 128 109 [z_ 127],V_ 129 128,eo 129 130 6 1,fa 129 131 130,g_ 129 132 (u_ aZ 131),g_ 129 133 (di qP 132 0),P_ 134 129 133,V_ 4 134]
def BA:=R_ [A_ 135 6 1,L_ 136 135,E_ 137 136,I_ 138 0]
def IX:=R_ [V_ 148 10,E_ 149 148,I_ 150 0]
def IW:=R_ [V_ 154 4,V_ 155 154,GI 155 156 8 12,kM (z_ 155) true (bm 157) 111 [z_ 156],P_ 158 155 157,V_ 4 158]
def IV:=R_ [D_ 159 150 1,V_ 150 159]
def Gu:CT:=sr [B_ 151 150 149] (sq (cd 151 .skip (.exit 7)) (sq (.block 8 (sr [J_ 152 8 148 150,N_ 153 8 152,o_ 12 (ak ug 8),S_ 8 12 153] IW)) IV))
def IU:=R_ [D_ 160 138 1,V_ 138 160]
def xU:CT:=sr [B_ 139 138 137] (sq (cd 139 .skip (.exit 5)) (sq (.block 6 (sr [J_ 140 1 136 138,L_ 141 140,V_ 10 141] (sr [V_ 142 4,V_ 143 142,jo 143 144 10,g_ 143 145 (u_ aZ 144),kM (z_ 143) true (bm 146) 110 [z_ 145,kI 16],P_ 147 143 146,V_ 4 147] (sq IX (bl 7 Gu))))) IU))
def Bz:=R_ [K_ 162 19 6,V_ 161 162]
def IQ:CT:=.fb [163,164,165,166,167,168] [bP [1] 163 1 1 1,cC [163] 164 163 1,bP [3] 167 1 3 1,j_ [167,164] (s_ 1 167 164),bP [1] 165 8 1 2,m9 [165] 166 8 165 2,bP [3] 168 8 3 1,j_ [168,166] (s_ 8 168 166)]
def IP:=R_ [A_ 169 1 1,L_ 170 169,y_ 171 109 [z_ 170],V_ 172 171,eo 172 173 8 1,GI 172 174 8 173,kM (z_ 172) true (bm 175) 112 [z_ 174],P_ 176 172 175,V_ 4 176]
def IM:=R_ [K_ 178 19 7,V_ 177 178]
def WG:CT:=.fb [179,180,181,182,183,184,185,186,187] [bP [1] 179 1 1 1,cC [179] 180 179 1,bP [3] 185 1 3 1,j_ [185,180] (s_ 1 185 180),bP [1] 181 7 1 2,cC [181] 182 181 2,bP [3] 186 7 3 1,j_ [186,182] (s_ 1 186 182),bP [1] 183 8 1 3,m9 [183] 184 8 183 3,bP [3] 187 8 3 1,j_ [187,184] (s_ 8 187 184)]
def WE:=R_ [A_ 188 1 1,L_ 189 188,y_ 190 109 [z_ 189],V_ 191 190,eo 191 192 7 1,fa 191 193 192,g_ 191 194 (u_ aZ 193),kM (z_ 191) true (bm 195) 110 [z_ 194,kI 16],P_ 196 191 195,V_ 197 196,eo 197 198 8 1,GI 197 199 8 198,kM (z_ 197) true (bm 200) 112 [z_ 199],P_ 201 197 200,V_ 4 201]
def WC:=R_ [A_ 202 7 1,L_ 203 202,E_ 204 203,I_ 205 0]
def afq:CT:=sr [B_ 206 205 204] (sq (cd 206 .skip (.exit 9)) (sq (.block 10 (sr [J_ 207 9 203 205,N_ 208 9 207,o_ 14 (ak akv 9),S_ 9 14 208] (R_ [V_ 209 4,V_ 210 209,eo 210 211 0 14,fa 210 212 211,kM (z_ 210) true (bm 213) 109 [z_ 212],P_ 214 210 213,V_ 215 214,eo 215 216 1 14,GI 215 217 8 216,kM (z_ 215) true (bm 218) 111 [z_ 217],P_ 219 215 218,V_ 4 219]))) (R_ [D_ 220 205 1,V_ 205 220])))
def IL:=R_ [K_ 222 19 8,V_ 221 222]
def IK:=R_ [A_ 223 16 1,N_ 224 15 223,A_ 225 16 3,S_ 15 225 224]
def IJ:=R_ [A_ 226 16 1,N_ 227 15 226,y_ 228 113 [z_ 227],V_ 4 228]
def WB:=R_ [K_ 230 19 9,V_ 229 230]
def WA:=R_ [K_ 231 19 10,V_ 229 231]
def V':=R_ [K_ 232 19 11,V_ 229 232]
def V9:=R_ [T_ 4]
def tw:=R_ [V_ 233 4,V_ 234 233,GI 234 235 31 1,GI 234 236 31 3,kM (z_ 234) true (bm 237) 114 [z_ 235,z_ 236],P_ 238 234 237,V_ 2 238]
def A45:CF:=⟨[aI 2],sq WU (sq WT (sq WL (sq (sq WH (.block 0 (sq Gh (cd 20 (sq aeA (sq aez (sq aey (bl 1 afs)))) (sq xJ (cd 61 (sq WR WQ) (sq xI (cd 69 (sq WO (sq WN (sq WM (bl 3 afr)))) (sq xH (cd 110 (sq WJ WI) (sq xG (cd 118 (sq IZ (sq IY (sq BA (bl 5 xU)))) (sq Bz (cd 161 (sq IQ IP) (sq IM (cd 177 (sq WG (sq WE (sq WC (bl 9 afq)))) (sq IL (cd 221 (sq IK IJ) (sq (sq WB (cd 229 .skip (sq WA (cd 229 .skip V')))) (cd 229 V9 .skip)))))))))))))))))))) (rt tw)))),239⟩
theorem c45:cF 45=some A45:=by kernel_rfl
def aex:=R_ [V_ 16 0,V_ 17 6,o_ 18 (un 17),y_ 19 50 [z_ 16,kI 200,z_ 18]]
def aew:=R_ [N_ 20 4 5,S_ 4 4 20]
def A47:CF:=⟨[bU 4 4],sr [o_ 4 (ak uG 4)] (sr [V_ 8 0,o_ 9 (aU (z_ 8)),A_ 10 0 9,N_ 11 2 10,V_ 12 1,y_ 13 115 [z_ 11,z_ 12],V_ 7 13,W_ 14 0 7,W_ 15 1 7,o_ 5 (ak uG 4),S_ 4 5 14,V_ 6 15] (sq aex (rt aew))),21⟩
theorem c47:cF 47=some A47:=by kernel_rfl
def A50:CF:=⟨[],sr [V_ 6 2,V_ 7 6,jo 7 8 0,g_ 7 9 (aU (z_ 8)),eo 7 10 2 9,fa 7 11 10,g_ 7 12 (di cX 11 0),P_ 13 7 12] (cd 13 (R_ [V_ 14 0,V_ 15 1,o_ 16 (aU (z_ 14)),A_ 17 2 16,S_ 1 17 15]) .skip),18⟩
theorem c50:cF 50=some A50:=by kernel_rfl
def A51:CF:=⟨[bU 4 4,aI 5],sr [X_ 2 0,X_ 3 1,o_ 4 (ak uG 4),F_ 5] (rr [A_ 6 0 2,L_ 7 6,o_ 8 (iH (.func 126) [] [z_ 3]),y_ 9 125 [z_ 7,z_ 8],W_ 10 0 9,W_ 11 1 9,y_ 12 124 [z_ 10,z_ 11],W_ 13 0 12,W_ 14 1 12,S_ 4 4 13,V_ 5 14]),15⟩
theorem c51:cF 51=some A51:=by kernel_rfl
def aev:=R_ [A_ 18 6 4,L_ 19 18,E_ 20 19,I_ 21 0]
def V4:=R_ [V_ 36 0,o_ 37 (aU (z_ 36)),A_ 38 2 37,L_ 39 38,H_ 40 39 0]
def aeu:=R_ [o_ 8 (c_ (.al (.slice none 0 0)))]
def aet:=R_ [V_ 41 7,E_ 42 41,I_ 43 0]
def V8:CT:=.fb [48,49,50,51,52,53,54,55,56,57,58,59,60,61,62,63] [bu [0] 49 0 1,i_ [] 50 (aN DC 2 []) 1,m9 [10] 51 8 10 1,bu [2] 52 2 1,i_ [52] 53 (aU (z_ 52)) 1,bP [53] 54 2 53 1,bP [54] 55 2 54 1,cC [55] 56 55 1,bu [9] 57 9 1,jK [56,57] 58 3 56 57 1,bP [58] 59 1 58 1,cC [59] 60 59 1,cI [49,50,51,60] (bm 61) 127 [z_ 49,z_ 50,z_ 51,z_ 60],bu [8] 48 8 2,i_ [61] 62 (aK ug 1 8 [(0,8,z_ 61)]) 1,mI [48,62] (bm 63) (db 8 104 (z_ 48) (z_ 62)),bu [63] 8 63 1]
def V7:=R_ [D_ 64 43 1,V_ 43 64]
def ZC:CT:=sr [B_ 44 43 42] (sq (cd 44 .skip (.exit 2)) (sq (.block 3 (sr [V_ 45 43,J_ 46 8 41 43,N_ 47 8 46,o_ 10 (ak ug 8),V_ 9 45,S_ 8 10 47] V8)) V7))
def V6:=R_ [V_ 65 2,V_ 66 2,o_ 67 (aU (z_ 66)),A_ 68 13 67,L_ 69 68,V_ 70 8,o_ 71 (aK rZ 1 1 [(0,1,z_ 70)]),o_ 72 (db 1 24 (z_ 69) (z_ 71)),o_ 73 (aU (z_ 65)),A_ 74 13 73,S_ 1 74 72]
def V5:=R_ [D_ 75 21 1,V_ 21 75]
def ZB:CT:=sr [B_ 22 21 20] (sq (cd 22 .skip (.exit 0)) (sq (.block 1 (sr [J_ 23 1 19 21,L_ 24 23,V_ 7 24] (sr [V_ 25 0,V_ 26 7,E_ 27 26,V_ 28 2,o_ 29 (aU (z_ 28)),A_ 30 2 29,A_ 31 2 30,L_ 32 31,E_ 33 32,o_ 34 (b_ kH 27 33),y_ 35 50 [z_ 25,kI 204,z_ 34]] (iq V4 40 .ret (sq aeu (sq (sq aet (bl 2 ZC)) V6)))))) V5))
def A52:CF:=⟨[],sr [X_ 4 1] (sr [V_ 11 2,V_ 12 0,A_ 13 1 4,L_ 14 13,y_ 15 47 [z_ 12,z_ 14],o_ 16 (aU (z_ 11)),A_ 17 2 16,S_ 4 17 15] (sq aev (bl 0 ZB))),76⟩
theorem c52:cF 52=some A52:=by kernel_rfl
def A53:CF:=⟨[aI 6],sr [X_ 4 1,X_ 5 2,o_ 6 (c_ (.al (.slice none 0 0)))] (ir [A_ 9 0 5,L_ 10 9,K_ 11 10 0] 11 (rr [o_ 6 (c_ (.al (.slice none 0 0)))]) (sr [V_ 13 0,N_ 14 2 4,N_ 15 8 5,y_ 16 128 [z_ 13,z_ 14,z_ 15],V_ 12 16,W_ 17 0 12,W_ 18 1 12,o_ 7 (ak ug 8),S_ 8 7 17,V_ 8 18] (sr [V_ 19 0,V_ 20 8,H_ 21 20 3,V_ 22 21,jo 22 23 8,g_ 22 24 (di kH 23 0),P_ 25 22 24,y_ 26 50 [z_ 19,kI 203,z_ 25]] (rr [N_ 27 8 7,y_ 28 129 [z_ 27],V_ 6 28])))),29⟩
theorem c53:cF 53=some A53:=by kernel_rfl
def A54:CF:=⟨[bU 2 2],sr [X_ 1 0,o_ 2 (ak DC 2)] (rr [A_ 3 1 1,L_ 4 3,o_ 5 (aK [.str []] 1 1 [(0,1,z_ 4)]),N_ 6 4 1,o_ 7 (aK uG 1 4 [(0,4,z_ 6)]),o_ 8 (aN DC 2 [(0,1,z_ 5),(1,1,z_ 7)]),S_ 2 2 8]),9⟩
theorem c54:cF 54=some A54:=by kernel_rfl
def aes:=R_ [A_ 27 0 8,L_ 28 27,V_ 10 28]
def VV:=R_ [A_ 29 1 8,L_ 30 29,o_ 31 (d_ kH 30 (.str []))]
def aer:=R_ [A_ 32 1 8,L_ 33 32,V_ 10 33]
def VU:=R_ [V_ 34 0,A_ 35 0 6,L_ 36 35,V_ 37 10,y_ 38 120 [z_ 36,z_ 37],y_ 39 50 [z_ 34,kI 205,z_ 38]]
def By:CT:=.fb [40,41,42,43,44,45,46,47,48,49,50,51] [bP [6] 40 0 6 1,cC [40] 41 40 1,bu [10] 42 10 1,i_ [42] 43 (aK [.str []] 1 1 [(0,1,z_ 42)]) 1,mI [41,43] (bm 44) (db 1 16 (z_ 41) (z_ 43)),bP [6] 45 1 6 2,cC [45] 46 45 2,m9 [9] 47 4 9 2,i_ [47] 48 (aK uG 1 4 [(0,4,z_ 47)]) 2,mI [46,48] (bm 49) (db 4 56 (z_ 46) (z_ 48)),bP [6] 50 0 6 2,j_ [50,44] (s_ 1 50 44),bP [6] 51 1 6 1,j_ [51,49] (s_ 1 51 49)]
def II:=R_ [D_ 52 19 1,V_ 19 52]
def Oo:CT:=sr [B_ 20 19 18] (sq (cd 20 .skip (.exit 0)) (sq (.block 1 (sr [J_ 21 10 17 19,N_ 22 10 21,o_ 8 (ak OH 10),S_ 10 8 22] (sr [V_ 23 0,A_ 24 0 8,L_ 25 24,y_ 26 47 [z_ 23,z_ 25],o_ 9 (ak uG 4),S_ 4 9 26] (sq aes (iq VV 31 aer (sq VU By)))))) II))
def IH:=R_ [V_ 53 0,o_ 54 (aU (z_ 53)),A_ 55 2 54,L_ 56 55,H_ 57 56 0]
def V3:=R_ [V_ 58 2,A_ 59 1 6,L_ 60 59,o_ 61 (aU (z_ 58)),A_ 62 15 61,S_ 1 62 60]
def V2:=R_ [A_ 63 3 4,L_ 64 63,E_ 65 64,I_ 66 0]
def V1:CT:=.fb [71,72,73,74,75,76,77,78,79,80,81,82,83,84,85,86,87,88,89,90,91,92,93,94] [bu [0] 76 0 1,bP [6] 77 0 6 1,cC [77] 78 77 1,bu [11] 79 11 1,i_ [79] 80 (di rG 79 1) 1,i_ [78,80] 81 (Bd (mL 1) (z_ 78) none (some (z_ 80)) none) 1,bP [6] 82 1 6 1,cC [82] 83 82 1,bu [11] 84 11 1,i_ [84] 85 (di rG 84 1) 1,i_ [83,85] 86 (Bd (mL 4) (z_ 83) none (some (z_ 85)) none) 1,i_ [81,86] 87 (aN DC 2 [(0,1,z_ 81),(1,1,z_ 86)]) 1,bP [12] 88 2 12 1,m9 [88] 89 8 88 1,cI [76,87,89] (bm 90) 53 [z_ 76,z_ 87,z_ 89],bu [2] 72 2 2,i_ [72] 73 (aU (z_ 72)) 2,bP [73] 74 16 73 2,cC [74] 75 74 2,i_ [90] 91 (aK rZ 1 1 [(0,1,z_ 90)]) 1,mI [75,91] (bm 92) (db 1 24 (z_ 75) (z_ 91)),bu [2] 71 2 3,i_ [71] 93 (aU (z_ 71)) 1,bP [93] 94 16 93 1,j_ [94,92] (s_ 1 94 92)]
def V0:=R_ [D_ 95 66 1,V_ 66 95]
def On:CT:=sr [B_ 67 66 65] (sq (cd 67 .skip (.exit 2)) (sq (.block 3 (sr [V_ 68 66,J_ 69 10 64 66,N_ 70 10 69,o_ 12 (ak OH 10),V_ 11 68,S_ 10 12 70] V1)) V0))
def VZ:=R_ [V_ 96 0,N_ 97 2 6,N_ 98 15 4,V_ 99 2,y_ 100 133 [z_ 96,z_ 97,z_ 98,z_ 99]]
def VY:=R_ [V_ 101 2,V_ 102 0,N_ 103 2 6,A_ 104 4 4,N_ 105 8 104,y_ 106 53 [z_ 102,z_ 103,z_ 105],o_ 107 (aU (z_ 101)),A_ 108 17 107,S_ 1 108 106]
def VX:=R_ [A_ 109 12 4,L_ 110 109,E_ 111 110,I_ 112 0]
def ZA:CT:=sr [B_ 113 112 111] (sq (cd 113 .skip (.exit 4)) (sq (.block 5 (sr [J_ 114 2 110 112,N_ 115 2 114,o_ 14 (ak [.str [],.bool false] 2),S_ 2 14 115] (sq (.fb [116,117,118,119,120,121,122] [bu [2] 116 2 1,i_ [116] 117 (aU (z_ 116)) 1,bP [117] 118 19 117 1,cC [118] 119 118 1,bP [14] 120 0 14 1,cC [120] 121 120 1,cI [119,121] (bm 122) 134 [z_ 119,z_ 121],bu [122] 15 122 1]) (sr [V_ 123 0,V_ 124 15,o_ 125 (di sK 124 0),y_ 126 50 [z_ 123,kI 201,z_ 125]] (sq (.fb [127,128,129,130,131,132,133,134,135,136,137,138,139,140,141,142] [bu [15] 128 15 1,i_ [128] 129 (di rX 128 0) 1,bu [129] 130 129 1,gI [130,2] 130 131 (v_ 2) 1,gI [130,131] 130 132 (aU (z_ 131)) 1,gI [130,132] 130 133 (a_ 19 132) 1,gI [130,133] 130 134 (l_ 133) 1,gI [130,15] 130 135 (v_ 15) 1,gI [130,135] 130 136 (di rG 135 1) 1,gI [130,134,136] 130 137 (Bd (mL 1) (z_ 134) (some (z_ 136)) none none) 1,gI [130,14] 130 138 (a_ 0 14) 1,gI [130,138] 130 139 (l_ 138) 1,gcI [130,137,139] (z_ 130) true (bm 140) 120 [z_ 137,z_ 139],bu [0] 127 0 2,i_ [130,140] 141 (p_ 130 140) 1,cI [127,141] (bm 142) 50 [z_ 127,kI 205,z_ 141]]) (.fb [143,144,145,146,147,148,149,150,151,152,153,154,155] [bu [2] 144 2 1,i_ [144] 145 (aU (z_ 144)) 1,bP [145] 146 21 145 1,cC [146] 147 146 1,bu [15] 148 15 1,bP [14] 149 1 14 1,cC [149] 150 149 1,i_ [148,150] 151 (aN [.int .i64 0,.bool false] 2 [(0,1,z_ 148),(1,1,z_ 150)]) 1,i_ [151] 152 (aK [.int .i64 0,.bool false] 1 2 [(0,2,z_ 151)]) 1,mI [147,152] (bm 153) (db 2 16 (z_ 147) (z_ 152)),bu [2] 143 2 2,i_ [143] 154 (aU (z_ 143)) 1,bP [154] 155 21 154 1,j_ [155,153] (s_ 1 155 153)])))))) (R_ [D_ 156 112 1,V_ 112 156])))
def VW:CT:=.fb [157,158,159,160,161,162,163,164,165,166,167,168,169,170,171] [bu [2] 157 2 1,bP [4] 160 0 4 1,cC [160] 161 160 1,i_ [157] 166 (aU (z_ 157)) 1,bP [166] 167 22 166 1,j_ [167,161] (s_ 1 167 161),bu [2] 158 2 2,bP [4] 162 13 4 2,cC [162] 163 162 2,i_ [158] 168 (aU (z_ 158)) 1,bP [168] 169 23 168 1,j_ [169,163] (s_ 1 169 163),bu [2] 159 2 3,bP [4] 164 14 4 3,cC [164] 165 164 3,i_ [159] 170 (aU (z_ 159)) 1,bP [170] 171 24 170 1,j_ [171,165] (s_ 1 171 165)]
def A56:CF:=⟨[],sr [X_ 4 1] (sr [o_ 6 (ak DC 2)] (sq (sr [A_ 16 3 4,L_ 17 16,E_ 18 17,I_ 19 0] (bl 0 Oo)) (iq IH 57 .ret (sq V3 (sq (sq V2 (bl 2 On)) (sq VZ (sq VY (sq (sq VX (bl 4 ZA)) VW)))))))),172⟩
theorem c56:cF 56=some A56:=by kernel_rfl
def A57:CF:=⟨[aI 2],sr [o_ 2 (c_ (.al (.slice none 0 0)))] (ir [V_ 3 0,o_ 4 (d_ (js false .slice) 3 (.al (.slice none 0 0)))] 4 (rr [o_ 2 (c_ (.al (.slice none 0 0)))]) (rr [o_ 5 (aK Dz 0 3 []),V_ 6 0,o_ 7 (db 3 32 (z_ 5) (z_ 6)),V_ 2 7])),8⟩
theorem c57:cF 57=some A57:=by kernel_rfl
def aeq:=R_ [D_ 20 11 1,V_ 11 20]
def Zz:CT:=sr [B_ 12 11 10] (sq (cd 12 .skip (.exit 0)) (sq (.block 1 (sr [J_ 13 1 9 11,L_ 14 13,V_ 5 14] (R_ [V_ 15 3,V_ 16 5,y_ 17 135 [z_ 16],o_ 18 (aK rZ 1 1 [(0,1,z_ 17)]),o_ 19 (db 1 24 (z_ 15) (z_ 18)),V_ 3 19]))) aeq))
def aep:=R_ [V_ 21 3,y_ 22 136 [z_ 21,kf 40]]
def aeo:=R_ [V_ 23 3,V_ 2 23]
def A58:CF:=⟨[aI 2],sr [o_ 2 (c_ (.al (.slice none 0 0)))] (sr [V_ 6 0,E_ 7 6,o_ 8 (zy rZ 1 24 (kI 0) (z_ 7)),V_ 3 8] (sq (sr [V_ 9 0,E_ 10 9,I_ 11 0] (bl 0 Zz)) (sq aep (rt aeo)))),24⟩
theorem c58:cF 58=some A58:=by kernel_rfl
def A59:CF:=⟨[aI 2],sr [o_ 2 (c_ (.al (.slice none 0 0)))] (ir [V_ 3 0,o_ 4 (d_ (js false .slice) 3 (.al (.slice none 0 0)))] 4 (rr [o_ 2 (c_ (.al (.slice none 0 0)))]) (rr [o_ 5 (aK ya 0 1 []),V_ 6 0,o_ 7 (db 1 8 (z_ 5) (z_ 6)),V_ 2 7])),8⟩
theorem c59:cF 59=some A59:=by kernel_rfl
def aen:=R_ [o_ 4 (c_ (.al (.slice none 0 0)))]
def aem:=R_ [V_ 9 0,o_ 10 (aU (z_ 9)),A_ 11 3 10,A_ 12 13 11,L_ 13 12,E_ 14 13,I_ 15 0]
def ael:=R_ [D_ 25 15 1,V_ 15 25]
def Om:CT:=sr [B_ 16 15 14] (sq (cd 16 .skip (.exit 0)) (sq (.block 1 (sr [J_ 17 1 13 15,L_ 18 17,V_ 6 18] (R_ [V_ 19 4,V_ 20 6,V_ 21 3,y_ 22 144 [z_ 20,(aT (.al (.slice none 0 0))),z_ 21],o_ 23 (aK rZ 1 1 [(0,1,z_ 22)]),o_ 24 (db 1 24 (z_ 19) (z_ 23)),V_ 4 24]))) ael))
def aek:=R_ [V_ 26 3,vP (bm 27) (z_ 26) [kI 0],V_ 7 27]
def VP:=R_ [V_ 28 7,H_ 29 28 0]
def VT:=R_ [V_ 30 7,V_ 2 30]
def VS:=R_ [V_ 31 0,V_ 32 4,E_ 33 32,o_ 34 (aU (z_ 31)),A_ 35 28 34,A_ 36 3 35,S_ 1 36 33]
def VQ:CT:=.fb [37,38,39,40,41,42,43,44,45,46,47,48,49,50,51] [bu [0] 43 0 1,cI [43] (bm 44) 139 [z_ 43],bu [0] 38 0 2,i_ [38] 39 (aU (z_ 38)) 2,bP [39] 40 0 39 2,bP [40] 41 2 40 2,cC [41] 42 41 2,jK [42,44] 45 1 42 44 1,cC [45] 46 45 1,cI [46] (bm 47) 146 [z_ 46],bu [4] 48 4 3,mI [47,48] (bm 49) (db 1 24 (z_ 47) (z_ 48)),bu [0] 37 0 4,bu [4] 50 4 4,cI [37,49,50] (bm 51) 145 [z_ 37,z_ 49,z_ 50],bu [51] 2 51 1]
def A64:CF:=⟨[aI 2],sr [I_ 2 0] (sr [y_ 8 90 [],V_ 3 8] (sq aen (sq (sq aem (bl 0 Om)) (sq (sq aek (sq VP (cd 29 (rt VT) .skip))) (sq VS (rt VQ)))))),52⟩
theorem c64:cF 64=some A64:=by kernel_rfl
def aej:=R_ [V_ 8 0,V_ 9 3,y_ 10 147 [z_ 8,z_ 9],V_ 7 10,W_ 11 0 7,W_ 12 1 7,V_ 4 11,V_ 5 12]
def aei:CT:=.fb [13,14,15,16,17,18,19,20,21] [bu [0] 18 0 1,cI [18] (bm 19) 139 [z_ 18],bu [0] 13 0 2,i_ [13] 14 (aU (z_ 13)) 2,bP [14] 15 0 14 2,bP [15] 16 2 15 2,cC [16] 17 16 2,bu [5] 20 5 2,jK [17,19] 21 1 17 19 1,j_ [21,20] (s_ 1 21 20)]
def aeh:=R_ [V_ 22 0,V_ 23 4,E_ 24 23,o_ 25 (aU (z_ 22)),A_ 26 28 25,A_ 27 3 26,S_ 1 27 24]
def aeg:=R_ [V_ 28 3,vP (bm 29) (z_ 28) [kI 0],V_ 2 29]
def A65:CF:=⟨[aI 2],sr [I_ 2 0] (sr [y_ 6 90 [],V_ 3 6] (sq aej (sq aei (sq aeh (rt aeg))))),30⟩
theorem c65:cF 65=some A65:=by kernel_rfl
def aef:CT:=.fb [9,10,11,12,13,14,15,16,17,18,19,20,21,22,23,24,25,26,27,28] [cC [1] 11 1 1,i_ [11] 12 (aU (z_ 11)) 1,bP [12] 13 3 12 1,bP [13] 14 19 13 1,cC [14] 15 14 1,cI [15] (bm 16) 148 [z_ 15],cC [1] 17 1 2,i_ [17] 18 (aU (z_ 17)) 2,bP [18] 19 3 18 2,bP [19] 20 20 19 2,cC [20] 21 20 2,cI [21] (bm 22) 59 [z_ 21],cC [1] 9 1 3,i_ [9] 23 (aU (z_ 9)) 1,bP [23] 24 28 23 1,bP [24] 25 0 24 1,j_ [25,16] (s_ 1 25 16),cC [1] 10 1 4,i_ [10] 26 (aU (z_ 10)) 1,bP [26] 27 28 26 1,bP [27] 28 1 27 1,j_ [28,22] (s_ 1 28 22)]
def aee:CT:=.fb [29,30,31,32,33,34,35,36,37] [cC [1] 29 1 1,cC [1] 30 1 1,i_ [30] 31 (aU (z_ 30)) 1,bP [31] 32 3 31 1,bP [32] 33 15 32 1,cC [33] 34 33 1,i_ [34] 35 (u_ aZ 34) 1,cC [3] 36 3 1,cI [29,35,36] (bm 37) 149 [z_ 29,z_ 35,z_ 36]]
def LZ:Code×Code:=Ru pG 67 0
def VO:=R_ [L_ 80 3,vP (bm 81) (z_ 80) [kI 0],V_ 7 81]
def VN:=R_ [V_ 82 7,H_ 83 82 0]
def VM:=R_ [L_ 85 1,o_ 86 (aU (z_ 85)),A_ 87 3 86,A_ 88 22 87,L_ 89 88]
def VL:CT:=.fb [101,102,103,104,105,106,107,108] [cC [1] 101 1 1,i_ [101] 102 (aU (z_ 101)) 1,bP [102] 103 28 102 1,bP [103] 104 2 103 1,cC [104] 105 104 1,cC [1] 106 1 1,i_ [106] 107 (iH (.func 154) [z_ 106] []) 1,cI [105,107] (bm 108) 153 [z_ 105,z_ 107]]
def VK:CT:=.fb [109,110,111,112,113,114,115,116,117,118,119,120,121,122,123,124,125,126,127] [cC [1] 109 1 1,i_ [109] 110 (aU (z_ 109)) 1,bP [110] 111 3 110 1,bP [111] 112 23 111 1,cC [112] 113 112 1,bu [113] 114 113 1,gI [114,1] 114 115 (l_ 1) 1,gI [114,115] 114 116 (aU (z_ 115)) 1,gI [114,116] 114 117 (a_ 3 116) 1,gI [114,117] 114 118 (a_ 24 117) 1,gI [114,118] 114 119 (l_ 118) 1,gI [114,1] 114 120 (l_ 1) 1,gI [114,120] 114 121 (aU (z_ 120)) 1,gI [114,121] 114 122 (a_ 28 121) 1,gI [114,122] 114 123 (a_ 2 122) 1,gI [114,123] 114 124 (l_ 123) 1,gI [114,124] 114 125 (u_ aZ 124) 1,gI [114,119,125] 114 126 (b_ sK 119 125) 1,i_ [114,126] 127 (p_ 114 126) 1]
def VJ:=R_ [oP pZ (dm 1 (z_ 2) (kI 0))]
def A67:CF:=⟨[KE 2],sr [X_ 1 0,o_ 2 (ak ya 1)] (sr [y_ 8 90 [],o_ 3 (ak [(.al .nilFunc)] 1),S_ 1 3 8] (sq aef (sq (sq aee (.block 0 (.range 148 (z_ 37) [38] LZ.1 LZ.2))) (sq (sq VO (sq VN (cd 83 (rr [V_ 84 7,S_ 1 2 84]) .skip))) (iq VM 89 (.fb [90,91,92,93,94,95,96,97,98,99,100] [cC [1] 91 1 1,i_ [91] 92 (aU (z_ 91)) 1,bP [92] 93 28 92 1,bP [93] 94 2 93 1,cC [94] 95 94 1,cI [95] (bm 96) 58 [z_ 95],cI [96] (bm 97) 151 [z_ 96,kf 152],cC [1] 90 1 3,i_ [90] 98 (aU (z_ 90)) 1,bP [98] 99 28 98 1,bP [99] 100 2 99 1,j_ [100,97] (s_ 1 100 97)]) (sq VL (iq VK 127 (.fb [128,129,130,131,132,133,134,135,136,137,138,139,140,141,142,143,144,145,146,147] [cC [1] 128 1 1,cC [1] 129 1 1,i_ [129] 130 (aU (z_ 129)) 1,bP [130] 131 28 130 1,bP [131] 132 2 131 1,cC [132] 133 132 1,cC [1] 134 1 1,i_ [134] 135 (aU (z_ 134)) 1,bP [135] 136 3 135 1,bP [136] 137 24 136 1,cC [137] 138 137 1,cC [1] 139 1 1,i_ [139] 140 (aU (z_ 139)) 1,bP [140] 141 3 140 1,bP [141] 142 24 141 1,cC [142] 143 142 1,i_ [133,138,143] 144 (Bd (mL 1) (z_ 133) none (some (z_ 138)) (some (z_ 143))) 1,i_ [128] 145 (aU (z_ 128)) 1,bP [145] 146 28 145 1,bP [146] 147 2 146 1,j_ [147,144] (s_ 1 147 144)]) (rt VJ)))))))),148⟩
theorem c67:cF 67=some A67:=by kernel_rfl
def aed:CT:=.fb [41,42,43,44,45,46,47,48,49,50,51] [bP [2] 41 2 2 1,cC [41] 42 41 1,bu [5] 43 5 1,jK [42,43] 44 3 42 43 1,m9 [44] 45 3 44 1,bP [3] 46 2 3 1,cC [46] 47 46 1,bu [5] 48 5 1,jK [47,48] 49 3 47 48 1,m9 [49] 50 3 49 1,i_ [45,50] 51 (b_ (ly true [.s,.i,.b]) 45 50) 1]
def aec:=R_ [V_ 39 5,D_ 40 39 1,V_ 5 40]
def Zy:CT:=lr [V_ 34 5,A_ 35 2 2,L_ 36 35,E_ 37 36,B_ 38 34 37] 38 0 1 (sq aed (cd 51 (rr [F_ 4]) .skip)) aec
def aeb:=R_ [T_ 4]
def A68:CF:=⟨[aI 4],sr [X_ 2 0,X_ 3 1,F_ 4] (ir [A_ 6 0 2,L_ 7 6,A_ 8 0 3,L_ 9 8,o_ 10 (b_ kH 7 9),V_ 11 10,gQ 11 12 1 2,ij 11 13 12,gQ 11 14 1 3,ij 11 15 14,h_ 11 16 (b_ kH 13 15),Q_ 17 11 16,V_ 18 17,gQ 18 19 3 2,ij 18 20 19,gQ 18 21 3 3,ij 18 22 21,h_ 18 23 (b_ kH 20 22),Q_ 24 18 23,V_ 25 24,gQ 25 26 2 2,ij 25 27 26,h_ 25 28 (u_ aZ 27),gQ 25 29 2 3,ij 25 30 29,h_ 25 31 (u_ aZ 30),h_ 25 32 (b_ kH 28 31),Q_ 33 25 32] 33 (rr [F_ 4]) (sq (sr [I_ 5 0] (bl 0 Zy)) (rt aeb))),52⟩
theorem c68:cF 68=some A68:=by kernel_rfl
def aea:CT:=.fb [17,18,19,20,21,22,23,24,25,26] [bu [0] 17 0 1,bu [5] 18 5 1,jK [17,18] 19 6 17 18 1,m9 [19] 20 6 19 1,bu [1] 21 1 1,bu [5] 22 5 1,jK [21,22] 23 6 21 22 1,m9 [23] 24 6 23 1,cI [20,24] (bm 25) 155 [z_ 20,z_ 24],i_ [25] 26 (un 25) 1]
def ad':=R_ [V_ 15 5,D_ 16 15 1,V_ 5 16]
def Zx:CT:=lr [V_ 11 5,V_ 12 0,E_ 13 12,B_ 14 11 13] 14 0 1 (sq aea (cd 26 (rr [F_ 4]) .skip)) ad'
def ad_:=R_ [T_ 4]
def A69:CF:=⟨[aI 4],sr [F_ 4] (ir [V_ 6 0,E_ 7 6,V_ 8 1,E_ 9 8,o_ 10 (b_ kH 7 9)] 10 (rr [F_ 4]) (sq (sr [I_ 5 0] (bl 0 Zx)) (rt ad_))),27⟩
theorem c69:cF 69=some A69:=by kernel_rfl
def A80:CF:=⟨[aI 2],sr [X_ 1 0,o_ 2 (c_ (.al .nilFunc))] (rr [o_ 3 (iH (.func 160) [] [z_ 1]),V_ 2 3]),4⟩
theorem c80:cF 80=some A80:=by kernel_rfl
def VF:=R_ [F_ 2]
def ad6:=R_ [V_ 12 0,o_ 13 (u_ mY 12),I_ 14 0]
def ad5:=R_ [V_ 28 3,o_ 29 (di qP 28 0),V_ 30 29,jo 30 31 4,g_ 30 32 (d_ rX 31 (.int .u8 48)),jo 30 33 32,jo 33 34 4,g_ 33 35 (d_ HH 34 (.int .u8 57)),g_ 30 36 (p_ 33 35),jo 30 37 36,qa 37 38 4,h_ 37 39 (d_ cX 38 (.int .u8 95)),g_ 30 40 (q_ 37 39),P_ 41 30 40,V_ 27 41]
def ad4:=R_ [F_ 2]
def IG:=R_ [D_ 42 14 1,V_ 14 42]
def Zw:CT:=sr [B_ 15 14 13] (sq (cd 15 .skip (.exit 0)) (sq (.block 1 (sr [V_ 16 14,V_ 3 16] (sr [V_ 17 0,V_ 18 3,o_ 19 (b_ xh 17 18),V_ 4 19] (.block 2 (sr [V_ 21 4,o_ 22 (d_ rX 21 (.int .u8 97)),V_ 23 22,jo 23 24 4,g_ 23 25 (d_ HH 24 (.int .u8 122)),P_ 26 23 25,V_ 20 26] (cd 20 .skip (sq ad5 (cd 27 .skip (rt ad4))))))))) IG))
def IE:=R_ [T_ 2]
def A81:CF:=⟨[aI 2],sr [F_ 2] (ir [V_ 5 0,o_ 6 (d_ cX 5 (.str [])),V_ 7 6,qa 7 8 0,h_ 7 9 (u_ mY 8),h_ 7 10 (di qP 9 24),Q_ 11 7 10] 11 (rt VF) (sq (sq ad6 (bl 0 Zw)) (rt IE))),43⟩
theorem c81:cF 81=some A81:=by kernel_rfl
def MB:=R_ [F_ 2]
def ad3:=R_ [V_ 36 0,V_ 37 3,o_ 38 (Bd (mL 3) (z_ 36) none (some (z_ 37)) none),E_ 39 38,I_ 40 0]
def VE:=R_ [F_ 2]
def VD:=R_ [D_ 49 40 1,V_ 40 49]
def Zv:CT:=sr [B_ 41 40 39] (sq (cd 41 .skip (.exit 2)) (sq (.block 3 (sr [J_ 42 3 38 40,N_ 43 3 42,o_ 6 (ak Dz 3),S_ 3 6 43] (sr [A_ 44 0 6,L_ 45 44,A_ 46 0 4,L_ 47 46,o_ 48 (b_ cX 45 47)] (cd 48 (rt VE) .skip)))) VD))
def VB:=R_ [D_ 50 17 1,V_ 17 50]
def Zu:CT:=sr [B_ 18 17 16] (sq (cd 18 .skip (.exit 0)) (sq (.block 1 (sr [V_ 19 17,J_ 20 3 15 17,N_ 21 3 20,o_ 4 (ak Dz 3),V_ 3 19,S_ 3 4 21] (ir [A_ 22 0 4,L_ 23 22,y_ 24 81 [z_ 23],o_ 25 (un 24),V_ 26 25,gQ 26 27 1 4,ij 26 28 27,h_ 26 29 (di sK 28 1),Q_ 30 26 29,V_ 31 30,gQ 31 32 1 4,ij 31 33 32,h_ 31 34 (di qP 33 3),Q_ 35 31 34] 35 (rt MB) (sq ad3 (bl 2 Zv))))) VB))
def VA:=R_ [T_ 2]
def A82:CF:=⟨[aI 2],sr [F_ 2] (ir [V_ 7 0,E_ 8 7,K_ 9 8 0,V_ 10 9,qa 10 11 0,h_ 10 12 (u_ aZ 11),h_ 10 13 (di qP 12 16),Q_ 14 10 13] 14 (rr [F_ 2]) (sq (sr [V_ 15 0,E_ 16 15,I_ 17 0] (bl 0 Zu)) (rt VA))),51⟩
theorem c82:cF 82=some A82:=by kernel_rfl
def A83:CF:=⟨[aI 4],sr [F_ 4] (rr [V_ 5 0,V_ 6 1,y_ 7 161 [z_ 5,z_ 6],o_ 8 (di rX 7 0),V_ 4 8]),9⟩
theorem c83:cF 83=some A83:=by kernel_rfl
def A84:CF:=⟨[aI 3],sr [X_ 2 0,F_ 3] (rr [A_ 4 1 2,L_ 5 4,A_ 6 1 1,L_ 7 6,o_ 8 (b_ cX 5 7),V_ 3 8]),9⟩
theorem c84:cF 84=some A84:=by kernel_rfl
def MA:=R_ [F_ 4]
def ad2:=R_ [D_ 38 17 1,V_ 17 38]
def Zt:CT:=sr [B_ 18 17 16] (sq (cd 18 .skip (.exit 0)) (sq (.block 1 (sr [V_ 19 17,J_ 20 1 15 17,L_ 21 20,V_ 5 19,V_ 6 21] (sr [V_ 22 6,o_ 23 (di sK 22 0),V_ 24 23,qa 24 25 6,gQ 24 26 2 2,ij 24 27 26,h_ 24 28 (u_ aZ 27),h_ 24 29 (b_ rX 25 28),Q_ 30 24 29,V_ 31 30,qa 31 32 1,qa 31 33 5,h_ 31 34 (Bd (mL 1) (z_ 32) none (some (z_ 33)) none),qa 31 35 6,kM (z_ 31) false (bm 36) 162 [z_ 34,z_ 35],Q_ 37 31 36] (cd 37 (rt MA) .skip)))) ad2))
def ad1:=R_ [T_ 4]
def A85:CF:=⟨[aI 4],sr [X_ 2 0,F_ 4] (ir [V_ 7 1,E_ 8 7,K_ 9 8 0,V_ 10 9,qa 10 11 1,h_ 10 12 (u_ aZ 11),h_ 10 13 (di qP 12 16),Q_ 14 10 13] 14 (rr [F_ 4]) (sq (sr [V_ 15 1,E_ 16 15,I_ 17 0] (bl 0 Zt)) (rt ad1))),39⟩
theorem c85:cF 85=some A85:=by kernel_rfl
def A86:CF:=⟨[aI 4],sr [F_ 4] (rr [V_ 5 0,V_ 6 1,y_ 7 163 [z_ 5,z_ 6],o_ 8 (di rX 7 0),V_ 4 8]),9⟩
theorem c86:cF 86=some A86:=by kernel_rfl
def A87:CF:=⟨[aI 3],sr [X_ 2 0,F_ 3] (rr [A_ 4 2 2,L_ 5 4,A_ 6 2 1,L_ 7 6,o_ 8 (b_ cX 5 7),V_ 3 8]),9⟩
theorem c87:cF 87=some A87:=by kernel_rfl
def A88:CF:=⟨[aI 2],sr [X_ 1 0,F_ 2] (sq (sr [A_ 3 0 1,L_ 4 3] (.block 0 (sr [K_ 6 4 0,V_ 5 6] (cd 5 (rr [N_ 7 3 1,o_ 8 (aN fq 3 []),o_ 9 (b_ (ly false [.i,.i,.s]) 7 8),V_ 2 9]) (sr [K_ 11 4 1,V_ 10 11] (cd 10 (rr [A_ 12 2 1,L_ 13 12,o_ 14 (d_ cX 13 (.str [])),V_ 2 14]) (sr [K_ 16 4 2,V_ 15 16] (cd 15 (rr [A_ 17 1 1,L_ 18 17,K_ 19 18 0,V_ 20 19,eo 20 21 2 1,fa 20 22 21,g_ 20 23 (u_ mY 22),g_ 20 24 (di HH 23 64),P_ 25 20 24,V_ 2 25]) (sr [K_ 27 4 3,V_ 26 27] (cd 26 (rr [A_ 28 2 1,L_ 29 28,o_ 30 (d_ cX 29 (.str [])),V_ 31 30,eo 31 32 1 1,fa 31 33 32,g_ 31 34 (di cX 33 0),jo 31 35 34,gQ 35 36 1 1,ij 35 37 36,h_ 35 38 (di cX 37 1),g_ 31 39 (q_ 35 38),P_ 40 31 39,V_ 2 40]) .skip)))))))))) (rr [F_ 2])),41⟩
theorem c88:cF 88=some A88:=by kernel_rfl
def Vz:=R_ [I_ 4 0,I_ 5 5]
def ad0:=R_ [N_ 14 3 2,N_ 15 3 3,y_ 16 164 [z_ 14,z_ 15],V_ 4 16,I_ 5 0]
def A89:CF:=⟨[aI 4,aI 5],sr [X_ 2 0,X_ 3 1,I_ 4 0,I_ 5 0] (ir [N_ 6 3 2,y_ 7 88 [z_ 6],o_ 8 (un 7),V_ 9 8,Lq 9 10 3 3,kM (z_ 9) false (bm 11) 88 [z_ 10],h_ 9 12 (un 11),Q_ 13 9 12] 13 (rt Vz) (rt ad0)),17⟩
theorem c89:cF 89=some A89:=by kernel_rfl
def A90:CF:=⟨[aI 0],sr [o_ 0 (c_ (.al .nilFunc))] (sr [o_ 1 (ak ya 1),oP pZ (dm 1 (z_ 1) (kI 0))] (rr [o_ 2 (iH (.func 165) [] [z_ 1]),V_ 0 2])),3⟩
theorem c90:cF 90=some A90:=by kernel_rfl
def Vt:=R_ [V_ 17 6,H_ 18 17 0]
def adW:=R_ [V_ 19 6,o_ 4 (c_ (.str [])),V_ 5 19]
def adV:=R_ [y_ 20 166 [],V_ 7 20]
def adU:=R_ [I_ 8 0]
def Vy:=R_ [V_ 46 9,V_ 47 10,V_ 48 8,o_ 49 (b_ lD 47 48),o_ 50 (e2 (dq .shl) (aT (.int .u8 1)) (z_ 49)),o_ 51 (b_ (dq .or) 46 50),V_ 9 51]
def ID:=R_ [V_ 38 10,D_ 39 38 1,V_ 10 39]
def Gs:CT:=lr [V_ 28 10,V_ 29 1,E_ 30 29,B_ 31 28 30,V_ 32 31,jo 32 33 10,jo 32 34 8,g_ 32 35 (di rG 34 8),g_ 32 36 (b_ sK 33 35),P_ 37 32 36] 37 2 3 (sr [V_ 40 1,V_ 41 10,J_ 42 3 40 41,A_ 43 0 42,L_ 44 43,K_ 45 44 0] (cd 45 Vy .skip)) ID
def Vx:=R_ [V_ 52 7,V_ 53 9,y_ 54 167 [z_ 52,z_ 53]]
def Vw:=R_ [V_ 25 8,D_ 26 25 8,V_ 8 26]
def Ol:CT:=lr [V_ 21 8,V_ 22 1,E_ 23 22,B_ 24 21 23] 24 0 1 (sr [o_ 9 (c_ (.int .u8 0))] (sq (sr [V_ 27 8,V_ 10 27] (bl 2 Gs)) Vx)) Vw
def Vv:=R_ [y_ 55 168 [],o_ 11 (ak Z9 9),S_ 9 11 55]
def Vu:=R_ [V_ 56 1,E_ 57 56,I_ 58 0]
def Vs:CT:=.fb [65,66,67,68,69,70,71,72,73] [bP [13] 65 0 13 1,cC [65] 66 65 1,i_ [66] 67 (di lD 66 1) 1,i_ [11,67] 68 (b_ (f_ 3 3) 11 67) 1,bP [68] 69 1 68 1,cC [69] 70 69 1,bu [7] 71 7 1,m9 [13] 72 3 13 1,vI [70,71,72] (bm 73) (z_ 70) [z_ 71,z_ 72]]
def xF:=R_ [D_ 74 58 1,V_ 58 74]
def N9:CT:=sr [B_ 59 58 57] (sq (cd 59 .skip (.exit 4)) (sq (.block 5 (sr [J_ 60 3 56 58,N_ 61 3 60,o_ 13 (ak fq 3),S_ 3 13 61] (sr [A_ 62 0 13,L_ 63 62,H_ 64 63 0] (cd 64 Vs .skip)))) xF))
def Vr:=R_ [V_ 75 7,y_ 76 169 [z_ 75],o_ 77 (di qP 76 160)]
def Vq:=R_ [o_ 4 (c_ (.str [])),I_ 5 51]
def Vp:=R_ [V_ 78 7,y_ 79 170 [z_ 78],o_ 80 (HS (z_ 79)),V_ 4 80,I_ 5 0]
def A91:CF:=⟨[aI 4,aI 5],sr [o_ 4 (c_ (.str [])),I_ 5 0] (sq (sr [V_ 14 0,V_ 15 1,y_ 16 38 [z_ 14,z_ 15],V_ 6 16] (sq Vt (cd 18 (rt adW) .skip))) (sq adV (sq (sq adU (bl 0 Ol)) (sq Vv (sq (sq Vu (bl 4 N9)) (iq Vr 77 (rt Vq) (rt Vp))))))),81⟩
theorem c91:cF 91=some A91:=by kernel_rfl
def adT:=R_ [V_ 23 5,N_ 24 6 7,o_ 25 (aK QH 1 6 [(0,6,z_ 24)]),o_ 26 (db 6 56 (z_ 23) (z_ 25)),V_ 5 26]
def Vo:=R_ [D_ 27 11 1,V_ 11 27]
def N8:CT:=sr [B_ 12 11 10] (sq (cd 12 .skip (.exit 0)) (sq (.block 1 (sr [J_ 13 6 9 11,N_ 14 6 13,o_ 7 (ak QH 6),S_ 6 7 14] (sr [A_ 15 1 7,L_ 16 15,V_ 17 1,o_ 18 (b_ cX 16 17)] (cd 18 (sr [A_ 19 3 7,L_ 20 19,y_ 21 59 [z_ 20],A_ 22 3 7,S_ 1 22 21] adT) .skip)))) Vo))
def adS:=R_ [V_ 28 5,V_ 4 28]
def A92:CF:=⟨[aI 4],sr [X_ 2 0,o_ 4 (c_ (.al (.slice none 0 0)))] (sr [o_ 5 (c_ (.al (.slice none 0 0)))] (sq (sr [A_ 8 1 2,L_ 9 8,E_ 10 9,I_ 11 0] (bl 0 N8)) (rt adS))),29⟩
theorem c92:cF 92=some A92:=by kernel_rfl
def Vm:=R_ [V_ 27 8,V_ 28 27,qa 28 29 1,qa 28 30 10,h_ 28 31 (b_ (e9 3) 29 30),gQ 28 32 0 31,ij 28 33 32,h_ 28 34 (di cX 33 0),Q_ 35 28 34,V_ 8 35]
def Vl:=R_ [D_ 36 16 1,V_ 16 36]
def Zr:CT:=sr [B_ 17 16 15] (sq (cd 17 .skip (.exit 0)) (sq (.block 1 (sr [J_ 18 1 14 16,L_ 19 18,V_ 10 19] (sr [V_ 20 7,V_ 21 1,V_ 22 10,J_ 23 3 21 22,N_ 24 3 23,o_ 25 (aK fq 1 3 [(0,3,z_ 24)]),o_ 26 (db 3 32 (z_ 20) (z_ 25)),V_ 7 26] Vm))) Vl))
def adR:=R_ [V_ 38 7,y_ 39 171 [z_ 38],V_ 37 39,W_ 40 0 37,W_ 41 1 37,V_ 11 40,V_ 12 41]
def Vn:=R_ [V_ 42 11,V_ 43 8,V_ 44 12,V_ 4 42,V_ 5 43,V_ 6 44]
def A93:CF:=⟨[aI 4,aI 5,aI 6],sr [X_ 2 0,o_ 4 (c_ (.str [])),F_ 5,I_ 6 0] (sr [o_ 7 (c_ (.al (.slice none 0 0)))] (sr [F_ 8] (sq (sr [A_ 13 3 2,L_ 14 13,E_ 15 14,I_ 16 0] (bl 0 Zr)) (sq adR (rt Vn))))),45⟩
theorem c93:cF 93=some A93:=by kernel_rfl
def Me:=R_ [V_ 25 9,o_ 26 (un 25)]
def Vj:=R_ [V_ 27 5,V_ 28 8,o_ 29 (jq .s (.int .i64 0) false (z_ 27) (z_ 28)),D_ 30 29 1,oP pZ (kC .s (z_ 27) (z_ 28) (z_ 30))]
def Vi:=R_ [V_ 31 5,V_ 32 8,o_ 33 (jq .s (.int .i64 0) false (z_ 31) (z_ 32)),o_ 34 (di qP 33 1)]
def adQ:=R_ [T_ 4]
def IC:=R_ [D_ 35 14 1,V_ 14 35]
def Zq:CT:=sr [B_ 15 14 13] (sq (cd 15 .skip (.exit 0)) (sq (.block 1 (sr [J_ 16 1 12 14,L_ 17 16,V_ 7 17] (sr [N_ 19 6 2,V_ 20 7,y_ 21 93 [z_ 19,z_ 20],V_ 18 21,W_ 22 0 18,W_ 23 1 18,W_ 24 2 18,V_ 8 22,V_ 9 23,V_ 10 24] (sq Me (cd 26 (sq Vj (sq Vi (cd 34 (rt adQ) .skip))) .skip))))) IC))
def Vk:=R_ [F_ 4]
def A94:CF:=⟨[aI 4],sr [X_ 2 0,F_ 4] (sr [o_ 11 (kD),V_ 5 11] (sq (sr [V_ 12 1,E_ 13 12,I_ 14 0] (bl 0 Zq)) (rt Vk))),36⟩
theorem c94:cF 94=some A94:=by kernel_rfl
def A109:CF:=⟨[aI 2],sr [F_ 2] (rr [V_ 3 0,y_ 4 81 [z_ 3],V_ 5 4,jo 5 6 0,kM (z_ 5) true (bm 7) 192 [z_ 6],g_ 5 8 (un 7),P_ 9 5 8,V_ 2 9]),10⟩
theorem c109:cF 109=some A109:=by kernel_rfl
def A110:CF:=⟨[aI 4],sr [F_ 4] (rr [V_ 5 0,o_ 6 (di rX 5 1),V_ 7 6,jo 7 8 0,jo 7 9 1,g_ 7 10 (b_ HH 8 9),P_ 11 7 10,V_ 4 11]),12⟩
theorem c110:cF 110=some A110:=by kernel_rfl
def C0:=R_ [A_ 49 5 1,oP pZ (dm 1 (z_ 49) (aT (.str []))),A_ 50 4 1,oP pZ (dm 1 (z_ 50) (aT (.str [])))]
def CZ:=R_ [V_ 51 5,V_ 52 51,GI 52 53 8 1,kM (z_ 52) true (bm 54) 193 [z_ 53,kI 2],P_ 55 52 54,V_ 2 55]
def jY:=R_ [A_ 84 7 1,L_ 85 84,E_ 86 85,V_ 87 3,o_ 88 (b_ kH 86 87),V_ 89 88,gQ 89 90 1 1,Lq 89 91 3 90,h_ 89 92 (aN fq 3 []),h_ 89 93 (b_ (ly true [.i,.i,.s]) 91 92),Q_ 94 89 93,V_ 95 94,gQ 95 96 4 1,ij 95 97 96,h_ 95 98 (d_ kH 97 (.str [])),Q_ 99 95 98,V_ 100 99,gQ 100 101 5 1,ij 100 102 101,h_ 100 103 (d_ kH 102 (.str [])),Q_ 104 100 103,V_ 105 104,gQ 105 106 6 1,ij 105 107 106,h_ 105 108 (di kH 107 0),Q_ 109 105 108]
def kY:=R_ [F_ 2]
def vd:=R_ [A_ 110 7 1,L_ 111 110,E_ 112 111,I_ 113 0]
def N2:=R_ [F_ 2]
def N1:=R_ [D_ 120 113 1,V_ 113 120]
def xY:CT:=sr [B_ 114 113 112] (sq (cd 114 .skip (.exit 1)) (sq (.block 2 (sr [J_ 115 8 111 113,N_ 116 8 115,o_ 7 (ak ug 8),S_ 8 7 116] (sr [N_ 117 8 7,y_ 118 111 [z_ 117],o_ 119 (un 118)] (cd 119 (rt N2) .skip)))) N1))
def vc:=R_ [T_ 2]
def A111:CF:=⟨[aI 2],sr [X_ 1 0,F_ 2] (sr [I_ 3 2] (sq (.block 0 (sr [A_ 9 0 1,L_ 10 9,K_ 11 10 1,V_ 8 11] (cd 8 (sr [A_ 12 1 1,N_ 13 3 12,o_ 4 (ak fq 3),S_ 3 4 13] (sr [o_ 14 (aN fq 3 []),A_ 15 1 1,S_ 3 15 14] (rr [N_ 16 8 1,y_ 17 193 [z_ 16,kI 1],V_ 18 17,GI 18 19 3 4,kM (z_ 18) true (bm 20) 88 [z_ 19],P_ 21 18 20,V_ 22 21,eo 22 23 0 4,fa 22 24 23,g_ 22 25 (di kH 24 1),jo 22 26 25,gQ 26 27 1 4,ij 26 28 27,h_ 26 29 (di rX 28 0),g_ 22 30 (q_ 26 29),P_ 31 22 30,V_ 2 31]))) (sr [A_ 33 0 1,L_ 34 33,K_ 35 34 2,V_ 32 35] (cd 32 (sr [A_ 36 5 1,L_ 37 36,y_ 38 109 [z_ 37],V_ 39 38,eo 39 40 4 1,fa 39 41 40,g_ 39 42 (d_ cX 41 (.str [])),jo 39 43 42,gQ 43 44 4 1,ij 43 45 44,kM (z_ 43) false (bm 46) 109 [z_ 45],g_ 39 47 (q_ 43 46),P_ 48 39 47,V_ 5 48] (sq C0 (rt CZ))) (sr [A_ 57 0 1,L_ 58 57,K_ 59 58 4,V_ 60 59,gQ 60 61 0 1,ij 60 62 61,h_ 60 63 (di cX 62 5),Q_ 64 60 63,V_ 65 64,gQ 65 66 0 1,ij 65 67 66,h_ 65 68 (di cX 67 6),Q_ 69 65 68,V_ 70 69,gQ 70 71 0 1,ij 70 72 71,h_ 70 73 (di cX 72 7),Q_ 74 70 73,V_ 56 74] (cd 56 (R_ [I_ 3 1]) (sr [A_ 76 0 1,L_ 77 76,o_ 78 (di sK 77 8),V_ 79 78,gQ 79 80 0 1,ij 79 81 80,h_ 79 82 (di qP 81 21),Q_ 83 79 82,V_ 75 83] (cd 75 (rr [F_ 2]) .skip))))))))) (iq jY 109 (rt kY) (sq (sq vd (bl 1 xY)) (rt vc))))),121⟩
theorem c111:cF 111=some A111:=by kernel_rfl
def A112:CF:=⟨[aI 2],sr [X_ 1 0,F_ 2] (rr [N_ 3 8 1,y_ 4 194 [z_ 3],V_ 5 4,Lq 5 6 8 1,kM (z_ 5) false (bm 7) 111 [z_ 6],Q_ 8 5 7,V_ 2 8]),9⟩
theorem c112:cF 112=some A112:=by kernel_rfl
def Zl:=R_ [A_ 10 4 1,N_ 11 8 10,y_ 12 112 [z_ 11],V_ 13 12,eo 13 14 3 1,fa 13 15 14,g_ 13 16 (u_ aZ 15),g_ 13 17 (di HH 16 4),P_ 18 13 17,V_ 19 18,eo 19 20 12 1,fa 19 21 20,g_ 19 22 (u_ aZ 21),g_ 19 23 (di HH 22 16),P_ 24 19 23,V_ 25 24,eo 25 26 14 1,fa 25 27 26,g_ 25 28 (di rX 27 0),P_ 29 25 28,V_ 30 29,eo 30 31 13 1,fa 30 32 31,jo 30 33 32,gQ 33 34 14 1,ij 33 35 34,h_ 33 36 (di cX 35 0),g_ 30 37 (q_ 33 36),P_ 38 30 37,V_ 3 38]
def Zk:=R_ [A_ 39 1 1,L_ 40 39]
def Zj:=R_ [V_ 41 3,V_ 42 41,eo 42 43 2 1,fa 42 44 43,g_ 42 45 (u_ aZ 44),g_ 42 46 (di cX 45 0),P_ 47 42 46,V_ 3 47]
def Zi:=R_ [A_ 55 2 1,L_ 56 55,E_ 57 56,I_ 58 0]
def ZQ:CT:=sr [B_ 59 58 57] (sq (cd 59 .skip (.exit 0)) (sq (.block 1 (sr [J_ 60 9 56 58,N_ 61 9 60,o_ 5 (ak afz 9),S_ 9 5 61] (R_ [V_ 62 3,V_ 63 62,eo 63 64 0 5,GI 63 65 8 64,kM (z_ 63) true (bm 66) 111 [z_ 65],P_ 67 63 66,V_ 68 67,eo 68 69 8 5,fa 68 70 69,g_ 68 71 (d_ cX 70 (.str [])),jo 68 72 71,gQ 72 73 8 5,ij 72 74 73,kM (z_ 72) false (bm 75) 109 [z_ 74],g_ 68 76 (q_ 72 75),P_ 77 68 76,V_ 3 77]))) (R_ [D_ 78 58 1,V_ 58 78])))
def NZ:=R_ [A_ 79 3 1,L_ 80 79,E_ 81 80,I_ 82 0]
def CY:=R_ [V_ 87 3,V_ 88 87,eo 88 89 0 7,fa 88 90 89,kM (z_ 88) true (bm 91) 109 [z_ 90],P_ 92 88 91,V_ 93 92,eo 93 94 1 7,fa 93 95 94,g_ 93 96 (d_ cX 95 (.str [])),jo 93 97 96,gQ 97 98 1 7,ij 97 99 98,kM (z_ 97) false (bm 100) 109 [z_ 99],g_ 93 101 (q_ 97 100),P_ 102 93 101,V_ 103 102,jo 103 104 6,g_ 103 105 (di cX 104 0),jo 103 106 105,eo 106 107 2 7,GI 106 108 8 107,kM (z_ 106) true (bm 109) 194 [z_ 108],g_ 103 110 (p_ 106 109),jo 103 111 110,qa 111 112 6,h_ 111 113 (di qP 112 0),qa 111 114 113,eo 114 115 2 7,GI 114 116 8 115,kM (z_ 114) true (bm 117) 111 [z_ 116],h_ 111 118 (p_ 114 117),g_ 103 119 (q_ 111 118),P_ 120 103 119,V_ 3 120]
def CX:=R_ [D_ 121 82 1,V_ 82 121]
def ZP:CT:=sr [B_ 83 82 81] (sq (cd 83 .skip (.exit 2)) (sq (.block 3 (sr [V_ 84 82,J_ 85 10 80 82,N_ 86 10 85,o_ 7 (ak OH 10),V_ 6 84,S_ 10 7 86] CY)) CX))
def CW:=R_ [A_ 122 12 1,L_ 123 122,E_ 124 123,I_ 125 0]
def J4:CT:=sr [B_ 126 125 124] (sq (cd 126 .skip (.exit 4)) (sq (.block 5 (sr [J_ 127 2 123 125,N_ 128 2 127,o_ 9 (ak [.str [],.bool false] 2),S_ 2 9 128] (R_ [V_ 129 3,V_ 130 129,eo 130 131 0 9,fa 130 132 131,kM (z_ 130) true (bm 133) 109 [z_ 132],P_ 134 130 133,V_ 3 134]))) (R_ [D_ 135 125 1,V_ 125 135])))
def CV:=R_ [V_ 136 3,V_ 2 136]
def A113:CF:=⟨[aI 2],sr [X_ 1 0,F_ 2] (sq Zl (sq (sq Zk (cd 40 Zj (R_ [V_ 48 3,V_ 49 48,eo 49 50 2 1,fa 49 51 50,g_ 49 52 (u_ aZ 51),kM (z_ 49) true (bm 53) 110 [z_ 52,kI 16],P_ 54 49 53,V_ 3 54]))) (sq (sq Zi (bl 0 ZQ)) (sq (sq NZ (bl 2 ZP)) (sq (sq CW (bl 4 J4)) (rt CV)))))),137⟩
theorem c113:cF 113=some A113:=by kernel_rfl
def Zh:CT:=.fb [7,8,9,10,5,6] [bP [2] 7 16 2 1,m9 [7] 8 15 7 1,i_ [] 5 (ak z8_ 15) 1,i_ [] 6 (ak z8_ 15) 1,j_ [5,8] (s_ 15 5 8),bP [3] 9 16 3 2,m9 [9] 10 15 9 2,j_ [6,10] (s_ 15 6 10)]
def Zg:=R_ [A_ 11 1 2,L_ 12 11,A_ 13 1 3,L_ 14 13,o_ 15 (b_ cX 12 14),V_ 16 15,eo 16 17 2 2,fa 16 18 17,eo 16 19 2 3,fa 16 20 19,g_ 16 21 (b_ cX 18 20),P_ 22 16 21,V_ 23 22,eo 23 24 3 2,fa 23 25 24,g_ 23 26 (u_ aZ 25),eo 23 27 3 3,fa 23 28 27,g_ 23 29 (u_ aZ 28),g_ 23 30 (b_ cX 26 29),P_ 31 23 30,V_ 32 31,eo 32 33 4 2,fa 32 34 33,g_ 32 35 (u_ aZ 34),eo 32 36 4 3,fa 32 37 36,g_ 32 38 (u_ aZ 37),g_ 32 39 (b_ cX 35 38),P_ 40 32 39,V_ 41 40,eo 41 42 5 2,fa 41 43 42,eo 41 44 5 3,fa 41 45 44,g_ 41 46 (b_ (js false .bool) 43 45),P_ 47 41 46,V_ 48 47,eo 48 49 6 2,fa 48 50 49,g_ 48 51 (u_ aZ 50),eo 48 52 6 3,fa 48 53 52,g_ 48 54 (u_ aZ 53),g_ 48 55 (b_ cX 51 54),P_ 56 48 55,V_ 57 56,eo 57 58 7 2,fa 57 59 58,g_ 57 60 (u_ aZ 59),eo 57 61 7 3,fa 57 62 61,g_ 57 63 (u_ aZ 62),g_ 57 64 (b_ cX 60 63),P_ 65 57 64,V_ 66 65,eo 66 67 8 2,eo 66 68 0 67,fa 66 69 68,eo 66 70 8 3,eo 66 71 0 70,fa 66 72 71,g_ 66 73 (b_ cX 69 72),jo 66 74 73,eo 74 75 8 3,eo 74 76 0 75,fa 74 77 76,g_ 74 78 (di kH 77 0),jo 74 79 78,gQ 79 80 8 2,Lq 79 81 8 80,kM (z_ 79) false (bm 82) 194 [z_ 81],g_ 74 83 (q_ 79 82),g_ 66 84 (p_ 74 83),P_ 85 66 84,V_ 86 85,eo 86 87 0 5,fa 86 88 87,eo 86 89 0 6,fa 86 90 89,g_ 86 91 (b_ (js false .bool) 88 90),P_ 92 86 91,V_ 93 92,eo 93 94 1 5,fa 93 95 94,eo 93 96 1 6,fa 93 97 96,g_ 93 98 (b_ (js false .bool) 95 97),P_ 99 93 98,V_ 100 99,eo 100 101 2 5,fa 100 102 101,g_ 100 103 (u_ aZ 102),eo 100 104 2 6,fa 100 105 104,g_ 100 106 (u_ aZ 105),g_ 100 107 (b_ cX 103 106),P_ 108 100 107,V_ 109 108,eo 109 110 3 5,fa 109 111 110,g_ 109 112 (u_ aZ 111),eo 109 113 3 6,fa 109 114 113,g_ 109 115 (u_ aZ 114),g_ 109 116 (b_ cX 112 115),P_ 117 109 116,V_ 118 117,eo 118 119 4 5,eo 118 120 0 119,fa 118 121 120,eo 118 122 4 6,eo 118 123 0 122,fa 118 124 123,g_ 118 125 (b_ cX 121 124),jo 118 126 125,eo 126 127 4 6,eo 126 128 0 127,fa 126 129 128,g_ 126 130 (di kH 129 0),jo 126 131 130,gQ 131 132 4 5,Lq 131 133 8 132,kM (z_ 131) false (bm 134) 194 [z_ 133],g_ 126 135 (q_ 131 134),g_ 118 136 (p_ 126 135),P_ 137 118 136,V_ 138 137,eo 138 139 12 5,fa 138 140 139,g_ 138 141 (u_ aZ 140),eo 138 142 12 6,fa 138 143 142,g_ 138 144 (u_ aZ 143),g_ 138 145 (b_ cX 141 144),P_ 146 138 145,V_ 147 146,eo 147 148 13 5,fa 147 149 148,eo 147 150 13 6,fa 147 151 150,g_ 147 152 (b_ (js false .bool) 149 151),P_ 153 147 152,V_ 154 153,eo 154 155 14 5,fa 154 156 155,eo 154 157 14 6,fa 154 158 157,g_ 154 159 (b_ cX 156 158),P_ 160 154 159,V_ 4 160]
def A114:CF:=⟨[aI 4],sr [X_ 2 0,X_ 3 1,F_ 4] (sq Zh (rt Zg)),161⟩
theorem c114:cF 114=some A114:=by kernel_rfl
def A115:CF:=⟨[bU 4 4,aI 5],sr [X_ 2 0,X_ 3 1,o_ 4 (ak uG 4),F_ 5] (rr [A_ 6 0 2,L_ 7 6,o_ 8 (iH (.func 195) [] [z_ 3]),y_ 9 125 [z_ 7,z_ 8],W_ 10 0 9,W_ 11 1 9,y_ 12 124 [z_ 10,z_ 11],W_ 13 0 12,W_ 14 1 12,S_ 4 4 13,V_ 5 14]),15⟩
theorem c115:cF 115=some A115:=by kernel_rfl
def ai2:CT:=sr [B_ 9 8 7] (sq (cd 9 .skip (.exit 0)) (sq (.block 1 (sr [V_ 10 8,V_ 5 10] (sr [V_ 11 1,V_ 12 0,V_ 13 5,J_ 14 3 12 13,N_ 15 3 14,vP (bm 16) (z_ 11) [z_ 15]] (cd 16 (rr [V_ 17 5,V_ 4 17]) .skip)))) (R_ [D_ 18 8 1,V_ 8 18])))
def A118:CF:=⟨[aI 4],sr [I_ 4 0] (sq (sr [V_ 6 0,E_ 7 6,I_ 8 0] (bl 0 ai2)) (rr [o_ 4 (c_ (.int .i64 (-1)))])),19⟩
theorem c118:cF 118=some A118:=by kernel_rfl
def A120:CF:=⟨[aI 4],sr [F_ 4] (rr [V_ 5 0,V_ 6 1,y_ 7 134 [z_ 5,z_ 6],o_ 8 (di rX 7 0),V_ 4 8]),9⟩
theorem c120:cF 120=some A120:=by kernel_rfl
def A124:CF:=⟨[bU 4 4,aI 5],sr [X_ 2 0,o_ 4 (ak uG 4),F_ 5] (sr [A_ 6 2 2,L_ 7 6,y_ 8 57 [z_ 7],A_ 9 2 2,S_ 1 9 8] (rr [N_ 10 4 2,V_ 11 1,S_ 4 4 10,V_ 5 11])),12⟩
theorem c124:cF 124=some A124:=by kernel_rfl
def ai1:CT:=sr [B_ 12 11 10] (sq (cd 12 .skip (.exit 0)) (sq (.block 1 (sr [J_ 13 4 9 11,N_ 14 4 13,o_ 7 (ak uG 4),S_ 4 7 14] (sr [V_ 15 1,N_ 16 4 7,vP (bm 17) (z_ 15) [z_ 16]] (cd 17 (rr [N_ 18 4 7,S_ 4 4 18,T_ 5]) .skip)))) (R_ [D_ 19 11 1,V_ 11 19])))
def A125:CF:=⟨[bU 4 4,aI 5],sr [o_ 4 (ak uG 4),F_ 5] (sq (sr [V_ 9 0,E_ 10 9,I_ 11 0] (bl 0 ai1)) (sr [o_ 8 (ak uG 4)] (rr [N_ 20 4 8,S_ 4 4 20,F_ 5]))),21⟩
theorem c125:cF 125=some A125:=by kernel_rfl
def A126:CF:=⟨[aI 3],sr [X_ 2 0,F_ 3] (rr [A_ 4 0 2,L_ 5 4,L_ 6 1,o_ 7 (b_ cX 5 6),V_ 3 7]),8⟩
theorem c126:cF 126=some A126:=by kernel_rfl
def CU:=R_ [V_ 18 0,V_ 19 10,H_ 20 19 0,V_ 21 20,jo 21 22 10,jo 21 23 3,g_ 21 24 (b_ kH 22 23),P_ 25 21 24,y_ 26 50 [z_ 18,kI 203,z_ 25]]
def CS:=R_ [N_ 27 8 9,S_ 8 8 27]
def A127:CF:=⟨[bU 8 8],sr [X_ 5 1,X_ 6 2,o_ 8 (ak ug 8)] (sr [V_ 12 0,N_ 13 2 5,N_ 14 8 6,y_ 15 128 [z_ 12,z_ 13,z_ 14],V_ 11 15,W_ 16 0 11,W_ 17 1 11,o_ 9 (ak ug 8),S_ 8 9 16,V_ 10 17] (sq CU (rt CS))),28⟩
theorem c127:cF 127=some A127:=by kernel_rfl
def Zf:=R_ [o_ 9 (ak [(.al .nilFunc)] 1)]
def Ze:=R_ [o_ 12 (iH (.func 197) [] [z_ 4,z_ 3,z_ 8,z_ 9]),S_ 1 9 12]
def Zd:=R_ [L_ 13 9,N_ 14 8 5,vP (bm 15) (z_ 13) [z_ 14],W_ 16 0 15,W_ 17 1 15,S_ 8 6 16,V_ 7 17]
def A128:CF:=⟨[bU 6 8,aI 7],sr [X_ 3 0,X_ 4 1,X_ 5 2,o_ 6 (ak ug 8),I_ 7 0] (sr [N_ 10 2 4,y_ 11 196 [z_ 10],o_ 8 (ak rZ 1),S_ 1 8 11] (sq Zf (sq Ze (rt Zd)))),18⟩
theorem c128:cF 128=some A128:=by kernel_rfl
def Zc:=R_ [V_ 19 0,A_ 20 1 5,L_ 21 20,E_ 22 21,K_ 23 22 0,y_ 24 50 [z_ 19,kI 200,z_ 23]]
def Zb:=R_ [V_ 25 0,N_ 26 2 5,y_ 27 196 [z_ 26],E_ 28 27,o_ 29 (di qP 28 16),y_ 30 50 [z_ 25,kI 3,z_ 29]]
def Za:=R_ [A_ 31 1 5,L_ 32 31,E_ 33 32,I_ 34 0]
def NY:CT:=.fb [45,46,47,48,49,50,51,52,53,54,55,56,57,58,59,60] [bu [3] 45 3 1,i_ [45] 46 (aU (z_ 45)) 1,bP [46] 47 18 46 1,cC [47] 48 47 1,bu [3] 49 3 1,i_ [49] 50 (aU (z_ 49)) 1,bP [50] 51 18 50 1,cC [51] 52 51 1,i_ [52] 53 (u_ aZ 52) 1,i_ [53] 54 (aN ug 8 [(0,1,kI 3),(6,1,z_ 53)]) 1,i_ [48] 55 (u_ aZ 48) 1,i_ [] 56 (aK ug 1 8 [(0,8,(aT (.agg ug 8)))]) 1,mI [48,56] (bm 57) (db 8 104 (z_ 48) (z_ 56)),jK [57,55] 58 8 57 55 0,i_ [45] 59 (aU (z_ 45)) 0,bP [59] 60 18 59 0,fI [58,54] pZ (s_ 8 58 54),fI [60,57] pZ (s_ 1 60 57)]
def NX:CT:=.fb [61,62,63,64,65,66,67,68,69,70,71,72,73,74,75,76,77,78,79,80,81,82] [bu [3] 63 3 1,i_ [63] 64 (aU (z_ 63)) 1,bP [64] 65 19 64 1,cC [65] 66 65 1,bP [11] 67 0 11 1,cC [67] 68 67 1,i_ [68] 69 (aK [.str []] 1 1 [(0,1,z_ 68)]) 1,mI [66,69] (bm 70) (db 1 16 (z_ 66) (z_ 69)),bu [3] 71 3 2,i_ [71] 72 (aU (z_ 71)) 2,bP [72] 73 20 72 2,cC [73] 74 73 2,bP [11] 75 1 11 2,cC [75] 76 75 2,i_ [76] 77 (aK ya 1 1 [(0,1,z_ 76)]) 2,mI [74,77] (bm 78) (db 1 8 (z_ 74) (z_ 77)),bu [3] 61 3 3,i_ [61] 79 (aU (z_ 61)) 1,bP [79] 80 19 79 1,j_ [80,70] (s_ 1 80 70),bu [3] 62 3 4,i_ [62] 81 (aU (z_ 62)) 1,bP [81] 82 20 81 1,j_ [82,78] (s_ 1 82 78)]
def NW:=R_ [D_ 83 41 1,V_ 41 83]
def Du:CT:=sr [B_ 42 41 40] (sq (cd 42 .skip (.exit 2)) (sq (.block 3 (sr [J_ 43 3 39 41,N_ 44 3 43,o_ 11 (ak Dz 3),S_ 3 11 44] (sq NY NX))) NW))
def NU:=R_ [D_ 84 34 1,V_ 34 84]
def Dq:CT:=sr [B_ 35 34 33] (sq (cd 35 .skip (.exit 0)) (sq (.block 1 (sr [J_ 36 4 32 34,N_ 37 4 36,o_ 9 (ak uG 4),S_ 4 9 37] (sr [A_ 38 2 9,L_ 39 38,E_ 40 39,I_ 41 0] (bl 2 Du)))) NU))
def CQ:=R_ [A_ 85 2 6,L_ 86 85,E_ 87 86,I_ 88 0]
def Dp:CT:=sr [B_ 89 88 87] (sq (cd 89 .skip (.exit 4)) (sq (.block 5 (sr [J_ 90 9 86 88,N_ 91 9 90,o_ 13 (ak afz 9),S_ 9 13 91] (sr [V_ 93 0,N_ 94 2 5,A_ 95 0 13,N_ 96 8 95,y_ 97 128 [z_ 93,z_ 94,z_ 96],V_ 92 97,W_ 98 0 92,W_ 99 1 92,o_ 14 (ak ug 8),S_ 8 14 98,V_ 15 99] (sr [A_ 100 8 13,L_ 101 100,V_ 16 101] (ir [V_ 102 16,o_ 103 (d_ cX 102 (.str [])),V_ 104 103,eo 104 105 0 13,eo 104 106 0 105,fa 104 107 106,g_ 104 108 (di cX 107 2),P_ 109 104 108] 109 (R_ [A_ 110 0 13,A_ 111 5 110,L_ 112 111,V_ 16 112]) (.fb [113,114,115,116,117,118,119,120,121,122,123,124,125,126,127,128,129,130,131,132,133,134,135,136,137,138,139,140,141,142] [bu [3] 116 3 1,i_ [116] 117 (aU (z_ 116)) 1,bP [117] 118 18 117 1,cC [118] 119 118 1,m9 [14] 120 8 14 1,i_ [120] 121 (aK ug 1 8 [(0,8,z_ 120)]) 1,mI [119,121] (bm 122) (db 8 104 (z_ 119) (z_ 121)),bu [3] 123 3 2,i_ [123] 124 (aU (z_ 123)) 2,bP [124] 125 19 124 2,cC [125] 126 125 2,bu [16] 127 16 2,i_ [127] 128 (aK [.str []] 1 1 [(0,1,z_ 127)]) 2,mI [126,128] (bm 129) (db 1 16 (z_ 126) (z_ 128)),bu [3] 130 3 3,i_ [130] 131 (aU (z_ 130)) 3,bP [131] 132 20 131 3,cC [132] 133 132 3,bu [15] 134 15 3,i_ [134] 135 (aK ya 1 1 [(0,1,z_ 134)]) 3,mI [133,135] (bm 136) (db 1 8 (z_ 133) (z_ 135)),bu [3] 113 3 4,i_ [113] 137 (aU (z_ 113)) 1,bP [137] 138 18 137 1,j_ [138,122] (s_ 1 138 122),bu [3] 114 3 5,i_ [114] 139 (aU (z_ 114)) 1,bP [139] 140 19 139 1,j_ [140,129] (s_ 1 140 129),bu [3] 115 3 6,i_ [115] 141 (aU (z_ 115)) 1,bP [141] 142 20 141 1,j_ [142,136] (s_ 1 142 136)])))))) (R_ [D_ 143 88 1,V_ 88 143])))
def A133:CF:=⟨[],sr [X_ 5 1,X_ 6 2] (ir [A_ 17 1 6,L_ 18 17] 18 (sq Zc (sq Zb (sq Za (bl 0 Dq)))) (sq CQ (bl 4 Dp))),144⟩
theorem c133:cF 133=some A133:=by kernel_rfl
def Y':=R_ [V_ 17 5,V_ 4 17]
def Y_:=R_ [D_ 18 8 1,V_ 8 18]
def J3:CT:=sr [B_ 9 8 7] (sq (cd 9 .skip (.exit 0)) (sq (.block 1 (sr [V_ 10 8,V_ 5 10] (sr [V_ 11 1,V_ 12 0,V_ 13 5,J_ 14 1 12 13,L_ 15 14,o_ 16 (b_ cX 11 15)] (cd 16 (rt Y') .skip)))) Y_))
def Y9:=R_ [o_ 4 (c_ (.int .i64 (-1)))]
def A134:CF:=⟨[aI 4],sr [I_ 4 0] (sq (sr [V_ 6 0,E_ 7 6,I_ 8 0] (bl 0 J3)) (rt Y9)),19⟩
theorem c134:cF 134=some A134:=by kernel_rfl
def A135:CF:=⟨[aI 2],sr [o_ 2 (c_ (.al (.slice none 0 0)))] (ir [V_ 3 0,o_ 4 (d_ (js false .slice) 3 (.al (.slice none 0 0)))] 4 (rr [o_ 2 (c_ (.al (.slice none 0 0)))]) (rr [o_ 5 (aK fq 0 3 []),V_ 6 0,o_ 7 (db 3 32 (z_ 5) (z_ 6)),V_ 2 7])),8⟩
theorem c135:cF 135=some A135:=by kernel_rfl
def A136:CF:=⟨[],(R_ [V_ 4 0,V_ 5 0,E_ 6 5,V_ 7 1,y_ 8 203 [z_ 4,z_ 6,z_ 7]]),9⟩
theorem c136:cF 136=some A136:=by kernel_rfl
def A139:CF:=⟨[aI 2],sr [X_ 1 0,I_ 2 0] (rr [L_ 3 1,o_ 4 (aU (z_ 3)),A_ 5 0 4,A_ 6 0 5,A_ 7 0 6,L_ 8 7,o_ 9 (iH (.func 208) [] [z_ 1]),y_ 10 161 [z_ 8,z_ 9],V_ 2 10]),11⟩
theorem c139:cF 139=some A139:=by kernel_rfl
def Y8:=R_ [V_ 24 2,V_ 25 11,vP (bm 26) (z_ 24) [z_ 25]]
def Y7:=R_ [V_ 27 7,N_ 28 3 10,o_ 29 (aK fq 1 3 [(0,3,z_ 28)]),o_ 30 (db 3 32 (z_ 27) (z_ 29)),V_ 7 30]
def Y6:=R_ [D_ 31 14 1,V_ 14 31]
def J2:CT:=sr [B_ 15 14 13] (sq (cd 15 .skip (.exit 0)) (sq (.block 1 (sr [J_ 16 8 12 14,N_ 17 8 16,o_ 9 (ak ug 8),S_ 8 9 17] (sr [N_ 19 8 9,V_ 20 1,y_ 21 212 [z_ 19,z_ 20],V_ 18 21,W_ 22 0 18,W_ 23 1 18,o_ 10 (ak fq 3),S_ 3 10 22,V_ 11 23] (sq Y8 Y7)))) Y6))
def Y5:=R_ [V_ 32 7,V_ 6 32]
def A144:CF:=⟨[aI 6],sr [o_ 6 (c_ (.al (.slice none 0 0)))] (sr [o_ 7 (c_ (.al (.slice none 0 0)))] (sq (sr [V_ 12 0,E_ 13 12,I_ 14 0] (bl 0 J2)) (rt Y5))),33⟩
theorem c144:cF 144=some A144:=by kernel_rfl
def CO:=R_ [V_ 21 7,H_ 22 21 0,V_ 23 22,jo 23 24 7,g_ 23 25 (di kH 24 160),P_ 26 23 25]
def Y4:=R_ [V_ 27 7,V_ 6 27]
def CN:=R_ [V_ 28 1,E_ 29 28,o_ 30 (di qP 29 4096)]
def JL:=R_ [I_ 6 4]
def JK:CT:=.fb [31,32,33,34,35,36,37,38,39,40,41,42] [bu [0] 31 0 1,i_ [31] 32 (aU (z_ 31)) 1,bP [32] 33 0 32 1,bP [33] 34 0 33 1,m9 [34] 35 2 34 1,bu [0] 36 0 1,i_ [36] 37 (aU (z_ 36)) 1,bP [37] 38 3 37 1,bP [38] 39 2 38 1,m9 [39] 40 4 39 1,bu [1] 41 1 1,cI [35,40,41] (bm 42) 41 [z_ 35,z_ 40,z_ 41],bu [42] 8 42 1]
def CM:=R_ [V_ 43 8,H_ 44 43 0]
def JJ:=R_ [V_ 45 8,V_ 6 45]
def JI:CT:=.fb [46,47,48,49,50,51,52,53,54,55] [bu [0] 51 0 1,cI [51] (bm 52) 139 [z_ 51],bu [1] 53 1 2,cI [53] (bm 54) 58 [z_ 53],bu [0] 46 0 3,i_ [46] 47 (aU (z_ 46)) 3,bP [47] 48 0 47 3,bP [48] 49 2 48 3,cC [49] 50 49 3,jK [50,52] 55 1 50 52 1,j_ [55,54] (s_ 1 55 54)]
def CP:=R_ [I_ 6 0]
def A145:CF:=⟨[aI 6],sr [I_ 6 0] (sq (sq (.fb [9,10,11,12,13,14,15,16,17,18,19,20] [bu [0] 9 0 1,i_ [9] 10 (aU (z_ 9)) 1,bP [10] 11 0 10 1,bP [11] 12 0 11 1,m9 [12] 13 2 12 1,bu [0] 14 0 1,i_ [14] 15 (aU (z_ 14)) 1,bP [15] 16 3 15 1,bP [16] 17 2 16 1,m9 [17] 18 4 17 1,bu [2] 19 2 1,cI [13,18,19] (bm 20) 41 [z_ 13,z_ 18,z_ 19],bu [20] 7 20 1]) (sq CO (cd 26 (rt Y4) .skip))) (iq CN 30 (rt JL) (sq (sq JK (sq CM (cd 44 (rt JJ) .skip))) (sq JI (rt CP))))),56⟩
theorem c145:cF 145=some A145:=by kernel_rfl
def A146:CF:=⟨[aI 2],sr [o_ 2 (c_ (.al (.slice none 0 0)))] (ir [V_ 3 0,o_ 4 (d_ (js false .slice) 3 (.al (.slice none 0 0)))] 4 (rr [o_ 2 (c_ (.al (.slice none 0 0)))]) (rr [o_ 5 (aK rZ 0 1 []),V_ 6 0,o_ 7 (db 1 24 (z_ 5) (z_ 6)),V_ 2 7])),8⟩
theorem c146:cF 146=some A146:=by kernel_rfl
def Y3:=R_ [V_ 34 1,V_ 35 9,vP (bm 36) (z_ 34) [z_ 35]]
def JH:=R_ [V_ 37 8]
def Y2:=R_ [V_ 38 4,V_ 39 7,o_ 40 (aK rZ 1 1 [(0,1,z_ 39)]),o_ 41 (db 1 24 (z_ 38) (z_ 40)),V_ 4 41]
def Y1:=R_ [V_ 42 5,V_ 43 7,o_ 44 (aK rZ 1 1 [(0,1,z_ 43)]),o_ 45 (db 1 24 (z_ 42) (z_ 44)),V_ 5 45]
def JG:=R_ [D_ 46 20 1,V_ 20 46]
def Dn:CT:=sr [B_ 21 20 19] (sq (cd 21 .skip (.exit 0)) (sq (.block 1 (sr [J_ 22 1 18 20,L_ 23 22,V_ 7 23] (sr [V_ 25 0,o_ 26 (aU (z_ 25)),A_ 27 3 26,A_ 28 17 27,L_ 29 28,V_ 30 7,y_ 31 150 [z_ 29,z_ 30],V_ 24 31,W_ 32 0 24,W_ 33 1 24,V_ 8 32,V_ 9 33] (sq Y3 (sq JH (cd 37 Y2 Y1)))))) JG))
def NT:=R_ [V_ 47 4,V_ 48 5,V_ 4 47,V_ 5 48]
def A147:CF:=⟨[aI 4,aI 5],sr [o_ 4 (c_ (.al (.slice none 0 0))),o_ 5 (c_ (.al (.slice none 0 0)))] (sq (sq (.fb [10,11,12,13,14,15,16,17,18,19,20] [bu [0] 15 0 1,cI [15] (bm 16) 139 [z_ 15],bu [0] 10 0 2,i_ [10] 11 (aU (z_ 10)) 2,bP [11] 12 0 11 2,bP [12] 13 2 12 2,cC [13] 14 13 2,jK [14,16] 17 1 14 16 1,cC [17] 18 17 1,i_ [18] 19 (u_ aZ 18) 1,i_ [] 20 (c_ (.int .i64 0)) 2]) (bl 0 Dn)) (rt NT)),49⟩
theorem c147:cF 147=some A147:=by kernel_rfl
def A148:CF:=⟨[aI 2],sr [o_ 2 (c_ (.al (.slice none 0 0)))] (ir [V_ 3 0,o_ 4 (d_ (js false .slice) 3 (.al (.slice none 0 0)))] 4 (rr [o_ 2 (c_ (.al (.slice none 0 0)))]) (rr [o_ 5 (aK [.str []] 0 1 []),V_ 6 0,o_ 7 (db 1 16 (z_ 5) (z_ 6)),V_ 2 7])),8⟩
theorem c148:cF 148=some A148:=by kernel_rfl
def Y0:CT:=.fb [11,12,13,14,15,16,17,18,19,7] [cC [3] 11 3 1,i_ [11] 12 (aU (z_ 11)) 1,bP [12] 13 3 12 1,bP [13] 14 15 13 1,cC [14] 15 14 1,cC [4] 16 4 1,i_ [16] 17 (di lD 16 1) 1,jK [15,17] 18 4 15 17 1,m9 [18] 19 4 18 1,i_ [] 7 (ak uG 4) 1,j_ [7,19] (s_ 4 7 19)]
def YZ:=R_ [L_ 20 3,o_ 21 (aU (z_ 20)),A_ 22 0 21,A_ 23 0 22,A_ 24 0 23,L_ 25 24,o_ 26 (iH (.func 214) [] [z_ 7]),y_ 27 161 [z_ 25,z_ 26],o_ 8 (ak ya 1),S_ 1 8 27]
def YY:=R_ [o_ 28 (iH (.func 215) [] [z_ 3,z_ 4,z_ 5,z_ 8]),V_ 6 28]
def A149:CF:=⟨[aI 6],sr [X_ 3 0,X_ 4 1,X_ 5 2,o_ 6 (c_ (.al .nilFunc))] (ir [L_ 9 4,K_ 10 9 0] 10 (rr [o_ 6 (c_ (.fn (.func 213) [] []))]) (sq Y0 (sq YZ (rt YY)))),29⟩
theorem c149:cF 149=some A149:=by kernel_rfl
def YX:=R_ [F_ 4,I_ 5 1]
def YW:=R_ [D_ 23 14 1,V_ 14 23]
def J1:CT:=sr [B_ 15 14 13] (sq (cd 15 .skip (.exit 0)) (sq (.block 1 (sr [J_ 16 8 12 14,N_ 17 8 16,o_ 7 (ak ug 8),S_ 8 7 17] (sr [N_ 18 8 7,V_ 19 1,E_ 20 19,y_ 21 216 [z_ 18,z_ 20],o_ 22 (un 21)] (cd 22 (rt YX) .skip)))) YW))
def YV:=R_ [V_ 24 1,y_ 25 217 [z_ 24],o_ 26 (un 25)]
def YU:=R_ [F_ 4,I_ 5 5]
def YT:=R_ [V_ 27 0,E_ 28 27,I_ 29 0]
def NS:=R_ [V_ 40 11,H_ 41 40 0,V_ 39 41]
def NR:=R_ [V_ 42 11,F_ 4,V_ 5 42]
def NQ:=R_ [A_ 44 0 10,L_ 45 44,H_ 46 45 0,V_ 47 46,eo 47 48 0 10,fa 47 49 48,g_ 47 50 (di kH 49 3),P_ 51 47 50,V_ 43 51]
def NP:=R_ [F_ 4,I_ 5 30]
def CL:CT:=.fb [53,54,55] [cI [] (bm 54) 219 [(aT (.bool true))],m9 [10] 53 3 10 2,i_ [53,54] 55 (b_ (ly true [.i,.i,.s]) 53 54) 1,bu [55] 52 55 1]
def CJ:=R_ [F_ 4,I_ 5 0]
def NN:=R_ [D_ 56 29 1,V_ 29 56]
def J0:CT:=sr [B_ 30 29 28] (sq (cd 30 .skip (.exit 2)) (sq (.block 3 (sr [J_ 31 8 27 29,N_ 32 8 31,o_ 9 (ak ug 8),S_ 8 9 32] (sr [N_ 34 8 9,V_ 35 1,y_ 36 218 [z_ 34,z_ 35],V_ 33 36,W_ 37 0 33,W_ 38 1 33,o_ 10 (ak fq 3),S_ 3 10 37,V_ 11 38] (.block 4 (sq NS (cd 39 (rt NR) (sq NQ (cd 43 (rt NP) (sq CL (cd 52 (rt CJ) .skip)))))))))) NN))
def NM:=R_ [T_ 4,I_ 5 0]
def A150:CF:=⟨[aI 4,aI 5],sr [F_ 4,I_ 5 0] (sq (sr [V_ 12 0,E_ 13 12,I_ 14 0] (bl 0 J1)) (iq YV 26 (rt YU) (sq (sq YT (bl 2 J0)) (rt NM)))),57⟩
theorem c150:cF 150=some A150:=by kernel_rfl
def A153:CF:=⟨[],sr [V_ 5 0,E_ 6 5,V_ 4 6] (R_ [V_ 7 0,V_ 8 4,V_ 9 4,o_ 10 (u_ (cw .u64) 9),y_ 11 221 [z_ 10],V_ 12 1,y_ 13 220 [z_ 7,kI 0,z_ 8,z_ 11,z_ 12]]),14⟩
theorem c153:cF 153=some A153:=by kernel_rfl
def YS:CT:=.fb [55,56,57,58,59,60,61,62,63,64,65] [bP [2] 55 3 2 1,cC [55] 56 55 1,bu [5] 57 5 1,jK [56,57] 58 1 56 57 1,cC [58] 59 58 1,bP [3] 60 3 3 1,cC [60] 61 60 1,bu [5] 62 5 1,jK [61,62] 63 1 61 62 1,cC [63] 64 63 1,i_ [59,64] 65 (b_ kH 59 64) 1]
def YR:=R_ [V_ 53 5,D_ 54 53 1,V_ 5 54]
def JZ:CT:=lr [V_ 48 5,A_ 49 3 2,L_ 50 49,E_ 51 50,B_ 52 48 51] 52 0 1 (sq YS (cd 65 (rr [F_ 4]) .skip)) YR
def YQ:=R_ [T_ 4]
def A155:CF:=⟨[aI 4],sr [X_ 2 0,X_ 3 1,F_ 4] (ir [A_ 6 0 2,L_ 7 6,A_ 8 0 3,L_ 9 8,o_ 10 (b_ kH 7 9),V_ 11 10,gQ 11 12 1 2,ij 11 13 12,gQ 11 14 1 3,ij 11 15 14,h_ 11 16 (b_ kH 13 15),Q_ 17 11 16,V_ 18 17,gQ 18 19 2 2,ij 18 20 19,gQ 18 21 2 3,ij 18 22 21,h_ 18 23 (b_ kH 20 22),Q_ 24 18 23,V_ 25 24,gQ 25 26 4 2,ij 25 27 26,gQ 25 28 4 3,ij 25 29 28,h_ 25 30 (b_ (js true .bool) 27 29),Q_ 31 25 30,V_ 32 31,gQ 32 33 5 2,ij 32 34 33,gQ 32 35 5 3,ij 32 36 35,h_ 32 37 (b_ kH 34 36),Q_ 38 32 37,V_ 39 38,gQ 39 40 3 2,ij 39 41 40,h_ 39 42 (u_ aZ 41),gQ 39 43 3 3,ij 39 44 43,h_ 39 45 (u_ aZ 44),h_ 39 46 (b_ kH 42 45),Q_ 47 39 46] 47 (rr [F_ 4]) (sq (sr [I_ 5 0] (bl 0 JZ)) (rt YQ))),66⟩
theorem c155:cF 155=some A155:=by kernel_rfl
def YP:=R_ [V_ 14 0,A_ 15 3 4,L_ 16 15,vP (bm 17) (z_ 14) [z_ 16],o_ 18 (un 17)]
def YO:=R_ [D_ 19 10 1,V_ 10 19]
def JY:CT:=sr [B_ 11 10 9] (sq (cd 11 .skip (.exit 0)) (sq (.block 1 (sr [J_ 12 4 8 10,N_ 13 4 12,o_ 4 (ak uG 4),S_ 4 4 13] (sq YP (cd 18 .ret .skip)))) YO))
def YN:=R_ [A_ 20 1 1,L_ 21 20,E_ 22 21,I_ 23 0]
def YM:=R_ [V_ 27 0,A_ 28 5 6,L_ 29 28,vP (bm 30) (z_ 27) [z_ 29],o_ 31 (un 30)]
def YL:=R_ [D_ 32 23 1,V_ 23 32]
def JX:CT:=sr [B_ 24 23 22] (sq (cd 24 .skip (.exit 2)) (sq (.block 3 (sr [J_ 25 6 21 23,N_ 26 6 25,o_ 6 (ak QH 6),S_ 6 6 26] (sq YM (cd 31 .ret .skip)))) YL))
def A160:CF:=⟨[],sq (sr [A_ 7 0 1,L_ 8 7,E_ 9 8,I_ 10 0] (bl 0 JY)) (sq YN (bl 2 JX)),33⟩
theorem c160:cF 160=some A160:=by kernel_rfl
def ai0:CT:=sr [B_ 9 8 7] (sq (cd 9 .skip (.exit 0)) (sq (.block 1 (sr [V_ 10 8,V_ 5 10] (sr [V_ 11 1,V_ 12 0,V_ 13 5,J_ 14 4 12 13,N_ 15 4 14,vP (bm 16) (z_ 11) [z_ 15]] (cd 16 (rr [V_ 17 5,V_ 4 17]) .skip)))) (R_ [D_ 18 8 1,V_ 8 18])))
def A161:CF:=⟨[aI 4],sr [I_ 4 0] (sq (sr [V_ 6 0,E_ 7 6,I_ 8 0] (bl 0 ai0)) (rr [o_ 4 (c_ (.int .i64 (-1)))])),19⟩
theorem c161:cF 161=some A161:=by kernel_rfl
def A162:CF:=⟨[aI 4],sr [F_ 4] (rr [V_ 5 0,V_ 6 1,y_ 7 226 [z_ 5,z_ 6],o_ 8 (di rX 7 0),V_ 4 8]),9⟩
theorem c162:cF 162=some A162:=by kernel_rfl
def aiZ:CT:=sr [B_ 9 8 7] (sq (cd 9 .skip (.exit 0)) (sq (.block 1 (sr [V_ 10 8,V_ 5 10] (sr [V_ 11 1,V_ 12 0,V_ 13 5,J_ 14 6 12 13,N_ 15 6 14,vP (bm 16) (z_ 11) [z_ 15]] (cd 16 (rr [V_ 17 5,V_ 4 17]) .skip)))) (R_ [D_ 18 8 1,V_ 8 18])))
def A163:CF:=⟨[aI 4],sr [I_ 4 0] (sq (sr [V_ 6 0,E_ 7 6,I_ 8 0] (bl 0 aiZ)) (rr [o_ 4 (c_ (.int .i64 (-1)))])),19⟩
theorem c163:cF 163=some A163:=by kernel_rfl
def YK:=R_ [o_ 4 (c_ (.int .i64 (-1)))]
def YJ:=R_ [I_ 4 1]
def A164:CF:=⟨[aI 4],sr [X_ 2 0,X_ 3 1,I_ 4 0] (ir [A_ 5 0 2,L_ 6 5,A_ 7 0 3,L_ 8 7,o_ 9 (b_ kH 6 8)] 9 (iq (.fb [10,11,12,13,14,15,16] [bP [2] 10 0 2 1,cC [10] 11 10 1,cI [11] (bm 12) 227 [z_ 11],bP [3] 13 0 3 2,cC [13] 14 13 2,cI [14] (bm 15) 227 [z_ 14],i_ [12,15] 16 (b_ sK 12 15) 1]) 16 (rt YK) (rt YJ)) (ir [A_ 17 0 2,L_ 18 17,K_ 19 18 2] 19 (rr [A_ 20 2 2,L_ 21 20,A_ 22 2 3,L_ 23 22,y_ 24 228 [z_ 21,z_ 23],V_ 4 24]) (ir [A_ 25 1 2,L_ 26 25,A_ 27 1 3,L_ 28 27,B_ 29 26 28] 29 (rr [o_ 4 (c_ (.int .i64 (-1)))]) (ir [A_ 30 1 2,L_ 31 30,A_ 32 1 3,L_ 33 32,o_ 34 (b_ qP 31 33)] 34 (rr [I_ 4 1]) (rr [I_ 4 0]))))),35⟩
theorem c164:cF 164=some A164:=by kernel_rfl
def A165:CF:=⟨[aI 3],sr [I_ 3 0] (ir [V_ 4 0,H_ 5 4 0,V_ 6 5,fa 6 7 1,g_ 6 8 (di cX 7 0),jo 6 9 8,qa 9 10 0,ij 9 11 1,h_ 9 12 (b_ sK 10 11),g_ 6 13 (q_ 9 12),P_ 14 6 13] 14 (R_ [V_ 15 0,S_ 1 1 15]) (rr [L_ 16 1,V_ 3 16])),17⟩
theorem c165:cF 165=some A165:=by kernel_rfl
def A166:CF:=⟨[aI 0],sr [o_ 0 (c_ (.al (.pointer none)))] (rr [o_ 1 (aN [.bool false,(.al (.slice none 0 0))] 2 [(0,1,(aT (.bool true)))]),o_ 2 (aN [.bool false,(.al (.slice none 0 0))] 2 [(0,2,z_ 1)]),X_ 3 2,V_ 0 3]),4⟩
theorem c166:cF 166=some A166:=by kernel_rfl
def A167:CF:=⟨[],(R_ [V_ 4 0,V_ 5 1,y_ 6 229 [z_ 4,z_ 5,kI 1]]),7⟩
theorem c167:cF 167=some A167:=by kernel_rfl
def A168:CF:=⟨[bU 0 9],sr [o_ 0 (ak Z9 9)] (rr [o_ 1 (aN Z8 3 [(0,1,kI 1),(1,1,kf 230),(2,1,kf 232)]),o_ 2 (aN Z8 3 [(0,1,kI 2),(1,1,kf 234),(2,1,kf 236)]),o_ 3 (aN Z8 3 [(0,1,kI 3),(1,1,kf 238),(2,1,kf 239)]),o_ 4 (aN Z9 9 [(0,3,z_ 1),(3,3,z_ 2),(6,3,z_ 3)]),S_ 9 0 4]),5⟩
theorem c168:cF 168=some A168:=by kernel_rfl
def A169:CF:=⟨[aI 2],sr [I_ 2 0] (ir [V_ 3 0,o_ 4 (d_ (js false .ptr) 3 (.al (.pointer none)))] 4 (rr [I_ 2 0]) (rr [V_ 5 0,o_ 6 (aU (z_ 5)),A_ 7 0 6,A_ 8 1 7,L_ 9 8,E_ 10 9,V_ 2 10])),11⟩
theorem c169:cF 169=some A169:=by kernel_rfl
def A170:CF:=⟨[aI 2],sr [o_ 2 (c_ (.al (.slice none 0 0)))] (ir [V_ 3 0,o_ 4 (d_ (js false .ptr) 3 (.al (.pointer none)))] 4 (rr [o_ 2 (c_ (.al (.slice none 0 0)))]) (rr [V_ 5 0,o_ 6 (aU (z_ 5)),A_ 7 0 6,A_ 8 1 7,L_ 9 8,o_ 10 (db 1 1 (aT (.al (.slice none 0 0))) (z_ 9)),V_ 2 10])),11⟩
theorem c170:cF 170=some A170:=by kernel_rfl
def YI:=R_ [o_ 2 (c_ (.str [])),I_ 3 5]
def YH:=R_ [V_ 19 4,N_ 20 3 6,y_ 21 241 [z_ 19,z_ 20],V_ 4 21]
def NK:=R_ [D_ 22 12 1,V_ 12 22]
def Dl:CT:=sr [B_ 13 12 11] (sq (cd 13 .skip (.exit 0)) (sq (.block 1 (sr [J_ 14 3 10 12,N_ 15 3 14,o_ 6 (ak fq 3),S_ 3 6 15] (ir [N_ 16 3 6,y_ 17 88 [z_ 16],o_ 18 (un 17)] 18 (rt YI) YH))) NK))
def CH:=R_ [V_ 23 4,E_ 24 23,o_ 25 (di qP 24 140)]
def NJ:=R_ [o_ 2 (c_ (.str [])),I_ 3 51]
def NI:=R_ [V_ 26 4,o_ 27 (HS (z_ 26)),V_ 2 27,I_ 3 0]
def A171:CF:=⟨[aI 2,aI 3],sr [o_ 2 (c_ (.str [])),I_ 3 0] (ir [V_ 7 0,E_ 8 7,o_ 9 (di qP 8 16)] 9 (rr [o_ 2 (c_ (.str [])),I_ 3 1]) (sr [o_ 4 (c_ (.al (.slice none 0 0)))] (sq (sr [V_ 10 0,E_ 11 10,I_ 12 0] (bl 0 Dl)) (iq CH 25 (rt NJ) (rt NI))))),28⟩
theorem c171:cF 171=some A171:=by kernel_rfl
def A192:CF:=⟨[aI 2],sr [F_ 2] (sq (sr [V_ 3 0] (.block 0 (sq (.block 3 (.block 2 (.block 1 (sq (iq (sr [o_ 5 (d_ cX 3 (.str [97,110,100])),V_ 4 5] (cd 4 .skip (sr [o_ 6 (d_ cX 3 (.str [97,115])),V_ 4 6] (cd 4 .skip (sr [o_ 7 (d_ cX 3 (.str [98,101,103,105,110])),V_ 4 7] (cd 4 .skip (sr [o_ 8 (d_ cX 3 (.str [98,111,111,108])),V_ 4 8] (cd 4 .skip (sr [o_ 9 (d_ cX 3 (.str [98,121])),V_ 4 9] (cd 4 .skip (sr [o_ 10 (d_ cX 3 (.str [99,111,109,109,105,116])),V_ 4 10] (cd 4 .skip (sr [o_ 11 (d_ cX 3 (.str [99,114,101,97,116,101])),V_ 4 11] (cd 4 .skip (sr [o_ 12 (d_ cX 3 (.str [100,101,108,101,116,101])),V_ 4 12] (cd 4 .skip (sr [o_ 13 (d_ cX 3 (.str [100,101,115,99])),V_ 4 13] (cd 4 .skip (sr [o_ 14 (d_ cX 3 (.str [100,105,115,116,105,110,99,116])),V_ 4 14] (cd 4 .skip (R_ [o_ 15 (d_ cX 3 (.str [100,114,111,112])),V_ 4 15]))))))))))))))))))))) 4 (.exit 1) (iq (sr [o_ 17 (d_ cX 3 (.str [102,97,108,115,101])),V_ 16 17] (cd 16 .skip (sr [o_ 18 (d_ cX 3 (.str [102,114,111,109])),V_ 16 18] (cd 16 .skip (sr [o_ 19 (d_ cX 3 (.str [105,110,100,101,120])),V_ 16 19] (cd 16 .skip (sr [o_ 20 (d_ cX 3 (.str [105,110,115,101,114,116])),V_ 16 20] (cd 16 .skip (sr [o_ 21 (d_ cX 3 (.str [105,110,116])),V_ 16 21] (cd 16 .skip (sr [o_ 22 (d_ cX 3 (.str [105,110,116,111])),V_ 16 22] (cd 16 .skip (sr [o_ 23 (d_ cX 3 (.str [105,115])),V_ 16 23] (cd 16 .skip (sr [o_ 24 (d_ cX 3 (.str [106,111,105,110])),V_ 16 24] (cd 16 .skip (sr [o_ 25 (d_ cX 3 (.str [108,105,109,105,116])),V_ 16 25] (cd 16 .skip (sr [o_ 26 (d_ cX 3 (.str [110,111,116])),V_ 16 26] (cd 16 .skip (R_ [o_ 27 (d_ cX 3 (.str [110,117,108,108])),V_ 16 27]))))))))))))))))))))) 16 (.exit 2) (sq (sr [o_ 29 (d_ cX 3 (.str [111,110])),V_ 28 29] (cd 28 .skip (sr [o_ 30 (d_ cX 3 (.str [111,114])),V_ 28 30] (cd 28 .skip (sr [o_ 31 (d_ cX 3 (.str [111,114,100,101,114])),V_ 28 31] (cd 28 .skip (sr [o_ 32 (d_ cX 3 (.str [114,111,108,108,98,97,99,107])),V_ 28 32] (cd 28 .skip (sr [o_ 33 (d_ cX 3 (.str [115,101,108,101,99,116])),V_ 28 33] (cd 28 .skip (sr [o_ 34 (d_ cX 3 (.str [115,101,116])),V_ 28 34] (cd 28 .skip (sr [o_ 35 (d_ cX 3 (.str [116,97,98,108,101])),V_ 28 35] (cd 28 .skip (sr [o_ 36 (d_ cX 3 (.str [116,101,120,116])),V_ 28 36] (cd 28 .skip (sr [o_ 37 (d_ cX 3 (.str [116,114,117,101])),V_ 28 37] (cd 28 .skip (sr [o_ 38 (d_ cX 3 (.str [117,110,105,113,117,101])),V_ 28 38] (cd 28 .skip (sr [o_ 39 (d_ cX 3 (.str [117,112,100,97,116,101])),V_ 28 39] (cd 28 .skip (sr [o_ 40 (d_ cX 3 (.str [118,97,108,117,101,115])),V_ 28 40] (cd 28 .skip (R_ [o_ 41 (d_ cX 3 (.str [119,104,101,114,101])),V_ 28 41]))))))))))))))))))))))))) (cd 28 (.exit 3) .skip)))) (.exit 0))))) (sq (rr [T_ 2]) (.exit 0))))) (rr [F_ 2])),42⟩
theorem c192:cF 192=some A192:=by kernel_rfl
def A193:CF:=⟨[aI 4],sr [X_ 2 0,F_ 4] (rr [A_ 5 0 2,L_ 6 5,V_ 7 1,o_ 8 (b_ cX 6 7),V_ 9 8,eo 9 10 1 2,GI 9 11 3 10,g_ 9 12 (aN fq 3 []),g_ 9 13 (b_ (ly false [.i,.i,.s]) 11 12),P_ 14 9 13,V_ 15 14,eo 15 16 4 2,fa 15 17 16,g_ 15 18 (d_ cX 17 (.str [])),P_ 19 15 18,V_ 20 19,eo 20 21 5 2,fa 20 22 21,g_ 20 23 (d_ cX 22 (.str [])),P_ 24 20 23,V_ 25 24,eo 25 26 6 2,fa 25 27 26,g_ 25 28 (di cX 27 0),P_ 29 25 28,V_ 30 29,eo 30 31 7 2,fa 30 32 31,g_ 30 33 (u_ aZ 32),g_ 30 34 (di cX 33 0),P_ 35 30 34,V_ 4 35]),36⟩
theorem c193:cF 193=some A193:=by kernel_rfl
def A194:CF:=⟨[aI 2],sr [X_ 1 0,F_ 2] (rr [N_ 3 8 1,y_ 4 193 [z_ 3,kI 0],V_ 2 4]),5⟩
theorem c194:cF 194=some A194:=by kernel_rfl
def A195:CF:=⟨[aI 3],sr [X_ 2 0,F_ 3] (rr [A_ 4 1 2,L_ 5 4,L_ 6 1,o_ 7 (b_ cX 5 6),V_ 3 7]),8⟩
theorem c195:cF 195=some A195:=by kernel_rfl
def YG:=R_ [V_ 22 3,A_ 23 1 7,L_ 24 23,o_ 25 (aK ya 1 1 [(0,1,z_ 24)]),o_ 26 (db 1 8 (z_ 22) (z_ 25)),V_ 3 26]
def YF:=R_ [D_ 27 18 1,V_ 18 27]
def JW:CT:=sr [B_ 19 18 17] (sq (cd 19 .skip (.exit 2)) (sq (.block 3 (sr [J_ 20 3 16 18,N_ 21 3 20,o_ 7 (ak Dz 3),S_ 3 7 21] YG)) YF))
def NH:=R_ [D_ 28 11 1,V_ 11 28]
def JV:CT:=sr [B_ 12 11 10] (sq (cd 12 .skip (.exit 0)) (sq (.block 1 (sr [J_ 13 4 9 11,N_ 14 4 13,o_ 5 (ak uG 4),S_ 4 5 14] (sr [A_ 15 2 5,L_ 16 15,E_ 17 16,I_ 18 0] (bl 2 JW)))) NH))
def NG:=R_ [V_ 29 3,V_ 2 29]
def A196:CF:=⟨[aI 2],sr [X_ 1 0,o_ 2 (c_ (.al (.slice none 0 0)))] (sr [o_ 3 (c_ (.al (.slice none 0 0)))] (sq (sr [A_ 8 1 1,L_ 9 8,E_ 10 9,I_ 11 0] (bl 0 JV)) (rt NG))),30⟩
theorem c196:cF 196=some A196:=by kernel_rfl
def YE:=R_ [L_ 30 2,V_ 31 9,V_ 32 9,H_ 33 32 0,y_ 34 50 [z_ 30,z_ 31,z_ 33]]
def JF:=R_ [V_ 35 9,H_ 36 35 0]
def YD:=R_ [N_ 37 8 5,S_ 8 6 37,I_ 7 0]
def NF:=R_ [A_ 67 7 10,L_ 68 67,N_ 69 8 14,o_ 70 (aK ug 1 8 [(0,8,z_ 69)]),o_ 71 (db 8 104 (z_ 68) (z_ 70)),V_ 72 11,V_ 73 15,o_ 74 (aK ya 1 1 [(0,1,z_ 73)]),o_ 75 (db 1 8 (z_ 72) (z_ 74)),A_ 76 7 10,S_ 1 76 71,V_ 11 75]
def ND:=R_ [D_ 77 57 1,V_ 57 77]
def JU:CT:=sr [B_ 58 57 56] (sq (cd 58 .skip (.exit 0)) (sq (.block 1 (sr [J_ 59 8 55 57,N_ 60 8 59,o_ 13 (ak ug 8),S_ 8 13 60] (sr [L_ 62 4,N_ 63 8 13,vP (bm 64) (z_ 62) [z_ 63],V_ 61 64,W_ 65 0 61,W_ 66 1 61,o_ 14 (ak ug 8),S_ 8 14 65,V_ 15 66] NF))) ND))
def NC:=R_ [A_ 79 0 5,L_ 80 79,y_ 81 199 [z_ 80],V_ 78 81,W_ 82 0 78,W_ 83 1 78,o_ 16 (ak QL 5),S_ 5 16 82,V_ 17 83]
def NB:CT:=.fb [84,85,86,87,88,89] [m9 [16] 85 5 16 1,bu [11] 86 11 1,cI [85,86] (bm 87) 200 [z_ 85,z_ 86],cC [2] 84 2 2,i_ [87] 88 (un 87) 1,cI [84,88] (bm 89) 50 [z_ 84,kI 203,z_ 88]]
def NA:CT:=.fb [90,91,92] [m9 [10] 90 8 10 1,j_ [6,90] (s_ 8 6 90),bP [16] 91 2 16 2,cC [91] 92 91 2,bu [92] 7 92 1]
def A197:CF:=⟨[bU 6 8,aI 7],sr [X_ 5 0,o_ 6 (ak ug 8),I_ 7 0] (ir [A_ 18 0 5,L_ 19 18,K_ 20 19 2] 20 (sr [N_ 22 2 1,A_ 23 4 5,L_ 24 23,A_ 25 5 5,L_ 26 25,y_ 27 198 [z_ 22,z_ 24,z_ 26],V_ 21 27,W_ 28 0 21,W_ 29 1 21,V_ 8 28,V_ 9 29] (sq YE (iq JF 36 (rt YD) (rt (.fb [38,39,40,41,42,43] [bu [8] 38 8 1,i_ [38] 39 (aN ug 8 [(0,1,kI 3),(6,1,z_ 38)]) 1,j_ [6,39] (s_ 8 6 39),cC [3] 40 3 2,bu [8] 41 8 2,jK [40,41] 42 1 40 41 2,cC [42] 43 42 2,bu [43] 7 43 1]))))) (ir [A_ 44 0 5,L_ 45 44,K_ 46 45 1] 46 (rt (.fb [47,48,49,50] [m9 [5] 47 8 5 1,j_ [6,47] (s_ 8 6 47),bP [5] 48 1 5 2,bP [48] 49 0 48 2,cC [49] 50 49 2,bu [50] 7 50 1])) (sr [A_ 51 0 5,L_ 52 51,o_ 53 (aN ug 8 [(0,1,z_ 52)]),o_ 10 (ak ug 8),S_ 8 10 53] (sr [o_ 11 (c_ (.al (.slice none 0 0)))] (sq (sr [A_ 54 7 5,L_ 55 54,E_ 56 55,I_ 57 0] (bl 0 JU)) (sq NC (sq NB (rt NA)))))))),93⟩
theorem c197:cF 197=some A197:=by kernel_rfl
def YC:=R_ [V_ 23 1,o_ 24 (d_ cX 23 (.str [])),V_ 25 24,gQ 25 26 0 3,ij 25 27 26,qa 25 28 11,h_ 25 29 (b_ (e9 1) 27 28),ij 25 30 29,qa 25 31 1,h_ 25 32 (b_ cX 30 31),Q_ 33 25 32,V_ 13 33]
def YB:=R_ [V_ 34 10,V_ 35 34,qa 35 36 13,Q_ 37 35 36,V_ 10 37]
def YA:=R_ [A_ 38 2 12,L_ 39 38,o_ 40 (iH (.func 262) [] [z_ 5]),y_ 41 118 [z_ 39,z_ 40],V_ 14 41]
def Yz:=R_ [V_ 42 13,V_ 43 42,jo 43 44 14,g_ 43 45 (di rX 44 0),P_ 46 43 45]
def Yy:=R_ [V_ 47 9,o_ 48 (di rX 47 0)]
def M_:=R_ [I_ 6 0,I_ 7 205]
def M9:=R_ [V_ 49 8,V_ 50 14,o_ 51 (b_ rG 49 50),V_ 9 51]
def M8:=R_ [V_ 52 8,A_ 53 2 12,L_ 54 53,E_ 55 54,o_ 56 (b_ rG 52 55),V_ 8 56]
def M6:=R_ [D_ 57 18 1,V_ 18 57]
def xX:CT:=sr [B_ 19 18 17] (sq (cd 19 .skip (.exit 0)) (sq (.block 1 (sr [V_ 20 18,J_ 21 4 16 18,N_ 22 4 21,o_ 12 (ak uG 4),V_ 11 20,S_ 4 12 22] (sq YC (sq YB (sq YA (iq Yz 46 (iq Yy 48 (rt M_) M9) M8)))))) M6))
def vb:=R_ [V_ 59 9,o_ 60 (di rX 59 0),V_ 58 60]
def MZ:=R_ [V_ 61 9,V_ 6 61,I_ 7 0]
def CG:=R_ [V_ 63 1,o_ 64 (d_ kH 63 (.str [])),V_ 65 64,jo 65 66 10,g_ 65 67 (un 66),P_ 68 65 67,V_ 62 68]
def MY:=R_ [I_ 6 0,I_ 7 200]
def CE:=R_ [I_ 6 0,I_ 7 201]
def A198:CF:=⟨[aI 6,aI 7],sr [X_ 3 0,X_ 5 2,I_ 6 0,I_ 7 0] (sr [I_ 8 0,o_ 9 (c_ (.int .i64 (-1))),F_ 10] (sq (sr [A_ 15 1 3,L_ 16 15,E_ 17 16,I_ 18 0] (bl 0 xX)) (sq (.block 2 (sq vb (cd 58 (rt MZ) (sq CG (cd 62 (rt MY) .skip))))) (rt CE)))),69⟩
theorem c198:cF 198=some A198:=by kernel_rfl
def A199:CF:=⟨[bU 2 5,aI 3],sr [o_ 2 (ak QL 5),F_ 3] (sq (sr [V_ 4 0] (.block 0 (sr [K_ 6 4 4,V_ 5 6] (cd 5 (rr [o_ 7 (aN QL 5 [(0,1,kI 1),(1,1,kI 1),(2,1,kI 1)]),S_ 5 2 7,T_ 3]) (sr [K_ 9 4 5,V_ 8 9] (cd 8 (rr [o_ 10 (aN QL 5 [(0,1,kI 1),(1,1,kI 3),(2,1,kI 3)]),S_ 5 2 10,T_ 3]) (sq (sr [K_ 12 4 6,V_ 11 12] (cd 11 .skip (R_ [K_ 13 4 7,V_ 11 13]))) (cd 11 (rr [o_ 14 (aN QL 5 [(0,1,kI 1),(3,1,(aT (.bool true))),(2,1,kI 3)]),S_ 5 2 14,T_ 3]) (sq (sr [K_ 16 4 8,V_ 15 16] (cd 15 .skip (sr [K_ 17 4 9,V_ 15 17] (cd 15 .skip (sr [K_ 18 4 10,V_ 15 18] (cd 15 .skip (sr [K_ 19 4 11,V_ 15 19] (cd 15 .skip (R_ [K_ 20 4 12,V_ 15 20]))))))))) (cd 15 (rr [o_ 21 (aN QL 5 [(0,1,kI 2),(1,1,kI 1),(2,1,kI 1)]),S_ 5 2 21,T_ 3]) (sr [K_ 23 4 13,V_ 22 23] (cd 22 (rr [o_ 24 (aN QL 5 [(0,1,kI 2),(1,1,kI 2),(2,1,kI 2)]),S_ 5 2 24,T_ 3]) (sq (sr [K_ 26 4 20,V_ 25 26] (cd 25 .skip (R_ [K_ 27 4 21,V_ 25 27]))) (cd 25 (rr [o_ 28 (aN QL 5 [(0,1,kI 2),(1,1,kI 3),(2,1,kI 3)]),S_ 5 2 28,T_ 3]) (sq (sr [K_ 30 4 14,V_ 29 30] (cd 29 .skip (sr [K_ 31 4 15,V_ 29 31] (cd 29 .skip (sr [K_ 32 4 16,V_ 29 32] (cd 29 .skip (sr [K_ 33 4 17,V_ 29 33] (cd 29 .skip (sr [K_ 34 4 18,V_ 29 34] (cd 29 .skip (R_ [K_ 35 4 19,V_ 29 35]))))))))))) (cd 29 (rr [o_ 36 (aN QL 5 [(0,1,kI 2),(3,1,(aT (.bool true))),(4,1,(aT (.bool true))),(2,1,kI 3)]),S_ 5 2 36,T_ 3]) .skip)))))))))))))))) (rr [o_ 37 (aN QL 5 []),S_ 5 2 37,F_ 3])),38⟩
theorem c199:cF 199=some A199:=by kernel_rfl
def A200:CF:=⟨[aI 4],sr [X_ 2 0,F_ 4] (ir [A_ 5 3 2,L_ 6 5,o_ 7 (un 6)] 7 (rr [V_ 8 1,o_ 9 (iH (.func 264) [] [z_ 2]),y_ 10 263 [z_ 8,z_ 9],o_ 11 (un 10),V_ 4 11]) (rt (.fb [12,13,14,15,16,17,18,19,20,21,22,23,24,25,26,27,28,29,30,31,32,33,34,35] [bP [2] 12 4 2 1,cC [12] 13 12 1,i_ [13] 14 (un 13) 1,bu [14] 15 14 1,hI [15,1] 15 16 (v_ 1) 1,hI [15,16] 15 17 (di (e9 1) 16 0) 1,hI [15,17] 15 18 (l_ 17) 1,hI [15,1] 15 19 (v_ 1) 1,hI [15,19] 15 20 (di (e9 1) 19 1) 1,hI [15,20] 15 21 (l_ 20) 1,hI [15,18,21] 15 22 (b_ cX 18 21) 1,i_ [15,22] 23 (q_ 15 22) 1,bu [23] 24 23 1,hI [24,1] 24 25 (v_ 1) 1,hI [24,25] 24 26 (di (e9 1) 25 0) 1,hI [24,26] 24 27 (l_ 26) 1,hI [24,27] 24 28 (di cX 27 0) 1,i_ [24,28] 29 (q_ 24 28) 1,bu [29] 30 29 1,hI [30,1] 30 31 (v_ 1) 1,hI [30,31] 30 32 (di (e9 1) 31 1) 1,hI [30,32] 30 33 (l_ 32) 1,hI [30,33] 30 34 (di cX 33 0) 1,i_ [30,34] 35 (q_ 30 34) 1,bu [35] 4 35 1]))),36⟩
theorem c200:cF 200=some A200:=by kernel_rfl
def JD:=R_ [I_ 6 20]
def JC:=R_ [V_ 10 6,I_ 7 0,V_ 8 10]
def Yr:=R_ [V_ 19 8,V_ 7 19]
def Yq:=R_ [V_ 20 8,V_ 21 6,o_ 22 (b_ rG 20 21),V_ 8 22]
def Dk:CT:=sq (sr [V_ 11 8,V_ 12 1,o_ 13 (b_ HH 11 12)] (cd 13 .skip (.exit 0))) (.block 1 (sr [V_ 14 0,V_ 15 7,V_ 16 8,V_ 17 2,y_ 18 265 [z_ 14,z_ 15,z_ 16,z_ 17]] (sq Yr Yq)))
def JB:=R_ [V_ 23 0,V_ 24 7,V_ 25 1,V_ 26 2,y_ 27 265 [z_ 23,z_ 24,z_ 25,z_ 26]]
def JA:=R_ [V_ 31 6,o_ 32 (e2 (dq .mul) (kI 2) (z_ 31)),I_ 7 0,V_ 8 32]
def MX:=R_ [V_ 44 8,V_ 7 44]
def MW:=R_ [V_ 45 8,V_ 46 6,o_ 47 (e2 (dq .mul) (kI 2) (z_ 46)),o_ 48 (b_ rG 45 47),V_ 8 48]
def Dj:CT:=sq (sr [V_ 33 8,V_ 34 1,o_ 35 (b_ HH 33 34)] (cd 35 .skip (.exit 4))) (.block 5 (sr [V_ 36 0,V_ 37 7,V_ 38 7,V_ 39 6,o_ 40 (b_ rG 38 39),V_ 41 8,V_ 42 2,y_ 43 266 [z_ 36,z_ 37,z_ 40,z_ 41,z_ 42]] (sq MX MW)))
def CC:=R_ [V_ 49 7,V_ 50 6,o_ 51 (b_ rG 49 50),V_ 9 51]
def CB:=R_ [V_ 52 9,V_ 53 1,B_ 54 52 53]
def Cj:=R_ [V_ 55 0,V_ 56 7,V_ 57 9,V_ 58 1,V_ 59 2,y_ 60 266 [z_ 55,z_ 56,z_ 57,z_ 58,z_ 59]]
def u9:=R_ [V_ 61 6,o_ 62 (di (dq .mul) 61 2),V_ 6 62]
def Di:CT:=sq (sr [V_ 28 6,V_ 29 1,B_ 30 28 29] (cd 30 .skip (.exit 2))) (.block 3 (sq JA (sq (bl 4 Dj) (sq (sq CC (sq CB (cd 54 Cj .skip))) u9))))
def A203:CF:=⟨[],sq JD (sq JC (sq (bl 0 Dk) (sq JB (bl 2 Di)))),63⟩
theorem c203:cF 203=some A203:=by kernel_rfl
def A208:CF:=⟨[aI 3],sr [X_ 2 0,F_ 3] (rt (.fb [4,5,6,7,8,9,10,11,12] [bP [2] 4 0 2 1,cC [4] 5 4 1,cC [1] 6 1 1,i_ [6] 7 (aU (z_ 6)) 1,bP [7] 8 3 7 1,bP [8] 9 2 8 1,bP [9] 10 0 9 1,cC [10] 11 10 1,i_ [5,11] 12 (b_ cX 5 11) 1,bu [12] 3 12 1])),13⟩
theorem c208:cF 208=some A208:=by kernel_rfl
def Yp:=R_ [o_ 11 (aN fq 3 []),S_ 3 4 11,I_ 5 1]
def Yo:=R_ [V_ 12 1,y_ 13 217 [z_ 12],o_ 14 (un 13)]
def Yn:=R_ [o_ 15 (aN fq 3 []),S_ 3 4 15,I_ 5 5]
def Ym:=R_ [N_ 16 8 2,V_ 17 1,y_ 18 218 [z_ 16,z_ 17],W_ 19 0 18,W_ 20 1 18,S_ 3 4 19,V_ 5 20]
def A212:CF:=⟨[bU 4 3,aI 5],sr [X_ 2 0,o_ 4 (ak fq 3),I_ 5 0] (ir [N_ 6 8 2,V_ 7 1,E_ 8 7,y_ 9 216 [z_ 6,z_ 8],o_ 10 (un 9)] 10 (rt Yp) (iq Yo 14 (rt Yn) (rt Ym))),21⟩
theorem c212:cF 212=some A212:=by kernel_rfl
def A213:CF:=⟨[],(R_ [V_ 2 0,vP (bm 3) (z_ 2) [(aT (.al (.slice none 0 0)))]]),4⟩
theorem c213:cF 213=some A213:=by kernel_rfl
def A214:CF:=⟨[aI 3],sr [X_ 2 0,F_ 3] (rr [A_ 4 0 2,L_ 5 4,A_ 6 0 1,L_ 7 6,o_ 8 (b_ cX 5 7),V_ 3 8]),9⟩
theorem c214:cF 214=some A214:=by kernel_rfl
def Yl:=R_ [L_ 12 1,L_ 13 2,o_ 14 (di lD 13 1),L_ 15 3,y_ 16 149 [z_ 12,z_ 14,z_ 15]]
def Yk:=R_ [V_ 6 17]
def Yj:CT:=.fb [18,19,20,21,22,23,24,25,26,27] [cC [1] 18 1 1,i_ [18] 19 (aU (z_ 18)) 1,bP [19] 20 0 19 1,bP [20] 21 2 20 1,cC [21] 22 21 1,cC [4] 23 4 1,jK [22,23] 24 1 22 23 1,cC [24] 25 24 1,i_ [25] 26 (u_ aZ 25) 1,i_ [] 27 (c_ (.int .i64 0)) 1]
def ZL:CT:=sr [B_ 28 27 26] (sq (cd 28 .skip (.exit 2)) (sq (.block 3 (sr [J_ 29 1 25 27,L_ 30 29,V_ 8 30] (sr [V_ 31 6,y_ 32 135 [z_ 31],V_ 33 8,o_ 34 (db 3 32 (z_ 32) (z_ 33)),V_ 9 34] (sq (.fb [36,37,38,39,40,41,42,43,44,45,46,35,47,48] [cC [1] 36 1 1,i_ [36] 37 (aU (z_ 36)) 1,bP [37] 38 3 37 1,bP [38] 39 16 38 1,cC [39] 40 39 1,cC [2] 41 2 1,i_ [41] 42 (di lD 41 1) 1,jK [40,42] 43 1 40 42 1,cC [43] 44 43 1,bu [9] 45 9 1,cI [44,45] (bm 46) 150 [z_ 44,z_ 45],bu [46] 35 46 1,i_ [35] 47 (u_ (mN 0) 35) 1,i_ [35] 48 (u_ (mN 1) 35) 1,bu [47] 10 47 1,bu [48] 11 48 1]) (sr [L_ 49 3,V_ 50 11,vP (bm 51) (z_ 49) [z_ 50]] (sr [V_ 52 10,V_ 53 52,fa 53 54 5,jo 53 55 9,gvP (z_ 53) true (bm 56) (z_ 54) [z_ 55],g_ 53 57 (un 56),P_ 58 53 57] (cd 58 .ret .skip))))))) (R_ [D_ 59 27 1,V_ 27 59])))
def oH:Code×Code:=Ru pG 215 0
theorem Z':eT pG 60 true oH.1=Yk:=by kernel_rfl
theorem Z_:eT pG 60 true oH.2=(.block 1 (sq Yj (.block 2 (.loop ZL)))):=by kernel_rfl
def A215:CF:=⟨[],sr [X_ 5 0] (sq Yl (.block 0 (.range 60 (z_ 16) [17] oH.1 oH.2))),60⟩
theorem c215:cF 215=some A215:=by kernel_rfl
def Yi:=R_ [F_ 4]
def tD:=R_ [A_ 12 0 2,L_ 13 12,K_ 14 13 1,V_ 15 14,eo 15 16 1 2,GI 15 17 3 16,kM (z_ 15) true (bm 18) 88 [z_ 17],g_ 15 19 (un 18),P_ 20 15 19,V_ 21 20,gQ 21 22 0 2,ij 21 23 22,h_ 21 24 (di cX 23 3),qa 21 25 24,eo 25 26 6 2,fa 25 27 26,g_ 25 28 (di sK 27 0),jo 25 29 28,gQ 29 30 6 2,ij 29 31 30,ij 29 32 3,h_ 29 33 (b_ rX 31 32),g_ 25 34 (q_ 29 33),h_ 21 35 (p_ 25 34),Q_ 36 21 35]
def Ci:=R_ [F_ 4]
def Jz:=R_ [A_ 37 7 2,L_ 38 37,o_ 39 (iH (.func 269) [] [z_ 3]),y_ 40 268 [z_ 38,z_ 39],o_ 41 (un 40),V_ 4 41]
def A216:CF:=⟨[aI 4],sr [X_ 2 0,X_ 3 1,F_ 4] (iq (.fb [5,6,7,8,9,10,11] [bP [2] 5 0 2 1,cC [5] 6 5 1,cI [6] (bm 7) 267 [z_ 6],bP [2] 8 7 2 2,cC [8] 9 8 2,i_ [9] 10 (u_ aZ 9) 2,i_ [7,10] 11 (b_ kH 7 10) 1]) 11 (rt Yi) (iq tD 36 (rt Ci) (rt Jz))),42⟩
theorem c216:cF 216=some A216:=by kernel_rfl
def A217:CF:=⟨[aI 2],sr [F_ 2] (rr [V_ 3 0,y_ 4 270 [z_ 3,kf 271],o_ 5 (un 4),V_ 2 5]),6⟩
theorem c217:cF 217=some A217:=by kernel_rfl
def Cf:=R_ [V_ 38 10,H_ 39 38 0]
def u7:=R_ [o_ 40 (aN fq 3 []),V_ 41 10,S_ 3 4 40,V_ 5 41]
def Cd:=R_ [V_ 42 7,N_ 43 3 9,o_ 44 (b_ (f_ 2 3) 6 42),S_ 3 44 43]
def Cc:=R_ [D_ 45 27 1,V_ 27 45]
def JS:CT:=sr [B_ 28 27 26] (sq (cd 28 .skip (.exit 1)) (sq (.block 2 (sr [V_ 29 27,J_ 30 8 25 27,N_ 31 8 30,o_ 8 (ak ug 8),V_ 7 29,S_ 8 8 31] (sr [N_ 33 8 8,V_ 34 1,y_ 35 218 [z_ 33,z_ 34],V_ 32 35,W_ 36 0 32,W_ 37 1 32,o_ 9 (ak fq 3),S_ 3 9 36,V_ 10 37] (iq Cf 39 (rt u7) Cd)))) Cc))
def pQ:=R_ [A_ 46 0 2,L_ 47 46]
def pP:=R_ [K_ 49 47 4,V_ 48 49]
def MV:=R_ [o_ 50 (di (f_ 2 3) 6 0),N_ 51 3 50,y_ 52 272 [z_ 51],W_ 53 0 52,W_ 54 1 52,S_ 3 4 53,V_ 5 54]
def rT:=R_ [K_ 56 47 5,V_ 55 56]
def MU:=R_ [o_ 57 (di (f_ 2 3) 6 0),N_ 58 3 57,y_ 59 273 [z_ 58],W_ 60 0 59,W_ 61 1 59,S_ 3 4 60,V_ 5 61]
def u6:=R_ [K_ 63 47 6,V_ 62 63]
def MS:=R_ [o_ 64 (di (f_ 2 3) 6 0),A_ 65 0 64,L_ 66 65,K_ 67 66 0,y_ 68 219 [z_ 67],S_ 3 4 68,I_ 5 0]
def Cb:=R_ [K_ 70 47 7,V_ 69 70]
def MR:=R_ [o_ 71 (di (f_ 2 3) 6 0),A_ 72 0 71,L_ 73 72,H_ 74 73 0,y_ 75 219 [z_ 74],S_ 3 4 75,I_ 5 0]
def MQ:CT:=.fb [76,77,78,79,80,81,82,83,84,85,86,87] [cI [] (bm 76) 274 [],bP [2] 77 0 2 2,cC [77] 78 77 2,i_ [78] 79 (di lD 78 8) 2,i_ [76,79] 80 (b_ (UN 14 1 false) 76 79) 1,i_ [6] 81 (di (f_ 2 3) 6 0) 2,m9 [81] 82 3 81 2,i_ [6] 83 (di (f_ 2 3) 6 1) 2,m9 [83] 84 3 83 2,vI [80,82,84] (bm 85) (z_ 80) [z_ 82,z_ 84],i_ [85] 86 (u_ (mN 0) 85) 1,i_ [85] 87 (u_ (mN 1) 85) 1,j_ [4,86] (s_ 3 4 86),bu [87] 5 87 1]
def A218:CF:=⟨[bU 4 3,aI 5],sr [X_ 2 0,o_ 4 (ak fq 3),I_ 5 0] (sq (sr [A_ 11 0 2,L_ 12 11] (.block 0 (sr [K_ 14 12 1,V_ 13 14] (cd 13 (rr [A_ 15 1 2,N_ 16 3 15,S_ 3 4 16,I_ 5 0]) (sr [K_ 18 12 3,V_ 17 18] (cd 17 (rr [V_ 19 1,A_ 20 6 2,L_ 21 20,J_ 22 3 19 21,N_ 23 3 22,S_ 3 4 23,I_ 5 0]) .skip)))))) (sr [o_ 6 (ak [.int .i64 0,.int .i64 0,.str [],.int .i64 0,.int .i64 0,.str []] 6)] (sq (sr [A_ 24 7 2,L_ 25 24,E_ 26 25,I_ 27 0] (bl 1 JS)) (sq (sq pQ (.block 3 (sq pP (cd 48 (rt MV) (sq rT (cd 55 (rt MU) (sq u6 (cd 62 (rt MS) (sq Cb (cd 69 (rt MR) .skip)))))))))) (rt MQ))))),88⟩
theorem c218:cF 218=some A218:=by kernel_rfl
def A219:CF:=⟨[bU 2 3],sr [o_ 2 (ak fq 3)] (sr [o_ 4 (aN fq 3 [(0,1,kI 3)]),o_ 3 (ak fq 3),S_ 3 3 4] (ir [V_ 5 0] 5 (R_ [A_ 6 1 3,oP pZ (dm 1 (z_ 6) (kI 1))]) (rr [N_ 7 3 3,S_ 3 2 7]))),8⟩
theorem c219:cF 219=some A219:=by kernel_rfl
def ZK:CT:=.block 1 (sr [V_ 21 2,V_ 22 1,o_ 23 (b_ lD 21 22),V_ 12 23] (ir [V_ 24 12,o_ 25 (di HH 24 12)] 25 (rr [V_ 26 0,V_ 27 1,V_ 28 2,V_ 29 4,y_ 30 265 [z_ 26,z_ 27,z_ 28,z_ 29]]) (ir [V_ 31 3,K_ 32 31 0] 32 (rr [V_ 33 0,V_ 34 1,V_ 35 2,V_ 36 4,y_ 37 275 [z_ 33,z_ 34,z_ 35,z_ 36]]) (ir [V_ 38 10,o_ 39 (un 38)] 39 (sr [V_ 40 0,V_ 41 1,V_ 42 2,V_ 43 4,y_ 44 276 [z_ 40,z_ 41,z_ 42,z_ 43]] (R_ [V_ 45 3,o_ 46 (di lD 45 1),V_ 3 46])) (sr [V_ 48 0,V_ 49 1,V_ 50 2,V_ 51 4,y_ 52 277 [z_ 48,z_ 49,z_ 50,z_ 51],V_ 47 52,W_ 53 0 47,W_ 54 1 47,V_ 13 53,V_ 14 54] (ir [V_ 55 14,K_ 56 55 2] 56 (sr [V_ 57 0,V_ 58 1,V_ 59 2,V_ 60 4,y_ 61 278 [z_ 57,z_ 58,z_ 59,z_ 60]] (sr [V_ 62 2,o_ 63 (di lD 62 1),V_ 64 13,V_ 65 1,o_ 66 (b_ lD 64 65),o_ 67 (b_ lD 63 66),V_ 13 67] (R_ [I_ 14 1]))) (ir [V_ 68 10,V_ 69 68,jo 69 70 11,P_ 71 69 70,V_ 72 71,jo 72 73 14,g_ 72 74 (di cX 73 1),P_ 75 72 74] 75 (sr [V_ 76 0,V_ 77 1,V_ 78 2,V_ 79 4,y_ 80 279 [z_ 76,z_ 77,z_ 78,z_ 79]] (cd 80 .ret .skip)) (iq (.fb [81,82,83,84,85,86,87,88,89,90,91,92,93,94,95,96,97] [bu [1] 81 1 1,i_ [81] 82 (di qP 81 0) 1,bu [82] 83 82 1,gI [83,4] 83 84 (v_ 4) 1,gI [83,0] 83 85 (v_ 0) 1,gI [83,1] 83 86 (v_ 1) 1,gI [83,86] 83 87 (di lD 86 1) 1,gI [83,85,87] 83 88 (b_ (e9 1) 85 87) 1,gI [83,88] 83 89 (l_ 88) 1,gI [83,0] 83 90 (v_ 0) 1,gI [83,13] 83 91 (v_ 13) 1,gI [83,90,91] 83 92 (b_ (e9 1) 90 91) 1,gI [83,92] 83 93 (l_ 92) 1,gvI [83,84,89,93] (z_ 83) true (bm 94) (z_ 84) [z_ 89,z_ 93],gI [83,94] 83 95 (di sK 94 0) 1,gI [83,95] 83 96 (un 95) 1,i_ [83,96] 97 (p_ 83 96) 1]) 97 (sr [V_ 98 0,V_ 99 1,V_ 100 2,V_ 101 13,V_ 102 4,y_ 103 280 [z_ 98,z_ 99,z_ 100,z_ 101,z_ 102],V_ 15 103] (sr [V_ 104 15,V_ 1 104] (.exit 1))) (sr [V_ 106 0,V_ 107 1,V_ 108 2,V_ 109 13,V_ 110 4,y_ 111 281 [z_ 106,z_ 107,z_ 108,z_ 109,z_ 110],V_ 105 111,W_ 112 0 105,W_ 113 1 105,V_ 16 112,V_ 17 113] (sr [V_ 114 17,V_ 11 114] (sr [V_ 115 16,V_ 116 1,o_ 117 (b_ lD 115 116),V_ 118 2,V_ 119 16,o_ 120 (b_ lD 118 119),V_ 18 117,V_ 19 120] (sr [V_ 121 12,o_ 122 (di (dq .quo) 121 8),V_ 20 122] (sr [V_ 123 18,V_ 124 19,B_ 125 123 124] (cd 125 (sr [V_ 126 18,V_ 127 20,o_ 128 (b_ rX 126 127),V_ 10 128] (sr [V_ 129 0,V_ 130 1,V_ 131 16,V_ 132 3,V_ 133 4,y_ 134 220 [z_ 129,z_ 130,z_ 131,z_ 132,z_ 133]] (R_ [V_ 135 16,D_ 136 135 1,V_ 1 136]))) (sr [V_ 137 19,V_ 138 20,o_ 139 (b_ rX 137 138),V_ 10 139] (sr [V_ 140 0,V_ 141 16,D_ 142 141 1,V_ 143 2,V_ 144 3,V_ 145 4,y_ 146 220 [z_ 140,z_ 142,z_ 143,z_ 144,z_ 145]] (R_ [V_ 147 16,V_ 2 147])))))))))))))))))
def A220:CF:=⟨[],sr [T_ 10] (sr [T_ 11] (bl 0 ZK)),148⟩
theorem c220:cF 220=some A220:=by kernel_rfl
def A221:CF:=⟨[aI 2],sr [I_ 2 0] (sq (.cond (aT (.bool false)) (rr [V_ 3 0,o_ 4 (u_ (cw .u32) 3),y_ 5 282 [z_ 4],V_ 2 5]) .skip) (rr [V_ 6 0,y_ 7 283 [z_ 6],V_ 2 7])),8⟩
theorem c221:cF 221=some A221:=by kernel_rfl
def aiY:CT:=sr [B_ 9 8 7] (sq (cd 9 .skip (.exit 0)) (sq (.block 1 (sr [V_ 10 8,V_ 5 10] (sr [V_ 11 1,V_ 12 0,V_ 13 5,J_ 14 1 12 13,L_ 15 14,o_ 16 (b_ cX 11 15)] (cd 16 (rr [V_ 17 5,V_ 4 17]) .skip)))) (R_ [D_ 18 8 1,V_ 8 18])))
def A226:CF:=⟨[aI 4],sr [I_ 4 0] (sq (sr [V_ 6 0,E_ 7 6,I_ 8 0] (bl 0 aiY)) (rr [o_ 4 (c_ (.int .i64 (-1)))])),19⟩
theorem c226:cF 226=some A226:=by kernel_rfl
def A227:CF:=⟨[aI 2],sr [I_ 2 0] (sr [I_ 3 0] (sq (sr [V_ 4 0] (.block 0 (sq (.block 3 (sq (.block 2 (sq (.block 1 (sq (ir [K_ 6 4 2,V_ 5 6] 5 (.exit 1) (ir [K_ 8 4 1,V_ 7 8] 7 (.exit 2) (sr [K_ 10 4 3,V_ 9 10] (cd 9 (.exit 3) .skip)))) (.exit 0))) (R_ [V_ 11 3,D_ 12 11 1,V_ 3 12]))) (R_ [V_ 13 3,D_ 14 13 1,V_ 3 14]))) (sr [V_ 15 3,D_ 16 15 1,V_ 3 16] (.exit 0))))) (rr [V_ 17 3,V_ 2 17]))),18⟩
theorem c227:cF 227=some A227:=by kernel_rfl
def A228:CF:=⟨[aI 4],sr [I_ 4 0] (rr [V_ 5 0,V_ 6 1,y_ 7 285 [z_ 5,z_ 6],V_ 4 7]),8⟩
theorem c228:cF 228=some A228:=by kernel_rfl
def Jy:=R_ [D_ 38 18 1,V_ 18 38]
def ZJ:CT:=sr [B_ 19 18 17] (sq (cd 19 .skip (.exit 0)) (sq (.block 1 (sr [V_ 20 18,V_ 6 20] (.fb [21,22,23,24,25,26,27,28,29,30,31,32,33,34,35,36,37] [bu [0] 22 0 1,i_ [22] 23 (aU (z_ 22)) 1,bP [23] 24 0 23 1,bP [24] 25 1 24 1,cC [25] 26 25 1,bu [1] 27 1 1,i_ [27] 28 (u_ (cw .u64) 27) 1,bu [6] 29 6 1,i_ [29] 30 (e2 (dq .mul) (kI 8) (z_ 29)) 1,i_ [28,30] 31 (b_ (dq .shr) 28 30) 1,i_ [31] 32 (u_ (cw .u8) 31) 1,i_ [32] 33 (aK yb 1 1 [(0,1,z_ 32)]) 1,mI [26,33] (bm 34) (db 1 1 (z_ 26) (z_ 33)),bu [0] 21 0 2,i_ [21] 35 (aU (z_ 21)) 1,bP [35] 36 0 35 1,bP [36] 37 1 36 1,j_ [37,34] (s_ 1 37 34)]))) Jy))
def A229:CF:=⟨[],ir [V_ 7 0,o_ 8 (d_ (js false .ptr) 7 (.al (.pointer none))),V_ 9 8,qa 9 10 0,h_ 9 11 (aU (z_ 10)),gQ 9 12 0 11,gQ 9 13 0 12,ij 9 14 13,h_ 9 15 (un 14),Q_ 16 9 15] 16 .ret (sr [V_ 17 2,I_ 18 0] (bl 0 ZJ)),39⟩
theorem c229:cF 229=some A229:=by kernel_rfl
def A230:CF:=⟨[],sr [X_ 3 1] (R_ [V_ 4 0,A_ 5 1 3,L_ 6 5,y_ 7 231 [z_ 4,z_ 6]]),8⟩
theorem c230:cF 230=some A230:=by kernel_rfl
def A231:CF:=⟨[],(R_ [V_ 4 0,V_ 5 1,o_ 6 (u_ (cw .u64) 5),o_ 7 (d_ (dq .shl) 6 (.int .u64 1)),V_ 8 1,o_ 9 (d_ (dq .shr) 8 (.int .u64 63)),o_ 10 (u_ (cw .u64) 9),o_ 11 (b_ (dq .xor) 7 10),y_ 12 286 [z_ 4,z_ 11]]),13⟩
theorem c231:cF 231=some A231:=by kernel_rfl
def A234:CF:=⟨[],sr [X_ 3 1] (R_ [V_ 4 0,A_ 5 2 3,L_ 6 5,y_ 7 235 [z_ 4,z_ 6]]),8⟩
theorem c234:cF 234=some A234:=by kernel_rfl
def Yd:=R_ [V_ 9 0,V_ 10 1,o_ 11 (Qb (z_ 10)),y_ 12 288 [z_ 9,z_ 11]]
def A235:CF:=⟨[],sr [V_ 4 0,V_ 5 1,o_ 6 (u_ mY 5),o_ 7 (u_ (cw .u64) 6),y_ 8 286 [z_ 4,z_ 7]] Yd,13⟩
theorem c235:cF 235=some A235:=by kernel_rfl
def A238:CF:=⟨[],sr [X_ 3 1] (R_ [V_ 4 0,A_ 5 1 3,L_ 6 5,o_ 7 (u_ (cw .u8) 6),y_ 8 167 [z_ 4,z_ 7]]),9⟩
theorem c238:cF 238=some A238:=by kernel_rfl
def X3:=R_ [A_ 24 1 3,L_ 25 24,o_ 26 (u_ (cw .u64) 25),o_ 27 (d_ (dq .xor) 26 (.int .u64 9223372036854775808)),V_ 5 27]
def X0:=R_ [I_ 6 56]
def MO:=R_ [V_ 30 6,o_ 31 (di lD 30 8),V_ 6 31]
def Dh:CT:=lr [V_ 28 6,o_ 29 (di rX 28 0)] 29 1 2 (R_ [V_ 32 0,V_ 33 5,V_ 34 6,o_ 35 (b_ (dq .shr) 33 34),o_ 36 (u_ (cw .u8) 35),o_ 37 (aK yb 1 1 [(0,1,z_ 36)]),o_ 38 (db 1 1 (z_ 32) (z_ 37)),V_ 0 38]) MO
def MN:=R_ [V_ 39 0,V_ 4 39]
def MM:=R_ [A_ 45 2 3,L_ 46 45,o_ 47 (u_ mY 46),I_ 48 0]
def ML:=R_ [A_ 58 2 3,L_ 59 58,V_ 60 7,o_ 61 (b_ xh 59 60),o_ 62 (d_ cX 61 (.int .u8 0))]
def MK:=R_ [V_ 63 0,o_ 64 (aK yb 1 1 [(0,1,(aT (.int .u8 255)))]),o_ 65 (db 1 1 (z_ 63) (z_ 64)),V_ 0 65]
def BV:=R_ [D_ 66 48 1,V_ 48 66]
def Df:CT:=sr [B_ 49 48 47] (sq (cd 49 .skip (.exit 3)) (sq (.block 4 (sr [V_ 50 48,V_ 7 50] (sr [V_ 51 0,A_ 52 2 3,L_ 53 52,V_ 54 7,o_ 55 (b_ xh 53 54),o_ 56 (aK yb 1 1 [(0,1,z_ 55)]),o_ 57 (db 1 1 (z_ 51) (z_ 56)),V_ 0 57] (sq ML (cd 62 MK .skip))))) BV))
def MJ:=R_ [V_ 67 0,o_ 68 (aK yb 2 1 [(0,1,(aT (.int .u8 0))),(1,1,(aT (.int .u8 1)))]),o_ 69 (db 1 1 (z_ 67) (z_ 68)),V_ 4 69]
def A241:CF:=⟨[aI 4],sr [X_ 3 1,o_ 4 (c_ (.al (.slice none 0 0)))] (sq (sr [A_ 8 0 3,L_ 9 8] (.block 0 (sr [K_ 11 9 3,V_ 10 11] (cd 10 (rr [V_ 12 0,A_ 13 1 3,L_ 14 13,o_ 15 (e2 rG (kI 2) (z_ 14)),o_ 16 (u_ (cw .u8) 15),o_ 17 (aK yb 1 1 [(0,1,z_ 16)]),o_ 18 (db 1 1 (z_ 12) (z_ 17)),V_ 4 18]) (sr [K_ 20 9 1,V_ 19 20] (cd 19 (sr [V_ 21 0,o_ 22 (aK yb 1 1 [(0,1,(aT (.int .u8 4)))]),o_ 23 (db 1 1 (z_ 21) (z_ 22)),V_ 0 23] (sq X3 (sq (sq X0 (bl 1 Dh)) (rt MN)))) (sr [K_ 41 9 2,V_ 40 41] (cd 40 (sr [V_ 42 0,o_ 43 (aK yb 1 1 [(0,1,(aT (.int .u8 5)))]),o_ 44 (db 1 1 (z_ 42) (z_ 43)),V_ 0 44] (sq (sq MM (bl 3 Df)) (rt MJ))) .skip)))))))) (rr [V_ 70 0,o_ 71 (aK yb 1 1 [(0,1,(aT (.int .u8 1)))]),o_ 72 (db 1 1 (z_ 70) (z_ 71)),V_ 4 72])),73⟩
theorem c241:cF 241=some A241:=by kernel_rfl
def A262:CF:=⟨[aI 3],sr [X_ 2 0,F_ 3] (rr [A_ 4 0 2,L_ 5 4,L_ 6 1,o_ 7 (b_ cX 5 6),V_ 3 7]),8⟩
theorem c262:cF 262=some A262:=by kernel_rfl
def A263:CF:=⟨[aI 4],sr [F_ 4] (rr [V_ 5 0,V_ 6 1,y_ 7 301 [z_ 5,z_ 6],o_ 8 (di rX 7 0),V_ 4 8]),9⟩
theorem c263:cF 263=some A263:=by kernel_rfl
def A264:CF:=⟨[aI 3],sr [F_ 3] (rr [V_ 4 0,H_ 5 4 0,V_ 6 5,jo 6 7 0,eo 6 8 1 1,fa 6 9 8,g_ 6 10 (b_ kH 7 9),P_ 11 6 10,V_ 3 11]),12⟩
theorem c264:cF 264=some A264:=by kernel_rfl
def XV:CT:=.fb [37,38,39,40,41,42,43,44,45,46,47,48,49,50,51,52] [bu [0] 37 0 1,bu [9] 38 9 1,bu [0] 42 0 1,bu [9] 43 9 1,i_ [43] 44 (di lD 43 1) 1,jK [42,44] 45 1 42 44 1,cC [45] 46 45 1,bu [0] 47 0 1,bu [9] 48 9 1,jK [47,48] 49 1 47 48 1,cC [49] 50 49 1,jK [37,38] 51 1 37 38 1,j_ [51,46] (s_ 1 51 46),bu [0] 39 0 2,bu [9] 40 9 2,i_ [40] 41 (di lD 40 1) 2,jK [39,41] 52 1 39 41 1,j_ [52,50] (s_ 1 52 50)]
def XU:=R_ [V_ 35 9,o_ 36 (di lD 35 1),V_ 9 36]
def Dc:CT:=lp (.fb [18,19,20,21,22,23,24,25,26,27,28,29,30,31,32,33,34] [bu [9] 18 9 1,bu [1] 19 1 1,i_ [18,19] 20 (b_ qP 18 19) 1,bu [20] 21 20 1,gI [21,3] 21 22 (v_ 3) 1,gI [21,0] 21 23 (v_ 0) 1,gI [21,9] 21 24 (v_ 9) 1,gI [21,23,24] 21 25 (b_ (e9 1) 23 24) 1,gI [21,25] 21 26 (l_ 25) 1,gI [21,0] 21 27 (v_ 0) 1,gI [21,9] 21 28 (v_ 9) 1,gI [21,28] 21 29 (di lD 28 1) 1,gI [21,27,29] 21 30 (b_ (e9 1) 27 29) 1,gI [21,30] 21 31 (l_ 30) 1,gvI [21,22,26,31] (z_ 21) true (bm 32) (z_ 22) [z_ 26,z_ 31],gI [21,32] 21 33 (di sK 32 0) 1,i_ [21,33] 34 (p_ 21 33) 1]) 34 2 3 XV XU
def Jo:=R_ [V_ 15 8,D_ 16 15 1,V_ 8 16]
def Db:CT:=lr [V_ 12 8,V_ 13 2,B_ 14 12 13] 14 0 1 (sr [V_ 17 8,V_ 9 17] (bl 2 Dc)) Jo
def A265:CF:=⟨[],sr [V_ 10 1,D_ 11 10 1,V_ 8 11] (bl 0 Db),53⟩
theorem c265:cF 265=some A265:=by kernel_rfl
def tC:=R_ [V_ 25 2,V_ 26 1,o_ 27 (b_ lD 25 26),K_ 28 27 1]
def Jn:=R_ [V_ 29 2,V_ 10 29]
def Jm:=R_ [V_ 30 3,V_ 11 30]
def XT:=R_ [V_ 51 12,D_ 52 51 1,V_ 10 52]
def XS:=R_ [V_ 53 12,V_ 11 53]
def C_:CT:=sq (sr [V_ 31 10,V_ 32 11,B_ 33 31 32] (cd 33 .skip (.exit 0))) (.block 1 (sr [V_ 34 10,V_ 35 11,o_ 36 (b_ rG 34 35),o_ 37 (u_ (cw .u64) 36),o_ 38 (d_ (dq .shr) 37 (.int .u64 1)),o_ 39 (u_ (cw .i64) 38),V_ 12 39] (sq (.fb [40,41,42,43,44,45,46,47,48,49,50] [bu [4] 40 4 1,bu [0] 41 0 1,bu [12] 42 12 1,jK [41,42] 43 1 41 42 1,cC [43] 44 43 1,bu [0] 45 0 1,bu [1] 46 1 1,jK [45,46] 47 1 45 46 1,cC [47] 48 47 1,vI [40,44,48] (bm 49) (z_ 40) [z_ 44,z_ 48],i_ [49] 50 (di sK 49 0) 1]) (cd 50 XT XS))))
def Jl:=R_ [V_ 54 1,V_ 13 54]
def MI:=R_ [V_ 59 13,D_ 60 59 1,V_ 13 60]
def C9:CT:=lr [V_ 55 13,V_ 56 10,o_ 57 (di lD 56 1),B_ 58 55 57] 58 2 3 (.fb [61,62,63,64,65,66,67,68,69,70,71,72,73,74,75,76] [bu [0] 61 0 1,bu [13] 62 13 1,bu [0] 66 0 1,bu [13] 67 13 1,i_ [67] 68 (di rG 67 1) 1,jK [66,68] 69 1 66 68 1,cC [69] 70 69 1,bu [0] 71 0 1,bu [13] 72 13 1,jK [71,72] 73 1 71 72 1,cC [73] 74 73 1,jK [61,62] 75 1 61 62 1,j_ [75,70] (s_ 1 75 70),bu [0] 63 0 2,bu [13] 64 13 2,i_ [64] 65 (di rG 64 1) 2,jK [63,65] 76 1 63 65 1,j_ [76,74] (s_ 1 76 74)]) MI
def rS:=R_ [V_ 77 3,V_ 78 2,o_ 79 (b_ lD 77 78),K_ 80 79 1]
def BU:=R_ [V_ 81 1,V_ 14 81]
def BS:=R_ [V_ 82 2,V_ 15 82]
def MH:=R_ [V_ 104 16,D_ 105 104 1,V_ 14 105]
def MG:=R_ [V_ 106 16,V_ 15 106]
def C6:CT:=sq (sr [V_ 83 14,V_ 84 15,B_ 85 83 84] (cd 85 .skip (.exit 4))) (.block 5 (sr [V_ 86 14,V_ 87 15,o_ 88 (b_ rG 86 87),o_ 89 (u_ (cw .u64) 88),o_ 90 (d_ (dq .shr) 89 (.int .u64 1)),o_ 91 (u_ (cw .i64) 90),V_ 16 91] (sq (.fb [92,93,94,95,96,97,98,99,100,101,102,103] [bu [4] 92 4 1,bu [0] 93 0 1,bu [2] 94 2 1,jK [93,94] 95 1 93 94 1,cC [95] 96 95 1,bu [0] 97 0 1,bu [16] 98 16 1,jK [97,98] 99 1 97 98 1,cC [99] 100 99 1,vI [92,96,100] (bm 101) (z_ 92) [z_ 96,z_ 100],i_ [101] 102 (di sK 101 0) 1,i_ [102] 103 (un 102) 1]) (cd 103 MH MG))))
def BQ:=R_ [V_ 107 2,V_ 17 107]
def MF:=R_ [V_ 111 17,o_ 112 (di lD 111 1),V_ 17 112]
def C4:CT:=lr [V_ 108 17,V_ 109 14,o_ 110 (b_ qP 108 109)] 110 6 7 (.fb [113,114,115,116,117,118,119,120,121,122,123,124,125,126,127,128] [bu [0] 113 0 1,bu [17] 114 17 1,bu [0] 118 0 1,bu [17] 119 17 1,i_ [119] 120 (di lD 119 1) 1,jK [118,120] 121 1 118 120 1,cC [121] 122 121 1,bu [0] 123 0 1,bu [17] 124 17 1,jK [123,124] 125 1 123 124 1,cC [125] 126 125 1,jK [113,114] 127 1 113 114 1,j_ [127,122] (s_ 1 127 122),bu [0] 115 0 2,bu [17] 116 17 2,i_ [116] 117 (di lD 116 1) 2,jK [115,117] 128 1 115 117 1,j_ [128,126] (s_ 1 128 126)]) MF
def u5:=R_ [V_ 129 1,V_ 130 3,o_ 131 (b_ rG 129 130),o_ 132 (u_ (cw .u64) 131),o_ 133 (d_ (dq .shr) 132 (.int .u64 1)),o_ 134 (u_ (cw .i64) 133),V_ 18 134]
def u4:=R_ [V_ 135 18,V_ 136 2,o_ 137 (b_ rG 135 136),V_ 19 137]
def u3:=R_ [I_ 20 0,I_ 21 0]
def u0:=R_ [V_ 138 2,V_ 139 18,o_ 140 (b_ qP 138 139)]
def BP:=R_ [V_ 141 19,V_ 142 3,o_ 143 (b_ lD 141 142),V_ 20 143]
def BO:=R_ [V_ 144 18,V_ 21 144]
def BN:=R_ [V_ 145 1,V_ 20 145]
def BM:=R_ [V_ 146 2,V_ 21 146]
def rR:=R_ [V_ 147 19,o_ 148 (di lD 147 1),V_ 22 148]
def ME:=R_ [V_ 172 23,D_ 173 172 1,V_ 20 173]
def MD:=R_ [V_ 174 23,V_ 21 174]
def tH:CT:=sq (sr [V_ 149 20,V_ 150 21,B_ 151 149 150] (cd 151 .skip (.exit 8))) (.block 9 (sr [V_ 152 20,V_ 153 21,o_ 154 (b_ rG 152 153),o_ 155 (u_ (cw .u64) 154),o_ 156 (d_ (dq .shr) 155 (.int .u64 1)),o_ 157 (u_ (cw .i64) 156),V_ 23 157] (sq (.fb [158,159,160,161,162,163,164,165,166,167,168,169,170,171] [bu [4] 158 4 1,bu [0] 159 0 1,bu [22] 160 22 1,bu [23] 161 23 1,i_ [160,161] 162 (b_ lD 160 161) 1,jK [159,162] 163 1 159 162 1,cC [163] 164 163 1,bu [0] 165 0 1,bu [23] 166 23 1,jK [165,166] 167 1 165 166 1,cC [167] 168 167 1,vI [158,164,168] (bm 169) (z_ 158) [z_ 164,z_ 168],i_ [169] 170 (di sK 169 0) 1,i_ [170] 171 (un 170) 1]) (cd 171 ME MD))))
def uZ:=R_ [V_ 175 19,V_ 176 20,o_ 177 (b_ lD 175 176),V_ 24 177]
def pO:=R_ [V_ 178 20,V_ 179 2,B_ 180 178 179,V_ 181 180,jo 181 182 2,jo 181 183 24,g_ 181 184 (b_ sK 182 183),P_ 185 181 184]
def uY:=R_ [V_ 186 0,V_ 187 20,V_ 188 2,V_ 189 24,V_ 190 4,y_ 191 302 [z_ 186,z_ 187,z_ 188,z_ 189,z_ 190]]
def kX:=R_ [V_ 192 1,V_ 193 20,B_ 194 192 193,V_ 195 194,jo 195 196 20,jo 195 197 18,g_ 195 198 (b_ sK 196 197),P_ 199 195 198]
def pM:=R_ [V_ 200 0,V_ 201 1,V_ 202 20,V_ 203 18,V_ 204 4,y_ 205 266 [z_ 200,z_ 201,z_ 202,z_ 203,z_ 204]]
def ju:=R_ [V_ 206 18,V_ 207 24,B_ 208 206 207,V_ 209 208,jo 209 210 24,jo 209 211 3,g_ 209 212 (b_ sK 210 211),P_ 213 209 212]
def kW:=R_ [V_ 214 0,V_ 215 18,V_ 216 24,V_ 217 3,V_ 218 4,y_ 219 266 [z_ 214,z_ 215,z_ 216,z_ 217,z_ 218]]
def A266:CF:=⟨[],iq tC 28 (sq Jn (sq Jm (sq (bl 0 C_) (rt (sq Jl (bl 2 C9)))))) (iq rS 80 (sq BU (sq BS (sq (bl 4 C6) (rt (sq BQ (bl 6 C4)))))) (sq u5 (sq u4 (sq u3 (sq (sq u0 (cd 140 (sq BP BO) (sq BN BM))) (sq rR (sq (bl 8 tH) (sq uZ (iq pO 185 uY (iq kX 199 pM (sq ju (cd 213 kW .skip)))))))))))),220⟩
theorem c266:cF 266=some A266:=by kernel_rfl
def A267:CF:=⟨[aI 2],sr [I_ 2 0] (sq (.block 0 (sr [V_ 4 0,K_ 5 4 1,V_ 6 5,qa 6 7 0,h_ 6 8 (di cX 7 3),Q_ 9 6 8,V_ 3 9] (cd 3 (rr [I_ 2 0]) (sr [V_ 11 0,o_ 12 (di rX 11 4),V_ 13 12,jo 13 14 0,g_ 13 15 (di HH 14 7),P_ 16 13 15,V_ 10 16] (cd 10 (rr [I_ 2 1]) (sr [V_ 18 0,o_ 19 (di rX 18 8),V_ 20 19,jo 20 21 0,g_ 20 22 (di HH 21 21),P_ 23 20 22,V_ 17 23] (cd 17 (rr [I_ 2 2]) .skip))))))) (rr [o_ 2 (c_ (.int .i64 (-1)))])),24⟩
theorem c267:cF 267=some A267:=by kernel_rfl
def A268:CF:=⟨[aI 4],sr [F_ 4] (rr [V_ 5 0,V_ 6 1,y_ 7 303 [z_ 5,z_ 6],o_ 8 (di rX 7 0),V_ 4 8]),9⟩
theorem c268:cF 268=some A268:=by kernel_rfl
def A269:CF:=⟨[aI 3],sr [X_ 2 0,F_ 3] (rr [N_ 4 8 2,L_ 5 1,y_ 6 216 [z_ 4,z_ 5],o_ 7 (un 6),V_ 3 7]),8⟩
theorem c269:cF 269=some A269:=by kernel_rfl
def A270:CF:=⟨[aI 4],sr [F_ 4] (rr [V_ 5 0,V_ 6 1,y_ 7 304 [z_ 5,z_ 6],o_ 8 (di rX 7 0),V_ 4 8]),9⟩
theorem c270:cF 270=some A270:=by kernel_rfl
def A271:CF:=⟨[aI 2],sr [X_ 1 0,F_ 2] (rr [N_ 3 3 1,y_ 4 88 [z_ 3],o_ 5 (un 4),V_ 2 5]),6⟩
theorem c271:cF 271=some A271:=by kernel_rfl
def A272:CF:=⟨[bU 2 3,aI 3],sr [X_ 1 0,o_ 2 (ak fq 3),I_ 3 0] (rr [o_ 4 (aN fq 3 [(0,1,kI 1)]),N_ 5 3 1,y_ 6 305 [z_ 4,z_ 5,kf 306],W_ 7 0 6,W_ 8 1 6,S_ 3 2 7,V_ 3 8]),9⟩
theorem c272:cF 272=some A272:=by kernel_rfl
def BL:=R_ [V_ 8 4,H_ 9 8 0,V_ 10 9,gQ 10 11 0 1,ij 10 12 11,h_ 10 13 (di cX 12 0),Q_ 14 10 13]
def Jk:=R_ [o_ 15 (aN fq 3 []),V_ 16 4,S_ 3 2 15,V_ 3 16]
def XR:=R_ [A_ 17 1 1,L_ 18 17,K_ 19 18 0,y_ 20 308 [z_ 19],S_ 3 2 20,I_ 3 0]
def A273:CF:=⟨[bU 2 3,aI 3],sr [X_ 1 0,o_ 2 (ak fq 3),I_ 3 0] (sq (sr [N_ 5 3 1,o_ 6 (aK fq 1 3 [(0,3,z_ 5)]),y_ 7 307 [kI 3,z_ 6],V_ 4 7] (sq BL (cd 14 (rt Jk) .skip))) (rt XR)),21⟩
theorem c273:cF 273=some A273:=by kernel_rfl
def A274:CF:=⟨[bU 0 14],sr [o_ 0 (ak afA 14)] (rr [o_ 1 (aN afA 14 [(0,1,kf 309),(1,1,kf 310),(2,1,kf 311),(3,1,kf 312),(4,1,kf 313),(5,1,kf 314),(6,1,kf 315),(7,1,kf 316),(8,1,kf 317),(9,1,kf 318),(10,1,kf 319),(11,1,kf 320),(12,1,kf 321),(13,1,kf 322)]),S_ 14 0 1]),2⟩
theorem c274:cF 274=some A274:=by kernel_rfl
def A283:CF:=⟨[aI 2],sr [I_ 2 0] (ir [V_ 3 0,o_ 4 (d_ rX 3 (.int .u64 4294967296))] 4 (sr [V_ 5 0,o_ 6 (d_ (dq .shr) 5 (.int .u64 32)),V_ 0 6] (R_ [I_ 2 32])) (ir [V_ 7 0,o_ 8 (d_ rX 7 (.int .u64 65536))] 8 (sr [V_ 9 0,o_ 10 (d_ (dq .shr) 9 (.int .u64 16)),V_ 0 10] (R_ [V_ 11 2,D_ 12 11 16,V_ 2 12])) (ir [V_ 13 0,o_ 14 (d_ rX 13 (.int .u64 256))] 14 (sr [V_ 15 0,o_ 16 (d_ (dq .shr) 15 (.int .u64 8)),V_ 0 16] (R_ [V_ 17 2,D_ 18 17 8,V_ 2 18])) (rr [V_ 19 2,V_ 20 0,o_ 21 (u_ (cw .u8) 20),o_ 22 (e2 xh (aT (.str [0,1,2,2,3,3,3,3,4,4,4,4,4,4,4,4,5,5,5,5,5,5,5,5,5,5,5,5,5,5,5,5,6,6,6,6,6,6,6,6,6,6,6,6,6,6,6,6,6,6,6,6,6,6,6,6,6,6,6,6,6,6,6,6,7,7,7,7,7,7,7,7,7,7,7,7,7,7,7,7,7,7,7,7,7,7,7,7,7,7,7,7,7,7,7,7,7,7,7,7,7,7,7,7,7,7,7,7,7,7,7,7,7,7,7,7,7,7,7,7,7,7,7,7,7,7,7,7,8,8,8,8,8,8,8,8,8,8,8,8,8,8,8,8,8,8,8,8,8,8,8,8,8,8,8,8,8,8,8,8,8,8,8,8,8,8,8,8,8,8,8,8,8,8,8,8,8,8,8,8,8,8,8,8,8,8,8,8,8,8,8,8,8,8,8,8,8,8,8,8,8,8,8,8,8,8,8,8,8,8,8,8,8,8,8,8,8,8,8,8,8,8,8,8,8,8,8,8,8,8,8,8,8,8,8,8,8,8,8,8,8,8,8,8,8,8,8,8,8,8,8,8,8,8,8,8])) (z_ 21)),o_ 23 (u_ (cw .i64) 22),o_ 24 (b_ rG 19 23),V_ 2 24])))),25⟩
theorem c283:cF 283=some A283:=by kernel_rfl
def A285:CF:=⟨[aI 4],sr [I_ 4 0] (rr [V_ 5 0,V_ 6 1,o_ 7 (b_ FK 5 6),V_ 4 7]),8⟩
theorem c285:cF 285=some A285:=by kernel_rfl
def XQ:=R_ [V_ 8 0,V_ 9 1,o_ 10 (u_ (cw .u8) 9),o_ 11 (d_ (dq .or) 10 (.int .u8 128)),y_ 12 167 [z_ 8,z_ 11]]
def XP:=R_ [V_ 6 1,o_ 7 (d_ (dq .shr) 6 (.int .u64 7)),V_ 1 7]
def JR:CT:=lr [V_ 4 1,o_ 5 (d_ qP 4 (.int .u64 127))] 5 0 1 XQ XP
def XO:=R_ [V_ 13 0,V_ 14 1,o_ 15 (u_ (cw .u8) 14),y_ 16 167 [z_ 13,z_ 15]]
def A286:CF:=⟨[],sq (bl 0 JR) XO,17⟩
theorem c286:cF 286=some A286:=by kernel_rfl
def A288:CF:=⟨[],sr [V_ 4 0,o_ 5 (d_ (js true .ptr) 4 (.al (.pointer none))),V_ 6 5,jo 6 7 0,g_ 6 8 (aU (z_ 7)),eo 6 9 0 8,eo 6 10 0 9,fa 6 11 10,P_ 12 6 11] (cd 12 (R_ [V_ 13 0,V_ 14 0,o_ 15 (aU (z_ 14)),A_ 16 0 15,A_ 17 1 16,L_ 18 17,V_ 19 1,o_ 20 (db 1 1 (z_ 18) (z_ 19)),o_ 21 (aU (z_ 13)),A_ 22 0 21,A_ 23 1 22,S_ 1 23 20]) .skip),24⟩
theorem c288:cF 288=some A288:=by kernel_rfl
def aiX:CT:=sr [B_ 9 8 7] (sq (cd 9 .skip (.exit 0)) (sq (.block 1 (sr [V_ 10 8,V_ 5 10] (sr [V_ 11 1,V_ 12 0,V_ 13 5,J_ 14 1 12 13,L_ 15 14,vP (bm 16) (z_ 11) [z_ 15]] (cd 16 (rr [V_ 17 5,V_ 4 17]) .skip)))) (R_ [D_ 18 8 1,V_ 8 18])))
def A301:CF:=⟨[aI 4],sr [I_ 4 0] (sq (sr [V_ 6 0,E_ 7 6,I_ 8 0] (bl 0 aiX)) (rr [o_ 4 (c_ (.int .i64 (-1)))])),19⟩
theorem c301:cF 301=some A301:=by kernel_rfl
def XN:=R_ [V_ 24 0,V_ 25 2,V_ 26 10,o_ 27 (b_ lD 25 26),V_ 28 2,V_ 29 11,V_ 30 4,y_ 31 334 [z_ 24,z_ 27,z_ 28,z_ 29,z_ 30]]
def XM:=R_ [V_ 32 10,V_ 33 11,o_ 34 (b_ lD 32 33),V_ 10 34]
def XL:=R_ [V_ 35 0,V_ 36 2,V_ 37 10,o_ 38 (b_ lD 36 37),V_ 39 2,V_ 40 11,o_ 41 (b_ rG 39 40),V_ 42 10,o_ 43 (b_ lD 41 42),V_ 44 10,V_ 45 4,y_ 46 334 [z_ 35,z_ 38,z_ 43,z_ 44,z_ 45]]
def XK:=R_ [V_ 47 11,V_ 48 10,o_ 49 (b_ lD 47 48),V_ 11 49]
def JQ:CT:=sq (sr [V_ 18 10,V_ 19 11,o_ 20 (b_ kH 18 19)] (cd 20 .skip (.exit 0))) (.block 1 (sr [V_ 21 10,V_ 22 11,o_ 23 (b_ qP 21 22)] (cd 23 (sq XN XM) (sq XL XK))))
def XJ:=R_ [V_ 50 0,V_ 51 2,V_ 52 10,o_ 53 (b_ lD 51 52),V_ 54 2,V_ 55 10,V_ 56 4,y_ 57 334 [z_ 50,z_ 53,z_ 54,z_ 55,z_ 56]]
def A302:CF:=⟨[],sr [V_ 12 2,V_ 13 1,o_ 14 (b_ lD 12 13),V_ 10 14] (sr [V_ 15 3,V_ 16 2,o_ 17 (b_ lD 15 16),V_ 11 17] (sq (bl 0 JQ) XJ)),58⟩
theorem c302:cF 302=some A302:=by kernel_rfl
def aiW:CT:=sr [B_ 9 8 7] (sq (cd 9 .skip (.exit 0)) (sq (.block 1 (sr [V_ 10 8,V_ 5 10] (sr [V_ 11 1,V_ 12 0,V_ 13 5,J_ 14 8 12 13,N_ 15 8 14,vP (bm 16) (z_ 11) [z_ 15]] (cd 16 (rr [V_ 17 5,V_ 4 17]) .skip)))) (R_ [D_ 18 8 1,V_ 8 18])))
def A303:CF:=⟨[aI 4],sr [I_ 4 0] (sq (sr [V_ 6 0,E_ 7 6,I_ 8 0] (bl 0 aiW)) (rr [o_ 4 (c_ (.int .i64 (-1)))])),19⟩
theorem c303:cF 303=some A303:=by kernel_rfl
def aiV:CT:=sr [B_ 9 8 7] (sq (cd 9 .skip (.exit 0)) (sq (.block 1 (sr [V_ 10 8,V_ 5 10] (sr [V_ 11 1,V_ 12 0,V_ 13 5,J_ 14 3 12 13,N_ 15 3 14,vP (bm 16) (z_ 11) [z_ 15]] (cd 16 (rr [V_ 17 5,V_ 4 17]) .skip)))) (R_ [D_ 18 8 1,V_ 8 18])))
def A304:CF:=⟨[aI 4],sr [I_ 4 0] (sq (sr [V_ 6 0,E_ 7 6,I_ 8 0] (bl 0 aiV)) (rr [o_ 4 (c_ (.int .i64 (-1)))])),19⟩
theorem c304:cF 304=some A304:=by kernel_rfl
def xP:=R_ [V_ 15 8,H_ 16 15 0,V_ 17 16,gQ 17 18 0 3,ij 17 19 18,h_ 17 20 (di cX 19 0),Q_ 21 17 20,V_ 22 21,gQ 22 23 0 4,ij 22 24 23,h_ 22 25 (di cX 24 0),Q_ 26 22 25]
def BK:=R_ [o_ 27 (aN fq 3 []),V_ 28 8,S_ 3 6 27,V_ 7 28]
def XI:=R_ [V_ 30 2,A_ 31 1 3,L_ 32 31,A_ 33 1 4,L_ 34 33,vP (bm 35) (z_ 30) [z_ 32,z_ 34],V_ 29 35,W_ 36 0 29,W_ 37 1 29,V_ 9 36,V_ 10 37]
def Jj:=R_ [V_ 38 10,o_ 39 (un 38)]
def XH:=R_ [o_ 40 (aN fq 3 []),S_ 3 6 40,I_ 7 31]
def XG:=R_ [V_ 41 9,o_ 42 (aN fq 3 [(0,1,kI 1),(1,1,z_ 41)]),S_ 3 6 42,I_ 7 0]
def A305:CF:=⟨[bU 6 3,aI 7],sr [X_ 3 0,X_ 4 1,o_ 6 (ak fq 3),I_ 7 0] (sq (sr [N_ 11 3 3,N_ 12 3 4,o_ 13 (aK fq 2 3 [(0,3,z_ 11),(3,3,z_ 12)]),y_ 14 307 [kI 1,z_ 13],V_ 8 14] (sq xP (cd 26 (rt BK) .skip))) (sq XI (iq Jj 39 (rt XH) (rt XG)))),43⟩
theorem c305:cF 305=some A305:=by kernel_rfl
def A306:CF:=⟨[aI 4,aI 5],sr [I_ 4 0,F_ 5] (rr [V_ 6 1,o_ 7 (u_ (cUn .neg) 6),V_ 8 1,o_ 9 (di kH 8 (-9223372036854775808)),V_ 4 7,V_ 5 9]),10⟩
theorem c306:cF 306=some A306:=by kernel_rfl
def XF:=R_ [I_ 4 5]
def XE:=R_ [D_ 18 11 1,V_ 11 18]
def JP:CT:=sr [B_ 12 11 10] (sq (cd 12 .skip (.exit 0)) (sq (.block 1 (sr [J_ 13 3 9 11,N_ 14 3 13,o_ 6 (ak fq 3),S_ 3 6 14] (sr [N_ 15 3 6,y_ 16 88 [z_ 15],o_ 17 (un 16)] (cd 17 (rt XF) .skip)))) XE))
def XD:=R_ [V_ 19 1,E_ 20 19,I_ 21 0]
def xW:CT:=sr [B_ 22 21 20] (sq (cd 22 .skip (.exit 2)) (sq (.block 3 (sr [J_ 23 3 19 21,N_ 24 3 23,o_ 8 (ak fq 3),S_ 3 8 24] (sr [A_ 25 0 8,L_ 26 25,H_ 27 26 0,V_ 28 27,eo 28 29 0 8,fa 28 30 29,jo 28 31 0,g_ 28 32 (b_ kH 30 31),P_ 33 28 32] (cd 33 (rr [I_ 4 30]) .skip)))) (R_ [D_ 34 21 1,V_ 21 34])))
def MC:=R_ [I_ 4 0]
def A307:CF:=⟨[aI 4],sr [I_ 4 0] (sq (sr [V_ 9 1,E_ 10 9,I_ 11 0] (bl 0 JP)) (sq (sq XD (bl 2 xW)) (rt MC))),35⟩
theorem c307:cF 307=some A307:=by kernel_rfl
def A308:CF:=⟨[bU 2 3],sr [o_ 2 (ak fq 3)] (ir [V_ 3 0] 3 (rr [o_ 4 (aN fq 3 [(0,1,kI 3),(1,1,kI 1)]),S_ 3 2 4]) (rr [o_ 5 (aN fq 3 [(0,1,kI 3)]),S_ 3 2 5])),6⟩
theorem c308:cF 308=some A308:=by kernel_rfl
def A309:CF:=⟨[bU 4 3,aI 5],sr [X_ 2 0,X_ 3 1,o_ 4 (ak fq 3),I_ 5 0] (rr [N_ 6 3 2,N_ 7 3 3,y_ 8 305 [z_ 6,z_ 7,kf 335],W_ 9 0 8,W_ 10 1 8,S_ 3 4 9,V_ 5 10]),11⟩
theorem c309:cF 309=some A309:=by kernel_rfl
def A310:CF:=⟨[bU 4 3,aI 5],sr [X_ 2 0,X_ 3 1,o_ 4 (ak fq 3),I_ 5 0] (rr [N_ 6 3 2,N_ 7 3 3,y_ 8 305 [z_ 6,z_ 7,kf 336],W_ 9 0 8,W_ 10 1 8,S_ 3 4 9,V_ 5 10]),11⟩
theorem c310:cF 310=some A310:=by kernel_rfl
def A311:CF:=⟨[bU 4 3,aI 5],sr [X_ 2 0,X_ 3 1,o_ 4 (ak fq 3),I_ 5 0] (rr [N_ 6 3 2,N_ 7 3 3,y_ 8 305 [z_ 6,z_ 7,kf 337],W_ 9 0 8,W_ 10 1 8,S_ 3 4 9,V_ 5 10]),11⟩
theorem c311:cF 311=some A311:=by kernel_rfl
def Ji:=R_ [X_ 2 0,X_ 3 1,o_ 4 (ak fq 3),I_ 5 0]
def Jh:=R_ [N_ 6 3 2,N_ 7 3 3,o_ 8 (aK fq 2 3 [(0,3,z_ 6),(3,3,z_ 7)]),y_ 9 307 [kI 1,z_ 8],K_ 10 9 0,V_ 11 10,eo 11 12 0 2,fa 11 13 12,g_ 11 14 (di kH 13 0),P_ 15 11 14,V_ 16 15,eo 16 17 0 3,fa 16 18 17,g_ 16 19 (di kH 18 0),P_ 20 16 19,V_ 21 20,eo 21 22 1 3,fa 21 23 22,g_ 21 24 (di cX 23 0),P_ 25 21 24]
def Jg:=R_ [o_ 26 (aN fq 3 []),S_ 3 4 26,I_ 5 32]
def A312:CF:=⟨[bU 4 3,aI 5],sq Ji (iq Jh 25 (rt Jg) (rr [N_ 27 3 2,N_ 28 3 3,y_ 29 305 [z_ 27,z_ 28,kf 338],W_ 30 0 29,W_ 31 1 29,S_ 3 4 30,V_ 5 31])),32⟩
theorem c312:cF 312=some A312:=by kernel_rfl
def A313:CF:=⟨[bU 4 3,aI 5],sr [X_ 2 0,X_ 3 1,o_ 4 (ak fq 3),I_ 5 0] (ir [N_ 6 3 2,N_ 7 3 3,o_ 8 (aK fq 2 3 [(0,3,z_ 6),(3,3,z_ 7)]),y_ 9 307 [kI 1,z_ 8],K_ 10 9 0,V_ 11 10,eo 11 12 0 2,fa 11 13 12,g_ 11 14 (di kH 13 0),P_ 15 11 14,V_ 16 15,eo 16 17 0 3,fa 16 18 17,g_ 16 19 (di kH 18 0),P_ 20 16 19,V_ 21 20,eo 21 22 1 3,fa 21 23 22,g_ 21 24 (di cX 23 0),P_ 25 21 24] 25 (rr [o_ 26 (aN fq 3 []),S_ 3 4 26,I_ 5 32]) (rr [N_ 27 3 2,N_ 28 3 3,y_ 29 305 [z_ 27,z_ 28,kf 339],W_ 30 0 29,W_ 31 1 29,S_ 3 4 30,V_ 5 31])),32⟩
theorem c313:cF 313=some A313:=by kernel_rfl
def tB:=R_ [V_ 11 6,H_ 12 11 0,V_ 13 12,gQ 13 14 0 2,ij 13 15 14,h_ 13 16 (di cX 15 0),Q_ 17 13 16,V_ 18 17,gQ 18 19 0 3,ij 18 20 19,h_ 18 21 (di cX 20 0),Q_ 22 18 21]
def BI:=R_ [o_ 23 (aN fq 3 []),V_ 24 6,S_ 3 4 23,V_ 5 24]
def Jf:=R_ [A_ 25 2 2,L_ 26 25,o_ 27 (u_ mY 26),A_ 28 2 3,L_ 29 28,o_ 30 (u_ mY 29),o_ 31 (b_ rG 27 30),o_ 32 (di qP 31 64)]
def XC:=R_ [o_ 33 (aN fq 3 []),S_ 3 4 33,I_ 5 3]
def XB:=R_ [A_ 34 2 2,L_ 35 34,A_ 36 2 3,L_ 37 36,o_ 38 (b_ rG 35 37),o_ 39 (aN fq 3 [(0,1,kI 2),(2,1,z_ 38)]),S_ 3 4 39,I_ 5 0]
def A314:CF:=⟨[bU 4 3,aI 5],sr [X_ 2 0,X_ 3 1,o_ 4 (ak fq 3),I_ 5 0] (sq (sr [N_ 7 3 2,N_ 8 3 3,o_ 9 (aK fq 2 3 [(0,3,z_ 7),(3,3,z_ 8)]),y_ 10 307 [kI 2,z_ 9],V_ 6 10] (sq tB (cd 22 (rt BI) .skip))) (iq Jf 32 (rt XC) (rt XB))),40⟩
theorem c314:cF 314=some A314:=by kernel_rfl
def A315:CF:=⟨[bU 4 3,aI 5],sr [X_ 2 0,X_ 3 1,o_ 4 (ak fq 3),I_ 5 0] (rr [N_ 6 3 2,N_ 7 3 3,y_ 8 340 [z_ 6,z_ 7,kf 341],W_ 9 0 8,W_ 10 1 8,S_ 3 4 9,V_ 5 10]),11⟩
theorem c315:cF 315=some A315:=by kernel_rfl
def A316:CF:=⟨[bU 4 3,aI 5],sr [X_ 2 0,X_ 3 1,o_ 4 (ak fq 3),I_ 5 0] (rr [N_ 6 3 2,N_ 7 3 3,y_ 8 340 [z_ 6,z_ 7,kf 342],W_ 9 0 8,W_ 10 1 8,S_ 3 4 9,V_ 5 10]),11⟩
theorem c316:cF 316=some A316:=by kernel_rfl
def A317:CF:=⟨[bU 4 3,aI 5],sr [X_ 2 0,X_ 3 1,o_ 4 (ak fq 3),I_ 5 0] (rr [N_ 6 3 2,N_ 7 3 3,y_ 8 340 [z_ 6,z_ 7,kf 343],W_ 9 0 8,W_ 10 1 8,S_ 3 4 9,V_ 5 10]),11⟩
theorem c317:cF 317=some A317:=by kernel_rfl
def A318:CF:=⟨[bU 4 3,aI 5],sr [X_ 2 0,X_ 3 1,o_ 4 (ak fq 3),I_ 5 0] (rr [N_ 6 3 2,N_ 7 3 3,y_ 8 340 [z_ 6,z_ 7,kf 344],W_ 9 0 8,W_ 10 1 8,S_ 3 4 9,V_ 5 10]),11⟩
theorem c318:cF 318=some A318:=by kernel_rfl
def A319:CF:=⟨[bU 4 3,aI 5],sr [X_ 2 0,X_ 3 1,o_ 4 (ak fq 3),I_ 5 0] (rr [N_ 6 3 2,N_ 7 3 3,y_ 8 340 [z_ 6,z_ 7,kf 345],W_ 9 0 8,W_ 10 1 8,S_ 3 4 9,V_ 5 10]),11⟩
theorem c319:cF 319=some A319:=by kernel_rfl
def A320:CF:=⟨[bU 4 3,aI 5],sr [X_ 2 0,X_ 3 1,o_ 4 (ak fq 3),I_ 5 0] (rr [N_ 6 3 2,N_ 7 3 3,y_ 8 340 [z_ 6,z_ 7,kf 346],W_ 9 0 8,W_ 10 1 8,S_ 3 4 9,V_ 5 10]),11⟩
theorem c320:cF 320=some A320:=by kernel_rfl
def Je:=R_ [X_ 2 0,X_ 3 1,o_ 4 (ak fq 3),I_ 5 0]
def Jd:=R_ [N_ 8 3 2,N_ 9 3 3,o_ 10 (aK fq 2 3 [(0,3,z_ 8),(3,3,z_ 9)]),y_ 11 307 [kI 3,z_ 10],V_ 6 11]
def BH:=R_ [V_ 12 6,H_ 13 12 0]
def Jc:=R_ [o_ 14 (aN fq 3 []),V_ 15 6,S_ 3 4 14,V_ 5 15]
def xO:=R_ [N_ 18 3 2,N_ 19 3 7,o_ 20 (b_ (ly false [.i,.i,.s]) 18 19),V_ 21 20,Lq 21 22 3 3,Lq 21 23 3 7,h_ 21 24 (b_ (ly false [.i,.i,.s]) 22 23),Q_ 25 21 24,V_ 17 25]
def BG:=R_ [N_ 26 3 7,S_ 3 4 26,I_ 5 0]
def xN:=R_ [A_ 28 0 2,L_ 29 28,K_ 30 29 0,V_ 31 30,gQ 31 32 0 3,ij 31 33 32,h_ 31 34 (di cX 33 0),Q_ 35 31 34,V_ 27 35]
def BF:=R_ [o_ 36 (aN fq 3 []),S_ 3 4 36,I_ 5 0]
def A321:CF:=⟨[bU 4 3,aI 5],sq Je (sq (sq Jd (sq BH (cd 13 (rt Jc) .skip))) (sr [y_ 16 308 [(aT (.bool false))],o_ 7 (ak fq 3),S_ 3 7 16] (sq (.block 0 (sq xO (cd 17 (rt BG) (sq xN (cd 27 (rt BF) .skip))))) (rr [y_ 37 308 [(aT (.bool true))],S_ 3 4 37,I_ 5 0])))),38⟩
theorem c321:cF 321=some A321:=by kernel_rfl
def A322:CF:=⟨[bU 4 3,aI 5],sr [X_ 2 0,X_ 3 1,o_ 4 (ak fq 3),I_ 5 0] (sq (sr [N_ 8 3 2,N_ 9 3 3,o_ 10 (aK fq 2 3 [(0,3,z_ 8),(3,3,z_ 9)]),y_ 11 307 [kI 3,z_ 10],V_ 6 11] (sr [V_ 12 6,H_ 13 12 0] (cd 13 (rr [o_ 14 (aN fq 3 []),V_ 15 6,S_ 3 4 14,V_ 5 15]) .skip))) (sr [y_ 16 308 [(aT (.bool true))],o_ 7 (ak fq 3),S_ 3 7 16] (sq (.block 0 (sr [N_ 18 3 2,N_ 19 3 7,o_ 20 (b_ (ly false [.i,.i,.s]) 18 19),V_ 21 20,Lq 21 22 3 3,Lq 21 23 3 7,h_ 21 24 (b_ (ly false [.i,.i,.s]) 22 23),Q_ 25 21 24,V_ 17 25] (cd 17 (rr [N_ 26 3 7,S_ 3 4 26,I_ 5 0]) (sr [A_ 28 0 2,L_ 29 28,K_ 30 29 0,V_ 31 30,gQ 31 32 0 3,ij 31 33 32,h_ 31 34 (di cX 33 0),Q_ 35 31 34,V_ 27 35] (cd 27 (rr [o_ 36 (aN fq 3 []),S_ 3 4 36,I_ 5 0]) .skip))))) (rr [y_ 37 308 [(aT (.bool false))],S_ 3 4 37,I_ 5 0])))),38⟩
theorem c322:cF 322=some A322:=by kernel_rfl
def XA:=R_ [V_ 14 10,D_ 15 14 1,V_ 10 15]
def JO:CT:=lr [V_ 11 10,V_ 12 3,B_ 13 11 12] 13 0 1 (.fb [16,17,18,19,20,21,22,23,24,25,26,27,28,29,30,31,32,33,34,35,36,37] [bu [0] 16 0 1,bu [1] 17 1 1,bu [10] 18 10 1,i_ [17,18] 19 (b_ rG 17 18) 1,bu [0] 24 0 1,bu [2] 25 2 1,bu [10] 26 10 1,i_ [25,26] 27 (b_ rG 25 26) 1,jK [24,27] 28 1 24 27 1,cC [28] 29 28 1,bu [0] 30 0 1,bu [1] 31 1 1,bu [10] 32 10 1,i_ [31,32] 33 (b_ rG 31 32) 1,jK [30,33] 34 1 30 33 1,cC [34] 35 34 1,jK [16,19] 36 1 16 19 1,j_ [36,29] (s_ 1 36 29),bu [0] 20 0 2,bu [2] 21 2 2,bu [10] 22 10 2,i_ [21,22] 23 (b_ rG 21 22) 2,jK [20,23] 37 1 20 23 1,j_ [37,35] (s_ 1 37 35)]) XA
def A334:CF:=⟨[],sr [I_ 10 0] (bl 0 JO),38⟩
theorem c334:cF 334=some A334:=by kernel_rfl
def A335:CF:=⟨[aI 4,aI 5],sr [I_ 4 0,F_ 5] (sr [V_ 7 0,V_ 8 1,o_ 9 (b_ rG 7 8),V_ 6 9] (rr [V_ 10 6,V_ 11 0,o_ 12 (di sK 11 0),V_ 13 1,o_ 14 (di sK 13 0),o_ 15 (b_ (js true .bool) 12 14),V_ 16 15,qa 16 17 6,h_ 16 18 (di sK 17 0),qa 16 19 0,h_ 16 20 (di sK 19 0),h_ 16 21 (b_ (js false .bool) 18 20),Q_ 22 16 21,V_ 4 10,V_ 5 22])),23⟩
theorem c335:cF 335=some A335:=by kernel_rfl
def A336:CF:=⟨[aI 4,aI 5],sr [I_ 4 0,F_ 5] (sr [V_ 7 0,V_ 8 1,o_ 9 (b_ lD 7 8),V_ 6 9] (rr [V_ 10 6,V_ 11 0,o_ 12 (di sK 11 0),V_ 13 1,o_ 14 (di sK 13 0),o_ 15 (b_ (js false .bool) 12 14),V_ 16 15,qa 16 17 6,h_ 16 18 (di sK 17 0),qa 16 19 0,h_ 16 20 (di sK 19 0),h_ 16 21 (b_ (js false .bool) 18 20),Q_ 22 16 21,V_ 4 10,V_ 5 22])),23⟩
theorem c336:cF 336=some A336:=by kernel_rfl
def A337:CF:=⟨[aI 4,aI 5],sr [I_ 4 0,F_ 5] (ir [V_ 7 0,K_ 8 7 0,V_ 9 8,qa 9 10 1,h_ 9 11 (di cX 10 0),Q_ 12 9 11] 12 (rr [I_ 4 0,T_ 5]) (sr [V_ 13 0,V_ 14 1,o_ 15 (b_ (dq .mul) 13 14),V_ 6 15] (rt (.fb [16,17,18,19,20,21,22,23,24,25,26,27,28,29,30,31,32,33,34,35,36,37,38] [bu [6] 16 6 1,bu [0] 17 0 1,i_ [17] 18 (di cX 17 (-1)) 1,bu [18] 19 18 1,gI [19,1] 19 20 (v_ 1) 1,gI [19,20] 19 21 (di cX 20 (-9223372036854775808)) 1,i_ [19,21] 22 (p_ 19 21) 1,bu [22] 23 22 1,hI [23,1] 23 24 (v_ 1) 1,hI [23,24] 23 25 (di cX 24 (-1)) 1,hI [23,25] 23 26 (v_ 25) 1,gI [26,0] 26 27 (v_ 0) 1,gI [26,27] 26 28 (di cX 27 (-9223372036854775808)) 1,hI [23,26,28] 23 29 (p_ 26 28) 1,i_ [23,29] 30 (q_ 23 29) 1,i_ [30] 31 (un 30) 1,bu [31] 32 31 1,gI [32,6] 32 33 (v_ 6) 1,gI [32,1] 32 34 (v_ 1) 1,gI [32,33,34] 32 35 (b_ (dq .quo) 33 34) 1,gI [32,0] 32 36 (v_ 0) 1,gI [32,35,36] 32 37 (b_ cX 35 36) 1,i_ [32,37] 38 (p_ 32 37) 1,bu [16] 4 16 1,bu [38] 5 38 1])))),39⟩
theorem c337:cF 337=some A337:=by kernel_rfl
def A338:CF:=⟨[aI 4,aI 5],sr [I_ 4 0,F_ 5] (ir [V_ 6 0,o_ 7 (di cX 6 (-9223372036854775808)),V_ 8 7,jo 8 9 1,g_ 8 10 (di cX 9 (-1)),P_ 11 8 10] 11 (rr [I_ 4 0,F_ 5]) (rr [V_ 12 0,V_ 13 1,o_ 14 (b_ (dq .quo) 12 13),V_ 4 14,T_ 5])),15⟩
theorem c338:cF 338=some A338:=by kernel_rfl
def A339:CF:=⟨[aI 4,aI 5],sr [I_ 4 0,F_ 5] (ir [V_ 6 1,o_ 7 (di cX 6 (-1))] 7 (rr [I_ 4 0,T_ 5]) (rr [V_ 8 0,V_ 9 1,o_ 10 (b_ (dq .rem) 8 9),V_ 4 10,T_ 5])),11⟩
theorem c339:cF 339=some A339:=by kernel_rfl
def Jb:=R_ [o_ 16 (aN fq 3 []),S_ 3 6 16,I_ 7 5]
def xM:=R_ [A_ 17 0 3,L_ 18 17,K_ 19 18 0,V_ 20 19,gQ 20 21 0 4,ij 20 22 21,h_ 20 23 (di cX 22 0),Q_ 24 20 23]
def Ja:=R_ [o_ 25 (aN fq 3 []),S_ 3 6 25,I_ 7 0]
def I9:=R_ [A_ 26 0 3,L_ 27 26,A_ 28 0 4,L_ 29 28,o_ 30 (b_ kH 27 29)]
def Xz:=R_ [o_ 31 (aN fq 3 []),S_ 3 6 31,I_ 7 30]
def Xy:=R_ [V_ 32 2,N_ 33 3 3,N_ 34 3 4,y_ 35 164 [z_ 33,z_ 34],vP (bm 36) (z_ 32) [z_ 35],y_ 37 308 [z_ 36],S_ 3 6 37,I_ 7 0]
def A340:CF:=⟨[bU 6 3,aI 7],sr [X_ 3 0,X_ 4 1,o_ 6 (ak fq 3),I_ 7 0] (ir [N_ 8 3 3,y_ 9 88 [z_ 8],o_ 10 (un 9),V_ 11 10,Lq 11 12 3 4,kM (z_ 11) false (bm 13) 88 [z_ 12],h_ 11 14 (un 13),Q_ 15 11 14] 15 (rt Jb) (iq xM 24 (rt Ja) (iq I9 30 (rt Xz) (rt Xy)))),38⟩
theorem c340:cF 340=some A340:=by kernel_rfl
def A341:CF:=⟨[aI 2],sr [F_ 2] (rr [V_ 3 0,K_ 4 3 0,V_ 2 4]),5⟩
theorem c341:cF 341=some A341:=by kernel_rfl
def A342:CF:=⟨[aI 2],sr [F_ 2] (rr [V_ 3 0,H_ 4 3 0,V_ 2 4]),5⟩
theorem c342:cF 342=some A342:=by kernel_rfl
def A343:CF:=⟨[aI 2],sr [F_ 2] (rr [V_ 3 0,o_ 4 (di sK 3 0),V_ 2 4]),5⟩
theorem c343:cF 343=some A343:=by kernel_rfl
def A344:CF:=⟨[aI 2],sr [F_ 2] (rr [V_ 3 0,o_ 4 (di HH 3 0),V_ 2 4]),5⟩
theorem c344:cF 344=some A344:=by kernel_rfl
def A345:CF:=⟨[aI 2],sr [F_ 2] (rr [V_ 3 0,o_ 4 (di qP 3 0),V_ 2 4]),5⟩
theorem c345:cF 345=some A345:=by kernel_rfl
def A346:CF:=⟨[aI 2],sr [F_ 2] (rr [V_ 3 0,o_ 4 (di rX 3 0),V_ 2 4]),5⟩
theorem c346:cF 346=some A346:=by kernel_rfl
end Go.Abs
