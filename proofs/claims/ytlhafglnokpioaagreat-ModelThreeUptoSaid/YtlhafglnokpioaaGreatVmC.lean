/- A part. -/
import Derived.Test.YtlhafglnokpioaaGreatProg
import Derived.KernelRfl
import Derived.Test.YtlhafglnokpioaaGreatAbs6
noncomputable section
namespace Go.Abs
open Go.Proofs
set_option maxRecDepth 100000
noncomputable  abbrev pG:=Tryz.prog
theorem bH{p:Prop}(h:p:=by kernel_rfl):p:=h
abbrev z_ (a:Nat):G:=aA a
abbrev v_ (a:Nat):Eff:=eJ (aA a)
abbrev c_ (x:AV):Eff:=eJ (aO x)
abbrev a_ (k a:Nat):Eff:=e1 (zk k) (aA a)
abbrev l_ (a:Nat):Eff:=uR (aA a)
abbrev n_ (n a:Nat):Eff:=iP n (aA a)
abbrev u_ (f:AV->bD)(a:Nat):Eff:=e1 f (aA a)
abbrev b_ (f:AV->AV->bD)(a b:Nat):Eff:=e2 f (aA a) (aA b)
abbrev d_ (f:AV->AV->bD)(a:Nat)(x:AV):Eff:=e2 f (aA a) (aO x)
abbrev s_ (n a b:Nat):Eff:=dD n (aA a) (aA b)
abbrev p_ (a b:Nat):Eff:=yY (aA a) (aA b) (aO (.bool false))
abbrev q_ (a b:Nat):Eff:=yY (aA a) (aO (.bool true)) (aA b)
abbrev x_ (a:Nat):Eff:=Ih (aA a)
abbrev o_ (d:Nat)(e:Eff):Option GO:=oP (bc d) e
abbrev g_ (a d:Nat)(e:Eff):Option GO:=gP (aA a) true (bc d) e
abbrev h_ (a d:Nat)(e:Eff):Option GO:=gP (aA a) false (bc d) e
abbrev i_ (l:List Nat)(d:Nat)(e:Eff)(c:Nat):Option RO:=oI l (bc d) e c
abbrev j_ (l:List Nat)(e:Eff):Option RO:=mI l rj e
abbrev y_ (d:Nat)(f:FuncId)(l:List G):Option GO:=cP (bc d) f l
abbrev cJ:AV:=.aV (.slice none 0 0)
abbrev jR:AV:=.aV .nilFunc
abbrev eU:AV:=.int .i64 0
abbrev iE:AV:=.str []
abbrev AD:AV:=.int .u32 0
abbrev jb:AV:=.bool false
abbrev TI:List AV:=[eU,iE,iE,cJ,cJ,jb,cJ,cJ,eU,eU,eU,iE,iE,iE,eU,cJ,jb,jb,cJ,cJ,eU,eU,eU,iE,iE,iE,eU,cJ,cJ,jb,eU]
@[simp] theorem z1_e:TI=[eU,iE,iE,cJ,cJ,jb,cJ,cJ,eU,eU,eU,iE,iE,iE,eU,cJ,jb,jb,cJ,cJ,eU,eU,eU,iE,iE,iE,eU,cJ,cJ,jb,eU]:=Eq.trans rfl rfl
abbrev nF:List AV:=[eU,eU,eU,iE,iE,iE,eU,cJ]
@[simp] theorem z2_e:nF=[eU,eU,eU,iE,iE,iE,eU,cJ]:=Eq.trans rfl rfl
abbrev fJ:List AV:=[eU,eU,iE]
@[simp] theorem z3_e:fJ=[eU,eU,iE]:=Eq.trans rfl rfl
abbrev z4_:List AV:=[eU,iE,AD,iE,cJ,AD,AD,AD,iE,cJ,jb,AD,cJ,cJ,cJ,cJ,cJ,cJ,cJ,cJ,cJ,cJ,jb,jb,eU]
@[simp] theorem z4_e:z4_=[eU,iE,AD,iE,cJ,AD,AD,AD,iE,cJ,jb,AD,cJ,cJ,cJ,cJ,cJ,cJ,cJ,cJ,cJ,cJ,jb,jb,eU]:=Eq.trans rfl rfl
abbrev Vy:List AV:=[jb,jb,cJ,cJ,eU,eU,eU,iE,iE,iE,eU,cJ,cJ,jb,eU]
@[simp] theorem z5_e:Vy=[jb,jb,cJ,cJ,eU,eU,eU,iE,iE,iE,eU,cJ,cJ,jb,eU]:=Eq.trans rfl rfl
abbrev uv:List AV:=[cJ,cJ,cJ]
@[simp] theorem z6_e:uv=[cJ,cJ,cJ]:=Eq.trans rfl rfl
abbrev OE:List AV:=[iE,iE,eU,eU,eU,iE,iE,iE,eU,cJ]
@[simp] theorem z7_e:OE=[iE,iE,eU,eU,eU,iE,iE,iE,eU,cJ]:=Eq.trans rfl rfl
abbrev GH:List AV:=[cJ,cJ,cJ,eU]
@[simp] theorem z8_e:GH=[cJ,cJ,cJ,eU]:=Eq.trans rfl rfl
abbrev xg:List AV:=[AD,iE,cJ,AD]
@[simp] theorem z9_e:xg=[AD,iE,cJ,AD]:=Eq.trans rfl rfl
abbrev Ad:List AV:=[AD,AD,iE,cJ,jb,AD]
@[simp] theorem ayD:Ad=[AD,AD,iE,cJ,jb,AD]:=Eq.trans rfl rfl
abbrev xh:List AV:=[eU,eU,eU,jb,jb]
@[simp] theorem ayC:xh=[eU,eU,eU,jb,jb]:=Eq.trans rfl rfl
abbrev Vz:List AV:=[eU,eU,eU,iE,iE,iE,eU,cJ,iE]
@[simp] theorem ayB:Vz=[eU,eU,eU,iE,iE,iE,eU,cJ,iE]:=Eq.trans rfl rfl
abbrev aek:List AV:=[eU,jR,jR,eU,jR,jR,eU,jR,jR]
@[simp] theorem ayA:aek=[eU,jR,jR,eU,jR,jR,eU,jR,jR]:=Eq.trans rfl rfl
abbrev sZ:List AV:=[cJ]
@[simp] theorem ayz:sZ=[cJ]:=Eq.trans rfl rfl
abbrev ajs:List AV:=[jR,jR,jR,jR,jR,jR,jR,jR,jR,jR,jR,jR,jR,jR]
@[simp] theorem ayy:ajs=[jR,jR,jR,jR,jR,jR,jR,jR,jR,jR,jR,jR,jR,jR]:=Eq.trans rfl rfl
abbrev Ji:List AV:=[iE,eU,jb]
@[simp] theorem ayx:Ji=[iE,eU,jb]:=Eq.trans rfl rfl
abbrev Ac:List AV:=[eU]
@[simp] theorem ayw:Ac=[eU]:=Eq.trans rfl rfl
abbrev aej:List AV:=[eU,jR,jR]
@[simp] theorem ayv:aej=[eU,jR,jR]:=Eq.trans rfl rfl
abbrev Ab:List AV:=[(.int .u8 0)]
@[simp] theorem ayu:Ab=[(.int .u8 0)]:=Eq.trans rfl rfl
abbrev R_(l:List (Option GO)):CT:=.nw l
@[simp] theorem R_e(l:List (Option GO)):R_ l=.nw l:=Eq.trans rfl rfl
abbrev V_(d a:Nat):Option GO:=o_ d (v_ a)
abbrev A_(d k a:Nat):Option GO:=o_ d (a_ k a)
abbrev L_(d a:Nat):Option GO:=o_ d (l_ a)
abbrev I_(d:Nat)(n:Int):Option GO:=o_ d (c_ (.int .i64 n))
abbrev S_(n a b:Nat):Option GO:=oP rj (s_ n a b)
abbrev N_(d n a:Nat):Option GO:=o_ d (n_ n a)
abbrev F_(d:Nat):Option GO:=o_ d (c_ (.bool false))
abbrev T_(d:Nat):Option GO:=o_ d (c_ (.bool true))
abbrev E_(d a:Nat):Option GO:=o_ d (u_ bg a)
abbrev D_(d a:Nat)(n:Int):Option GO:=o_ d (d_ (bQ .add) a (.int .i64 n))
abbrev B_(d a b:Nat):Option GO:=o_ d (b_ (bQ .lss) a b)
abbrev P_(d a b:Nat):Option GO:=o_ d (p_ a b)
abbrev Q_(d a b:Nat):Option GO:=o_ d (q_ a b)
abbrev X_(d a:Nat):Option GO:=o_ d (x_ a)
abbrev W_(d k a:Nat):Option GO:=o_ d (u_ (jw k) a)
abbrev J_(d k a b:Nat):Option GO:=o_ d (b_ (bW k) a b)
abbrev K_(d a:Nat)(n:Int):Option GO:=o_ d (d_ (kG false .num) a (.int .i64 n))
abbrev H_(d a:Nat)(n:Int):Option GO:=o_ d (d_ (kG true .num) a (.int .i64 n))
abbrev eI(c d k a:Nat):Option GO:=g_ c d (a_ k a)
abbrev fy(c d a:Nat):Option GO:=g_ c d (l_ a)
abbrev jh(c d a:Nat):Option GO:=g_ c d (v_ a)
abbrev Aa(c d k a:Nat):Option GO:=g_ c d (n_ k a)
abbrev jg(c d k a:Nat):Option GO:=h_ c d (a_ k a)
abbrev jI(c d a:Nat):Option GO:=h_ c d (l_ a)
abbrev pV(c d a:Nat):Option GO:=h_ c d (v_ a)
abbrev PV(c d k a:Nat):Option GO:=h_ c d (n_ k a)
abbrev ia_(l:List Nat)(d k a c:Nat):Option RO:=i_ l d (a_ k a) c
abbrev il_(l:List Nat)(d a c:Nat):Option RO:=i_ l d (l_ a) c
abbrev iv_(l:List Nat)(d a c:Nat):Option RO:=i_ l d (v_ a) c
abbrev in_(l:List Nat)(d k a c:Nat):Option RO:=i_ l d (n_ k a) c
abbrev iJ_(l:List Nat)(d k a b c:Nat):Option RO:=i_ l d (b_ (bW k) a b) c
abbrev sq(a b:CT):CT:=.seq a b
@[simp] theorem sqe(a b:CT):sq a b=.seq a b:=Eq.trans rfl rfl
abbrev cd(a:Nat)(b c:CT):CT:=.cond (z_ a) b c
@[simp] theorem cde(a:Nat)(b c:CT):cd a b c=.cond (z_ a) b c:=Eq.trans rfl rfl
abbrev rt(a:CT):CT:=.seq a .ret
@[simp] theorem rte(a:CT):rt a=.seq a .ret:=Eq.trans rfl rfl
abbrev iq(a:CT)(n:Nat)(b c:CT):CT:=.seq (.seq a (.cond (z_ n) b .skip)) c
@[simp] theorem iqe(a:CT)(n:Nat)(b c:CT):iq a n b c=.seq (.seq a (.cond (z_ n) b .skip)) c:=Eq.trans rfl rfl
abbrev lp(a:CT)(n i j:Nat)(b c:CT):CT:=.seq (.seq a (.cond (z_ n) .skip (.exit i))) (.seq (.block j b) c)
@[simp] theorem lpe(a:CT)(n i j:Nat)(b c:CT):lp a n i j b c=.seq (.seq a (.cond (z_ n) .skip (.exit i))) (.seq (.block j b) c):=Eq.trans rfl rfl
abbrev sr(l:List (Option GO))(b:CT):CT:=.seq (.nw l) b
abbrev rr(l:List (Option GO)):CT:=.seq (.nw l) .ret
abbrev ir(l:List (Option GO))(n:Nat)(b c:CT):CT:=.seq (.seq (.nw l) (.cond (z_ n) b .skip)) c
abbrev lr(l:List (Option GO))(n i j:Nat)(b c:CT):CT:=.seq (.seq (.nw l) (.cond (z_ n) .skip (.exit i))) (.seq (.block j b) c)
abbrev bl(n:Nat)(a:CT):CT:=.block n (.loop a)
@[simp] theorem ble(n:Nat)(a:CT):bl n a=.block n (.loop a):=Eq.trans rfl rfl
abbrev cF(n:FuncId):=KE pG n
abbrev di(f:AV->AV->bD)(a:Nat)(n:Int):Eff:=e2 f (aA a) (aO (.int .i64 n))
abbrev dq:AV->AV->bD:=kG false .num
abbrev qM:AV->AV->bD:=kG true .num
abbrev jM:AV->AV->bD:=bQ .lss
abbrev mG:AV->AV->bD:=bQ .gtr
abbrev oh:AV->AV->bD:=bQ .geq
abbrev yU:AV->AV->bD:=bQ .leq
abbrev mq:AV->AV->bD:=bQ .add
abbrev fU:AV->AV->bD:=bQ .sub
abbrev un(a:Nat):Eff:=e1 (cUn .not) (aA a)
abbrev kf(n:FuncId):G:=aO (.fn (.func n) [] [])
abbrev kI(n:Int):G:=aO (.int .i64 n)
abbrev gI(l:List Nat)(a d:Nat)(e:Eff)(c:Nat):Option RO:=goI l (aA a) true (bc d) e c
abbrev hI(l:List Nat)(a d:Nat)(e:Eff)(c:Nat):Option RO:=goI l (aA a) false (bc d) e c
abbrev dT(d k a:Nat):Option RO:=i_ [a] d (a_ k a) 1
abbrev oD(d k a c:Nat):Option RO:=i_ [a] d (a_ k a) c
abbrev cK(d a:Nat):Option RO:=i_ [a] d (l_ a) 1
abbrev nU(d a c:Nat):Option RO:=i_ [a] d (l_ a) c
abbrev aP(d a:Nat):Option RO:=i_ [a] d (v_ a) 1
abbrev iz(d a c:Nat):Option RO:=i_ [a] d (v_ a) c
abbrev lP(d k a c:Nat):Option RO:=i_ [a] d (n_ k a) c
abbrev dJ(d k a b:Nat):Option RO:=i_ [a,b] d (b_ (bW k) a b) 1
abbrev J2_(d k a b c:Nat):Option RO:=i_ [a,b] d (b_ (bW k) a b) c
abbrev eP(n a b:Nat):Option RO:=j_ [a,b] (s_ n a b)
abbrev gi(a d b:Nat):Option RO:=gI [a,b] a d (v_ b) 1
abbrev rm(a d b:Nat):Option RO:=gI [a,b] a d (l_ b) 1
abbrev p3_(a d k b:Nat):Option RO:=gI [a,b] a d (a_ k b) 1
abbrev Xp(a d b:Nat):Option RO:=hI [a,b] a d (v_ b) 1
abbrev q2_(a d b:Nat):Option RO:=hI [a,b] a d (l_ b) 1
abbrev q3_(a d k b:Nat):Option RO:=hI [a,b] a d (a_ k b) 1
abbrev Y5(f:Nat->Eff)(d a:Nat):Option RO:=i_ [a] d (f a) 1
abbrev u1_(f:AV->bD)(d a:Nat):Option RO:=i_ [a] d (u_ f a) 1
abbrev u2_(f:AV->bD)(d a c:Nat):Option RO:=i_ [a] d (u_ f a) c
abbrev r6(f:AV->AV->bD)(d a:Nat)(n:Int):Option RO:=i_ [a] d (di f a n) 1
abbrev vR(f:AV->AV->bD)(d a b:Nat):Option RO:=i_ [a,b] d (b_ f a b) 1
abbrev eV(f:AV->AV->bD)(d a:Nat)(n:Int):Option GO:=o_ d (di f a n)
abbrev eR(f:AV->AV->bD)(d a b:Nat):Option GO:=o_ d (b_ f a b)
abbrev u3_(f:AV->bD)(d a:Nat):Option GO:=o_ d (u_ f a)
abbrev qu(d a:Nat):Option GO:=o_ d (un a)
def ayl:CT:=lr [V_ 10 4,V_ 11 0,E_ 12 11,B_ 13 10 12,V_ 14 13,jh 14 15 4,g_ 14 16 (di jM 15 40),P_ 17 14 16] 17 0 1 (iq (.dI [20,21,22,23,24,25,26] [lP 20 3 3 1,aP 21 0,aP 22 4,dJ 23 31 21 22,dT 24 16 23,lP 25 15 24 1,cI [20,25] (bc 26) 8 [z_ 20,z_ 25]]) 26 (.exit 1) (sr [N_ 27 3 3,y_ 28 9 [z_ 27],o_ 5 (au uv 3),S_ 3 5 28] (sq (.dI [30,31,32,33,34,35,29,36,37,38,6,7] [lP 30 3 3 1,aP 31 0,aP 32 4,dJ 33 31 31 32,lP 34 31 33 1,cI [30,34] (bc 35) 10 [z_ 30,z_ 34],aP 29 35,i_ [29] 36 (u_ (jw 0) 29) 1,i_ [] 6 (au uv 3) 2,i_ [] 7 (au GH 4) 2,eP 3 6 36,i_ [29] 37 (u_ (jw 1) 29) 2,eP 4 7 37,i_ [29] 38 (u_ (jw 2) 29) 3,aP 8 38]) (ir [N_ 39 3 3,N_ 40 3 5,y_ 41 11 [z_ 39,z_ 40],qu 42 41] 42 (rr [F_ 2]) (ir [V_ 43 8,H_ 44 43 0] 44 (ir [A_ 45 2 6,L_ 46 45,E_ 47 46,eV mG 48 47 0,V_ 49 48,jg 49 50 2 7,jI 49 51 50,h_ 49 52 (u_ bg 51),h_ 49 53 (di mG 52 0),Q_ 54 49 53,V_ 55 54,jg 55 56 3 7,jI 55 57 56,h_ 55 58 (di qM 57 0),Q_ 59 55 58] 59 (rr [F_ 2]) (.exit 1)) (ir [N_ 60 3 6,y_ 61 12 [z_ 60],qu 62 61,V_ 63 62,jg 63 64 3 7,jI 63 65 64,h_ 63 66 (di jM 65 0),Q_ 67 63 66] 67 (rr [F_ 2]) (R_ [N_ 68 3 6,S_ 3 3 68]))))))) (R_ [V_ 18 4,D_ 19 18 1,V_ 4 19])
def A3:CF:=⟨[aH 2],sr [F_ 2] (sr [o_ 9 (aG uv 3 []),o_ 3 (au uv 3),S_ 3 3 9] (sq (sr [I_ 4 0] (bl 0 ayl)) (rr [y_ 69 13 [],V_ 2 69]))),70⟩
theorem c3:cF 3=some A3:=bH
def amR:=R_ [y_ 33 13 [],V_ 6 33]
def asD:=R_ [o_ 34 (aG nF 8 []),A_ 35 4 4,S_ 8 35 34]
def asC:=R_ [N_ 37 3 3,N_ 38 15 4,o_ 39 (aG TI 31 [(0,1,kI 8),(16,15,z_ 38)]),y_ 40 10 [z_ 37,z_ 39],V_ 36 40,W_ 41 0 36,W_ 42 1 36,W_ 43 2 36,o_ 7 (au uv 3),o_ 8 (au GH 4),S_ 3 7 41,S_ 4 8 42,V_ 9 43]
def asB:=R_ [o_ 10 (c_ cJ)]
def asA:CT:=.dI [44,45,46,47,48,49] [lP 45 8 5 1,cI [45] (bc 46) 14 [z_ 45],lP 47 8 5 2,cI [47] (bc 48) 15 [z_ 47],lP 44 8 5 3,i_ [44,46,48] 49 (aJ nF 3 8 [(0,8,z_ 44),(8,8,z_ 46),(16,8,z_ 48)]) 1,aP 11 49]
def asz:=R_ [I_ 12 0]
def aaz:=R_ [N_ 60 3 3,N_ 61 15 4,o_ 62 (aG TI 31 [(0,1,kI 8),(16,15,z_ 61)]),y_ 63 10 [z_ 60,z_ 62],V_ 59 63,W_ 64 0 59,W_ 65 1 59,W_ 66 2 59,o_ 13 (au uv 3),o_ 14 (au GH 4),S_ 3 13 64,S_ 4 14 65,V_ 15 66]
def QS:=R_ [V_ 67 15,H_ 68 67 0]
def aay:=R_ [y_ 69 13 [],V_ 6 69]
def aax:=R_ [V_ 70 10,A_ 71 2 14,L_ 72 71,o_ 73 (dL 1 24 (z_ 70) (z_ 72)),V_ 10 73]
def aaw:=R_ [V_ 52 12,D_ 53 52 1,V_ 12 53]
def asK:CT:=lr [V_ 50 12,eV jM 51 50 3] 51 0 1 (sr [V_ 54 11,V_ 55 12,J_ 56 8 54 55,N_ 57 8 56,A_ 58 4 4,S_ 8 58 57] (sq aaz (iq QS 68 (rt aay) aax))) aaw
def aiq:=R_ [V_ 74 9,H_ 75 74 0]
def aip:=R_ [V_ 76 9,K_ 77 76 4,V_ 78 77,j7 (z_ 78) true (bc 79) 13 [],P_ 80 78 79,V_ 6 80]
def aio:CT:=.dI [81,82,83,84,85,86,87,88] [aP 81 10,cI [81] (bc 82) 17 [z_ 81,(aO cJ)],oD 83 2 8 2,nU 84 83 2,cI [82,84] (bc 85) 16 [z_ 82,z_ 84],aP 86 85,gcI [86] (z_ 86) true (bc 87) 13 [],i_ [86,87] 88 (p_ 86 87) 1,aP 6 88]
def A4:CF:=⟨[aH 6],sr [X_ 3 0,X_ 4 1,X_ 5 2,F_ 6] (ir [N_ 16 3 3,N_ 17 15 4,y_ 18 8 [z_ 16,z_ 17],V_ 19 18,jg 19 20 0 4,jI 19 21 20,Q_ 22 19 21,V_ 23 22,jg 23 24 13 4,jI 23 25 24,Q_ 26 23 25,V_ 27 26,jg 27 28 12 4,jI 27 29 28,h_ 27 30 (u_ bg 29),h_ 27 31 (di mG 30 0),Q_ 32 27 31] 32 (rt amR) (sq asD (sq asC (sq asB (sq asA (sq (sq asz (bl 0 asK)) (iq aiq 75 (rt aip) (rt aio)))))))),89⟩
theorem c4:cF 4=some A4:=bH
def ayk:CT:=lr [V_ 77 21,A_ 78 2 15,L_ 79 78,E_ 80 79,B_ 81 77 80] 81 0 1 (sr [A_ 84 2 15,L_ 85 84,V_ 86 21,J_ 87 1 85 86,L_ 88 87,E_ 89 88,V_ 90 19,eR fU 91 89 90,V_ 22 91] (ir [V_ 92 22,eV jM 93 92 0] 93 (rr [F_ 8]) (.dI [94,95,96,97,98,99,100,101,102,103,104,105,106,107,108,109,110,111,112,113] [i_ [] 95 (aJ fJ 0 3 []) 1,dT 96 2 15,cK 97 96,aP 98 21,dJ 99 1 97 98,cK 100 99,aP 101 22,i_ [100,101] 102 (wq (jW 3) (z_ 100) (some (z_ 101)) none none) 1,mI [95,102] (bc 103) (dL 3 32 (z_ 95) (z_ 102)),oD 104 2 15 2,nU 105 104 2,iz 106 21 2,J2_ 107 1 105 106 2,nU 108 107 2,iz 109 22 2,i_ [108,109] 110 (wq (jW 3) (z_ 108) none (some (z_ 109)) none) 2,mI [103,110] (bc 111) (dL 3 32 (z_ 103) (z_ 110)),iz 94 20 3,i_ [111] 112 (aJ sZ 1 1 [(0,1,z_ 111)]) 1,mI [94,112] (bc 113) (dL 1 24 (z_ 94) (z_ 112)),aP 20 113]))) (R_ [V_ 82 21,D_ 83 82 1,V_ 21 83])
def A5:CF:=⟨[aH 8],sr [X_ 4 0,X_ 7 3,F_ 8] (sr [V_ 23 1,o_ 24 (aG OE 10 [(0,1,z_ 23),(1,1,(aO (.str [120])))]),V_ 25 2,N_ 26 8 7,o_ 27 (aG OE 10 [(0,1,z_ 25),(1,1,(aO (.str [121]))),(2,8,z_ 26)]),o_ 28 (aJ OE 2 10 [(0,10,z_ 24),(10,10,z_ 27)]),o_ 29 (aG Vy 15 [(1,1,(aO (.bool true))),(3,1,z_ 28)]),o_ 9 (au Vy 15),S_ 15 9 29] (sr [V_ 30 2,o_ 31 (aG OE 10 [(0,1,z_ 30),(1,1,(aO (.str [121])))]),V_ 32 1,N_ 33 8 7,o_ 34 (aG OE 10 [(0,1,z_ 32),(1,1,(aO (.str [120]))),(2,8,z_ 33)]),o_ 35 (aJ OE 2 10 [(0,10,z_ 31),(10,10,z_ 34)]),o_ 36 (aG Vy 15 [(1,1,(aO (.bool true))),(3,1,z_ 35)]),o_ 10 (au Vy 15),S_ 15 10 36] (ir [N_ 37 3 4,N_ 38 15 9,y_ 39 8 [z_ 37,z_ 38]] 39 (rr [y_ 40 13 [],V_ 8 40]) (sr [N_ 42 3 4,N_ 43 15 9,o_ 44 (aG TI 31 [(0,1,kI 8),(16,15,z_ 43)]),y_ 45 10 [z_ 42,z_ 44],V_ 41 45,W_ 46 0 41,W_ 47 1 41,W_ 48 2 41,o_ 11 (au uv 3),o_ 12 (au GH 4),S_ 3 11 46,S_ 4 12 47,V_ 13 48] (sr [N_ 50 3 4,N_ 51 15 10,o_ 52 (aG TI 31 [(0,1,kI 8),(16,15,z_ 51)]),y_ 53 10 [z_ 50,z_ 52],V_ 49 53,W_ 54 0 49,W_ 55 1 49,W_ 56 2 49,o_ 14 (au uv 3),o_ 15 (au GH 4),S_ 3 14 54,S_ 4 15 55,V_ 16 56] (ir [V_ 57 13,V_ 58 16,eR qM 59 57 58] 59 (rr [F_ 8]) (sr [A_ 61 0 4,N_ 62 2 61,V_ 63 1,y_ 64 18 [z_ 62,z_ 63],V_ 60 64,W_ 65 0 60,W_ 66 1 60,o_ 17 (au xg 4),S_ 4 17 65,V_ 18 66] (ir [V_ 67 13,H_ 68 67 0,V_ 69 68,pV 69 70 18,h_ 69 71 (un 70),Q_ 72 69 71] 72 (rr [y_ 73 13 [],V_ 8 73]) (sr [A_ 74 2 17,L_ 75 74,E_ 76 75,V_ 19 76] (sr [o_ 20 (c_ cJ)] (sq (sr [I_ 21 0] (bl 0 ayk)) (rt (.dI [114,115,116,117,118,119,120,121] [aP 114 20,cI [114] (bc 115) 17 [z_ 114,(aO cJ)],oD 116 2 12 2,nU 117 116 2,cI [115,117] (bc 118) 16 [z_ 115,z_ 117],aP 119 118,gcI [119] (z_ 119) true (bc 120) 13 [],i_ [119,120] 121 (p_ 119 120) 1,aP 8 121]))))))))))))),122⟩
theorem c5:cF 5=some A5:=bH
def ayj:CT:=lr [V_ 44 11,V_ 45 2,E_ 46 45,B_ 47 44 46] 47 0 1 (sq (.dI [51,52,53,54,55,56,57,58,59,50,60,61,62,12,13] [lP 51 3 10 1,aP 52 1,aP 53 2,aP 54 11,aP 55 11,r6 mq 56 55 1,i_ [53,54,56] 57 (wq (jW 1) (z_ 53) (some (z_ 54)) (some (z_ 56)) none) 1,i_ [52,57] 58 (aG TI 31 [(0,1,kI 5),(1,1,z_ 52),(6,1,z_ 57)]) 1,cI [51,58] (bc 59) 10 [z_ 51,z_ 58],aP 50 59,i_ [50] 60 (u_ (jw 0) 50) 1,i_ [] 12 (au uv 3) 2,i_ [] 13 (au GH 4) 2,eP 3 12 60,i_ [50] 61 (u_ (jw 1) 50) 2,eP 4 13 61,i_ [50] 62 (u_ (jw 2) 50) 3,aP 14 62]) (ir [V_ 63 14,H_ 64 63 0,V_ 65 64,jg 65 66 3 13,jI 65 67 66,h_ 65 68 (di qM 67 1),Q_ 69 65 68] 69 (rr [F_ 6]) (R_ [N_ 70 3 12,S_ 3 10 70]))) (R_ [V_ 48 11,D_ 49 48 1,V_ 11 49])
def A6:CF:=⟨[aH 6],sr [X_ 3 0,F_ 6] (ir [N_ 21 3 3,o_ 22 (aG Vy 15 []),y_ 23 8 [z_ 21,z_ 22],V_ 24 23,pV 24 25 2,h_ 24 26 (u_ bg 25),h_ 24 27 (di mG 26 50),Q_ 28 24 27] 28 (rr [y_ 29 13 [],V_ 6 29]) (sr [N_ 31 3 3,V_ 32 1,V_ 33 2,o_ 34 (aG TI 31 [(0,1,kI 5),(1,1,z_ 32),(6,1,z_ 33)]),y_ 35 10 [z_ 31,z_ 34],V_ 30 35,W_ 36 0 30,W_ 37 1 30,W_ 38 2 30,o_ 7 (au uv 3),o_ 8 (au GH 4),S_ 3 7 36,S_ 4 8 37,V_ 9 38] (ir [V_ 39 9,H_ 40 39 0] 40 (rr [y_ 41 13 [],V_ 6 41]) (sr [N_ 42 3 3,y_ 43 9 [z_ 42],o_ 10 (au uv 3),S_ 3 10 43] (sq (sr [I_ 11 0] (bl 0 ayj)) (sr [N_ 72 3 7,V_ 73 1,o_ 74 (aG TI 31 [(0,1,kI 6),(1,1,z_ 73)]),y_ 75 10 [z_ 72,z_ 74],V_ 71 75,W_ 76 0 71,W_ 77 1 71,W_ 78 2 71,o_ 15 (au uv 3),o_ 16 (au GH 4),S_ 3 15 76,S_ 4 16 77,V_ 17 78] (sr [N_ 80 3 15,V_ 81 1,o_ 82 (aG OE 10 [(0,1,z_ 81)]),o_ 83 (aJ OE 1 10 [(0,10,z_ 82)]),o_ 84 (aG Vy 15 [(1,1,(aO (.bool true))),(3,1,z_ 83)]),o_ 85 (aG TI 31 [(0,1,kI 8),(16,15,z_ 84)]),y_ 86 10 [z_ 80,z_ 85],V_ 79 86,W_ 87 0 79,W_ 88 1 79,W_ 89 2 79,o_ 18 (au uv 3),o_ 19 (au GH 4),S_ 3 18 87,S_ 4 19 88,V_ 20 89] (rr [A_ 90 3 8,L_ 91 90,V_ 92 2,E_ 93 92,eR dq 94 91 93,V_ 95 94,Aa 95 96 3 7,Aa 95 97 3 10,j7 (z_ 95) true (bc 98) 11 [z_ 96,z_ 97],P_ 99 95 98,V_ 100 99,jh 100 101 17,g_ 100 102 (di dq 101 0),P_ 103 100 102,V_ 104 103,jh 104 105 20,g_ 104 106 (di dq 105 0),P_ 107 104 106,V_ 108 107,eI 108 109 2 19,fy 108 110 109,g_ 108 111 (u_ bg 110),g_ 108 112 (di dq 111 0),P_ 113 108 112,V_ 114 113,j7 (z_ 114) true (bc 115) 13 [],P_ 116 114 115,V_ 6 116])))))))),117⟩
theorem c6:cF 6=some A6:=bH
def A7:CF:=⟨[aH 4],sr [X_ 2 0,X_ 3 1,F_ 4] (ir [N_ 12 3 2,A_ 13 16 3,N_ 14 15 13,y_ 15 8 [z_ 12,z_ 14]] 15 (rr [y_ 16 13 [],V_ 4 16]) (sr [N_ 17 3 2,y_ 18 9 [z_ 17],o_ 5 (au uv 3),S_ 3 5 18] (iq (.dI [19,20,21,22,23] [lP 19 3 5 1,cI [19] (bc 20) 19 [z_ 19],lP 21 3 2 2,cI [21] (bc 22) 12 [z_ 21],i_ [20,22] 23 (b_ (kG true .bool) 20 22) 1]) 23 (rr [F_ 4]) (sr [N_ 25 3 5,N_ 26 31 3,y_ 27 10 [z_ 25,z_ 26],V_ 24 27,W_ 28 0 24,W_ 29 1 24,W_ 30 2 24,o_ 6 (au uv 3),o_ 7 (au GH 4),S_ 3 6 28,S_ 4 7 29,V_ 8 30] (sr [N_ 32 3 2,N_ 33 31 3,y_ 34 20 [z_ 32,z_ 33],V_ 31 34,W_ 35 0 31,W_ 36 1 31,W_ 37 2 31,o_ 9 (au uv 3),o_ 10 (au GH 4),S_ 3 9 35,S_ 4 10 36,V_ 11 37] (rr [V_ 38 8,V_ 39 11,eR dq 40 38 39,V_ 41 40,Aa 41 42 3 6,Aa 41 43 3 9,j7 (z_ 41) true (bc 44) 11 [z_ 42,z_ 43],P_ 45 41 44,V_ 46 45,Aa 46 47 4 7,Aa 46 48 4 10,j7 (z_ 46) true (bc 49) 21 [z_ 47,z_ 48],P_ 50 46 49,V_ 51 50,Aa 51 52 3 5,Aa 51 53 3 2,j7 (z_ 51) true (bc 54) 11 [z_ 52,z_ 53],P_ 55 51 54,V_ 56 55,j7 (z_ 56) true (bc 57) 13 [],P_ 58 56 57,V_ 4 58])))))),59⟩
theorem c7:cF 7=some A7:=bH
def agC:CT:=lr [V_ 10 7,A_ 11 2 2,L_ 12 11,E_ 13 12,B_ 14 10 13] 14 0 1 (sr [V_ 17 5,A_ 18 2 2,L_ 19 18,V_ 20 7,J_ 21 1 19 20,L_ 22 21,E_ 23 22,eR mq 24 17 23,V_ 5 24] (sr [V_ 25 6,A_ 26 2 2,L_ 27 26,V_ 28 7,J_ 29 1 27 28,L_ 30 29,E_ 31 30,o_ 32 (yZ JQ [z_ 25,z_ 31]),V_ 6 32] (sr [V_ 33 5,eV mG 34 33 5000] (cd 34 (rr [T_ 4]) .skip)))) (R_ [V_ 15 7,D_ 16 15 1,V_ 7 16])
def ah5:=R_ [I_ 8 1]
def ah4:=R_ [I_ 9 0]
def agB:CT:=lr [V_ 35 9,A_ 36 3 3,L_ 37 36,E_ 38 37,B_ 39 35 38] 39 2 3 (sr [V_ 42 8,V_ 43 6,o_ 44 (b_ (bQ .mul) 42 43),V_ 8 44] (sr [V_ 45 8,eV mG 46 45 30000] (cd 46 (rr [T_ 4]) .skip))) (R_ [V_ 40 9,D_ 41 40 1,V_ 9 41])
def ah3:=R_ [F_ 4]
def A8:CF:=⟨[aH 4],sr [X_ 2 0,X_ 3 1,F_ 4] (sr [I_ 5 0] (sr [I_ 6 1] (sq (sr [I_ 7 0] (bl 0 agC)) (sq ah5 (sq (sq ah4 (bl 2 agB)) (rt ah3)))))),47⟩
theorem c8:cF 8=some A8:=bH
def ayh:CT:=lr [V_ 18 6,A_ 19 2 1,L_ 20 19,V_ 21 4,J_ 22 1 20 21,L_ 23 22,E_ 24 23,B_ 25 18 24] 25 2 3 (R_ [V_ 28 5,o_ 29 (aJ fJ 0 3 []),A_ 30 2 1,L_ 31 30,V_ 32 4,J_ 33 1 31 32,L_ 34 33,V_ 35 6,J_ 36 1 34 35,L_ 37 36,o_ 38 (dL 3 32 (z_ 29) (z_ 37)),o_ 39 (aJ sZ 1 1 [(0,1,z_ 38)]),o_ 40 (dL 1 24 (z_ 28) (z_ 39)),V_ 5 40]) (R_ [V_ 26 6,D_ 27 26 1,V_ 6 27])
def ayg:CT:=lr [V_ 11 4,A_ 12 2 1,L_ 13 12,E_ 14 13,B_ 15 11 14] 15 0 1 (sr [o_ 5 (c_ cJ)] (sq (sr [I_ 6 0] (bl 2 ayh)) (R_ [A_ 41 2 3,L_ 42 41,V_ 43 5,o_ 44 (aJ sZ 1 1 [(0,1,z_ 43)]),o_ 45 (dL 1 24 (z_ 42) (z_ 44)),A_ 46 2 3,S_ 1 46 45]))) (R_ [V_ 16 4,D_ 17 16 1,V_ 4 17])
def A9:CF:=⟨[cj 2 3],sr [X_ 1 0,o_ 2 (au uv 3)] (sr [A_ 7 0 1,N_ 8 2 7,y_ 9 22 [z_ 8],o_ 10 (aG uv 3 [(0,2,z_ 9)]),o_ 3 (au uv 3),S_ 3 3 10] (sq (sr [I_ 4 0] (bl 0 ayg)) (rr [N_ 47 3 3,S_ 3 2 47]))),48⟩
theorem c9:cF 9=some A9:=bH
def Tj:=R_ [N_ 11 3 2,y_ 12 19 [z_ 11],qu 13 12]
def ajg:=R_ [o_ 14 (aG uv 3 []),o_ 15 (aG GH 4 []),S_ 3 4 14,S_ 4 5 15,I_ 6 1]
def adD:=R_ [A_ 17 0 2,N_ 18 2 17,N_ 19 31 3,y_ 20 23 [z_ 18,z_ 19],V_ 16 20,W_ 21 0 16,W_ 22 1 16,o_ 7 (au z4_ 25),S_ 25 7 21,V_ 8 22]
def adC:=R_ [V_ 23 8,H_ 24 23 0]
def ajf:=R_ [o_ 25 (aG uv 3 []),o_ 26 (aG GH 4 []),V_ 27 8,S_ 3 4 25,S_ 4 5 26,V_ 6 27]
def aje:CT:=.dI [28,29,30,31,32] [lP 28 3 2 1,cI [28] (bc 29) 24 [z_ 28],lP 30 25 7 2,i_ [29,30] 31 (aG [cJ,cJ,cJ,.int .i64 0,.str [],.int .u32 0,.str [],cJ,.int .u32 0,.int .u32 0,.int .u32 0,.str [],cJ,.bool false,.int .u32 0,cJ,cJ,cJ,cJ,cJ,cJ,cJ,cJ,cJ,cJ,.bool false,.bool false,.int .i64 0,cJ,cJ,cJ,.int .i64 0] 32 [(0,3,z_ 29),(3,25,z_ 30)]) 1,Y5 x_ 32 31,aP 9 32]
def ajd:CT:=.dI [33,34,35,36] [cI [] (bc 33) 25 [],oD 34 0 3 2,nU 35 34 2,i_ [33,35] 36 (jA .i jR false (z_ 33) (z_ 35)) 1,aP 10 36]
def ajc:=R_ [V_ 37 10,o_ 38 (d_ (kG true .func) 37 jR)]
def ajb:=R_ [V_ 39 10,V_ 40 9,vP (bc 41) (z_ 39) [z_ 40],V_ 8 41]
def NS:=R_ [V_ 42 8,H_ 43 42 0]
def adF:=R_ [o_ 44 (aG uv 3 []),o_ 45 (aG GH 4 []),V_ 46 8,S_ 3 4 44,S_ 4 5 45,V_ 6 46]
def adE:CT:=.dI [47,48,49,50,51,52,53,54] [aP 47 9,i_ [47] 48 (aZ (z_ 47)) 1,dT 49 0 48,lP 50 3 49 1,eP 3 4 50,iz 51 9 2,i_ [51] 52 (aZ (z_ 51)) 2,oD 53 28 52 2,lP 54 4 53 2,eP 4 5 54,i_ [] 6 (c_ (.int .i64 0)) 1]
def A10:CF:=⟨[cj 4 3,cj 5 4,aH 6],sr [X_ 2 0,X_ 3 1,o_ 4 (au uv 3),o_ 5 (au GH 4),I_ 6 0] (iq Tj 13 (rt ajg) (sq adD (iq adC 24 (rt ajf) (sq aje (sq (sq ajd (sq ajc (cd 38 ajb .skip))) (iq NS 43 (rt adF) (rt adE))))))),55⟩
theorem c10:cF 10=some A10:=bH
def asO:CT:=lr [V_ 21 5,A_ 22 2 2,L_ 23 22,E_ 24 23,B_ 25 21 24] 25 0 1 (sq (.dI [28,29,30,31,32,33,34,35,36,37,38,39] [dT 28 2 2,cK 29 28,aP 30 5,dJ 31 1 29 30,cK 32 31,dT 33 2 3,cK 34 33,aP 35 5,dJ 36 1 34 35,cK 37 36,cI [32,37] (bc 38) 16 [z_ 32,z_ 37],Y5 un 39 38]) (cd 39 (rr [F_ 4]) .skip)) (R_ [V_ 26 5,D_ 27 26 1,V_ 5 27])
def A11:CF:=⟨[aH 4],sr [X_ 2 0,X_ 3 1,F_ 4] (ir [A_ 6 0 2,N_ 7 2 6,A_ 8 0 3,N_ 9 2 8,y_ 10 26 [z_ 7,z_ 9],qu 11 10,V_ 12 11,jg 12 13 2 2,jI 12 14 13,h_ 12 15 (u_ bg 14),jg 12 16 2 3,jI 12 17 16,h_ 12 18 (u_ bg 17),h_ 12 19 (b_ qM 15 18),Q_ 20 12 19] 20 (rr [F_ 4]) (sq (sr [I_ 5 0] (bl 0 asO)) (rr [T_ 4]))),40⟩
theorem c11:cF 11=some A11:=bH
def asN:CT:=lr [V_ 64 5,A_ 65 2 1,L_ 66 65,V_ 67 3,J_ 68 1 66 67,L_ 69 68,E_ 70 69,B_ 71 64 70] 71 2 3 (sq (.dI [74,75,76,77,78,79,80,81,82,83,84,85,86,87,88,89,90,91,92] [dT 74 2 1,cK 75 74,aP 76 3,dJ 77 1 75 76,cK 78 77,aP 79 5,r6 fU 80 79 1,dJ 81 1 78 80,cK 82 81,dT 83 2 1,cK 84 83,aP 85 3,dJ 86 1 84 85,cK 87 86,aP 88 5,dJ 89 1 87 88,cK 90 89,cI [82,90] (bc 91) 30 [z_ 82,z_ 90],r6 mG 92 91 0]) (cd 92 (rr [F_ 2]) .skip)) (R_ [V_ 72 5,D_ 73 72 1,V_ 5 73])
def asM:CT:=lr [V_ 20 3,A_ 21 2 1,L_ 22 21,E_ 23 22,B_ 24 20 23] 24 0 1 (sr [A_ 27 0 1,A_ 28 0 27,L_ 29 28,V_ 30 3,J_ 31 4 29 30,N_ 32 4 31,o_ 4 (au xg 4),S_ 4 4 32] (iq (.dI [33,34,35,36,37,38,39,40,41,42,43,44,45,46,47,48,49,50,51,52,53,54,55,56,57,58,59,60,61,62,63] [dT 33 2 1,cK 34 33,aP 35 3,dJ 36 1 34 35,cK 37 36,u1_ bg 38 37,r6 mG 39 38 4096,aP 40 39,q3_ 40 41 0 1,hI [40,41] 40 42 (n_ 2 41) 1,hI [40,4] 40 43 (n_ 4 4) 1,q3_ 40 44 2 1,q2_ 40 45 44,Xp 40 46 3,hI [40,45,46] 40 47 (b_ (bW 1) 45 46) 1,q2_ 40 48 47,gcI [40,42,43,48] (z_ 40) false (bc 49) 28 [z_ 42,z_ 43,z_ 48],hI [40,49] 40 50 (di qM 49 0) 1,i_ [40,50] 51 (q_ 40 50) 1,aP 52 51,q3_ 52 53 0 1,hI [52,53] 52 54 (n_ 2 53) 1,hI [52,4] 52 55 (n_ 4 4) 1,q3_ 52 56 2 1,q2_ 52 57 56,Xp 52 58 3,hI [52,57,58] 52 59 (b_ (bW 1) 57 58) 1,q2_ 52 60 59,gcI [52,54,55,60] (z_ 52) false (bc 61) 29 [z_ 54,z_ 55,z_ 60],hI [52,61] 52 62 (un 61) 1,i_ [52,62] 63 (q_ 52 62) 1]) 63 (rr [F_ 2]) (sr [I_ 5 1] (bl 2 asN)))) (R_ [V_ 25 3,D_ 26 25 1,V_ 3 26])
def A12:CF:=⟨[aH 2],sr [X_ 1 0,F_ 2] (ir [A_ 6 0 1,N_ 7 2 6,y_ 8 27 [z_ 7],qu 9 8,V_ 10 9,jg 10 11 2 1,jI 10 12 11,h_ 10 13 (u_ bg 12),jg 10 14 0 1,jg 10 15 0 14,jI 10 16 15,h_ 10 17 (u_ bg 16),h_ 10 18 (b_ qM 13 17),Q_ 19 10 18] 19 (rr [F_ 2]) (sq (sr [I_ 3 0] (bl 0 asM)) (rr [T_ 2]))),93⟩
theorem c12:cF 12=some A12:=bH
def A13:CF:=⟨[aH 0],sr [F_ 0] (sr [y_ 8 31 [(aO (.str [98]))],o_ 9 (aG Vz 9 [(0,8,z_ 8)]),o_ 10 (aJ Vz 1 9 [(0,9,z_ 9)]),o_ 11 (aG OE 10 [(0,1,(aO (.str [116])))]),o_ 12 (aJ OE 1 10 [(0,10,z_ 11)]),y_ 13 31 [(aO (.str [97]))],y_ 14 32 [kI 1],o_ 15 (aG nF 8 [(0,1,kI 1),(1,3,z_ 14)]),o_ 16 (aJ nF 2 8 [(0,8,z_ 13),(8,8,z_ 15)]),o_ 17 (aG nF 8 [(0,1,kI 18),(7,1,z_ 16)]),o_ 18 (aG Vy 15 [(2,1,z_ 10),(3,1,z_ 12),(4,8,z_ 17)]),o_ 1 (au Vy 15),S_ 15 1 18] (sq (.dI [20,21,22,23,19,24,25,26,2,3] [cI [] (bc 20) 33 [],lP 21 15 1 2,i_ [21] 22 (aG TI 31 [(0,1,kI 8),(16,15,z_ 21)]) 2,cI [20,22] (bc 23) 10 [z_ 20,z_ 22],aP 19 23,i_ [19] 24 (u_ (jw 0) 19) 1,i_ [] 2 (au uv 3) 3,i_ [] 3 (au GH 4) 3,eP 3 2 24,i_ [19] 25 (u_ (jw 1) 19) 2,eP 4 3 25,i_ [19] 26 (u_ (jw 2) 19) 3,aP 4 26]) (sr [y_ 28 33 [],y_ 29 32 [kI 3],o_ 30 (aG nF 8 [(0,1,kI 1),(1,3,z_ 29)]),o_ 31 (aG nF 8 [(0,1,kI 1)]),o_ 32 (aJ nF 2 8 [(0,8,z_ 30),(8,8,z_ 31)]),o_ 33 (aJ sZ 1 1 [(0,1,z_ 32)]),o_ 34 (aG TI 31 [(0,1,kI 5),(1,1,(aO (.str [116]))),(6,1,z_ 33)]),y_ 35 10 [z_ 28,z_ 34],V_ 27 35,W_ 36 0 27,W_ 37 1 27,W_ 38 2 27,o_ 5 (au uv 3),o_ 6 (au GH 4),S_ 3 5 36,S_ 4 6 37,V_ 7 38] (rt (.dI [39,40,41,42,43,44,45,46,47,48,49,50,51,52,53,54,55,56,57,58,59,60,61,62,63,64,65,66,67,68,69,70,71,72] [cI [] (bc 39) 33 [],cI [39] (bc 40) 19 [z_ 39],aP 41 40,gi 41 42 4,gI [41,42] 41 43 (di dq 42 0) 1,i_ [41,43] 44 (p_ 41 43) 1,aP 45 44,p3_ 45 46 2 3,rm 45 47 46,gI [45,47] 45 48 (u_ bg 47) 1,gI [45,48] 45 49 (di dq 48 2) 1,i_ [45,49] 50 (p_ 45 49) 1,aP 51 50,p3_ 51 52 2 3,rm 51 53 52,gI [51,53] 51 54 (di (bW 1) 53 1) 1,rm 51 55 54,gI [51,55] 51 56 (u_ bg 55) 1,gI [51,56] 51 57 (di dq 56 1) 1,i_ [51,57] 58 (p_ 51 57) 1,aP 59 58,gcI [59] (z_ 59) true (bc 66) 34 [(aO (.str [121]))],gI [59,3] 59 60 (a_ 2 3) 2,gI [59,60] 59 61 (l_ 60) 2,gI [59,61] 59 62 (di (bW 1) 61 1) 2,gI [59,62] 59 63 (l_ 62) 2,gI [59,63] 59 64 (di (bW 3) 63 0) 2,gI [59,64] 59 65 (n_ 3 64) 2,gI [59,65,66] 59 67 (b_ (mY false [.i,.i,.s]) 65 66) 1,i_ [59,67] 68 (p_ 59 67) 1,aP 69 68,gi 69 70 7,gI [69,70] 69 71 (di dq 70 50) 1,i_ [69,71] 72 (p_ 69 71) 1,aP 0 72]))))),73⟩
theorem c13:cF 13=some A13:=bH
def A14:CF:=⟨[cj 2 8],sr [X_ 1 0,o_ 2 (au nF 8)] (rr [N_ 3 8 1,o_ 4 (aJ nF 1 8 [(0,8,z_ 3)]),o_ 5 (aG nF 8 [(0,1,kI 5),(7,1,z_ 4)]),S_ 8 2 5]),6⟩
theorem c14:cF 14=some A14:=bH
def A15:CF:=⟨[cj 2 8],sr [X_ 1 0,o_ 2 (au nF 8)] (rr [N_ 3 8 1,o_ 4 (aJ nF 1 8 [(0,8,z_ 3)]),o_ 5 (aG nF 8 [(0,1,kI 6),(7,1,z_ 4)]),S_ 8 2 5]),6⟩
theorem c15:cF 15=some A15:=bH
def aja:=R_ [F_ 4]
def ai':=R_ [I_ 5 0]
def ai_:=R_ [F_ 4]
def ai9:=R_ [V_ 15 5,D_ 16 15 1,V_ 5 16]
def ad0:CT:=lr [V_ 11 5,V_ 12 0,E_ 13 12,B_ 14 11 13] 14 0 1 (sq (.dI [17,18,19,20,21,22,23,24,25,26] [aP 17 0,aP 18 5,dJ 19 1 17 18,cK 20 19,aP 21 1,aP 22 5,dJ 23 1 21 22,cK 24 23,cI [20,24] (bc 25) 35 [z_ 20,z_ 24],Y5 un 26 25]) (cd 26 (rt ai_) .skip)) ai9
def ai8:=R_ [T_ 4]
def A16:CF:=⟨[aH 4],sr [F_ 4] (ir [V_ 6 0,E_ 7 6,V_ 8 1,E_ 9 8,eR qM 10 7 9] 10 (rt aja) (sq (sq ai' (bl 0 ad0)) (rt ai8))),27⟩
theorem c16:cF 16=some A16:=bH
def ai7:=R_ [V_ 23 0,V_ 24 0,E_ 25 24,o_ 26 (di (bQ .quo) 25 2),o_ 27 (wq (jW 1) (z_ 23) (some (z_ 26)) none none),V_ 28 1,y_ 29 17 [z_ 27,z_ 28],V_ 6 29]
def ai6:=R_ [o_ 7 (c_ cJ)]
def ai5:=R_ [I_ 8 0]
def ai4:=R_ [I_ 9 0]
def NP:=R_ [V_ 63 7,V_ 64 5,V_ 65 8,J_ 66 1 64 65,L_ 67 66,o_ 68 (aJ sZ 1 1 [(0,1,z_ 67)]),o_ 69 (dL 1 24 (z_ 63) (z_ 68)),V_ 7 69]
def NN:=R_ [V_ 70 8,D_ 71 70 1,V_ 8 71]
def NM:=R_ [V_ 72 7,V_ 73 6,V_ 74 9,J_ 75 1 73 74,L_ 76 75,o_ 77 (aJ sZ 1 1 [(0,1,z_ 76)]),o_ 78 (dL 1 24 (z_ 72) (z_ 77)),V_ 7 78]
def NK:=R_ [V_ 79 9,D_ 80 79 1,V_ 9 80]
def I6:CT:=sq (sr [V_ 30 8,V_ 31 5,E_ 32 31,B_ 33 30 32,V_ 34 33,pV 34 35 9,pV 34 36 6,h_ 34 37 (u_ bg 36),h_ 34 38 (b_ jM 35 37),Q_ 39 34 38] (cd 39 .skip (.exit 0))) (.block 1 (sq (.dI [40,41,42,43,44,45,46,47,48,49,50,51,52,53,54,55,56,57,58,59,60,61,62] [aP 40 9,aP 41 6,u1_ bg 42 41,vR oh 43 40 42,aP 44 43,Xp 44 45 8,Xp 44 46 5,hI [44,46] 44 47 (u_ bg 46) 1,hI [44,45,47] 44 48 (b_ jM 45 47) 1,Xp 44 49 48,gi 49 50 5,gi 49 51 8,gI [49,50,51] 49 52 (b_ (bW 1) 50 51) 1,rm 49 53 52,gi 49 54 6,gi 49 55 9,gI [49,54,55] 49 56 (b_ (bW 1) 54 55) 1,rm 49 57 56,gi 49 58 1,gcI [49,53,57,58] (z_ 49) true (bc 59) 36 [z_ 53,z_ 57,z_ 58],gI [49,59] 49 60 (di yU 59 0) 1,hI [44,49,60] 44 61 (p_ 49 60) 1,i_ [44,61] 62 (q_ 44 61) 1]) (cd 62 (sq NP NN) (sq NM NK))))
def acZ:=R_ [V_ 81 7,V_ 4 81]
def A17:CF:=⟨[aH 4],sr [o_ 4 (c_ cJ)] (ir [V_ 10 0,E_ 11 10,eV jM 12 11 2] 12 (rr [o_ 13 (aJ sZ 0 1 []),V_ 14 0,o_ 15 (dL 1 24 (z_ 13) (z_ 14)),V_ 4 15]) (sr [V_ 16 0,V_ 17 0,E_ 18 17,o_ 19 (di (bQ .quo) 18 2),o_ 20 (wq (jW 1) (z_ 16) none (some (z_ 19)) none),V_ 21 1,y_ 22 17 [z_ 20,z_ 21],V_ 5 22] (sq ai7 (sq ai6 (sq ai5 (sq ai4 (sq (bl 0 I6) (rt acZ)))))))),82⟩
theorem c17:cF 17=some A17:=bH
def acK:=R_ [F_ 2]
def ai3:=R_ [A_ 22 0 1,A_ 23 0 22,L_ 24 23,E_ 25 24,I_ 26 0]
def ai2:=R_ [F_ 2]
def ai1:=R_ [V_ 39 5,E_ 40 39,I_ 41 0]
def acP:=R_ [F_ 2]
def acO:=R_ [D_ 50 41 1,V_ 41 50]
def TE:CT:=sr [B_ 42 41 40] (sq (cd 42 .skip (.exit 2)) (sq (.block 3 (sr [J_ 43 1 39 41,L_ 44 43,V_ 7 44] (sr [A_ 45 2 4,L_ 46 45,V_ 47 7,y_ 48 38 [z_ 46,z_ 47],H_ 49 48 0] (cd 49 (rt acP) .skip)))) acO))
def acN:=R_ [V_ 51 5,y_ 52 39 [z_ 51,kf 40],qu 53 52,V_ 54 53,jg 54 55 0 1,PV 54 56 2 55,PV 54 57 4 4,pV 54 58 5,j7 (z_ 54) false (bc 59) 41 [z_ 56,z_ 57,z_ 58],h_ 54 60 (di qM 59 0),Q_ 61 54 60]
def NI:=R_ [F_ 2]
def acM:=R_ [D_ 62 26 1,V_ 26 62]
def adZ:CT:=sr [B_ 27 26 25] (sq (cd 27 .skip (.exit 0)) (sq (.block 1 (sr [V_ 28 26,J_ 29 4 24 26,N_ 30 4 29,o_ 4 (au xg 4),V_ 3 28,S_ 4 4 30] (sr [A_ 31 2 1,L_ 32 31,V_ 33 3,J_ 34 1 32 33,L_ 35 34,V_ 5 35] (ir [V_ 36 5,E_ 37 36,eV mG 38 37 4096] 38 (rt ai2) (sq (sq ai1 (bl 2 TE)) (sq acN (cd 61 (rt NI) .skip))))))) acM))
def acL:=R_ [T_ 2]
def A19:CF:=⟨[aH 2],sr [X_ 1 0,F_ 2] (ir [A_ 8 0 1,N_ 9 2 8,y_ 10 37 [z_ 9],qu 11 10,V_ 12 11,jg 12 13 2 1,jI 12 14 13,h_ 12 15 (u_ bg 14),jg 12 16 0 1,jg 12 17 0 16,jI 12 18 17,h_ 12 19 (u_ bg 18),h_ 12 20 (b_ qM 15 19),Q_ 21 12 20] 21 (rt acK) (sq (sq ai3 (bl 0 adZ)) (rt acL))),63⟩
theorem c19:cF 19=some A19:=bH
def I1:=R_ [X_ 2 0,X_ 3 1,o_ 4 (au z4_ 25),I_ 5 0]
def IZ:=R_ [N_ 10 2 2,y_ 11 37 [z_ 10],qu 12 11,V_ 13 12,PV 13 14 31 3,j7 (z_ 13) false (bc 15) 45 [z_ 14],h_ 13 16 (un 15),Q_ 17 13 16]
def RI:=R_ [o_ 18 (aG z4_ 25 []),S_ 25 4 18,I_ 5 1]
def ack:=R_ [N_ 19 2 2,o_ 20 (aG [cJ,cJ,.int .i64 0] 3 [(0,2,z_ 19)]),X_ 21 20,V_ 6 21]
def acj:=R_ [A_ 22 0 3,L_ 23 22,o_ 24 (aG z4_ 25 [(0,1,z_ 23)]),o_ 7 (au z4_ 25),S_ 25 7 24]
def aci:=R_ [A_ 25 0 3,L_ 26 25]
def ach:=R_ [K_ 28 26 1,V_ 27 28]
def ai0:=R_ [V_ 29 6,N_ 30 31 3,y_ 31 46 [z_ 29,z_ 30,z_ 7]]
def acg:=R_ [K_ 33 26 2,V_ 32 33]
def aiZ:=R_ [V_ 34 6,A_ 35 1 3,L_ 36 35,y_ 37 47 [z_ 34,z_ 36],A_ 38 2 7,S_ 4 38 37]
def MZ:=R_ [K_ 40 26 3,V_ 39 40]
def acw:=R_ [V_ 41 6,N_ 42 31 3,y_ 43 48 [z_ 41,z_ 42,z_ 7]]
def MY:=R_ [K_ 45 26 4,V_ 44 45]
def acv:=R_ [N_ 47 2 2,A_ 48 2 3,L_ 49 48,y_ 50 49 [z_ 47,z_ 49],V_ 46 50,W_ 51 0 46,W_ 52 1 46,o_ 8 (au Ad 6),S_ 6 8 51,V_ 9 52]
def acu:=R_ [V_ 53 6,V_ 54 9,qu 55 54,y_ 56 50 [z_ 53,kI 202,z_ 55]]
def acs:=R_ [N_ 57 6 8,A_ 58 6 7,S_ 6 58 57]
def acr:=R_ [N_ 60 2 2,A_ 61 1 8,L_ 62 61,y_ 63 51 [z_ 60,z_ 62],V_ 59 63,W_ 64 0 59,W_ 65 1 59,A_ 66 2 7,S_ 4 66 64]
def MX:=R_ [K_ 68 26 5,V_ 67 68]
def acq:=R_ [V_ 69 6,N_ 70 31 3,y_ 71 52 [z_ 69,z_ 70,z_ 7]]
def MW:=R_ [K_ 73 26 6,V_ 72 73]
def acp:=R_ [V_ 74 6,A_ 75 1 3,L_ 76 75,y_ 77 47 [z_ 74,z_ 76],A_ 78 2 7,S_ 4 78 77]
def aco:=R_ [V_ 79 6,o_ 80 (aZ (z_ 79)),A_ 81 2 80,L_ 82 81,K_ 83 82 0]
def acn:CT:=.dI [84,85,86,87,88,89,90,91] [dT 85 2 7,lP 86 4 85 1,cI [86] (bc 87) 54 [z_ 86],iz 84 6 2,oD 88 8 3 2,lP 89 8 88 2,cI [84,87,89] (bc 90) 53 [z_ 84,z_ 87,z_ 89],dT 91 17 7,eP 1 91 90]
def MV:=R_ [K_ 93 26 7,V_ 92 93]
def acm:=R_ [V_ 94 6,N_ 95 31 3,y_ 96 55 [z_ 94,z_ 95,z_ 7]]
def MU:=R_ [K_ 98 26 8,V_ 97 98]
def MS:=R_ [V_ 99 6,A_ 100 16 3,N_ 101 15 100,y_ 102 56 [z_ 99,z_ 101,z_ 7]]
def ET:=R_ [V_ 103 6,o_ 104 (aZ (z_ 103)),A_ 105 2 104,L_ 106 105,H_ 107 106 0]
def MR:CT:=.dI [108,109,110,111,112] [i_ [] 108 (aG z4_ 25 []) 1,eP 25 4 108,iz 109 6 2,i_ [109] 110 (aZ (z_ 109)) 2,oD 111 2 110 2,nU 112 111 2,aP 5 112]
def MQ:=R_ [N_ 113 25 7,S_ 25 4 113,I_ 5 0]
def A23:CF:=⟨[cj 4 25,aH 5],sq I1 (iq IZ 17 (rt RI) (sq ack (sq acj (sq (sq aci (.block 0 (sq ach (cd 27 ai0 (sq acg (cd 32 aiZ (sq MZ (cd 39 acw (sq MY (cd 44 (sq acv (sq acu (sq acs acr))) (sq MX (cd 67 acq (sq MW (cd 72 (sq acp (sq aco (cd 83 acn .skip))) (sq MV (cd 92 acm (sq MU (cd 97 MS .skip)))))))))))))))))) (iq ET 107 (rt MR) (rt MQ)))))),114⟩
theorem c23:cF 23=some A23:=bH
def aiY:=R_ [A_ 17 2 5,L_ 18 17,y_ 19 57 [z_ 18],A_ 20 2 5,S_ 1 20 19]
def aiX:=R_ [A_ 21 0 3,A_ 22 0 21,L_ 23 22,N_ 24 4 5,o_ 25 (aJ xg 1 4 [(0,4,z_ 24)]),o_ 26 (dL 4 56 (z_ 23) (z_ 25)),A_ 27 0 3,A_ 28 0 27,S_ 1 28 26]
def aiW:CT:=.dI [29,30,31,32,33,34,35,36,37,38,39] [dT 31 2 1,cK 32 31,aP 33 4,dJ 34 1 32 33,cK 35 34,cI [35] (bc 36) 58 [z_ 35],oD 29 2 3 2,nU 30 29 2,i_ [36] 37 (aJ sZ 1 1 [(0,1,z_ 36)]) 1,mI [30,37] (bc 38) (dL 1 24 (z_ 30) (z_ 37)),dT 39 2 3,eP 1 39 38]
def aiV:=R_ [D_ 40 12 1,V_ 12 40]
def TD:CT:=sr [B_ 13 12 11] (sq (cd 13 .skip (.exit 0)) (sq (.block 1 (sr [V_ 14 12,J_ 15 4 10 12,N_ 16 4 15,o_ 5 (au xg 4),V_ 4 14,S_ 4 5 16] (sq aiY (sq aiX aiW)))) aiV))
def aiU:=R_ [A_ 41 0 1,A_ 42 1 41,L_ 43 42,E_ 44 43,I_ 45 0]
def acd:=R_ [A_ 49 3 7,L_ 50 49,y_ 51 59 [z_ 50],A_ 52 3 7,S_ 1 52 51]
def acb:=R_ [A_ 53 0 3,A_ 54 1 53,L_ 55 54,N_ 56 6 7,o_ 57 (aJ Ad 1 6 [(0,6,z_ 56)]),o_ 58 (dL 6 56 (z_ 55) (z_ 57)),A_ 59 0 3,A_ 60 1 59,S_ 1 60 58]
def aca:=R_ [D_ 61 45 1,V_ 45 61]
def TC:CT:=sr [B_ 46 45 44] (sq (cd 46 .skip (.exit 2)) (sq (.block 3 (sr [J_ 47 6 43 45,N_ 48 6 47,o_ 7 (au Ad 6),S_ 6 7 48] (sq acd acb))) aca))
def ab':=R_ [N_ 62 3 3,S_ 3 2 62]
def A24:CF:=⟨[cj 2 3],sr [X_ 1 0,o_ 2 (au uv 3)] (sr [o_ 3 (au uv 3)] (sq (sr [A_ 8 0 1,A_ 9 0 8,L_ 10 9,E_ 11 10,I_ 12 0] (bl 0 TD)) (sq (sq aiU (bl 2 TC)) (rt ab')))),63⟩
theorem c24:cF 24=some A24:=bH
def A25:CF:=⟨[aH 0],sr [o_ 0 (c_ (.aV (.map none)))] (rr [o_ 1 (lx),oP rj (lq .i (z_ 1) (kI 1) (kf 60)),oP rj (lq .i (z_ 1) (kI 2) (kf 61)),oP rj (lq .i (z_ 1) (kI 3) (kf 62)),oP rj (lq .i (z_ 1) (kI 4) (kf 63)),oP rj (lq .i (z_ 1) (kI 5) (kf 64)),oP rj (lq .i (z_ 1) (kI 6) (kf 65)),oP rj (lq .i (z_ 1) (kI 7) (kf 66)),oP rj (lq .i (z_ 1) (kI 8) (kf 67)),V_ 2 1,V_ 0 2]),3⟩
theorem c25:cF 25=some A25:=bH
def aiT:=R_ [V_ 28 6,H_ 29 28 0]
def aiS:=R_ [V_ 30 6,V_ 4 30]
def aiR:=R_ [V_ 17 5,D_ 18 17 1,V_ 5 18]
def I5:CT:=lr [V_ 7 5,V_ 8 0,E_ 9 8,B_ 10 7 9,V_ 11 10,jh 11 12 5,jh 11 13 1,g_ 11 14 (u_ bg 13),g_ 11 15 (b_ jM 12 14),P_ 16 11 15] 16 0 1 (sq (.dI [19,20,21,22,23,24,25,26,27] [aP 19 0,aP 20 5,dJ 21 3 19 20,lP 22 3 21 1,aP 23 1,aP 24 5,dJ 25 3 23 24,lP 26 3 25 1,cI [22,26] (bc 27) 79 [z_ 22,z_ 26],aP 6 27]) (sq aiT (cd 29 (rt aiS) .skip))) aiR
def QU:=R_ [V_ 31 0,E_ 32 31,V_ 33 1,E_ 34 33,B_ 35 32 34]
def aiQ:=R_ [o_ 4 (c_ (.int .i64 (-1)))]
def aby:=R_ [V_ 36 0,E_ 37 36,V_ 38 1,E_ 39 38,eR mG 40 37 39]
def abA:=R_ [I_ 4 1]
def abz:=R_ [I_ 4 0]
def A30:CF:=⟨[aH 4],sr [I_ 4 0] (sq (sr [I_ 5 0] (bl 0 I5)) (iq QU 35 (rt aiQ) (iq aby 40 (rt abA) (rt abz)))),41⟩
theorem c30:cF 30=some A30:=bH
def aiP:=R_ [F_ 4]
def aiO:=R_ [I_ 5 0]
def aiN:=R_ [F_ 4]
def aiM:=R_ [V_ 15 5,D_ 16 15 1,V_ 5 16]
def adS:CT:=lr [V_ 11 5,V_ 12 0,E_ 13 12,B_ 14 11 13] 14 0 1 (sq (.dI [17,18,19,20,21,22,23,24,25] [aP 17 0,aP 18 5,dJ 19 3 17 18,lP 20 3 19 1,aP 21 1,aP 22 5,dJ 23 3 21 22,lP 24 3 23 1,i_ [20,24] 25 (b_ (mY true [.i,.i,.s]) 20 24) 1]) (cd 25 (rt aiN) .skip)) aiM
def aiL:=R_ [T_ 4]
def A35:CF:=⟨[aH 4],sr [F_ 4] (ir [V_ 6 0,E_ 7 6,V_ 8 1,E_ 9 8,eR qM 10 7 9] 10 (rt aiP) (sq (sq aiO (bl 0 adS)) (rt aiL))),26⟩
theorem c35:cF 35=some A35:=bH
def ajm:CT:=lr [V_ 9 7,V_ 10 2,E_ 11 10,B_ 12 9 11] 12 0 1 (sq (.dI [15,16,17,18,19,20,21,22,23,24,25,26,27,28,29,30,31] [aP 15 0,aP 16 2,aP 17 7,dJ 18 2 16 17,dT 19 0 18,cK 20 19,dJ 21 3 15 20,lP 22 3 21 1,aP 23 1,aP 24 2,aP 25 7,dJ 26 2 24 25,dT 27 0 26,cK 28 27,dJ 29 3 23 28,lP 30 3 29 1,cI [22,30] (bc 31) 79 [z_ 22,z_ 30],aP 8 31]) (ir [V_ 32 2,V_ 33 7,J_ 34 2 32 33,A_ 35 1 34,L_ 36 35] 36 (R_ [V_ 37 8,o_ 38 (u_ (cUn .neg) 37),V_ 8 38]) (sr [V_ 39 8,H_ 40 39 0] (cd 40 (rr [V_ 41 8,V_ 6 41]) .skip)))) (R_ [V_ 13 7,D_ 14 13 1,V_ 7 14])
def aiK:=R_ [V_ 42 0,V_ 43 1,y_ 44 30 [z_ 42,z_ 43],V_ 6 44]
def A36:CF:=⟨[aH 6],sr [I_ 6 0] (sq (sr [I_ 7 0] (bl 0 ajm)) (rt aiK)),45⟩
theorem c36:cF 36=some A36:=bH
def aiJ:=R_ [V_ 4 25]
def IY:=R_ [L_ 26 3,V_ 27 4,o_ 28 (jA .i (.int .i64 0) false (z_ 26) (z_ 27)),D_ 29 28 1,oP rj (lq .i (z_ 26) (z_ 27) (z_ 29))]
def IX:=R_ [V_ 30 4,o_ 31 (d_ dq 30 (.int .u32 0)),V_ 32 31,jI 32 33 3,pV 32 34 4,h_ 32 35 (jA .i (.int .i64 0) false (z_ 33) (z_ 34)),h_ 32 36 (di mG 35 1),Q_ 37 32 36]
def IW:=R_ [oP rj (dD 1 (z_ 2) (aO (.bool false)))]
def CL:Code×Code:=WE pG 37 0
theorem ajx:eN pG 120 true CL.1=aiJ :=bH
theorem ajw:eN pG 120 true CL.2=(.block 1 (sq IY (sq IX (cd 37 (sq IW .ret) .skip)))) :=bH
def aiI:=R_ [o_ 5 (c_ (.int .u32 0))]
def abj:=R_ [A_ 38 0 1,L_ 39 38,E_ 40 39,I_ 41 0]
def LW:=R_ [A_ 46 0 7,L_ 47 46,V_ 48 5,eR yU 49 47 48,V_ 50 49,jg 50 51 1 7,jI 50 52 51,j7 (z_ 50) false (bc 53) 81 [z_ 52],h_ 50 54 (un 53),Q_ 55 50 54,V_ 56 55,jg 56 57 2 7,jI 56 58 57,j7 (z_ 56) false (bc 59) 82 [z_ 58],h_ 56 60 (un 59),Q_ 61 56 60,V_ 62 61,jg 62 63 0 1,jI 62 64 63,pV 62 65 6,h_ 62 66 (wq (jW 4) (z_ 64) none (some (z_ 65)) none),h_ 62 67 (jl (.func 84) [] [z_ 7]),j7 (z_ 62) false (bc 68) 83 [z_ 66,z_ 67],Q_ 69 62 68]
def zH:=R_ [oP rj (dD 1 (z_ 2) (aO (.bool false)))]
def abh:=R_ [A_ 70 0 7,L_ 71 70,V_ 5 71]
def abg:=R_ [D_ 72 41 1,V_ 41 72]
def TB:CT:=sr [B_ 42 41 40] (sq (cd 42 .skip (.exit 2)) (sq (.block 3 (sr [V_ 43 41,J_ 44 4 39 41,N_ 45 4 44,o_ 7 (au xg 4),V_ 6 43,S_ 4 7 45] (iq LW 69 (rt zH) abh))) abg))
def abf:=R_ [o_ 5 (c_ (.int .u32 0))]
def abe:=R_ [A_ 73 1 1,L_ 74 73,E_ 75 74,I_ 76 0]
def abd:=R_ [N_ 82 2 1,A_ 83 1 9,L_ 84 83,y_ 85 51 [z_ 82,z_ 84],V_ 81 85,W_ 86 0 81,W_ 87 1 81,o_ 10 (au xg 4),S_ 4 10 86,V_ 11 87]
def LV:=R_ [A_ 88 0 9,L_ 89 88,V_ 90 5,eR yU 91 89 90,V_ 92 91,jg 92 93 2 9,jI 92 94 93,j7 (z_ 92) false (bc 95) 81 [z_ 94],h_ 92 96 (un 95),Q_ 97 92 96,V_ 98 97,pV 98 99 11,h_ 98 100 (un 99),Q_ 101 98 100,V_ 102 101,PV 102 103 4 10,jg 102 104 3 9,jI 102 105 104,j7 (z_ 102) false (bc 106) 85 [z_ 103,z_ 105],h_ 102 107 (un 106),Q_ 108 102 107,V_ 109 108,jg 109 110 1 1,jI 109 111 110,pV 109 112 8,h_ 109 113 (wq (jW 6) (z_ 111) none (some (z_ 112)) none),h_ 109 114 (jl (.func 87) [] [z_ 9]),j7 (z_ 109) false (bc 115) 86 [z_ 113,z_ 114],Q_ 116 109 115]
def vc:=R_ [oP rj (dD 1 (z_ 2) (aO (.bool false)))]
def abc:=R_ [A_ 117 0 9,L_ 118 117,V_ 5 118]
def abb:=R_ [D_ 119 76 1,V_ 76 119]
def TA:CT:=sr [B_ 77 76 75] (sq (cd 77 .skip (.exit 4)) (sq (.block 5 (sr [V_ 78 76,J_ 79 6 74 76,N_ 80 6 79,o_ 9 (au Ad 6),V_ 8 78,S_ 6 9 80] (sq abd (iq LV 116 (rt vc) abc)))) abb))
def aba:=R_ [oP rj (dD 1 (z_ 2) (aO (.bool true)))]
def A37:CF:=⟨[O3 2],sr [X_ 1 0,o_ 2 (au [.bool false] 1)] (ir [A_ 12 0 1,L_ 13 12,E_ 14 13,eV mG 15 14 32,V_ 16 15,jg 16 17 1 1,jI 16 18 17,h_ 16 19 (u_ bg 18),h_ 16 20 (di mG 19 64),Q_ 21 16 20] 21 (rr [oP rj (dD 1 (z_ 2) (aO (.bool false)))]) (sr [o_ 22 (lx),o_ 3 (au [(.aV (.map none))] 1),S_ 1 3 22] (sq (sr [N_ 23 2 1,y_ 24 80 [z_ 23]] (.block 0 (.range 120 (z_ 24) [25] CL.1 CL.2))) (sq aiI (sq (sq abj (bl 2 TB)) (sq abf (sq (sq abe (bl 4 TA)) (rt aba)))))))),120⟩
theorem c37:cF 37=some A37:=bH
def aa9:=R_ [I_ 4 1]
def aiH:=R_ [V_ 17 1,E_ 18 17,I_ 19 0]
def aiG:=R_ [I_ 4 5]
def aiF:CT:=.dI [29,30,31,32,33,34,35,36,37,38,39,40,41] [dT 29 0 6,cK 30 29,r6 qM 31 30 0,aP 32 31,p3_ 32 33 0 6,rm 32 34 33,gi 32 35 0,gi 32 36 5,gI [32,35,36] 32 37 (b_ (bW 3) 35 36) 1,p3_ 32 38 1 37,rm 32 39 38,gI [32,34,39] 32 40 (b_ qM 34 39) 1,i_ [32,40] 41 (p_ 32 40) 1,aP 28 41]
def aiE:=R_ [I_ 4 30]
def Eu:=R_ [A_ 43 0 6,L_ 44 43,K_ 45 44 0,V_ 46 45,jh 46 47 0,jh 46 48 5,g_ 46 49 (b_ (bW 3) 47 48),eI 46 50 2 49,fy 46 51 50,P_ 52 46 51,V_ 42 52]
def aa':=R_ [I_ 4 50]
def LU:=R_ [D_ 53 19 1,V_ 19 53]
def adR:CT:=sr [B_ 20 19 18] (sq (cd 20 .skip (.exit 0)) (sq (.block 1 (sr [V_ 21 19,J_ 22 3 17 19,N_ 23 3 22,o_ 6 (au fJ 3),V_ 5 21,S_ 3 6 23] (.block 2 (sr [N_ 25 3 6,y_ 26 88 [z_ 25],qu 27 26,V_ 24 27] (cd 24 (rt aiG) (sq aiF (cd 28 (rt aiE) (sq Eu (cd 42 (rt aa') .skip))))))))) LU))
def aa_:=R_ [I_ 4 0]
def A38:CF:=⟨[aH 4],sr [I_ 4 0] (ir [V_ 7 0,y_ 8 82 [z_ 7],qu 9 8,V_ 10 9,pV 10 11 1,h_ 10 12 (u_ bg 11),pV 10 13 0,h_ 10 14 (u_ bg 13),h_ 10 15 (b_ qM 12 14),Q_ 16 10 15] 16 (rt aa9) (sq (sq aiH (bl 0 adR)) (rt aa_))),54⟩
theorem c38:cF 38=some A38:=bH
def aiD:=R_ [F_ 4]
def aiC:=R_ [V_ 11 5,eV fU 12 11 1,V_ 5 12]
def adQ:CT:=lr [V_ 9 5,eV mG 10 9 0] 10 0 1 (sq (.dI [13,14,15,16,17,18,19,20,21,22,23,24] [aP 13 1,aP 14 0,aP 15 5,dJ 16 1 14 15,cK 17 16,aP 18 0,aP 19 5,r6 fU 20 19 1,dJ 21 1 18 20,cK 22 21,vI [13,17,22] (bc 23) (z_ 13) [z_ 17,z_ 22],r6 jM 24 23 0]) (cd 24 (rt aiD) .skip)) aiC
def aiB:=R_ [T_ 4]
def A39:CF:=⟨[aH 4],sr [F_ 4] (sq (sr [V_ 6 0,E_ 7 6,eV fU 8 7 1,V_ 5 8] (bl 0 adQ)) (rt aiB)),25⟩
theorem c39:cF 39=some A39:=bH
def IV:=R_ [V_ 28 7,H_ 29 28 0]
def aa6:=R_ [I_ 6 0]
def aa5:=R_ [V_ 30 0,V_ 31 5,J_ 32 3 30 31,N_ 33 3 32,y_ 34 88 [z_ 33]]
def aiA:=R_ [o_ 6 (c_ (.int .i64 (-1)))]
def aiz:=R_ [V_ 35 1,V_ 36 5,J_ 37 3 35 36,N_ 38 3 37,y_ 39 88 [z_ 38]]
def aa8:=R_ [I_ 6 1]
def u9:=R_ [V_ 40 6,H_ 41 40 0]
def Et:=R_ [V_ 42 6,V_ 4 42]
def LS:=R_ [D_ 43 13 1,V_ 13 43]
def adP:CT:=sr [B_ 14 13 12] (sq (cd 14 .skip (.exit 0)) (sq (.block 1 (sr [V_ 15 13,V_ 5 15] (sq (.dI [17,18,19,20,21,22,23,24,25,16,26,27] [aP 17 0,aP 18 5,dJ 19 3 17 18,lP 20 3 19 1,aP 21 1,aP 22 5,dJ 23 3 21 22,lP 24 3 23 1,cI [20,24] (bc 25) 89 [z_ 20,z_ 24],aP 16 25,i_ [16] 26 (u_ (jw 0) 16) 1,i_ [16] 27 (u_ (jw 1) 16) 1,aP 6 26,aP 7 27]) (iq IV 29 (sq aa6 (sq aa5 (cd 34 aiA (sq aiz (cd 39 aa8 .skip))))) (sq u9 (cd 41 (rt Et) .skip)))))) LS))
def aa7:=R_ [V_ 44 0,E_ 45 44,V_ 46 1,E_ 47 46,eR fU 48 45 47,V_ 4 48]
def A40:CF:=⟨[aH 4],sr [I_ 4 0] (sq (sr [V_ 8 0,E_ 9 8,V_ 10 1,E_ 11 10,o_ 12 (yZ UC [z_ 9,z_ 11]),I_ 13 0] (bl 0 adP)) (rt aa7)),49⟩
theorem c40:cF 40=some A40:=bH
def aiy:=R_ [V_ 21 2,E_ 22 21,I_ 23 0]
def aix:=R_ [V_ 34 7,V_ 35 11,vP (bc 36) (z_ 34) [z_ 35]]
def aiw:=R_ [N_ 37 2 3,A_ 38 0 4,L_ 39 38,y_ 40 92 [z_ 37,z_ 39],E_ 41 40,I_ 42 0]
def aa4:=R_ [V_ 55 7,V_ 56 16,vP (bc 57) (z_ 55) [z_ 56]]
def LR:=R_ [D_ 58 42 1,V_ 42 58]
def I4:CT:=sr [B_ 43 42 41] (sq (cd 43 .skip (.exit 2)) (sq (.block 3 (sr [J_ 44 6 40 42,N_ 45 6 44,o_ 13 (au Ad 6),S_ 6 13 45] (sr [V_ 46 11,K_ 47 46 0] (cd 47 (sr [N_ 49 6 13,V_ 50 9,y_ 51 93 [z_ 49,z_ 50],V_ 48 51,W_ 52 0 48,W_ 53 1 48,W_ 54 2 48,V_ 14 52,V_ 15 53,V_ 16 54] aa4) .skip)))) LR))
def aa3:=R_ [D_ 59 23 1,V_ 23 59]
def adO:CT:=sr [B_ 24 23 22] (sq (cd 24 .skip (.exit 0)) (sq (.block 1 (sr [J_ 25 1 21 23,L_ 26 25,V_ 9 26] (sr [A_ 28 2 4,L_ 29 28,V_ 30 9,y_ 31 91 [z_ 29,z_ 30],V_ 27 31,W_ 32 0 27,W_ 33 1 27,V_ 10 32,V_ 11 33] (sq aix (sq aiw (bl 2 I4)))))) aa3))
def aa2:=R_ [V_ 60 7,vP (bc 61) (z_ 60) [kI 0],V_ 17 61]
def LQ:=R_ [V_ 62 17,H_ 63 62 0]
def aa1:=R_ [V_ 64 17,V_ 6 64]
def aa0:=R_ [N_ 65 2 3,A_ 66 0 4,L_ 67 66,y_ 68 92 [z_ 65,z_ 67],E_ 69 68,I_ 70 0]
def aaZ:=R_ [I_ 6 160]
def LP:=R_ [D_ 81 70 1,V_ 70 81]
def Tz:CT:=sr [B_ 71 70 69] (sq (cd 71 .skip (.exit 4)) (sq (.block 5 (sr [J_ 72 6 68 70,N_ 73 6 72,o_ 19 (au Ad 6),S_ 6 19 73] (sr [A_ 74 4 19,L_ 75 74,V_ 76 75,Aa 76 77 6 19,jh 76 78 2,j7 (z_ 76) true (bc 79) 94 [z_ 77,z_ 78],P_ 80 76 79] (cd 80 (rt aaZ) .skip)))) LP))
def aaY:=R_ [I_ 6 0]
def A41:CF:=⟨[aH 6],sr [X_ 3 0,X_ 4 1,I_ 6 0] (sr [y_ 20 90 [],V_ 7 20] (sq (sq aiy (bl 0 adO)) (sq (sq aa2 (sq LQ (cd 63 (rt aa1) .skip))) (sq (sq aa0 (bl 4 Tz)) (rt aaY))))),82⟩
theorem c41:cF 41=some A41:=bH
def aaX:=R_ [X_ 1 0,F_ 2]
def aaW:=R_ [A_ 15 0 1,L_ 16 15,o_ 17 (aG TI 31 [(0,1,z_ 16)]),o_ 3 (au TI 31),S_ 31 3 17]
def aaQ:=R_ [F_ 4]
def aaK:=R_ [A_ 18 0 1,L_ 19 18]
def aaJ:=R_ [K_ 21 19 1,V_ 20 21]
def aiv:CT:=.dI [22,23,24,25,26,27] [dT 22 1 1,cK 23 22,dT 26 1 3,eP 1 26 23,oD 24 3 1 2,nU 25 24 2,dT 27 3 3,eP 1 27 25]
def aiu:=R_ [A_ 28 1 1,L_ 29 28,y_ 30 109 [z_ 29],V_ 31 30,eI 31 32 3 1,fy 31 33 32,g_ 31 34 (u_ bg 33),j7 (z_ 31) true (bc 35) 110 [z_ 34,kI 16],P_ 36 31 35,V_ 4 36]
def ait:=R_ [A_ 37 3 1,L_ 38 37,E_ 39 38,I_ 40 0]
def ajl:CT:=sr [B_ 41 40 39] (sq (cd 41 .skip (.exit 1)) (sq (.block 2 (sr [J_ 42 3 38 40,N_ 43 3 42,o_ 6 (au Ji 3),S_ 3 6 43] (R_ [V_ 44 4,V_ 45 44,eI 45 46 0 6,fy 45 47 46,j7 (z_ 45) true (bc 48) 109 [z_ 47],P_ 49 45 48,V_ 50 49,eI 50 51 1 6,fy 50 52 51,g_ 50 53 (di oh 52 1),P_ 54 50 53,V_ 55 54,eI 55 56 1 6,fy 55 57 56,g_ 55 58 (di yU 57 3),P_ 59 55 58,V_ 4 59]))) (R_ [D_ 60 40 1,V_ 40 60])))
def LO:=R_ [K_ 62 19 2,V_ 61 62]
def aaV:=R_ [A_ 63 1 1,L_ 64 63,A_ 65 1 3,S_ 1 65 64]
def aaU:=R_ [A_ 66 1 1,L_ 67 66,y_ 68 109 [z_ 67],V_ 4 68]
def LN:=R_ [K_ 70 19 3,V_ 69 70]
def aaT:CT:=.dI [71,72,73,74,75,76,77,78,79,80,81,82] [dT 71 1 1,cK 72 71,dT 79 1 3,eP 1 79 72,oD 73 2 1 2,nU 74 73 2,dT 80 2 3,eP 1 80 74,oD 75 4 1 3,nU 76 75 3,dT 81 4 3,eP 1 81 76,oD 77 5 1 4,nU 78 77 4,dT 82 5 3,eP 1 82 78]
def aaS:=R_ [A_ 83 1 1,L_ 84 83,y_ 85 109 [z_ 84],V_ 86 85,eI 86 87 2 1,fy 86 88 87,j7 (z_ 86) true (bc 89) 109 [z_ 88],P_ 90 86 89,V_ 91 90,eI 91 92 4 1,fy 91 93 92,g_ 91 94 (u_ bg 93),j7 (z_ 91) true (bc 95) 110 [z_ 94,kI 16],P_ 96 91 95,V_ 4 96]
def aaR:=R_ [A_ 97 4 1,L_ 98 97,E_ 99 98,I_ 100 0]
def ajk:CT:=sr [B_ 101 100 99] (sq (cd 101 .skip (.exit 3)) (sq (.block 4 (sr [J_ 102 1 98 100,L_ 103 102,V_ 8 103] (R_ [V_ 104 4,V_ 105 104,jh 105 106 8,j7 (z_ 105) true (bc 107) 109 [z_ 106],P_ 108 105 107,V_ 4 108]))) (R_ [D_ 109 100 1,V_ 100 109])))
def LM:=R_ [K_ 111 19 4,V_ 110 111]
def aaP:=R_ [A_ 112 2 1,L_ 113 112,A_ 114 2 3,S_ 1 114 113]
def aaO:=R_ [A_ 115 2 1,L_ 116 115,y_ 117 109 [z_ 116],V_ 4 117]
def LL:=R_ [K_ 119 19 5,V_ 118 119]
def aaN:CT:=.dI [120,121,122,123,124,125] [dT 120 1 1,cK 121 120,dT 124 1 3,eP 1 124 121,oD 122 6 1 2,nU 123 122 2,dT 125 6 3,eP 1 125 123]
def aaM:=R_ [A_ 126 1 1,L_ 127 126,y_ 128 109 [z_ 127],V_ 129 128,eI 129 130 6 1,fy 129 131 130,g_ 129 132 (u_ bg 131),g_ 129 133 (di mG 132 0),P_ 134 129 133,V_ 4 134]
def aaL:=R_ [A_ 135 6 1,L_ 136 135,E_ 137 136,I_ 138 0]
def asL:CT:=sr [B_ 151 150 149] (sq (cd 151 .skip (.exit 7)) (sq (.block 8 (sr [J_ 152 8 148 150,N_ 153 8 152,o_ 12 (au nF 8),S_ 8 12 153] (R_ [V_ 154 4,V_ 155 154,Aa 155 156 8 12,j7 (z_ 155) true (bc 157) 111 [z_ 156],P_ 158 155 157,V_ 4 158]))) (R_ [D_ 159 150 1,V_ 150 159])))
def ajj:CT:=sr [B_ 139 138 137] (sq (cd 139 .skip (.exit 5)) (sq (.block 6 (sr [J_ 140 1 136 138,L_ 141 140,V_ 10 141] (sr [V_ 142 4,V_ 143 142,jh 143 144 10,g_ 143 145 (u_ bg 144),j7 (z_ 143) true (bc 146) 110 [z_ 145,kI 16],P_ 147 143 146,V_ 4 147] (sr [V_ 148 10,E_ 149 148,I_ 150 0] (bl 7 asL))))) (R_ [D_ 160 138 1,V_ 138 160])))
def LJ:=R_ [K_ 162 19 6,V_ 161 162]
def aaI:CT:=.dI [163,164,165,166,167,168] [dT 163 1 1,cK 164 163,dT 167 1 3,eP 1 167 164,oD 165 8 1 2,lP 166 8 165 2,dT 168 8 3,eP 8 168 166]
def aaH:=R_ [A_ 169 1 1,L_ 170 169,y_ 171 109 [z_ 170],V_ 172 171,eI 172 173 8 1,Aa 172 174 8 173,j7 (z_ 172) true (bc 175) 112 [z_ 174],P_ 176 172 175,V_ 4 176]
def LI:=R_ [K_ 178 19 7,V_ 177 178]
def aaG:CT:=.dI [179,180,181,182,183,184,185,186,187] [dT 179 1 1,cK 180 179,dT 185 1 3,eP 1 185 180,oD 181 7 1 2,nU 182 181 2,dT 186 7 3,eP 1 186 182,oD 183 8 1 3,lP 184 8 183 3,dT 187 8 3,eP 8 187 184]
def aaF:=R_ [A_ 188 1 1,L_ 189 188,y_ 190 109 [z_ 189],V_ 191 190,eI 191 192 7 1,fy 191 193 192,g_ 191 194 (u_ bg 193),j7 (z_ 191) true (bc 195) 110 [z_ 194,kI 16],P_ 196 191 195,V_ 197 196,eI 197 198 8 1,Aa 197 199 8 198,j7 (z_ 197) true (bc 200) 112 [z_ 199],P_ 201 197 200,V_ 4 201]
def aaE:=R_ [A_ 202 7 1,L_ 203 202,E_ 204 203,I_ 205 0]
def aji:CT:=sr [B_ 206 205 204] (sq (cd 206 .skip (.exit 9)) (sq (.block 10 (sr [J_ 207 9 203 205,N_ 208 9 207,o_ 14 (au [.str [],.int .i64 0,.int .i64 0,.int .i64 0,.str [],.str [],.str [],.int .i64 0,cJ] 9),S_ 9 14 208] (R_ [V_ 209 4,V_ 210 209,eI 210 211 0 14,fy 210 212 211,j7 (z_ 210) true (bc 213) 109 [z_ 212],P_ 214 210 213,V_ 215 214,eI 215 216 1 14,Aa 215 217 8 216,j7 (z_ 215) true (bc 218) 111 [z_ 217],P_ 219 215 218,V_ 4 219]))) (R_ [D_ 220 205 1,V_ 205 220])))
def LH:=R_ [K_ 222 19 8,V_ 221 222]
def LG:=R_ [A_ 223 16 1,N_ 224 15 223,A_ 225 16 3,S_ 15 225 224]
def LF:=R_ [A_ 226 16 1,N_ 227 15 226,y_ 228 113 [z_ 227],V_ 4 228]
def aaD:=R_ [K_ 230 19 9,V_ 229 230]
def aaC:=R_ [K_ 231 19 10,V_ 229 231]
def aaB:=R_ [K_ 232 19 11,V_ 229 232]
def aaA:=R_ [T_ 4]
def u7:=R_ [V_ 233 4,V_ 234 233,Aa 234 235 31 1,Aa 234 236 31 3,j7 (z_ 234) true (bc 237) 114 [z_ 235,z_ 236],P_ 238 234 237,V_ 2 238]
def A45:CF:=⟨[aH 2],sq aaX (sq aaW (sq aaQ (sq (sq aaK (.block 0 (sq aaJ (cd 20 (sq aiv (sq aiu (sq ait (bl 1 ajl)))) (sq LO (cd 61 (sq aaV aaU) (sq LN (cd 69 (sq aaT (sq aaS (sq aaR (bl 3 ajk)))) (sq LM (cd 110 (sq aaP aaO) (sq LL (cd 118 (sq aaN (sq aaM (sq aaL (bl 5 ajj)))) (sq LJ (cd 161 (sq aaI aaH) (sq LI (cd 177 (sq aaG (sq aaF (sq aaE (bl 9 aji)))) (sq LH (cd 221 (sq LG LF) (sq (sq aaD (cd 229 .skip (sq aaC (cd 229 .skip aaB)))) (cd 229 aaA .skip)))))))))))))))))))) (rt u7)))),239⟩
theorem c45:cF 45=some A45:=bH
def ais:=R_ [V_ 16 0,V_ 17 6,qu 18 17,y_ 19 50 [z_ 16,kI 200,z_ 18]]
def air:=R_ [N_ 20 4 5,S_ 4 4 20]
def A47:CF:=⟨[cj 4 4],sr [o_ 4 (au xg 4)] (sr [V_ 8 0,o_ 9 (aZ (z_ 8)),A_ 10 0 9,N_ 11 2 10,V_ 12 1,y_ 13 115 [z_ 11,z_ 12],V_ 7 13,W_ 14 0 7,W_ 15 1 7,o_ 5 (au xg 4),S_ 4 5 14,V_ 6 15] (sq ais (rt air))),21⟩
theorem c47:cF 47=some A47:=bH
def A50:CF:=⟨[],sr [V_ 6 2,V_ 7 6,jh 7 8 0,g_ 7 9 (aZ (z_ 8)),eI 7 10 2 9,fy 7 11 10,g_ 7 12 (di dq 11 0),P_ 13 7 12] (cd 13 (R_ [V_ 14 0,V_ 15 1,o_ 16 (aZ (z_ 14)),A_ 17 2 16,S_ 1 17 15]) .skip),18⟩
theorem c50:cF 50=some A50:=bH
def A51:CF:=⟨[cj 4 4,aH 5],sr [X_ 2 0,X_ 3 1,o_ 4 (au xg 4),F_ 5] (rr [A_ 6 0 2,L_ 7 6,o_ 8 (jl (.func 126) [] [z_ 3]),y_ 9 125 [z_ 7,z_ 8],W_ 10 0 9,W_ 11 1 9,y_ 12 124 [z_ 10,z_ 11],W_ 13 0 12,W_ 14 1 12,S_ 4 4 13,V_ 5 14]),15⟩
theorem c51:cF 51=some A51:=bH
def QR:=R_ [V_ 19 0,V_ 20 8,H_ 21 20 3,V_ 22 21,jh 22 23 8,g_ 22 24 (di qM 23 0),P_ 25 22 24,y_ 26 50 [z_ 19,kI 203,z_ 25]]
def QP:=R_ [N_ 27 8 7,y_ 28 129 [z_ 27],V_ 6 28]
def A53:CF:=⟨[aH 6],sr [X_ 4 1,X_ 5 2,o_ 6 (c_ cJ)] (ir [A_ 9 0 5,L_ 10 9,K_ 11 10 0] 11 (rr [o_ 6 (c_ cJ)]) (sr [V_ 13 0,N_ 14 2 4,N_ 15 8 5,y_ 16 128 [z_ 13,z_ 14,z_ 15],V_ 12 16,W_ 17 0 12,W_ 18 1 12,o_ 7 (au nF 8),S_ 8 7 17,V_ 8 18] (sq QR (rt QP)))),29⟩
theorem c53:cF 53=some A53:=bH
def ain:=R_ [A_ 27 0 8,L_ 28 27,V_ 10 28]
def aan:=R_ [A_ 29 1 8,L_ 30 29,o_ 31 (d_ qM 30 (.str []))]
def aim:=R_ [A_ 32 1 8,L_ 33 32,V_ 10 33]
def aam:=R_ [V_ 34 0,A_ 35 0 6,L_ 36 35,V_ 37 10,y_ 38 120 [z_ 36,z_ 37],y_ 39 50 [z_ 34,kI 205,z_ 38]]
def Es:CT:=.dI [40,41,42,43,44,45,46,47,48,49,50,51] [dT 40 0 6,cK 41 40,aP 42 10,i_ [42] 43 (aJ [.str []] 1 1 [(0,1,z_ 42)]) 1,mI [41,43] (bc 44) (dL 1 16 (z_ 41) (z_ 43)),oD 45 1 6 2,nU 46 45 2,lP 47 4 9 2,i_ [47] 48 (aJ xg 1 4 [(0,4,z_ 47)]) 2,mI [46,48] (bc 49) (dL 4 56 (z_ 46) (z_ 48)),oD 50 0 6 2,eP 1 50 44,dT 51 1 6,eP 1 51 49]
def LD:=R_ [D_ 52 19 1,V_ 19 52]
def Tv:CT:=sr [B_ 20 19 18] (sq (cd 20 .skip (.exit 0)) (sq (.block 1 (sr [J_ 21 10 17 19,N_ 22 10 21,o_ 8 (au OE 10),S_ 10 8 22] (sr [V_ 23 0,A_ 24 0 8,L_ 25 24,y_ 26 47 [z_ 23,z_ 25],o_ 9 (au xg 4),S_ 4 9 26] (sq ain (iq aan 31 aim (sq aam Es)))))) LD))
def LC:=R_ [V_ 53 0,o_ 54 (aZ (z_ 53)),A_ 55 2 54,L_ 56 55,H_ 57 56 0]
def aav:=R_ [V_ 58 2,A_ 59 1 6,L_ 60 59,o_ 61 (aZ (z_ 58)),A_ 62 15 61,S_ 1 62 60]
def aau:=R_ [A_ 63 3 4,L_ 64 63,E_ 65 64,I_ 66 0]
def aat:CT:=.dI [71,72,73,74,75,76,77,78,79,80,81,82,83,84,85,86,87,88,89,90,91,92,93,94] [aP 76 0,dT 77 0 6,cK 78 77,aP 79 11,r6 mq 80 79 1,i_ [78,80] 81 (wq (jW 1) (z_ 78) none (some (z_ 80)) none) 1,dT 82 1 6,cK 83 82,aP 84 11,r6 mq 85 84 1,i_ [83,85] 86 (wq (jW 4) (z_ 83) none (some (z_ 85)) none) 1,i_ [81,86] 87 (aG [cJ,cJ] 2 [(0,1,z_ 81),(1,1,z_ 86)]) 1,dT 88 2 12,lP 89 8 88 1,cI [76,87,89] (bc 90) 53 [z_ 76,z_ 87,z_ 89],iz 72 2 2,i_ [72] 73 (aZ (z_ 72)) 2,oD 74 16 73 2,nU 75 74 2,i_ [90] 91 (aJ sZ 1 1 [(0,1,z_ 90)]) 1,mI [75,91] (bc 92) (dL 1 24 (z_ 75) (z_ 91)),iz 71 2 3,i_ [71] 93 (aZ (z_ 71)) 1,dT 94 16 93,eP 1 94 92]
def aas:=R_ [D_ 95 66 1,V_ 66 95]
def Tu:CT:=sr [B_ 67 66 65] (sq (cd 67 .skip (.exit 2)) (sq (.block 3 (sr [V_ 68 66,J_ 69 10 64 66,N_ 70 10 69,o_ 12 (au OE 10),V_ 11 68,S_ 10 12 70] aat)) aas))
def aar:=R_ [V_ 96 0,N_ 97 2 6,N_ 98 15 4,V_ 99 2,y_ 100 133 [z_ 96,z_ 97,z_ 98,z_ 99]]
def aaq:=R_ [V_ 101 2,V_ 102 0,N_ 103 2 6,A_ 104 4 4,N_ 105 8 104,y_ 106 53 [z_ 102,z_ 103,z_ 105],o_ 107 (aZ (z_ 101)),A_ 108 17 107,S_ 1 108 106]
def aap:=R_ [A_ 109 12 4,L_ 110 109,E_ 111 110,I_ 112 0]
def adN:CT:=sr [B_ 113 112 111] (sq (cd 113 .skip (.exit 4)) (sq (.block 5 (sr [J_ 114 2 110 112,N_ 115 2 114,o_ 14 (au [.str [],.bool false] 2),S_ 2 14 115] (sq (.dI [116,117,118,119,120,121,122] [aP 116 2,i_ [116] 117 (aZ (z_ 116)) 1,dT 118 19 117,cK 119 118,dT 120 0 14,cK 121 120,cI [119,121] (bc 122) 134 [z_ 119,z_ 121],aP 15 122]) (sr [V_ 123 0,V_ 124 15,eV jM 125 124 0,y_ 126 50 [z_ 123,kI 201,z_ 125]] (sq (.dI [127,128,129,130,131,132,133,134,135,136,137,138,139,140,141,142] [aP 128 15,r6 oh 129 128 0,aP 130 129,gi 130 131 2,gI [130,131] 130 132 (aZ (z_ 131)) 1,p3_ 130 133 19 132,rm 130 134 133,gi 130 135 15,gI [130,135] 130 136 (di mq 135 1) 1,gI [130,134,136] 130 137 (wq (jW 1) (z_ 134) (some (z_ 136)) none none) 1,p3_ 130 138 0 14,rm 130 139 138,gcI [130,137,139] (z_ 130) true (bc 140) 120 [z_ 137,z_ 139],iz 127 0 2,i_ [130,140] 141 (p_ 130 140) 1,cI [127,141] (bc 142) 50 [z_ 127,kI 205,z_ 141]]) (.dI [143,144,145,146,147,148,149,150,151,152,153,154,155] [aP 144 2,i_ [144] 145 (aZ (z_ 144)) 1,dT 146 21 145,cK 147 146,aP 148 15,dT 149 1 14,cK 150 149,i_ [148,150] 151 (aG [.int .i64 0,.bool false] 2 [(0,1,z_ 148),(1,1,z_ 150)]) 1,i_ [151] 152 (aJ [.int .i64 0,.bool false] 1 2 [(0,2,z_ 151)]) 1,mI [147,152] (bc 153) (dL 2 16 (z_ 147) (z_ 152)),iz 143 2 2,i_ [143] 154 (aZ (z_ 143)) 1,dT 155 21 154,eP 1 155 153])))))) (R_ [D_ 156 112 1,V_ 112 156])))
def aao:CT:=.dI [157,158,159,160,161,162,163,164,165,166,167,168,169,170,171] [aP 157 2,dT 160 0 4,cK 161 160,i_ [157] 166 (aZ (z_ 157)) 1,dT 167 22 166,eP 1 167 161,iz 158 2 2,oD 162 13 4 2,nU 163 162 2,i_ [158] 168 (aZ (z_ 158)) 1,dT 169 23 168,eP 1 169 163,iz 159 2 3,oD 164 14 4 3,nU 165 164 3,i_ [159] 170 (aZ (z_ 159)) 1,dT 171 24 170,eP 1 171 165]
def A56:CF:=⟨[],sr [X_ 4 1] (sr [o_ 6 (au [cJ,cJ] 2)] (sq (sr [A_ 16 3 4,L_ 17 16,E_ 18 17,I_ 19 0] (bl 0 Tv)) (iq LC 57 .ret (sq aav (sq (sq aau (bl 2 Tu)) (sq aar (sq aaq (sq (sq aap (bl 4 adN)) aao)))))))),172⟩
theorem c56:cF 56=some A56:=bH
def A57:CF:=⟨[aH 2],sr [o_ 2 (c_ cJ)] (ir [V_ 3 0,o_ 4 (d_ (kG false .slice) 3 cJ)] 4 (rr [o_ 2 (c_ cJ)]) (rr [o_ 5 (aJ Ji 0 3 []),V_ 6 0,o_ 7 (dL 3 32 (z_ 5) (z_ 6)),V_ 2 7])),8⟩
theorem c57:cF 57=some A57:=bH
def ail:=R_ [D_ 20 11 1,V_ 11 20]
def adM:CT:=sr [B_ 12 11 10] (sq (cd 12 .skip (.exit 0)) (sq (.block 1 (sr [J_ 13 1 9 11,L_ 14 13,V_ 5 14] (R_ [V_ 15 3,V_ 16 5,y_ 17 135 [z_ 16],o_ 18 (aJ sZ 1 1 [(0,1,z_ 17)]),o_ 19 (dL 1 24 (z_ 15) (z_ 18)),V_ 3 19]))) ail))
def aik:=R_ [V_ 21 3,y_ 22 136 [z_ 21,kf 40]]
def aij:=R_ [V_ 23 3,V_ 2 23]
def A58:CF:=⟨[aH 2],sr [o_ 2 (c_ cJ)] (sr [V_ 6 0,E_ 7 6,o_ 8 (BP sZ 1 24 (kI 0) (z_ 7)),V_ 3 8] (sq (sr [V_ 9 0,E_ 10 9,I_ 11 0] (bl 0 adM)) (sq aik (rt aij)))),24⟩
theorem c58:cF 58=some A58:=bH
def A59:CF:=⟨[aH 2],sr [o_ 2 (c_ cJ)] (ir [V_ 3 0,o_ 4 (d_ (kG false .slice) 3 cJ)] 4 (rr [o_ 2 (c_ cJ)]) (rr [o_ 5 (aJ Ac 0 1 []),V_ 6 0,o_ 7 (dL 1 8 (z_ 5) (z_ 6)),V_ 2 7])),8⟩
theorem c59:cF 59=some A59:=bH
def aii:CT:=.dI [9,10,11,12,13,14,15,16,17,18,19,20,21,22,23,24,25,26,27,28] [cK 11 1,i_ [11] 12 (aZ (z_ 11)) 1,dT 13 3 12,dT 14 19 13,cK 15 14,cI [15] (bc 16) 148 [z_ 15],nU 17 1 2,i_ [17] 18 (aZ (z_ 17)) 2,oD 19 3 18 2,oD 20 20 19 2,nU 21 20 2,cI [21] (bc 22) 59 [z_ 21],nU 9 1 3,i_ [9] 23 (aZ (z_ 9)) 1,dT 24 28 23,dT 25 0 24,eP 1 25 16,nU 10 1 4,i_ [10] 26 (aZ (z_ 10)) 1,dT 27 28 26,dT 28 1 27,eP 1 28 22]
def aih:CT:=.dI [29,30,31,32,33,34,35,36,37] [cK 29 1,cK 30 1,i_ [30] 31 (aZ (z_ 30)) 1,dT 32 3 31,dT 33 15 32,cK 34 33,u1_ bg 35 34,cK 36 3,cI [29,35,36] (bc 37) 149 [z_ 29,z_ 35,z_ 36]]
def aif:=R_ [V_ 4 38]
def aie:=R_ [L_ 40 1,o_ 41 (aZ (z_ 40)),A_ 42 3 41,A_ 43 17 42,L_ 44 43,V_ 45 4,y_ 46 150 [z_ 44,z_ 45],V_ 39 46,W_ 47 0 39,W_ 48 1 39,V_ 5 47,V_ 6 48]
def aid:=R_ [L_ 49 3,V_ 50 6,vP (bc 51) (z_ 49) [z_ 50]]
def aag:=R_ [V_ 52 5,qu 53 52]
def aic:=R_ [L_ 54 1,o_ 55 (aZ (z_ 54)),A_ 56 28 55,A_ 57 2 56,L_ 58 57,E_ 59 58,K_ 60 59 4096]
def aib:=R_ [oP rj (dD 1 (z_ 2) (kI 4))]
def aal:CT:=.dI [61,62,63,64,65,66,67,68,69,70,71,72,73,74,75,76,77,78,79] [cK 67 1,i_ [67] 68 (aZ (z_ 67)) 1,dT 69 3 68,dT 70 18 69,cK 71 70,aP 72 4,cK 73 3,cI [71,72,73] (bc 74) 144 [z_ 71,z_ 72,z_ 73],nU 62 1 2,i_ [62] 63 (aZ (z_ 62)) 2,oD 64 28 63 2,oD 65 2 64 2,nU 66 65 2,i_ [74] 75 (aJ sZ 1 1 [(0,1,z_ 74)]) 1,mI [66,75] (bc 76) (dL 1 24 (z_ 66) (z_ 75)),nU 61 1 3,i_ [61] 77 (aZ (z_ 61)) 1,dT 78 28 77,dT 79 2 78,eP 1 79 76]
def kg:Code×Code:=WE pG 67 0
theorem ajv:eN pG 148 true kg.1=aif :=bH
theorem aju:eN pG 148 true kg.2=(.block 1 (sq aie (sq aid (sq (sq aag (cd 53 (.exit 1) .skip)) (sq (sq aic (cd 60 (sq aib .ret) .skip)) aal))))) :=bH
def aak:=R_ [L_ 80 3,vP (bc 81) (z_ 80) [kI 0],V_ 7 81]
def LA:=R_ [V_ 82 7,H_ 83 82 0]
def aaj:=R_ [V_ 84 7,S_ 1 2 84]
def aai:=R_ [L_ 85 1,o_ 86 (aZ (z_ 85)),A_ 87 3 86,A_ 88 22 87,L_ 89 88]
def aah:CT:=.dI [101,102,103,104,105,106,107,108] [cK 101 1,i_ [101] 102 (aZ (z_ 101)) 1,dT 103 28 102,dT 104 2 103,cK 105 104,cK 106 1,i_ [106] 107 (jl (.func 154) [z_ 106] []) 1,cI [105,107] (bc 108) 153 [z_ 105,z_ 107]]
def Ly:CT:=.dI [109,110,111,112,113,114,115,116,117,118,119,120,121,122,123,124,125,126,127] [cK 109 1,i_ [109] 110 (aZ (z_ 109)) 1,dT 111 3 110,dT 112 23 111,cK 113 112,aP 114 113,rm 114 115 1,gI [114,115] 114 116 (aZ (z_ 115)) 1,p3_ 114 117 3 116,p3_ 114 118 24 117,rm 114 119 118,rm 114 120 1,gI [114,120] 114 121 (aZ (z_ 120)) 1,p3_ 114 122 28 121,p3_ 114 123 2 122,rm 114 124 123,gI [114,124] 114 125 (u_ bg 124) 1,gI [114,119,125] 114 126 (b_ jM 119 125) 1,i_ [114,126] 127 (p_ 114 126) 1]
def Lx:=R_ [oP rj (dD 1 (z_ 2) (kI 0))]
def A67:CF:=⟨[O3 2],sr [X_ 1 0,o_ 2 (au Ac 1)] (sr [y_ 8 90 [],o_ 3 (au [jR] 1),S_ 1 3 8] (sq aii (sq (sq aih (.block 0 (.range 148 (z_ 37) [38] kg.1 kg.2))) (sq (sq aak (sq LA (cd 83 (rt aaj) .skip))) (iq aai 89 (.dI [90,91,92,93,94,95,96,97,98,99,100] [cK 91 1,i_ [91] 92 (aZ (z_ 91)) 1,dT 93 28 92,dT 94 2 93,cK 95 94,cI [95] (bc 96) 58 [z_ 95],cI [96] (bc 97) 151 [z_ 96,kf 152],nU 90 1 3,i_ [90] 98 (aZ (z_ 90)) 1,dT 99 28 98,dT 100 2 99,eP 1 100 97]) (sq aah (iq Ly 127 (.dI [128,129,130,131,132,133,134,135,136,137,138,139,140,141,142,143,144,145,146,147] [cK 128 1,cK 129 1,i_ [129] 130 (aZ (z_ 129)) 1,dT 131 28 130,dT 132 2 131,cK 133 132,cK 134 1,i_ [134] 135 (aZ (z_ 134)) 1,dT 136 3 135,dT 137 24 136,cK 138 137,cK 139 1,i_ [139] 140 (aZ (z_ 139)) 1,dT 141 3 140,dT 142 24 141,cK 143 142,i_ [133,138,143] 144 (wq (jW 1) (z_ 133) none (some (z_ 138)) (some (z_ 143))) 1,i_ [128] 145 (aZ (z_ 128)) 1,dT 146 28 145,dT 147 2 146,eP 1 147 144]) (rt Lx)))))))),148⟩
theorem c67:cF 67=some A67:=bH
def vU:=R_ [V_ 13 5,V_ 14 6,B_ 15 13 14]
def aaf:=R_ [o_ 4 (c_ (.int .i64 (-1)))]
def zG:=R_ [V_ 16 5,V_ 17 6,eR mG 18 16 17]
def aae:=R_ [I_ 4 1]
def CN:=R_ [A_ 19 0 2,L_ 20 19,K_ 21 20 2]
def aad:=R_ [A_ 22 2 2,L_ 23 22,A_ 24 2 3,L_ 25 24,y_ 26 159 [z_ 23,z_ 25],V_ 4 26]
def IU:=R_ [A_ 27 1 2,L_ 28 27,A_ 29 1 3,L_ 30 29,B_ 31 28 30]
def aac:=R_ [o_ 4 (c_ (.int .i64 (-1)))]
def Ep:=R_ [A_ 32 1 2,L_ 33 32,A_ 34 1 3,L_ 35 34,eR mG 36 33 35]
def Lu:=R_ [I_ 4 1]
def Lt:=R_ [I_ 4 0]
def A79:CF:=⟨[aH 4],sr [X_ 2 0,X_ 3 1,I_ 4 0] (sq (.dI [7,8,9,10,11,12] [dT 7 0 2,cK 8 7,cI [8] (bc 9) 158 [z_ 8],oD 10 0 3 2,nU 11 10 2,cI [11] (bc 12) 158 [z_ 11],aP 5 9,aP 6 12]) (iq vU 15 (rt aaf) (iq zG 18 (rt aae) (iq CN 21 (rt aad) (iq IU 31 (rt aac) (iq Ep 36 (rt Lu) (rt Lt))))))),37⟩
theorem c79:cF 79=some A79:=bH
def A80:CF:=⟨[aH 2],sr [X_ 1 0,o_ 2 (c_ jR)] (rr [o_ 3 (jl (.func 160) [] [z_ 1]),V_ 2 3]),4⟩
theorem c80:cF 80=some A80:=bH
def aab:=R_ [F_ 2]
def aia:=R_ [V_ 12 0,u3_ jm 13 12,I_ 14 0]
def ah':=R_ [V_ 28 3,eV mG 29 28 0,V_ 30 29,jh 30 31 4,g_ 30 32 (d_ oh 31 (.int .u8 48)),jh 30 33 32,jh 33 34 4,g_ 33 35 (d_ yU 34 (.int .u8 57)),g_ 30 36 (p_ 33 35),jh 30 37 36,pV 37 38 4,h_ 37 39 (d_ dq 38 (.int .u8 95)),g_ 30 40 (q_ 37 39),P_ 41 30 40,V_ 27 41]
def ah_:=R_ [F_ 2]
def Ls:=R_ [D_ 42 14 1,V_ 14 42]
def adL:CT:=sr [B_ 15 14 13] (sq (cd 15 .skip (.exit 0)) (sq (.block 1 (sr [V_ 16 14,V_ 3 16] (sr [V_ 17 0,V_ 18 3,eR pj 19 17 18,V_ 4 19] (.block 2 (sr [V_ 21 4,o_ 22 (d_ oh 21 (.int .u8 97)),V_ 23 22,jh 23 24 4,g_ 23 25 (d_ yU 24 (.int .u8 122)),P_ 26 23 25,V_ 20 26] (cd 20 .skip (sq ah' (cd 27 .skip (rt ah_))))))))) Ls))
def Lr:=R_ [T_ 2]
def A81:CF:=⟨[aH 2],sr [F_ 2] (ir [V_ 5 0,o_ 6 (d_ dq 5 (.str [])),V_ 7 6,pV 7 8 0,h_ 7 9 (u_ jm 8),h_ 7 10 (di mG 9 24),Q_ 11 7 10] 11 (rt aab) (sq (sq aia (bl 0 adL)) (rt Lr))),43⟩
theorem c81:cF 81=some A81:=bH
def QO:=R_ [F_ 2]
def ah9:=R_ [V_ 36 0,V_ 37 3,o_ 38 (wq (jW 3) (z_ 36) none (some (z_ 37)) none),E_ 39 38,I_ 40 0]
def aaa:=R_ [F_ 2]
def Z':=R_ [D_ 49 40 1,V_ 40 49]
def adK:CT:=sr [B_ 41 40 39] (sq (cd 41 .skip (.exit 2)) (sq (.block 3 (sr [J_ 42 3 38 40,N_ 43 3 42,o_ 6 (au Ji 3),S_ 3 6 43] (sr [A_ 44 0 6,L_ 45 44,A_ 46 0 4,L_ 47 46,eR dq 48 45 47] (cd 48 (rt aaa) .skip)))) Z'))
def Z_:=R_ [D_ 50 17 1,V_ 17 50]
def adJ:CT:=sr [B_ 18 17 16] (sq (cd 18 .skip (.exit 0)) (sq (.block 1 (sr [V_ 19 17,J_ 20 3 15 17,N_ 21 3 20,o_ 4 (au Ji 3),V_ 3 19,S_ 3 4 21] (ir [A_ 22 0 4,L_ 23 22,y_ 24 81 [z_ 23],qu 25 24,V_ 26 25,jg 26 27 1 4,jI 26 28 27,h_ 26 29 (di jM 28 1),Q_ 30 26 29,V_ 31 30,jg 31 32 1 4,jI 31 33 32,h_ 31 34 (di mG 33 3),Q_ 35 31 34] 35 (rt QO) (sq ah9 (bl 2 adK))))) Z_))
def Z9:=R_ [T_ 2]
def A82:CF:=⟨[aH 2],sr [F_ 2] (ir [V_ 7 0,E_ 8 7,K_ 9 8 0,V_ 10 9,pV 10 11 0,h_ 10 12 (u_ bg 11),h_ 10 13 (di mG 12 16),Q_ 14 10 13] 14 (rr [F_ 2]) (sq (sr [V_ 15 0,E_ 16 15,I_ 17 0] (bl 0 adJ)) (rt Z9))),51⟩
theorem c82:cF 82=some A82:=bH
def A83:CF:=⟨[aH 4],sr [F_ 4] (rr [V_ 5 0,V_ 6 1,y_ 7 161 [z_ 5,z_ 6],eV oh 8 7 0,V_ 4 8]),9⟩
theorem c83:cF 83=some A83:=bH
def A84:CF:=⟨[aH 3],sr [X_ 2 0,F_ 3] (rr [A_ 4 1 2,L_ 5 4,A_ 6 1 1,L_ 7 6,eR dq 8 5 7,V_ 3 8]),9⟩
theorem c84:cF 84=some A84:=bH
def QN:=R_ [F_ 4]
def ah8:=R_ [D_ 38 17 1,V_ 17 38]
def adI:CT:=sr [B_ 18 17 16] (sq (cd 18 .skip (.exit 0)) (sq (.block 1 (sr [V_ 19 17,J_ 20 1 15 17,L_ 21 20,V_ 5 19,V_ 6 21] (sr [V_ 22 6,eV jM 23 22 0,V_ 24 23,pV 24 25 6,jg 24 26 2 2,jI 24 27 26,h_ 24 28 (u_ bg 27),h_ 24 29 (b_ oh 25 28),Q_ 30 24 29,V_ 31 30,pV 31 32 1,pV 31 33 5,h_ 31 34 (wq (jW 1) (z_ 32) none (some (z_ 33)) none),pV 31 35 6,j7 (z_ 31) false (bc 36) 162 [z_ 34,z_ 35],Q_ 37 31 36] (cd 37 (rt QN) .skip)))) ah8))
def ah7:=R_ [T_ 4]
def A85:CF:=⟨[aH 4],sr [X_ 2 0,F_ 4] (ir [V_ 7 1,E_ 8 7,K_ 9 8 0,V_ 10 9,pV 10 11 1,h_ 10 12 (u_ bg 11),h_ 10 13 (di mG 12 16),Q_ 14 10 13] 14 (rr [F_ 4]) (sq (sr [V_ 15 1,E_ 16 15,I_ 17 0] (bl 0 adI)) (rt ah7))),39⟩
theorem c85:cF 85=some A85:=bH
def A86:CF:=⟨[aH 4],sr [F_ 4] (rr [V_ 5 0,V_ 6 1,y_ 7 163 [z_ 5,z_ 6],eV oh 8 7 0,V_ 4 8]),9⟩
theorem c86:cF 86=some A86:=bH
def A87:CF:=⟨[aH 3],sr [X_ 2 0,F_ 3] (rr [A_ 4 2 2,L_ 5 4,A_ 6 2 1,L_ 7 6,eR dq 8 5 7,V_ 3 8]),9⟩
theorem c87:cF 87=some A87:=bH
def A88:CF:=⟨[aH 2],sr [X_ 1 0,F_ 2] (sq (sr [A_ 3 0 1,L_ 4 3] (.block 0 (sr [K_ 6 4 0,V_ 5 6] (cd 5 (rr [N_ 7 3 1,o_ 8 (aG fJ 3 []),o_ 9 (b_ (mY false [.i,.i,.s]) 7 8),V_ 2 9]) (sr [K_ 11 4 1,V_ 10 11] (cd 10 (rr [A_ 12 2 1,L_ 13 12,o_ 14 (d_ dq 13 (.str [])),V_ 2 14]) (sr [K_ 16 4 2,V_ 15 16] (cd 15 (rr [A_ 17 1 1,L_ 18 17,K_ 19 18 0,V_ 20 19,eI 20 21 2 1,fy 20 22 21,g_ 20 23 (u_ jm 22),g_ 20 24 (di yU 23 64),P_ 25 20 24,V_ 2 25]) (sr [K_ 27 4 3,V_ 26 27] (cd 26 (rr [A_ 28 2 1,L_ 29 28,o_ 30 (d_ dq 29 (.str [])),V_ 31 30,eI 31 32 1 1,fy 31 33 32,g_ 31 34 (di dq 33 0),jh 31 35 34,jg 35 36 1 1,jI 35 37 36,h_ 35 38 (di dq 37 1),g_ 31 39 (q_ 35 38),P_ 40 31 39,V_ 2 40]) .skip)))))))))) (rr [F_ 2])),41⟩
theorem c88:cF 88=some A88:=bH
def Z8:=R_ [I_ 4 0,I_ 5 5]
def ah6:=R_ [N_ 14 3 2,N_ 15 3 3,y_ 16 164 [z_ 14,z_ 15],V_ 4 16,I_ 5 0]
def A89:CF:=⟨[aH 4,aH 5],sr [X_ 2 0,X_ 3 1,I_ 4 0,I_ 5 0] (ir [N_ 6 3 2,y_ 7 88 [z_ 6],qu 8 7,V_ 9 8,PV 9 10 3 3,j7 (z_ 9) false (bc 11) 88 [z_ 10],h_ 9 12 (un 11),Q_ 13 9 12] 13 (rt Z8) (rt ah6)),17⟩
theorem c89:cF 89=some A89:=bH
def A90:CF:=⟨[aH 0],sr [o_ 0 (c_ jR)] (sr [o_ 1 (au Ac 1),oP rj (dD 1 (z_ 1) (kI 0))] (rr [o_ 2 (jl (.func 165) [] [z_ 1]),V_ 0 2])),3⟩
theorem c90:cF 90=some A90:=bH
def Z2:=R_ [V_ 17 6,H_ 18 17 0]
def ah2:=R_ [V_ 19 6,o_ 4 (c_ (.str [])),V_ 5 19]
def ah1:=R_ [y_ 20 166 [],V_ 7 20]
def ah0:=R_ [I_ 8 0]
def Z7:=R_ [V_ 46 9,V_ 47 10,V_ 48 8,eR fU 49 47 48,o_ 50 (e2 (bQ .shl) (aO (.int .u8 1)) (z_ 49)),o_ 51 (b_ (bQ .or) 46 50),V_ 9 51]
def Lq:=R_ [V_ 38 10,D_ 39 38 1,V_ 10 39]
def I3:CT:=lr [V_ 28 10,V_ 29 1,E_ 30 29,B_ 31 28 30,V_ 32 31,jh 32 33 10,jh 32 34 8,g_ 32 35 (di mq 34 8),g_ 32 36 (b_ jM 33 35),P_ 37 32 36] 37 2 3 (sr [V_ 40 1,V_ 41 10,J_ 42 3 40 41,A_ 43 0 42,L_ 44 43,K_ 45 44 0] (cd 45 Z7 .skip)) Lq
def Z6:=R_ [V_ 52 7,V_ 53 9,y_ 54 167 [z_ 52,z_ 53]]
def Z5:=R_ [V_ 25 8,D_ 26 25 8,V_ 8 26]
def Tt:CT:=lr [V_ 21 8,V_ 22 1,E_ 23 22,B_ 24 21 23] 24 0 1 (sr [o_ 9 (c_ (.int .u8 0))] (sq (sr [V_ 27 8,V_ 10 27] (bl 2 I3)) Z6)) Z5
def Z4:=R_ [y_ 55 168 [],o_ 11 (au aek 9),S_ 9 11 55]
def Z3:=R_ [V_ 56 1,E_ 57 56,I_ 58 0]
def Z1:CT:=.dI [65,66,67,68,69,70,71,72,73] [dT 65 0 13,cK 66 65,r6 fU 67 66 1,i_ [11,67] 68 (b_ (gB 3 3) 11 67) 1,dT 69 1 68,cK 70 69,aP 71 7,lP 72 3 13 1,vI [70,71,72] (bc 73) (z_ 70) [z_ 71,z_ 72]]
def zF:=R_ [D_ 74 58 1,V_ 58 74]
def Tq:CT:=sr [B_ 59 58 57] (sq (cd 59 .skip (.exit 4)) (sq (.block 5 (sr [J_ 60 3 56 58,N_ 61 3 60,o_ 13 (au fJ 3),S_ 3 13 61] (sr [A_ 62 0 13,L_ 63 62,H_ 64 63 0] (cd 64 Z1 .skip)))) zF))
def Z0:=R_ [V_ 75 7,y_ 76 169 [z_ 75],eV mG 77 76 160]
def ZZ:=R_ [o_ 4 (c_ (.str [])),I_ 5 51]
def ZY:=R_ [V_ 78 7,y_ 79 170 [z_ 78],o_ 80 (KD (z_ 79)),V_ 4 80,I_ 5 0]
def A91:CF:=⟨[aH 4,aH 5],sr [o_ 4 (c_ (.str [])),I_ 5 0] (sq (sr [V_ 14 0,V_ 15 1,y_ 16 38 [z_ 14,z_ 15],V_ 6 16] (sq Z2 (cd 18 (rt ah2) .skip))) (sq ah1 (sq (sq ah0 (bl 0 Tt)) (sq Z4 (sq (sq Z3 (bl 4 Tq)) (iq Z0 77 (rt ZZ) (rt ZY))))))),81⟩
theorem c91:cF 91=some A91:=bH
def ahZ:=R_ [V_ 23 5,N_ 24 6 7,o_ 25 (aJ Ad 1 6 [(0,6,z_ 24)]),o_ 26 (dL 6 56 (z_ 23) (z_ 25)),V_ 5 26]
def ZX:=R_ [D_ 27 11 1,V_ 11 27]
def To:CT:=sr [B_ 12 11 10] (sq (cd 12 .skip (.exit 0)) (sq (.block 1 (sr [J_ 13 6 9 11,N_ 14 6 13,o_ 7 (au Ad 6),S_ 6 7 14] (sr [A_ 15 1 7,L_ 16 15,V_ 17 1,eR dq 18 16 17] (cd 18 (sr [A_ 19 3 7,L_ 20 19,y_ 21 59 [z_ 20],A_ 22 3 7,S_ 1 22 21] ahZ) .skip)))) ZX))
def ahY:=R_ [V_ 28 5,V_ 4 28]
def A92:CF:=⟨[aH 4],sr [X_ 2 0,o_ 4 (c_ cJ)] (sr [o_ 5 (c_ cJ)] (sq (sr [A_ 8 1 2,L_ 9 8,E_ 10 9,I_ 11 0] (bl 0 To)) (rt ahY))),29⟩
theorem c92:cF 92=some A92:=bH
def ZV:=R_ [V_ 27 8,V_ 28 27,pV 28 29 1,pV 28 30 10,h_ 28 31 (b_ (bW 3) 29 30),jg 28 32 0 31,jI 28 33 32,h_ 28 34 (di dq 33 0),Q_ 35 28 34,V_ 8 35]
def ZU:=R_ [D_ 36 16 1,V_ 16 36]
def adH:CT:=sr [B_ 17 16 15] (sq (cd 17 .skip (.exit 0)) (sq (.block 1 (sr [J_ 18 1 14 16,L_ 19 18,V_ 10 19] (sr [V_ 20 7,V_ 21 1,V_ 22 10,J_ 23 3 21 22,N_ 24 3 23,o_ 25 (aJ fJ 1 3 [(0,3,z_ 24)]),o_ 26 (dL 3 32 (z_ 20) (z_ 25)),V_ 7 26] ZV))) ZU))
def ahX:=R_ [V_ 38 7,y_ 39 171 [z_ 38],V_ 37 39,W_ 40 0 37,W_ 41 1 37,V_ 11 40,V_ 12 41]
def ZW:=R_ [V_ 42 11,V_ 43 8,V_ 44 12,V_ 4 42,V_ 5 43,V_ 6 44]
def A93:CF:=⟨[aH 4,aH 5,aH 6],sr [X_ 2 0,o_ 4 (c_ (.str [])),F_ 5,I_ 6 0] (sr [o_ 7 (c_ cJ)] (sr [F_ 8] (sq (sr [A_ 13 3 2,L_ 14 13,E_ 15 14,I_ 16 0] (bl 0 adH)) (sq ahX (rt ZW))))),45⟩
theorem c93:cF 93=some A93:=bH
def QM:=R_ [V_ 25 9,qu 26 25]
def ZS:=R_ [V_ 27 5,V_ 28 8,o_ 29 (jA .s (.int .i64 0) false (z_ 27) (z_ 28)),D_ 30 29 1,oP rj (lq .s (z_ 27) (z_ 28) (z_ 30))]
def ZR:=R_ [V_ 31 5,V_ 32 8,o_ 33 (jA .s (.int .i64 0) false (z_ 31) (z_ 32)),eV mG 34 33 1]
def ahW:=R_ [T_ 4]
def Lp:=R_ [D_ 35 14 1,V_ 14 35]
def adG:CT:=sr [B_ 15 14 13] (sq (cd 15 .skip (.exit 0)) (sq (.block 1 (sr [J_ 16 1 12 14,L_ 17 16,V_ 7 17] (sr [N_ 19 6 2,V_ 20 7,y_ 21 93 [z_ 19,z_ 20],V_ 18 21,W_ 22 0 18,W_ 23 1 18,W_ 24 2 18,V_ 8 22,V_ 9 23,V_ 10 24] (sq QM (cd 26 (sq ZS (sq ZR (cd 34 (rt ahW) .skip))) .skip))))) Lp))
def ZT:=R_ [F_ 4]
def A94:CF:=⟨[aH 4],sr [X_ 2 0,F_ 4] (sr [o_ 11 (lx),V_ 5 11] (sq (sr [V_ 12 1,E_ 13 12,I_ 14 0] (bl 0 adG)) (rt ZT))),36⟩
theorem c94:cF 94=some A94:=bH
def A109:CF:=⟨[aH 2],sr [F_ 2] (rr [V_ 3 0,y_ 4 81 [z_ 3],V_ 5 4,jh 5 6 0,j7 (z_ 5) true (bc 7) 192 [z_ 6],g_ 5 8 (un 7),P_ 9 5 8,V_ 2 9]),10⟩
theorem c109:cF 109=some A109:=bH
def A110:CF:=⟨[aH 4],sr [F_ 4] (rr [V_ 5 0,eV oh 6 5 1,V_ 7 6,jh 7 8 0,jh 7 9 1,g_ 7 10 (b_ yU 8 9),P_ 11 7 10,V_ 4 11]),12⟩
theorem c110:cF 110=some A110:=bH
def F9:=R_ [A_ 49 5 1,oP rj (dD 1 (z_ 49) (aO (.str []))),A_ 50 4 1,oP rj (dD 1 (z_ 50) (aO (.str [])))]
def F8:=R_ [V_ 51 5,V_ 52 51,Aa 52 53 8 1,j7 (z_ 52) true (bc 54) 193 [z_ 53,kI 2],P_ 55 52 54,V_ 2 55]
def kJ:=R_ [A_ 84 7 1,L_ 85 84,E_ 86 85,V_ 87 3,eR qM 88 86 87,V_ 89 88,jg 89 90 1 1,PV 89 91 3 90,h_ 89 92 (aG fJ 3 []),h_ 89 93 (b_ (mY true [.i,.i,.s]) 91 92),Q_ 94 89 93,V_ 95 94,jg 95 96 4 1,jI 95 97 96,h_ 95 98 (d_ qM 97 (.str [])),Q_ 99 95 98,V_ 100 99,jg 100 101 5 1,jI 100 102 101,h_ 100 103 (d_ qM 102 (.str [])),Q_ 104 100 103,V_ 105 104,jg 105 106 6 1,jI 105 107 106,h_ 105 108 (di qM 107 0),Q_ 109 105 108]
def lZ:=R_ [F_ 2]
def xd:=R_ [A_ 110 7 1,L_ 111 110,E_ 112 111,I_ 113 0]
def Ti:=R_ [F_ 2]
def Tf:=R_ [D_ 120 113 1,V_ 113 120]
def zW:CT:=sr [B_ 114 113 112] (sq (cd 114 .skip (.exit 1)) (sq (.block 2 (sr [J_ 115 8 111 113,N_ 116 8 115,o_ 7 (au nF 8),S_ 8 7 116] (sr [N_ 117 8 7,y_ 118 111 [z_ 117],qu 119 118] (cd 119 (rt Ti) .skip)))) Tf))
def xb:=R_ [T_ 2]
def A111:CF:=⟨[aH 2],sr [X_ 1 0,F_ 2] (sr [I_ 3 2] (sq (.block 0 (sr [A_ 9 0 1,L_ 10 9,K_ 11 10 1,V_ 8 11] (cd 8 (sr [A_ 12 1 1,N_ 13 3 12,o_ 4 (au fJ 3),S_ 3 4 13] (sr [o_ 14 (aG fJ 3 []),A_ 15 1 1,S_ 3 15 14] (rr [N_ 16 8 1,y_ 17 193 [z_ 16,kI 1],V_ 18 17,Aa 18 19 3 4,j7 (z_ 18) true (bc 20) 88 [z_ 19],P_ 21 18 20,V_ 22 21,eI 22 23 0 4,fy 22 24 23,g_ 22 25 (di qM 24 1),jh 22 26 25,jg 26 27 1 4,jI 26 28 27,h_ 26 29 (di oh 28 0),g_ 22 30 (q_ 26 29),P_ 31 22 30,V_ 2 31]))) (sr [A_ 33 0 1,L_ 34 33,K_ 35 34 2,V_ 32 35] (cd 32 (sr [A_ 36 5 1,L_ 37 36,y_ 38 109 [z_ 37],V_ 39 38,eI 39 40 4 1,fy 39 41 40,g_ 39 42 (d_ dq 41 (.str [])),jh 39 43 42,jg 43 44 4 1,jI 43 45 44,j7 (z_ 43) false (bc 46) 109 [z_ 45],g_ 39 47 (q_ 43 46),P_ 48 39 47,V_ 5 48] (sq F9 (rt F8))) (sr [A_ 57 0 1,L_ 58 57,K_ 59 58 4,V_ 60 59,jg 60 61 0 1,jI 60 62 61,h_ 60 63 (di dq 62 5),Q_ 64 60 63,V_ 65 64,jg 65 66 0 1,jI 65 67 66,h_ 65 68 (di dq 67 6),Q_ 69 65 68,V_ 70 69,jg 70 71 0 1,jI 70 72 71,h_ 70 73 (di dq 72 7),Q_ 74 70 73,V_ 56 74] (cd 56 (R_ [I_ 3 1]) (sr [A_ 76 0 1,L_ 77 76,eV jM 78 77 8,V_ 79 78,jg 79 80 0 1,jI 79 81 80,h_ 79 82 (di mG 81 21),Q_ 83 79 82,V_ 75 83] (cd 75 (rr [F_ 2]) .skip))))))))) (iq kJ 109 (rt lZ) (sq (sq xd (bl 1 zW)) (rt xb))))),121⟩
theorem c111:cF 111=some A111:=bH
def A112:CF:=⟨[aH 2],sr [X_ 1 0,F_ 2] (rr [N_ 3 8 1,y_ 4 194 [z_ 3],V_ 5 4,PV 5 6 8 1,j7 (z_ 5) false (bc 7) 111 [z_ 6],Q_ 8 5 7,V_ 2 8]),9⟩
theorem c112:cF 112=some A112:=bH
def NR:=R_ [A_ 10 4 1,N_ 11 8 10,y_ 12 112 [z_ 11],V_ 13 12,eI 13 14 3 1,fy 13 15 14,g_ 13 16 (u_ bg 15),g_ 13 17 (di yU 16 4),P_ 18 13 17,V_ 19 18,eI 19 20 12 1,fy 19 21 20,g_ 19 22 (u_ bg 21),g_ 19 23 (di yU 22 16),P_ 24 19 23,V_ 25 24,eI 25 26 14 1,fy 25 27 26,g_ 25 28 (di oh 27 0),P_ 29 25 28,V_ 30 29,eI 30 31 13 1,fy 30 32 31,jh 30 33 32,jg 33 34 14 1,jI 33 35 34,h_ 33 36 (di dq 35 0),g_ 30 37 (q_ 33 36),P_ 38 30 37,V_ 3 38]
def sV:=R_ [A_ 39 1 1,L_ 40 39]
def zQ:=R_ [V_ 41 3,V_ 42 41,eI 42 43 2 1,fy 42 44 43,g_ 42 45 (u_ bg 44),g_ 42 46 (di dq 45 0),P_ 47 42 46,V_ 3 47]
def FV:=R_ [V_ 48 3,V_ 49 48,eI 49 50 2 1,fy 49 51 50,g_ 49 52 (u_ bg 51),j7 (z_ 49) true (bc 53) 110 [z_ 52,kI 16],P_ 54 49 53,V_ 3 54]
def FU:=R_ [A_ 55 2 1,L_ 56 55,E_ 57 56,I_ 58 0]
def NQ:=R_ [V_ 62 3,V_ 63 62,eI 63 64 0 5,Aa 63 65 8 64,j7 (z_ 63) true (bc 66) 111 [z_ 65],P_ 67 63 66,V_ 68 67,eI 68 69 8 5,fy 68 70 69,g_ 68 71 (d_ dq 70 (.str [])),jh 68 72 71,jg 72 73 8 5,jI 72 74 73,j7 (z_ 72) false (bc 75) 109 [z_ 74],g_ 68 76 (q_ 72 75),P_ 77 68 76,V_ 3 77]
def zP:=R_ [D_ 78 58 1,V_ 58 78]
def zV:CT:=sr [B_ 59 58 57] (sq (cd 59 .skip (.exit 0)) (sq (.block 1 (sr [J_ 60 9 56 58,N_ 61 9 60,o_ 5 (au Vz 9),S_ 9 5 61] NQ)) zP))
def ui:=R_ [A_ 79 3 1,L_ 80 79,E_ 81 80,I_ 82 0]
def FZ:=R_ [V_ 87 3,V_ 88 87,eI 88 89 0 7,fy 88 90 89,j7 (z_ 88) true (bc 91) 109 [z_ 90],P_ 92 88 91,V_ 93 92,eI 93 94 1 7,fy 93 95 94,g_ 93 96 (d_ dq 95 (.str [])),jh 93 97 96,jg 97 98 1 7,jI 97 99 98,j7 (z_ 97) false (bc 100) 109 [z_ 99],g_ 93 101 (q_ 97 100),P_ 102 93 101,V_ 103 102,jh 103 104 6,g_ 103 105 (di dq 104 0),jh 103 106 105,eI 106 107 2 7,Aa 106 108 8 107,j7 (z_ 106) true (bc 109) 194 [z_ 108],g_ 103 110 (p_ 106 109),jh 103 111 110,pV 111 112 6,h_ 111 113 (di mG 112 0),pV 111 114 113,eI 114 115 2 7,Aa 114 116 8 115,j7 (z_ 114) true (bc 117) 111 [z_ 116],h_ 111 118 (p_ 114 117),g_ 103 119 (q_ 111 118),P_ 120 103 119,V_ 3 120]
def jC:=R_ [D_ 121 82 1,V_ 82 121]
def vo:CT:=sr [B_ 83 82 81] (sq (cd 83 .skip (.exit 2)) (sq (.block 3 (sr [V_ 84 82,J_ 85 10 80 82,N_ 86 10 85,o_ 7 (au OE 10),V_ 6 84,S_ 10 7 86] FZ)) jC))
def qZ:=R_ [A_ 122 12 1,L_ 123 122,E_ 124 123,I_ 125 0]
def FY:=R_ [V_ 129 3,V_ 130 129,eI 130 131 0 9,fy 130 132 131,j7 (z_ 130) true (bc 133) 109 [z_ 132],P_ 134 130 133,V_ 3 134]
def FX:=R_ [D_ 135 125 1,V_ 125 135]
def sX:CT:=sr [B_ 126 125 124] (sq (cd 126 .skip (.exit 4)) (sq (.block 5 (sr [J_ 127 2 123 125,N_ 128 2 127,o_ 9 (au [.str [],.bool false] 2),S_ 2 9 128] FY)) FX))
def qY:=R_ [V_ 136 3,V_ 2 136]
def A113:CF:=⟨[aH 2],sr [X_ 1 0,F_ 2] (sq NR (sq (sq sV (cd 40 zQ FV)) (sq (sq FU (bl 0 zV)) (sq (sq ui (bl 2 vo)) (sq (sq qZ (bl 4 sX)) (rt qY)))))),137⟩
theorem c113:cF 113=some A113:=bH
def adB:CT:=.dI [7,8,9,10,5,6] [dT 7 16 2,lP 8 15 7 1,i_ [] 5 (au Vy 15) 1,i_ [] 6 (au Vy 15) 1,eP 15 5 8,oD 9 16 3 2,lP 10 15 9 2,eP 15 6 10]
def adA:=R_ [A_ 11 1 2,L_ 12 11,A_ 13 1 3,L_ 14 13,eR dq 15 12 14,V_ 16 15,eI 16 17 2 2,fy 16 18 17,eI 16 19 2 3,fy 16 20 19,g_ 16 21 (b_ dq 18 20),P_ 22 16 21,V_ 23 22,eI 23 24 3 2,fy 23 25 24,g_ 23 26 (u_ bg 25),eI 23 27 3 3,fy 23 28 27,g_ 23 29 (u_ bg 28),g_ 23 30 (b_ dq 26 29),P_ 31 23 30,V_ 32 31,eI 32 33 4 2,fy 32 34 33,g_ 32 35 (u_ bg 34),eI 32 36 4 3,fy 32 37 36,g_ 32 38 (u_ bg 37),g_ 32 39 (b_ dq 35 38),P_ 40 32 39,V_ 41 40,eI 41 42 5 2,fy 41 43 42,eI 41 44 5 3,fy 41 45 44,g_ 41 46 (b_ (kG false .bool) 43 45),P_ 47 41 46,V_ 48 47,eI 48 49 6 2,fy 48 50 49,g_ 48 51 (u_ bg 50),eI 48 52 6 3,fy 48 53 52,g_ 48 54 (u_ bg 53),g_ 48 55 (b_ dq 51 54),P_ 56 48 55,V_ 57 56,eI 57 58 7 2,fy 57 59 58,g_ 57 60 (u_ bg 59),eI 57 61 7 3,fy 57 62 61,g_ 57 63 (u_ bg 62),g_ 57 64 (b_ dq 60 63),P_ 65 57 64,V_ 66 65,eI 66 67 8 2,eI 66 68 0 67,fy 66 69 68,eI 66 70 8 3,eI 66 71 0 70,fy 66 72 71,g_ 66 73 (b_ dq 69 72),jh 66 74 73,eI 74 75 8 3,eI 74 76 0 75,fy 74 77 76,g_ 74 78 (di qM 77 0),jh 74 79 78,jg 79 80 8 2,PV 79 81 8 80,j7 (z_ 79) false (bc 82) 194 [z_ 81],g_ 74 83 (q_ 79 82),g_ 66 84 (p_ 74 83),P_ 85 66 84,V_ 86 85,eI 86 87 0 5,fy 86 88 87,eI 86 89 0 6,fy 86 90 89,g_ 86 91 (b_ (kG false .bool) 88 90),P_ 92 86 91,V_ 93 92,eI 93 94 1 5,fy 93 95 94,eI 93 96 1 6,fy 93 97 96,g_ 93 98 (b_ (kG false .bool) 95 97),P_ 99 93 98,V_ 100 99,eI 100 101 2 5,fy 100 102 101,g_ 100 103 (u_ bg 102),eI 100 104 2 6,fy 100 105 104,g_ 100 106 (u_ bg 105),g_ 100 107 (b_ dq 103 106),P_ 108 100 107,V_ 109 108,eI 109 110 3 5,fy 109 111 110,g_ 109 112 (u_ bg 111),eI 109 113 3 6,fy 109 114 113,g_ 109 115 (u_ bg 114),g_ 109 116 (b_ dq 112 115),P_ 117 109 116,V_ 118 117,eI 118 119 4 5,eI 118 120 0 119,fy 118 121 120,eI 118 122 4 6,eI 118 123 0 122,fy 118 124 123,g_ 118 125 (b_ dq 121 124),jh 118 126 125,eI 126 127 4 6,eI 126 128 0 127,fy 126 129 128,g_ 126 130 (di qM 129 0),jh 126 131 130,jg 131 132 4 5,PV 131 133 8 132,j7 (z_ 131) false (bc 134) 194 [z_ 133],g_ 126 135 (q_ 131 134),g_ 118 136 (p_ 126 135),P_ 137 118 136,V_ 138 137,eI 138 139 12 5,fy 138 140 139,g_ 138 141 (u_ bg 140),eI 138 142 12 6,fy 138 143 142,g_ 138 144 (u_ bg 143),g_ 138 145 (b_ dq 141 144),P_ 146 138 145,V_ 147 146,eI 147 148 13 5,fy 147 149 148,eI 147 150 13 6,fy 147 151 150,g_ 147 152 (b_ (kG false .bool) 149 151),P_ 153 147 152,V_ 154 153,eI 154 155 14 5,fy 154 156 155,eI 154 157 14 6,fy 154 158 157,g_ 154 159 (b_ dq 156 158),P_ 160 154 159,V_ 4 160]
def A114:CF:=⟨[aH 4],sr [X_ 2 0,X_ 3 1,F_ 4] (sq adB (rt adA)),161⟩
theorem c114:cF 114=some A114:=bH
def A115:CF:=⟨[cj 4 4,aH 5],sr [X_ 2 0,X_ 3 1,o_ 4 (au xg 4),F_ 5] (rr [A_ 6 0 2,L_ 7 6,o_ 8 (jl (.func 195) [] [z_ 3]),y_ 9 125 [z_ 7,z_ 8],W_ 10 0 9,W_ 11 1 9,y_ 12 124 [z_ 10,z_ 11],W_ 13 0 12,W_ 14 1 12,S_ 4 4 13,V_ 5 14]),15⟩
theorem c115:cF 115=some A115:=bH
def am6:CT:=sr [B_ 9 8 7] (sq (cd 9 .skip (.exit 0)) (sq (.block 1 (sr [V_ 10 8,V_ 5 10] (sr [V_ 11 1,V_ 12 0,V_ 13 5,J_ 14 3 12 13,N_ 15 3 14,vP (bc 16) (z_ 11) [z_ 15]] (cd 16 (rr [V_ 17 5,V_ 4 17]) .skip)))) (R_ [D_ 18 8 1,V_ 8 18])))
def A118:CF:=⟨[aH 4],sr [I_ 4 0] (sq (sr [V_ 6 0,E_ 7 6,I_ 8 0] (bl 0 am6)) (rr [o_ 4 (c_ (.int .i64 (-1)))])),19⟩
theorem c118:cF 118=some A118:=bH
def A120:CF:=⟨[aH 4],sr [F_ 4] (rr [V_ 5 0,V_ 6 1,y_ 7 134 [z_ 5,z_ 6],eV oh 8 7 0,V_ 4 8]),9⟩
theorem c120:cF 120=some A120:=bH
def A124:CF:=⟨[cj 4 4,aH 5],sr [X_ 2 0,o_ 4 (au xg 4),F_ 5] (sr [A_ 6 2 2,L_ 7 6,y_ 8 57 [z_ 7],A_ 9 2 2,S_ 1 9 8] (rr [N_ 10 4 2,V_ 11 1,S_ 4 4 10,V_ 5 11])),12⟩
theorem c124:cF 124=some A124:=bH
def am4:CT:=sr [B_ 12 11 10] (sq (cd 12 .skip (.exit 0)) (sq (.block 1 (sr [J_ 13 4 9 11,N_ 14 4 13,o_ 7 (au xg 4),S_ 4 7 14] (sr [V_ 15 1,N_ 16 4 7,vP (bc 17) (z_ 15) [z_ 16]] (cd 17 (rr [N_ 18 4 7,S_ 4 4 18,T_ 5]) .skip)))) (R_ [D_ 19 11 1,V_ 11 19])))
def A125:CF:=⟨[cj 4 4,aH 5],sr [o_ 4 (au xg 4),F_ 5] (sq (sr [V_ 9 0,E_ 10 9,I_ 11 0] (bl 0 am4)) (sr [o_ 8 (au xg 4)] (rr [N_ 20 4 8,S_ 4 4 20,F_ 5]))),21⟩
theorem c125:cF 125=some A125:=bH
def A126:CF:=⟨[aH 3],sr [X_ 2 0,F_ 3] (rr [A_ 4 0 2,L_ 5 4,L_ 6 1,eR dq 7 5 6,V_ 3 7]),8⟩
theorem c126:cF 126=some A126:=bH
def adz:=R_ [o_ 9 (au [jR] 1)]
def ady:=R_ [o_ 12 (jl (.func 197) [] [z_ 4,z_ 3,z_ 8,z_ 9]),S_ 1 9 12]
def adx:=R_ [L_ 13 9,N_ 14 8 5,vP (bc 15) (z_ 13) [z_ 14],W_ 16 0 15,W_ 17 1 15,S_ 8 6 16,V_ 7 17]
def A128:CF:=⟨[cj 6 8,aH 7],sr [X_ 3 0,X_ 4 1,X_ 5 2,o_ 6 (au nF 8),I_ 7 0] (sr [N_ 10 2 4,y_ 11 196 [z_ 10],o_ 8 (au sZ 1),S_ 1 8 11] (sq adz (sq ady (rt adx)))),18⟩
theorem c128:cF 128=some A128:=bH
def A129:CF:=⟨[aH 2],sr [X_ 1 0,o_ 2 (c_ cJ)] (ir [A_ 3 0 1,L_ 4 3,K_ 5 4 20,V_ 6 5,eI 6 7 7 1,fy 6 8 7,g_ 6 9 (u_ bg 8),g_ 6 10 (di dq 9 2),P_ 11 6 10] 11 (rt (.dI [12,13,14,15,16,17,18,19,20,21,22] [dT 12 7 1,cK 13 12,i_ [13] 14 (di (bW 8) 13 0) 1,lP 15 8 14 1,cI [15] (bc 16) 129 [z_ 15],oD 17 7 1 2,nU 18 17 2,i_ [18] 19 (di (bW 8) 18 1) 2,lP 20 8 19 2,cI [20] (bc 21) 129 [z_ 20],mI [16,21] (bc 22) (dL 8 104 (z_ 16) (z_ 21)),aP 2 22])) (rr [N_ 23 8 1,y_ 24 201 [z_ 23],o_ 25 (aJ nF 1 8 [(0,8,z_ 24)]),V_ 2 25])),26⟩
theorem c129:cF 129=some A129:=bH
def adw:=R_ [V_ 19 0,A_ 20 1 5,L_ 21 20,E_ 22 21,K_ 23 22 0,y_ 24 50 [z_ 19,kI 200,z_ 23]]
def adv:=R_ [V_ 25 0,N_ 26 2 5,y_ 27 196 [z_ 26],E_ 28 27,eV mG 29 28 16,y_ 30 50 [z_ 25,kI 3,z_ 29]]
def adu:=R_ [A_ 31 1 5,L_ 32 31,E_ 33 32,I_ 34 0]
def Td:CT:=.dI [45,46,47,48,49,50,51,52,53,54,55,56,57,58,59,60] [aP 45 3,i_ [45] 46 (aZ (z_ 45)) 1,dT 47 18 46,cK 48 47,aP 49 3,i_ [49] 50 (aZ (z_ 49)) 1,dT 51 18 50,cK 52 51,u1_ bg 53 52,i_ [53] 54 (aG nF 8 [(0,1,kI 3),(6,1,z_ 53)]) 1,u1_ bg 55 48,i_ [] 56 (aJ nF 1 8 [(0,8,(aO (.agg nF 8)))]) 1,mI [48,56] (bc 57) (dL 8 104 (z_ 48) (z_ 56)),J2_ 58 8 57 55 0,i_ [45] 59 (aZ (z_ 45)) 0,oD 60 18 59 0,fI [58,54] rj (s_ 8 58 54),fI [60,57] rj (s_ 1 60 57)]
def Tc:CT:=.dI [61,62,63,64,65,66,67,68,69,70,71,72,73,74,75,76,77,78,79,80,81,82] [aP 63 3,i_ [63] 64 (aZ (z_ 63)) 1,dT 65 19 64,cK 66 65,dT 67 0 11,cK 68 67,i_ [68] 69 (aJ [.str []] 1 1 [(0,1,z_ 68)]) 1,mI [66,69] (bc 70) (dL 1 16 (z_ 66) (z_ 69)),iz 71 3 2,i_ [71] 72 (aZ (z_ 71)) 2,oD 73 20 72 2,nU 74 73 2,oD 75 1 11 2,nU 76 75 2,i_ [76] 77 (aJ Ac 1 1 [(0,1,z_ 76)]) 2,mI [74,77] (bc 78) (dL 1 8 (z_ 74) (z_ 77)),iz 61 3 3,i_ [61] 79 (aZ (z_ 61)) 1,dT 80 19 79,eP 1 80 70,iz 62 3 4,i_ [62] 81 (aZ (z_ 62)) 1,dT 82 20 81,eP 1 82 78]
def Ta:=R_ [D_ 83 41 1,V_ 41 83]
def GF:CT:=sr [B_ 42 41 40] (sq (cd 42 .skip (.exit 2)) (sq (.block 3 (sr [J_ 43 3 39 41,N_ 44 3 43,o_ 11 (au Ji 3),S_ 3 11 44] (sq Td Tc))) Ta))
def S9:=R_ [D_ 84 34 1,V_ 34 84]
def GA:CT:=sr [B_ 35 34 33] (sq (cd 35 .skip (.exit 0)) (sq (.block 1 (sr [J_ 36 4 32 34,N_ 37 4 36,o_ 9 (au xg 4),S_ 4 9 37] (sr [A_ 38 2 9,L_ 39 38,E_ 40 39,I_ 41 0] (bl 2 GF)))) S9))
def FT:=R_ [A_ 85 2 6,L_ 86 85,E_ 87 86,I_ 88 0]
def S8:=R_ [A_ 100 8 13,L_ 101 100,V_ 16 101]
def w_:=R_ [V_ 102 16,o_ 103 (d_ dq 102 (.str [])),V_ 104 103,eI 104 105 0 13,eI 104 106 0 105,fy 104 107 106,g_ 104 108 (di dq 107 2),P_ 109 104 108]
def S0:=R_ [A_ 110 0 13,A_ 111 5 110,L_ 112 111,V_ 16 112]
def wZ:CT:=.dI [113,114,115,116,117,118,119,120,121,122,123,124,125,126,127,128,129,130,131,132,133,134,135,136,137,138,139,140,141,142] [aP 116 3,i_ [116] 117 (aZ (z_ 116)) 1,dT 118 18 117,cK 119 118,lP 120 8 14 1,i_ [120] 121 (aJ nF 1 8 [(0,8,z_ 120)]) 1,mI [119,121] (bc 122) (dL 8 104 (z_ 119) (z_ 121)),iz 123 3 2,i_ [123] 124 (aZ (z_ 123)) 2,oD 125 19 124 2,nU 126 125 2,iz 127 16 2,i_ [127] 128 (aJ [.str []] 1 1 [(0,1,z_ 127)]) 2,mI [126,128] (bc 129) (dL 1 16 (z_ 126) (z_ 128)),iz 130 3 3,i_ [130] 131 (aZ (z_ 130)) 3,oD 132 20 131 3,nU 133 132 3,iz 134 15 3,i_ [134] 135 (aJ Ac 1 1 [(0,1,z_ 134)]) 3,mI [133,135] (bc 136) (dL 1 8 (z_ 133) (z_ 135)),iz 113 3 4,i_ [113] 137 (aZ (z_ 113)) 1,dT 138 18 137,eP 1 138 122,iz 114 3 5,i_ [114] 139 (aZ (z_ 114)) 1,dT 140 19 139,eP 1 140 129,iz 115 3 6,i_ [115] 141 (aZ (z_ 115)) 1,dT 142 20 141,eP 1 142 136]
def FQ:=R_ [D_ 143 88 1,V_ 88 143]
def vl:CT:=sr [B_ 89 88 87] (sq (cd 89 .skip (.exit 4)) (sq (.block 5 (sr [J_ 90 9 86 88,N_ 91 9 90,o_ 13 (au Vz 9),S_ 9 13 91] (sr [V_ 93 0,N_ 94 2 5,A_ 95 0 13,N_ 96 8 95,y_ 97 128 [z_ 93,z_ 94,z_ 96],V_ 92 97,W_ 98 0 92,W_ 99 1 92,o_ 14 (au nF 8),S_ 8 14 98,V_ 15 99] (sq S8 (iq w_ 109 S0 wZ))))) FQ))
def A133:CF:=⟨[],sr [X_ 5 1,X_ 6 2] (ir [A_ 17 1 6,L_ 18 17] 18 (sq adw (sq adv (sq adu (bl 0 GA)))) (sq FT (bl 4 vl))),144⟩
theorem c133:cF 133=some A133:=bH
def adt:=R_ [V_ 17 5,V_ 4 17]
def ads:=R_ [D_ 18 8 1,V_ 8 18]
def OD:CT:=sr [B_ 9 8 7] (sq (cd 9 .skip (.exit 0)) (sq (.block 1 (sr [V_ 10 8,V_ 5 10] (sr [V_ 11 1,V_ 12 0,V_ 13 5,J_ 14 1 12 13,L_ 15 14,eR dq 16 11 15] (cd 16 (rt adt) .skip)))) ads))
def adr:=R_ [o_ 4 (c_ (.int .i64 (-1)))]
def A134:CF:=⟨[aH 4],sr [I_ 4 0] (sq (sr [V_ 6 0,E_ 7 6,I_ 8 0] (bl 0 OD)) (rt adr)),19⟩
theorem c134:cF 134=some A134:=bH
def A135:CF:=⟨[aH 2],sr [o_ 2 (c_ cJ)] (ir [V_ 3 0,o_ 4 (d_ (kG false .slice) 3 cJ)] 4 (rr [o_ 2 (c_ cJ)]) (rr [o_ 5 (aJ fJ 0 3 []),V_ 6 0,o_ 7 (dL 3 32 (z_ 5) (z_ 6)),V_ 2 7])),8⟩
theorem c135:cF 135=some A135:=bH
def A136:CF:=⟨[],(R_ [V_ 4 0,V_ 5 0,E_ 6 5,V_ 7 1,y_ 8 203 [z_ 4,z_ 6,z_ 7]]),9⟩
theorem c136:cF 136=some A136:=bH
def adq:=R_ [V_ 24 2,V_ 25 11,vP (bc 26) (z_ 24) [z_ 25]]
def adp:=R_ [V_ 27 7,N_ 28 3 10,o_ 29 (aJ fJ 1 3 [(0,3,z_ 28)]),o_ 30 (dL 3 32 (z_ 27) (z_ 29)),V_ 7 30]
def ado:=R_ [D_ 31 14 1,V_ 14 31]
def OC:CT:=sr [B_ 15 14 13] (sq (cd 15 .skip (.exit 0)) (sq (.block 1 (sr [J_ 16 8 12 14,N_ 17 8 16,o_ 9 (au nF 8),S_ 8 9 17] (sr [N_ 19 8 9,V_ 20 1,y_ 21 212 [z_ 19,z_ 20],V_ 18 21,W_ 22 0 18,W_ 23 1 18,o_ 10 (au fJ 3),S_ 3 10 22,V_ 11 23] (sq adq adp)))) ado))
def adn:=R_ [V_ 32 7,V_ 6 32]
def A144:CF:=⟨[aH 6],sr [o_ 6 (c_ cJ)] (sr [o_ 7 (c_ cJ)] (sq (sr [V_ 12 0,E_ 13 12,I_ 14 0] (bl 0 OC)) (rt adn))),33⟩
theorem c144:cF 144=some A144:=bH
def A148:CF:=⟨[aH 2],sr [o_ 2 (c_ cJ)] (ir [V_ 3 0,o_ 4 (d_ (kG false .slice) 3 cJ)] 4 (rr [o_ 2 (c_ cJ)]) (rr [o_ 5 (aJ [.str []] 0 1 []),V_ 6 0,o_ 7 (dL 1 16 (z_ 5) (z_ 6)),V_ 2 7])),8⟩
theorem c148:cF 148=some A148:=bH
def adm:CT:=.dI [11,12,13,14,15,16,17,18,19,7] [cK 11 3,i_ [11] 12 (aZ (z_ 11)) 1,dT 13 3 12,dT 14 15 13,cK 15 14,cK 16 4,r6 fU 17 16 1,dJ 18 4 15 17,lP 19 4 18 1,i_ [] 7 (au xg 4) 1,eP 4 7 19]
def adl:=R_ [L_ 20 3,o_ 21 (aZ (z_ 20)),A_ 22 0 21,A_ 23 0 22,A_ 24 0 23,L_ 25 24,o_ 26 (jl (.func 214) [] [z_ 7]),y_ 27 161 [z_ 25,z_ 26],o_ 8 (au Ac 1),S_ 1 8 27]
def adk:=R_ [o_ 28 (jl (.func 215) [] [z_ 3,z_ 4,z_ 5,z_ 8]),V_ 6 28]
def A149:CF:=⟨[aH 6],sr [X_ 3 0,X_ 4 1,X_ 5 2,o_ 6 (c_ jR)] (ir [L_ 9 4,K_ 10 9 0] 10 (rr [o_ 6 (c_ (.fn (.func 213) [] []))]) (sq adm (sq adl (rt adk)))),29⟩
theorem c149:cF 149=some A149:=bH
def adi:=R_ [F_ 4,I_ 5 1]
def adh:=R_ [D_ 23 14 1,V_ 14 23]
def OB:CT:=sr [B_ 15 14 13] (sq (cd 15 .skip (.exit 0)) (sq (.block 1 (sr [J_ 16 8 12 14,N_ 17 8 16,o_ 7 (au nF 8),S_ 8 7 17] (sr [N_ 18 8 7,V_ 19 1,E_ 20 19,y_ 21 216 [z_ 18,z_ 20],qu 22 21] (cd 22 (rt adi) .skip)))) adh))
def adg:=R_ [V_ 24 1,y_ 25 217 [z_ 24],qu 26 25]
def adf:=R_ [F_ 4,I_ 5 5]
def ade:=R_ [V_ 27 0,E_ 28 27,I_ 29 0]
def SZ:=R_ [V_ 40 11,H_ 41 40 0,V_ 39 41]
def SY:=R_ [V_ 42 11,F_ 4,V_ 5 42]
def SX:=R_ [A_ 44 0 10,L_ 45 44,H_ 46 45 0,V_ 47 46,eI 47 48 0 10,fy 47 49 48,g_ 47 50 (di qM 49 3),P_ 51 47 50,V_ 43 51]
def SV:=R_ [F_ 4,I_ 5 30]
def FP:CT:=.dI [53,54,55] [cI [] (bc 54) 219 [(aO (.bool true))],lP 53 3 10 2,i_ [53,54] 55 (b_ (mY true [.i,.i,.s]) 53 54) 1,aP 52 55]
def FO:=R_ [F_ 4,I_ 5 0]
def SU:=R_ [D_ 56 29 1,V_ 29 56]
def OA:CT:=sr [B_ 30 29 28] (sq (cd 30 .skip (.exit 2)) (sq (.block 3 (sr [J_ 31 8 27 29,N_ 32 8 31,o_ 9 (au nF 8),S_ 8 9 32] (sr [N_ 34 8 9,V_ 35 1,y_ 36 218 [z_ 34,z_ 35],V_ 33 36,W_ 37 0 33,W_ 38 1 33,o_ 10 (au fJ 3),S_ 3 10 37,V_ 11 38] (.block 4 (sq SZ (cd 39 (rt SY) (sq SX (cd 43 (rt SV) (sq FP (cd 52 (rt FO) .skip)))))))))) SU))
def SS:=R_ [T_ 4,I_ 5 0]
def A150:CF:=⟨[aH 4,aH 5],sr [F_ 4,I_ 5 0] (sq (sr [V_ 12 0,E_ 13 12,I_ 14 0] (bl 0 OB)) (iq adg 26 (rt adf) (sq (sq ade (bl 2 OA)) (rt SS)))),57⟩
theorem c150:cF 150=some A150:=bH
def A153:CF:=⟨[],sr [V_ 5 0,E_ 6 5,V_ 4 6] (R_ [V_ 7 0,V_ 8 4,V_ 9 4,o_ 10 (u_ (bZ .u64) 9),y_ 11 221 [z_ 10],V_ 12 1,y_ 13 220 [z_ 7,kI 0,z_ 8,z_ 11,z_ 12]]),14⟩
theorem c153:cF 153=some A153:=bH
def ad1:CT:=sr [B_ 18 17 16] (sq (cd 18 .skip (.exit 0)) (sq (.block 1 (sr [J_ 19 2 15 17,N_ 20 2 19,o_ 8 (au [.int .i64 0,.bool false] 2),S_ 2 8 20] (sq (.dI [22,23,24,25,26,27,28,29,30,31,32,21,33,34] [aP 22 1,dT 23 0 8,cK 24 23,dJ 25 3 22 24,lP 26 3 25 1,aP 27 2,dT 28 0 8,cK 29 28,dJ 30 3 27 29,lP 31 3 30 1,cI [26,31] (bc 32) 89 [z_ 26,z_ 31],aP 21 32,i_ [21] 33 (u_ (jw 0) 21) 1,i_ [21] 34 (u_ (jw 1) 21) 1,aP 9 33,aP 10 34]) (ir [A_ 35 1 8,L_ 36 35] 36 (R_ [V_ 37 9,o_ 38 (u_ (cUn .neg) 37),V_ 9 38]) (sr [V_ 39 9,H_ 40 39 0] (cd 40 (rr [V_ 41 9,V_ 6 41]) .skip)))))) (R_ [D_ 42 17 1,V_ 17 42])))
def SR:=R_ [V_ 43 1,V_ 44 2,y_ 45 40 [z_ 43,z_ 44],V_ 6 45]
def A154:CF:=⟨[aH 6],sr [I_ 6 0] (sq (sr [V_ 11 0,o_ 12 (aZ (z_ 11)),A_ 13 3 12,A_ 14 21 13,L_ 15 14,E_ 16 15,I_ 17 0] (bl 0 ad1)) (rt SR)),46⟩
theorem c154:cF 154=some A154:=bH
def A158:CF:=⟨[aH 2],sr [I_ 2 0] (ir [V_ 3 0,K_ 4 3 0] 4 (rr [I_ 2 0]) (ir [V_ 5 0,K_ 6 5 3] 6 (rr [I_ 2 1]) (ir [V_ 7 0,K_ 8 7 1] 8 (rr [I_ 2 2]) (rr [I_ 2 3])))),9⟩
theorem c158:cF 158=some A158:=bH
def adb:=R_ [o_ 4 (c_ (.int .i64 (-1)))]
def ada:CT:=.dI [25,26,27,28,29,30,31] [aP 25 0,aP 26 5,vR pj 27 25 26,aP 28 1,aP 29 5,vR pj 30 28 29,vR mG 31 27 30]
def ac':=R_ [I_ 4 1]
def ac_:=R_ [V_ 16 5,D_ 17 16 1,V_ 5 17]
def zU:CT:=lr [V_ 6 5,V_ 7 0,u3_ jm 8 7,B_ 9 6 8,V_ 10 9,jh 10 11 5,jh 10 12 1,g_ 10 13 (u_ jm 12),g_ 10 14 (b_ jM 11 13),P_ 15 10 14] 15 0 1 (iq (.dI [18,19,20,21,22,23,24] [aP 18 0,aP 19 5,vR pj 20 18 19,aP 21 1,aP 22 5,vR pj 23 21 22,vR jM 24 20 23]) 24 (rt adb) (sq ada (cd 31 (rt ac') .skip))) ac_
def FM:=R_ [V_ 32 0,u3_ jm 33 32,V_ 34 1,u3_ jm 35 34,B_ 36 33 35]
def ac9:=R_ [o_ 4 (c_ (.int .i64 (-1)))]
def FN:=R_ [V_ 37 0,u3_ jm 38 37,V_ 39 1,u3_ jm 40 39,eR mG 41 38 40]
def SQ:=R_ [I_ 4 1]
def SN:=R_ [I_ 4 0]
def A159:CF:=⟨[aH 4],sr [I_ 4 0] (sq (sr [I_ 5 0] (bl 0 zU)) (iq FM 36 (rt ac9) (iq FN 41 (rt SQ) (rt SN)))),42⟩
theorem c159:cF 159=some A159:=bH
def ac8:=R_ [V_ 14 0,A_ 15 3 4,L_ 16 15,vP (bc 17) (z_ 14) [z_ 16],qu 18 17]
def ac7:=R_ [D_ 19 10 1,V_ 10 19]
def Oz:CT:=sr [B_ 11 10 9] (sq (cd 11 .skip (.exit 0)) (sq (.block 1 (sr [J_ 12 4 8 10,N_ 13 4 12,o_ 4 (au xg 4),S_ 4 4 13] (sq ac8 (cd 18 .ret .skip)))) ac7))
def ac6:=R_ [A_ 20 1 1,L_ 21 20,E_ 22 21,I_ 23 0]
def ac5:=R_ [V_ 27 0,A_ 28 5 6,L_ 29 28,vP (bc 30) (z_ 27) [z_ 29],qu 31 30]
def ac4:=R_ [D_ 32 23 1,V_ 23 32]
def Oy:CT:=sr [B_ 24 23 22] (sq (cd 24 .skip (.exit 2)) (sq (.block 3 (sr [J_ 25 6 21 23,N_ 26 6 25,o_ 6 (au Ad 6),S_ 6 6 26] (sq ac5 (cd 31 .ret .skip)))) ac4))
def A160:CF:=⟨[],sq (sr [A_ 7 0 1,L_ 8 7,E_ 9 8,I_ 10 0] (bl 0 Oz)) (sq ac6 (bl 2 Oy)),33⟩
theorem c160:cF 160=some A160:=bH
def am3:CT:=sr [B_ 9 8 7] (sq (cd 9 .skip (.exit 0)) (sq (.block 1 (sr [V_ 10 8,V_ 5 10] (sr [V_ 11 1,V_ 12 0,V_ 13 5,J_ 14 4 12 13,N_ 15 4 14,vP (bc 16) (z_ 11) [z_ 15]] (cd 16 (rr [V_ 17 5,V_ 4 17]) .skip)))) (R_ [D_ 18 8 1,V_ 8 18])))
def A161:CF:=⟨[aH 4],sr [I_ 4 0] (sq (sr [V_ 6 0,E_ 7 6,I_ 8 0] (bl 0 am3)) (rr [o_ 4 (c_ (.int .i64 (-1)))])),19⟩
theorem c161:cF 161=some A161:=bH
def A162:CF:=⟨[aH 4],sr [F_ 4] (rr [V_ 5 0,V_ 6 1,y_ 7 226 [z_ 5,z_ 6],eV oh 8 7 0,V_ 4 8]),9⟩
theorem c162:cF 162=some A162:=bH
def am2:CT:=sr [B_ 9 8 7] (sq (cd 9 .skip (.exit 0)) (sq (.block 1 (sr [V_ 10 8,V_ 5 10] (sr [V_ 11 1,V_ 12 0,V_ 13 5,J_ 14 6 12 13,N_ 15 6 14,vP (bc 16) (z_ 11) [z_ 15]] (cd 16 (rr [V_ 17 5,V_ 4 17]) .skip)))) (R_ [D_ 18 8 1,V_ 8 18])))
def A163:CF:=⟨[aH 4],sr [I_ 4 0] (sq (sr [V_ 6 0,E_ 7 6,I_ 8 0] (bl 0 am2)) (rr [o_ 4 (c_ (.int .i64 (-1)))])),19⟩
theorem c163:cF 163=some A163:=bH
def ac3:=R_ [o_ 4 (c_ (.int .i64 (-1)))]
def ac2:=R_ [I_ 4 1]
def A164:CF:=⟨[aH 4],sr [X_ 2 0,X_ 3 1,I_ 4 0] (ir [A_ 5 0 2,L_ 6 5,A_ 7 0 3,L_ 8 7,eR qM 9 6 8] 9 (iq (.dI [10,11,12,13,14,15,16] [dT 10 0 2,cK 11 10,cI [11] (bc 12) 227 [z_ 11],oD 13 0 3 2,nU 14 13 2,cI [14] (bc 15) 227 [z_ 14],vR jM 16 12 15]) 16 (rt ac3) (rt ac2)) (ir [A_ 17 0 2,L_ 18 17,K_ 19 18 2] 19 (rr [A_ 20 2 2,L_ 21 20,A_ 22 2 3,L_ 23 22,y_ 24 228 [z_ 21,z_ 23],V_ 4 24]) (ir [A_ 25 1 2,L_ 26 25,A_ 27 1 3,L_ 28 27,B_ 29 26 28] 29 (rr [o_ 4 (c_ (.int .i64 (-1)))]) (ir [A_ 30 1 2,L_ 31 30,A_ 32 1 3,L_ 33 32,eR mG 34 31 33] 34 (rr [I_ 4 1]) (rr [I_ 4 0]))))),35⟩
theorem c164:cF 164=some A164:=bH
def A165:CF:=⟨[aH 3],sr [I_ 3 0] (ir [V_ 4 0,H_ 5 4 0,V_ 6 5,fy 6 7 1,g_ 6 8 (di dq 7 0),jh 6 9 8,pV 9 10 0,jI 9 11 1,h_ 9 12 (b_ jM 10 11),g_ 6 13 (q_ 9 12),P_ 14 6 13] 14 (R_ [V_ 15 0,S_ 1 1 15]) (rr [L_ 16 1,V_ 3 16])),17⟩
theorem c165:cF 165=some A165:=bH
def A166:CF:=⟨[aH 0],sr [o_ 0 (c_ (.aV (.pointer none)))] (rr [o_ 1 (aG [.bool false,cJ] 2 [(0,1,(aO (.bool true)))]),o_ 2 (aG [.bool false,cJ] 2 [(0,2,z_ 1)]),X_ 3 2,V_ 0 3]),4⟩
theorem c166:cF 166=some A166:=bH
def A167:CF:=⟨[],(R_ [V_ 4 0,V_ 5 1,y_ 6 229 [z_ 4,z_ 5,kI 1]]),7⟩
theorem c167:cF 167=some A167:=bH
def A168:CF:=⟨[cj 0 9],sr [o_ 0 (au aek 9)] (rr [o_ 1 (aG aej 3 [(0,1,kI 1),(1,1,kf 230),(2,1,kf 232)]),o_ 2 (aG aej 3 [(0,1,kI 2),(1,1,kf 234),(2,1,kf 236)]),o_ 3 (aG aej 3 [(0,1,kI 3),(1,1,kf 238),(2,1,kf 239)]),o_ 4 (aG aek 9 [(0,3,z_ 1),(3,3,z_ 2),(6,3,z_ 3)]),S_ 9 0 4]),5⟩
theorem c168:cF 168=some A168:=bH
def A169:CF:=⟨[aH 2],sr [I_ 2 0] (ir [V_ 3 0,o_ 4 (d_ (kG false .ptr) 3 (.aV (.pointer none)))] 4 (rr [I_ 2 0]) (rr [V_ 5 0,o_ 6 (aZ (z_ 5)),A_ 7 0 6,A_ 8 1 7,L_ 9 8,E_ 10 9,V_ 2 10])),11⟩
theorem c169:cF 169=some A169:=bH
def A170:CF:=⟨[aH 2],sr [o_ 2 (c_ cJ)] (ir [V_ 3 0,o_ 4 (d_ (kG false .ptr) 3 (.aV (.pointer none)))] 4 (rr [o_ 2 (c_ cJ)]) (rr [V_ 5 0,o_ 6 (aZ (z_ 5)),A_ 7 0 6,A_ 8 1 7,L_ 9 8,o_ 10 (dL 1 1 (aO cJ) (z_ 9)),V_ 2 10])),11⟩
theorem c170:cF 170=some A170:=bH
def ac1:=R_ [o_ 2 (c_ (.str [])),I_ 3 5]
def ac0:=R_ [V_ 19 4,N_ 20 3 6,y_ 21 241 [z_ 19,z_ 20],V_ 4 21]
def SL:=R_ [D_ 22 12 1,V_ 12 22]
def Gz:CT:=sr [B_ 13 12 11] (sq (cd 13 .skip (.exit 0)) (sq (.block 1 (sr [J_ 14 3 10 12,N_ 15 3 14,o_ 6 (au fJ 3),S_ 3 6 15] (ir [N_ 16 3 6,y_ 17 88 [z_ 16],qu 18 17] 18 (rt ac1) ac0))) SL))
def FK:=R_ [V_ 23 4,E_ 24 23,eV mG 25 24 140]
def SK:=R_ [o_ 2 (c_ (.str [])),I_ 3 51]
def SJ:=R_ [V_ 26 4,o_ 27 (KD (z_ 26)),V_ 2 27,I_ 3 0]
def A171:CF:=⟨[aH 2,aH 3],sr [o_ 2 (c_ (.str [])),I_ 3 0] (ir [V_ 7 0,E_ 8 7,eV mG 9 8 16] 9 (rr [o_ 2 (c_ (.str [])),I_ 3 1]) (sr [o_ 4 (c_ cJ)] (sq (sr [V_ 10 0,E_ 11 10,I_ 12 0] (bl 0 Gz)) (iq FK 25 (rt SK) (rt SJ))))),28⟩
theorem c171:cF 171=some A171:=bH
def A192:CF:=⟨[aH 2],sr [F_ 2] (sq (sr [V_ 3 0] (.block 0 (sq (.block 3 (.block 2 (.block 1 (sq (iq (sr [o_ 5 (d_ dq 3 (.str [97,110,100])),V_ 4 5] (cd 4 .skip (sr [o_ 6 (d_ dq 3 (.str [97,115])),V_ 4 6] (cd 4 .skip (sr [o_ 7 (d_ dq 3 (.str [98,101,103,105,110])),V_ 4 7] (cd 4 .skip (sr [o_ 8 (d_ dq 3 (.str [98,111,111,108])),V_ 4 8] (cd 4 .skip (sr [o_ 9 (d_ dq 3 (.str [98,121])),V_ 4 9] (cd 4 .skip (sr [o_ 10 (d_ dq 3 (.str [99,111,109,109,105,116])),V_ 4 10] (cd 4 .skip (sr [o_ 11 (d_ dq 3 (.str [99,114,101,97,116,101])),V_ 4 11] (cd 4 .skip (sr [o_ 12 (d_ dq 3 (.str [100,101,108,101,116,101])),V_ 4 12] (cd 4 .skip (sr [o_ 13 (d_ dq 3 (.str [100,101,115,99])),V_ 4 13] (cd 4 .skip (sr [o_ 14 (d_ dq 3 (.str [100,105,115,116,105,110,99,116])),V_ 4 14] (cd 4 .skip (R_ [o_ 15 (d_ dq 3 (.str [100,114,111,112])),V_ 4 15]))))))))))))))))))))) 4 (.exit 1) (iq (sr [o_ 17 (d_ dq 3 (.str [102,97,108,115,101])),V_ 16 17] (cd 16 .skip (sr [o_ 18 (d_ dq 3 (.str [102,114,111,109])),V_ 16 18] (cd 16 .skip (sr [o_ 19 (d_ dq 3 (.str [105,110,100,101,120])),V_ 16 19] (cd 16 .skip (sr [o_ 20 (d_ dq 3 (.str [105,110,115,101,114,116])),V_ 16 20] (cd 16 .skip (sr [o_ 21 (d_ dq 3 (.str [105,110,116])),V_ 16 21] (cd 16 .skip (sr [o_ 22 (d_ dq 3 (.str [105,110,116,111])),V_ 16 22] (cd 16 .skip (sr [o_ 23 (d_ dq 3 (.str [105,115])),V_ 16 23] (cd 16 .skip (sr [o_ 24 (d_ dq 3 (.str [106,111,105,110])),V_ 16 24] (cd 16 .skip (sr [o_ 25 (d_ dq 3 (.str [108,105,109,105,116])),V_ 16 25] (cd 16 .skip (sr [o_ 26 (d_ dq 3 (.str [110,111,116])),V_ 16 26] (cd 16 .skip (R_ [o_ 27 (d_ dq 3 (.str [110,117,108,108])),V_ 16 27]))))))))))))))))))))) 16 (.exit 2) (sq (sr [o_ 29 (d_ dq 3 (.str [111,110])),V_ 28 29] (cd 28 .skip (sr [o_ 30 (d_ dq 3 (.str [111,114])),V_ 28 30] (cd 28 .skip (sr [o_ 31 (d_ dq 3 (.str [111,114,100,101,114])),V_ 28 31] (cd 28 .skip (sr [o_ 32 (d_ dq 3 (.str [114,111,108,108,98,97,99,107])),V_ 28 32] (cd 28 .skip (sr [o_ 33 (d_ dq 3 (.str [115,101,108,101,99,116])),V_ 28 33] (cd 28 .skip (sr [o_ 34 (d_ dq 3 (.str [115,101,116])),V_ 28 34] (cd 28 .skip (sr [o_ 35 (d_ dq 3 (.str [116,97,98,108,101])),V_ 28 35] (cd 28 .skip (sr [o_ 36 (d_ dq 3 (.str [116,101,120,116])),V_ 28 36] (cd 28 .skip (sr [o_ 37 (d_ dq 3 (.str [116,114,117,101])),V_ 28 37] (cd 28 .skip (sr [o_ 38 (d_ dq 3 (.str [117,110,105,113,117,101])),V_ 28 38] (cd 28 .skip (sr [o_ 39 (d_ dq 3 (.str [117,112,100,97,116,101])),V_ 28 39] (cd 28 .skip (sr [o_ 40 (d_ dq 3 (.str [118,97,108,117,101,115])),V_ 28 40] (cd 28 .skip (R_ [o_ 41 (d_ dq 3 (.str [119,104,101,114,101])),V_ 28 41]))))))))))))))))))))))))) (cd 28 (.exit 3) .skip)))) (.exit 0))))) (sq (rr [T_ 2]) (.exit 0))))) (rr [F_ 2])),42⟩
theorem c192:cF 192=some A192:=bH
def A193:CF:=⟨[aH 4],sr [X_ 2 0,F_ 4] (rr [A_ 5 0 2,L_ 6 5,V_ 7 1,eR dq 8 6 7,V_ 9 8,eI 9 10 1 2,Aa 9 11 3 10,g_ 9 12 (aG fJ 3 []),g_ 9 13 (b_ (mY false [.i,.i,.s]) 11 12),P_ 14 9 13,V_ 15 14,eI 15 16 4 2,fy 15 17 16,g_ 15 18 (d_ dq 17 (.str [])),P_ 19 15 18,V_ 20 19,eI 20 21 5 2,fy 20 22 21,g_ 20 23 (d_ dq 22 (.str [])),P_ 24 20 23,V_ 25 24,eI 25 26 6 2,fy 25 27 26,g_ 25 28 (di dq 27 0),P_ 29 25 28,V_ 30 29,eI 30 31 7 2,fy 30 32 31,g_ 30 33 (u_ bg 32),g_ 30 34 (di dq 33 0),P_ 35 30 34,V_ 4 35]),36⟩
theorem c193:cF 193=some A193:=bH
def A194:CF:=⟨[aH 2],sr [X_ 1 0,F_ 2] (rr [N_ 3 8 1,y_ 4 193 [z_ 3,kI 0],V_ 2 4]),5⟩
theorem c194:cF 194=some A194:=bH
def A195:CF:=⟨[aH 3],sr [X_ 2 0,F_ 3] (rr [A_ 4 1 2,L_ 5 4,L_ 6 1,eR dq 7 5 6,V_ 3 7]),8⟩
theorem c195:cF 195=some A195:=bH
def acY:=R_ [V_ 22 3,A_ 23 1 7,L_ 24 23,o_ 25 (aJ Ac 1 1 [(0,1,z_ 24)]),o_ 26 (dL 1 8 (z_ 22) (z_ 25)),V_ 3 26]
def acX:=R_ [D_ 27 18 1,V_ 18 27]
def Ox:CT:=sr [B_ 19 18 17] (sq (cd 19 .skip (.exit 2)) (sq (.block 3 (sr [J_ 20 3 16 18,N_ 21 3 20,o_ 7 (au Ji 3),S_ 3 7 21] acY)) acX))
def SI:=R_ [D_ 28 11 1,V_ 11 28]
def Ou:CT:=sr [B_ 12 11 10] (sq (cd 12 .skip (.exit 0)) (sq (.block 1 (sr [J_ 13 4 9 11,N_ 14 4 13,o_ 5 (au xg 4),S_ 4 5 14] (sr [A_ 15 2 5,L_ 16 15,E_ 17 16,I_ 18 0] (bl 2 Ox)))) SI))
def SH:=R_ [V_ 29 3,V_ 2 29]
def A196:CF:=⟨[aH 2],sr [X_ 1 0,o_ 2 (c_ cJ)] (sr [o_ 3 (c_ cJ)] (sq (sr [A_ 8 1 1,L_ 9 8,E_ 10 9,I_ 11 0] (bl 0 Ou)) (rt SH))),30⟩
theorem c196:cF 196=some A196:=bH
def acW:=R_ [L_ 30 2,V_ 31 9,V_ 32 9,H_ 33 32 0,y_ 34 50 [z_ 30,z_ 31,z_ 33]]
def NJ:=R_ [V_ 35 9,H_ 36 35 0]
def acV:=R_ [N_ 37 8 5,S_ 8 6 37,I_ 7 0]
def SG:=R_ [A_ 67 7 10,L_ 68 67,N_ 69 8 14,o_ 70 (aJ nF 1 8 [(0,8,z_ 69)]),o_ 71 (dL 8 104 (z_ 68) (z_ 70)),V_ 72 11,V_ 73 15,o_ 74 (aJ Ac 1 1 [(0,1,z_ 73)]),o_ 75 (dL 1 8 (z_ 72) (z_ 74)),A_ 76 7 10,S_ 1 76 71,V_ 11 75]
def SE:=R_ [D_ 77 57 1,V_ 57 77]
def Ot:CT:=sr [B_ 58 57 56] (sq (cd 58 .skip (.exit 0)) (sq (.block 1 (sr [J_ 59 8 55 57,N_ 60 8 59,o_ 13 (au nF 8),S_ 8 13 60] (sr [L_ 62 4,N_ 63 8 13,vP (bc 64) (z_ 62) [z_ 63],V_ 61 64,W_ 65 0 61,W_ 66 1 61,o_ 14 (au nF 8),S_ 8 14 65,V_ 15 66] SG))) SE))
def SD:=R_ [A_ 79 0 5,L_ 80 79,y_ 81 199 [z_ 80],V_ 78 81,W_ 82 0 78,W_ 83 1 78,o_ 16 (au xh 5),S_ 5 16 82,V_ 17 83]
def SC:CT:=.dI [84,85,86,87,88,89] [lP 85 5 16 1,aP 86 11,cI [85,86] (bc 87) 200 [z_ 85,z_ 86],nU 84 2 2,Y5 un 88 87,cI [84,88] (bc 89) 50 [z_ 84,kI 203,z_ 88]]
def SB:CT:=.dI [90,91,92] [lP 90 8 10 1,eP 8 6 90,oD 91 2 16 2,nU 92 91 2,aP 7 92]
def A197:CF:=⟨[cj 6 8,aH 7],sr [X_ 5 0,o_ 6 (au nF 8),I_ 7 0] (ir [A_ 18 0 5,L_ 19 18,K_ 20 19 2] 20 (sr [N_ 22 2 1,A_ 23 4 5,L_ 24 23,A_ 25 5 5,L_ 26 25,y_ 27 198 [z_ 22,z_ 24,z_ 26],V_ 21 27,W_ 28 0 21,W_ 29 1 21,V_ 8 28,V_ 9 29] (sq acW (iq NJ 36 (rt acV) (rt (.dI [38,39,40,41,42,43] [aP 38 8,i_ [38] 39 (aG nF 8 [(0,1,kI 3),(6,1,z_ 38)]) 1,eP 8 6 39,nU 40 3 2,iz 41 8 2,J2_ 42 1 40 41 2,nU 43 42 2,aP 7 43]))))) (ir [A_ 44 0 5,L_ 45 44,K_ 46 45 1] 46 (rt (.dI [47,48,49,50] [lP 47 8 5 1,eP 8 6 47,oD 48 1 5 2,oD 49 0 48 2,nU 50 49 2,aP 7 50])) (sr [A_ 51 0 5,L_ 52 51,o_ 53 (aG nF 8 [(0,1,z_ 52)]),o_ 10 (au nF 8),S_ 8 10 53] (sr [o_ 11 (c_ cJ)] (sq (sr [A_ 54 7 5,L_ 55 54,E_ 56 55,I_ 57 0] (bl 0 Ot)) (sq SD (sq SC (rt SB)))))))),93⟩
theorem c197:cF 197=some A197:=bH
def acU:=R_ [V_ 23 1,o_ 24 (d_ dq 23 (.str [])),V_ 25 24,jg 25 26 0 3,jI 25 27 26,pV 25 28 11,h_ 25 29 (b_ (bW 1) 27 28),jI 25 30 29,pV 25 31 1,h_ 25 32 (b_ dq 30 31),Q_ 33 25 32,V_ 13 33]
def acT:=R_ [V_ 34 10,V_ 35 34,pV 35 36 13,Q_ 37 35 36,V_ 10 37]
def acS:=R_ [A_ 38 2 12,L_ 39 38,o_ 40 (jl (.func 262) [] [z_ 5]),y_ 41 118 [z_ 39,z_ 40],V_ 14 41]
def acR:=R_ [V_ 42 13,V_ 43 42,jh 43 44 14,g_ 43 45 (di oh 44 0),P_ 46 43 45]
def acQ:=R_ [V_ 47 9,eV oh 48 47 0]
def SA:=R_ [I_ 6 0,I_ 7 205]
def Sz:=R_ [V_ 49 8,V_ 50 14,eR mq 51 49 50,V_ 9 51]
def Su:=R_ [V_ 52 8,A_ 53 2 12,L_ 54 53,E_ 55 54,eR mq 56 52 55,V_ 8 56]
def Sr:=R_ [D_ 57 18 1,V_ 18 57]
def zT:CT:=sr [B_ 19 18 17] (sq (cd 19 .skip (.exit 0)) (sq (.block 1 (sr [V_ 20 18,J_ 21 4 16 18,N_ 22 4 21,o_ 12 (au xg 4),V_ 11 20,S_ 4 12 22] (sq acU (sq acT (sq acS (iq acR 46 (iq acQ 48 (rt SA) Sz) Su)))))) Sr))
def wY:=R_ [V_ 59 9,eV oh 60 59 0,V_ 58 60]
def Sm:=R_ [V_ 61 9,V_ 6 61,I_ 7 0]
def FH:=R_ [V_ 63 1,o_ 64 (d_ qM 63 (.str [])),V_ 65 64,jh 65 66 10,g_ 65 67 (un 66),P_ 68 65 67,V_ 62 68]
def Sl:=R_ [I_ 6 0,I_ 7 200]
def FG:=R_ [I_ 6 0,I_ 7 201]
def A198:CF:=⟨[aH 6,aH 7],sr [X_ 3 0,X_ 5 2,I_ 6 0,I_ 7 0] (sr [I_ 8 0,o_ 9 (c_ (.int .i64 (-1))),F_ 10] (sq (sr [A_ 15 1 3,L_ 16 15,E_ 17 16,I_ 18 0] (bl 0 zT)) (sq (.block 2 (sq wY (cd 58 (rt Sm) (sq FH (cd 62 (rt Sl) .skip))))) (rt FG)))),69⟩
theorem c198:cF 198=some A198:=bH
def A199:CF:=⟨[cj 2 5,aH 3],sr [o_ 2 (au xh 5),F_ 3] (sq (sr [V_ 4 0] (.block 0 (sr [K_ 6 4 4,V_ 5 6] (cd 5 (rr [o_ 7 (aG xh 5 [(0,1,kI 1),(1,1,kI 1),(2,1,kI 1)]),S_ 5 2 7,T_ 3]) (sr [K_ 9 4 5,V_ 8 9] (cd 8 (rr [o_ 10 (aG xh 5 [(0,1,kI 1),(1,1,kI 3),(2,1,kI 3)]),S_ 5 2 10,T_ 3]) (sq (sr [K_ 12 4 6,V_ 11 12] (cd 11 .skip (R_ [K_ 13 4 7,V_ 11 13]))) (cd 11 (rr [o_ 14 (aG xh 5 [(0,1,kI 1),(3,1,(aO (.bool true))),(2,1,kI 3)]),S_ 5 2 14,T_ 3]) (sq (sr [K_ 16 4 8,V_ 15 16] (cd 15 .skip (sr [K_ 17 4 9,V_ 15 17] (cd 15 .skip (sr [K_ 18 4 10,V_ 15 18] (cd 15 .skip (sr [K_ 19 4 11,V_ 15 19] (cd 15 .skip (R_ [K_ 20 4 12,V_ 15 20]))))))))) (cd 15 (rr [o_ 21 (aG xh 5 [(0,1,kI 2),(1,1,kI 1),(2,1,kI 1)]),S_ 5 2 21,T_ 3]) (sr [K_ 23 4 13,V_ 22 23] (cd 22 (rr [o_ 24 (aG xh 5 [(0,1,kI 2),(1,1,kI 2),(2,1,kI 2)]),S_ 5 2 24,T_ 3]) (sq (sr [K_ 26 4 20,V_ 25 26] (cd 25 .skip (R_ [K_ 27 4 21,V_ 25 27]))) (cd 25 (rr [o_ 28 (aG xh 5 [(0,1,kI 2),(1,1,kI 3),(2,1,kI 3)]),S_ 5 2 28,T_ 3]) (sq (sr [K_ 30 4 14,V_ 29 30] (cd 29 .skip (sr [K_ 31 4 15,V_ 29 31] (cd 29 .skip (sr [K_ 32 4 16,V_ 29 32] (cd 29 .skip (sr [K_ 33 4 17,V_ 29 33] (cd 29 .skip (sr [K_ 34 4 18,V_ 29 34] (cd 29 .skip (R_ [K_ 35 4 19,V_ 29 35]))))))))))) (cd 29 (rr [o_ 36 (aG xh 5 [(0,1,kI 2),(3,1,(aO (.bool true))),(4,1,(aO (.bool true))),(2,1,kI 3)]),S_ 5 2 36,T_ 3]) .skip)))))))))))))))) (rr [o_ 37 (aG xh 5 []),S_ 5 2 37,F_ 3])),38⟩
theorem c199:cF 199=some A199:=bH
def A200:CF:=⟨[aH 4],sr [X_ 2 0,F_ 4] (ir [A_ 5 3 2,L_ 6 5,qu 7 6] 7 (rr [V_ 8 1,o_ 9 (jl (.func 264) [] [z_ 2]),y_ 10 263 [z_ 8,z_ 9],qu 11 10,V_ 4 11]) (rt (.dI [12,13,14,15,16,17,18,19,20,21,22,23,24,25,26,27,28,29,30,31,32,33,34,35] [dT 12 4 2,cK 13 12,Y5 un 14 13,aP 15 14,Xp 15 16 1,hI [15,16] 15 17 (di (bW 1) 16 0) 1,q2_ 15 18 17,Xp 15 19 1,hI [15,19] 15 20 (di (bW 1) 19 1) 1,q2_ 15 21 20,hI [15,18,21] 15 22 (b_ dq 18 21) 1,i_ [15,22] 23 (q_ 15 22) 1,aP 24 23,Xp 24 25 1,hI [24,25] 24 26 (di (bW 1) 25 0) 1,q2_ 24 27 26,hI [24,27] 24 28 (di dq 27 0) 1,i_ [24,28] 29 (q_ 24 28) 1,aP 30 29,Xp 30 31 1,hI [30,31] 30 32 (di (bW 1) 31 1) 1,q2_ 30 33 32,hI [30,33] 30 34 (di dq 33 0) 1,i_ [30,34] 35 (q_ 30 34) 1,aP 4 35]))),36⟩
theorem c200:cF 200=some A200:=bH
def acJ:=R_ [D_ 18 9 1,V_ 9 18]
def Gy:CT:=sr [B_ 10 9 8] (sq (cd 10 .skip (.exit 0)) (sq (.block 1 (sr [J_ 11 8 7 9,N_ 12 8 11,o_ 5 (au nF 8),S_ 8 5 12] (R_ [V_ 13 3,N_ 14 8 5,y_ 15 201 [z_ 14],o_ 16 (aJ nF 1 8 [(0,8,z_ 15)]),o_ 17 (dL 8 104 (z_ 13) (z_ 16)),V_ 3 17]))) acJ))
def NH:=R_ [V_ 19 3,A_ 20 7 1,S_ 1 20 19]
def NG:=R_ [N_ 21 8 1,S_ 8 2 21]
def A201:CF:=⟨[cj 2 8],sr [X_ 1 0,o_ 2 (au nF 8)] (sr [o_ 3 (c_ cJ)] (sq (sr [A_ 6 7 1,L_ 7 6,E_ 8 7,I_ 9 0] (bl 0 Gy)) (sq NH (rt NG)))),22⟩
theorem c201:cF 201=some A201:=bH
def acI:=R_ [V_ 19 8,V_ 7 19]
def acH:=R_ [V_ 20 8,V_ 21 6,eR mq 22 20 21,V_ 8 22]
def Oq:CT:=sq (sr [V_ 11 8,V_ 12 1,eR yU 13 11 12] (cd 13 .skip (.exit 0))) (.block 1 (sr [V_ 14 0,V_ 15 7,V_ 16 8,V_ 17 2,y_ 18 265 [z_ 14,z_ 15,z_ 16,z_ 17]] (sq acI acH)))
def acG:=R_ [V_ 23 0,V_ 24 7,V_ 25 1,V_ 26 2,y_ 27 265 [z_ 23,z_ 24,z_ 25,z_ 26]]
def Sj:=R_ [V_ 44 8,V_ 7 44]
def Si:=R_ [V_ 45 8,V_ 46 6,o_ 47 (e2 (bQ .mul) (kI 2) (z_ 46)),eR mq 48 45 47,V_ 8 48]
def Oo:CT:=sq (sr [V_ 33 8,V_ 34 1,eR yU 35 33 34] (cd 35 .skip (.exit 4))) (.block 5 (sr [V_ 36 0,V_ 37 7,V_ 38 7,V_ 39 6,eR mq 40 38 39,V_ 41 8,V_ 42 2,y_ 43 266 [z_ 36,z_ 37,z_ 40,z_ 41,z_ 42]] (sq Sj Si)))
def RZ:=R_ [V_ 49 7,V_ 50 6,eR mq 51 49 50,V_ 9 51]
def RY:=R_ [V_ 52 9,V_ 53 1,B_ 54 52 53]
def RX:=R_ [V_ 55 0,V_ 56 7,V_ 57 9,V_ 58 1,V_ 59 2,y_ 60 266 [z_ 55,z_ 56,z_ 57,z_ 58,z_ 59]]
def FD:=R_ [V_ 61 6,o_ 62 (di (bQ .mul) 61 2),V_ 6 62]
def On:CT:=sq (sr [V_ 28 6,V_ 29 1,B_ 30 28 29] (cd 30 .skip (.exit 2))) (.block 3 (sr [V_ 31 6,o_ 32 (e2 (bQ .mul) (kI 2) (z_ 31)),I_ 7 0,V_ 8 32] (sq (bl 4 Oo) (sq (sq RZ (sq RY (cd 54 RX .skip))) FD))))
def A203:CF:=⟨[],sr [I_ 6 20] (sr [V_ 10 6,I_ 7 0,V_ 8 10] (sq (bl 0 Oq) (sq acG (bl 2 On)))),63⟩
theorem c203:cF 203=some A203:=bH
def acF:=R_ [o_ 11 (aG fJ 3 []),S_ 3 4 11,I_ 5 1]
def acE:=R_ [V_ 12 1,y_ 13 217 [z_ 12],qu 14 13]
def acD:=R_ [o_ 15 (aG fJ 3 []),S_ 3 4 15,I_ 5 5]
def acC:=R_ [N_ 16 8 2,V_ 17 1,y_ 18 218 [z_ 16,z_ 17],W_ 19 0 18,W_ 20 1 18,S_ 3 4 19,V_ 5 20]
def A212:CF:=⟨[cj 4 3,aH 5],sr [X_ 2 0,o_ 4 (au fJ 3),I_ 5 0] (ir [N_ 6 8 2,V_ 7 1,E_ 8 7,y_ 9 216 [z_ 6,z_ 8],qu 10 9] 10 (rt acF) (iq acE 14 (rt acD) (rt acC))),21⟩
theorem c212:cF 212=some A212:=bH
def A213:CF:=⟨[],(R_ [V_ 2 0,vP (bc 3) (z_ 2) [(aO cJ)]]),4⟩
theorem c213:cF 213=some A213:=bH
def A214:CF:=⟨[aH 3],sr [X_ 2 0,F_ 3] (rr [A_ 4 0 2,L_ 5 4,A_ 6 0 1,L_ 7 6,eR dq 8 5 7,V_ 3 8]),9⟩
theorem c214:cF 214=some A214:=bH
def acB:=R_ [L_ 12 1,L_ 13 2,eV fU 14 13 1,L_ 15 3,y_ 16 149 [z_ 12,z_ 14,z_ 15]]
def acA:=R_ [V_ 6 17]
def acz:CT:=.dI [18,19,20,21,22,23,24,25,26,27] [cK 18 1,i_ [18] 19 (aZ (z_ 18)) 1,dT 20 0 19,dT 21 2 20,cK 22 21,cK 23 4,dJ 24 1 22 23,cK 25 24,u1_ bg 26 25,i_ [] 27 (c_ (.int .i64 0)) 1]
def NF:=R_ [V_ 31 6,y_ 32 135 [z_ 31],V_ 33 8,o_ 34 (dL 3 32 (z_ 32) (z_ 33)),V_ 9 34]
def ND:CT:=.dI [36,37,38,39,40,41,42,43,44,45,46,35,47,48] [cK 36 1,i_ [36] 37 (aZ (z_ 36)) 1,dT 38 3 37,dT 39 16 38,cK 40 39,cK 41 2,r6 fU 42 41 1,dJ 43 1 40 42,cK 44 43,aP 45 9,cI [44,45] (bc 46) 150 [z_ 44,z_ 45],aP 35 46,i_ [35] 47 (u_ (jw 0) 35) 1,i_ [35] 48 (u_ (jw 1) 35) 1,aP 10 47,aP 11 48]
def NC:=R_ [L_ 49 3,V_ 50 11,vP (bc 51) (z_ 49) [z_ 50]]
def FC:=R_ [V_ 52 10,V_ 53 52,fy 53 54 5,jh 53 55 9,gvP (z_ 53) true (bc 56) (z_ 54) [z_ 55],g_ 53 57 (un 56),P_ 58 53 57]
def RV:=R_ [D_ 59 27 1,V_ 27 59]
def Gx:CT:=sr [B_ 28 27 26] (sq (cd 28 .skip (.exit 2)) (sq (.block 3 (sr [J_ 29 1 25 27,L_ 30 29,V_ 8 30] (sq NF (sq ND (sq NC (sq FC (cd 58 .ret .skip))))))) RV))
def ep:Code×Code:=WE pG 215 0
theorem aen:eN pG 60 true ep.1=acA :=bH
theorem aem:eN pG 60 true ep.2=(.block 1 (sq acz (.block 2 (.loop Gx)))) :=bH
def A215:CF:=⟨[],sr [X_ 5 0] (sq acB (.block 0 (.range 60 (z_ 16) [17] ep.1 ep.2))),60⟩
theorem c215:cF 215=some A215:=bH
def acy:=R_ [F_ 4]
def vg:=R_ [A_ 12 0 2,L_ 13 12,K_ 14 13 1,V_ 15 14,eI 15 16 1 2,Aa 15 17 3 16,j7 (z_ 15) true (bc 18) 88 [z_ 17],g_ 15 19 (un 18),P_ 20 15 19,V_ 21 20,jg 21 22 0 2,jI 21 23 22,h_ 21 24 (di dq 23 3),pV 21 25 24,eI 25 26 6 2,fy 25 27 26,g_ 25 28 (di jM 27 0),jh 25 29 28,jg 29 30 6 2,jI 29 31 30,jI 29 32 3,h_ 29 33 (b_ oh 31 32),g_ 25 34 (q_ 29 33),h_ 21 35 (p_ 25 34),Q_ 36 21 35]
def FB:=R_ [F_ 4]
def NB:=R_ [A_ 37 7 2,L_ 38 37,o_ 39 (jl (.func 269) [] [z_ 3]),y_ 40 268 [z_ 38,z_ 39],qu 41 40,V_ 4 41]
def A216:CF:=⟨[aH 4],sr [X_ 2 0,X_ 3 1,F_ 4] (iq (.dI [5,6,7,8,9,10,11] [dT 5 0 2,cK 6 5,cI [6] (bc 7) 267 [z_ 6],oD 8 7 2 2,nU 9 8 2,u2_ bg 10 9 2,vR qM 11 7 10]) 11 (rt acy) (iq vg 36 (rt FB) (rt NB))),42⟩
theorem c216:cF 216=some A216:=bH
def A217:CF:=⟨[aH 2],sr [F_ 2] (rr [V_ 3 0,y_ 4 270 [z_ 3,kf 271],qu 5 4,V_ 2 5]),6⟩
theorem c217:cF 217=some A217:=bH
def FA:=R_ [V_ 38 10,H_ 39 38 0]
def wW:=R_ [o_ 40 (aG fJ 3 []),V_ 41 10,S_ 3 4 40,V_ 5 41]
def Fz:=R_ [V_ 42 7,N_ 43 3 9,o_ 44 (b_ (gB 2 3) 6 42),S_ 3 44 43]
def Fv:=R_ [D_ 45 27 1,V_ 27 45]
def Om:CT:=sr [B_ 28 27 26] (sq (cd 28 .skip (.exit 1)) (sq (.block 2 (sr [V_ 29 27,J_ 30 8 25 27,N_ 31 8 30,o_ 8 (au nF 8),V_ 7 29,S_ 8 8 31] (sr [N_ 33 8 8,V_ 34 1,y_ 35 218 [z_ 33,z_ 34],V_ 32 35,W_ 36 0 32,W_ 37 1 32,o_ 9 (au fJ 3),S_ 3 9 36,V_ 10 37] (iq FA 39 (rt wW) Fz)))) Fv))
def qX:=R_ [A_ 46 0 2,L_ 47 46]
def qW:=R_ [K_ 49 47 4,V_ 48 49]
def RQ:=R_ [o_ 50 (di (gB 2 3) 6 0),N_ 51 3 50,y_ 52 272 [z_ 51],W_ 53 0 52,W_ 54 1 52,S_ 3 4 53,V_ 5 54]
def uh:=R_ [K_ 56 47 5,V_ 55 56]
def RP:=R_ [o_ 57 (di (gB 2 3) 6 0),N_ 58 3 57,y_ 59 273 [z_ 58],W_ 60 0 59,W_ 61 1 59,S_ 3 4 60,V_ 5 61]
def wV:=R_ [K_ 63 47 6,V_ 62 63]
def RN:=R_ [o_ 64 (di (gB 2 3) 6 0),A_ 65 0 64,L_ 66 65,K_ 67 66 0,y_ 68 219 [z_ 67],S_ 3 4 68,I_ 5 0]
def Ft:=R_ [K_ 70 47 7,V_ 69 70]
def RL:=R_ [o_ 71 (di (gB 2 3) 6 0),A_ 72 0 71,L_ 73 72,H_ 74 73 0,y_ 75 219 [z_ 74],S_ 3 4 75,I_ 5 0]
def RJ:CT:=.dI [76,77,78,79,80,81,82,83,84,85,86,87] [cI [] (bc 76) 274 [],oD 77 0 2 2,nU 78 77 2,i_ [78] 79 (di fU 78 8) 2,i_ [76,79] 80 (b_ (Zk 14 1 false) 76 79) 1,i_ [6] 81 (di (gB 2 3) 6 0) 2,lP 82 3 81 2,i_ [6] 83 (di (gB 2 3) 6 1) 2,lP 84 3 83 2,vI [80,82,84] (bc 85) (z_ 80) [z_ 82,z_ 84],i_ [85] 86 (u_ (jw 0) 85) 1,i_ [85] 87 (u_ (jw 1) 85) 1,eP 3 4 86,aP 5 87]
def A218:CF:=⟨[cj 4 3,aH 5],sr [X_ 2 0,o_ 4 (au fJ 3),I_ 5 0] (sq (sr [A_ 11 0 2,L_ 12 11] (.block 0 (sr [K_ 14 12 1,V_ 13 14] (cd 13 (rr [A_ 15 1 2,N_ 16 3 15,S_ 3 4 16,I_ 5 0]) (sr [K_ 18 12 3,V_ 17 18] (cd 17 (rr [V_ 19 1,A_ 20 6 2,L_ 21 20,J_ 22 3 19 21,N_ 23 3 22,S_ 3 4 23,I_ 5 0]) .skip)))))) (sr [o_ 6 (au [.int .i64 0,.int .i64 0,.str [],.int .i64 0,.int .i64 0,.str []] 6)] (sq (sr [A_ 24 7 2,L_ 25 24,E_ 26 25,I_ 27 0] (bl 1 Om)) (sq (sq qX (.block 3 (sq qW (cd 48 (rt RQ) (sq uh (cd 55 (rt RP) (sq wV (cd 62 (rt RN) (sq Ft (cd 69 (rt RL) .skip)))))))))) (rt RJ))))),88⟩
theorem c218:cF 218=some A218:=bH
def A219:CF:=⟨[cj 2 3],sr [o_ 2 (au fJ 3)] (sr [o_ 4 (aG fJ 3 [(0,1,kI 3)]),o_ 3 (au fJ 3),S_ 3 3 4] (ir [V_ 5 0] 5 (R_ [A_ 6 1 3,oP rj (dD 1 (z_ 6) (kI 1))]) (rr [N_ 7 3 3,S_ 3 2 7]))),8⟩
theorem c219:cF 219=some A219:=bH
def vf:=R_ [V_ 21 2,V_ 22 1,eR fU 23 21 22,V_ 12 23]
def ve:=R_ [V_ 24 12,eV yU 25 24 12]
def EW:=R_ [V_ 26 0,V_ 27 1,V_ 28 2,V_ 29 4,y_ 30 265 [z_ 26,z_ 27,z_ 28,z_ 29]]
def EV:=R_ [V_ 31 3,K_ 32 31 0]
def NA:=R_ [V_ 33 0,V_ 34 1,V_ 35 2,V_ 36 4,y_ 37 275 [z_ 33,z_ 34,z_ 35,z_ 36]]
def EU:=R_ [V_ 38 10,qu 39 38]
def M_:=R_ [V_ 40 0,V_ 41 1,V_ 42 2,V_ 43 4,y_ 44 276 [z_ 40,z_ 41,z_ 42,z_ 43]]
def M9:=R_ [V_ 45 3,eV fU 46 45 1,V_ 3 46]
def Fj:=R_ [V_ 48 0,V_ 49 1,V_ 50 2,V_ 51 4,y_ 52 277 [z_ 48,z_ 49,z_ 50,z_ 51],V_ 47 52,W_ 53 0 47,W_ 54 1 47,V_ 13 53,V_ 14 54]
def wU:=R_ [V_ 55 14,K_ 56 55 2]
def Fh:=R_ [V_ 57 0,V_ 58 1,V_ 59 2,V_ 60 4,y_ 61 278 [z_ 57,z_ 58,z_ 59,z_ 60]]
def Fg:=R_ [V_ 62 2,eV fU 63 62 1,V_ 64 13,V_ 65 1,eR fU 66 64 65,eR fU 67 63 66,V_ 13 67]
def Fe:=R_ [I_ 14 1]
def qV:=R_ [V_ 68 10,V_ 69 68,jh 69 70 11,P_ 71 69 70,V_ 72 71,jh 72 73 14,g_ 72 74 (di dq 73 1),P_ 75 72 74]
def Fb:=R_ [V_ 76 0,V_ 77 1,V_ 78 2,V_ 79 4,y_ 80 279 [z_ 76,z_ 77,z_ 78,z_ 79]]
def wT:CT:=.dI [81,82,83,84,85,86,87,88,89,90,91,92,93,94,95,96,97] [aP 81 1,r6 mG 82 81 0,aP 83 82,gi 83 84 4,gi 83 85 0,gi 83 86 1,gI [83,86] 83 87 (di fU 86 1) 1,gI [83,85,87] 83 88 (b_ (bW 1) 85 87) 1,rm 83 89 88,gi 83 90 0,gi 83 91 13,gI [83,90,91] 83 92 (b_ (bW 1) 90 91) 1,rm 83 93 92,YF [83,84,89,93] (z_ 83) true (bc 94) (z_ 84) [z_ 89,z_ 93],gI [83,94] 83 95 (di jM 94 0) 1,gI [83,95] 83 96 (un 95) 1,i_ [83,96] 97 (p_ 83 96) 1]
def Fa:=R_ [V_ 98 0,V_ 99 1,V_ 100 2,V_ 101 13,V_ 102 4,y_ 103 280 [z_ 98,z_ 99,z_ 100,z_ 101,z_ 102],V_ 15 103]
def E':=R_ [V_ 104 15,V_ 1 104]
def E9:=R_ [V_ 106 0,V_ 107 1,V_ 108 2,V_ 109 13,V_ 110 4,y_ 111 281 [z_ 106,z_ 107,z_ 108,z_ 109,z_ 110],V_ 105 111,W_ 112 0 105,W_ 113 1 105,V_ 16 112,V_ 17 113]
def E8:=R_ [V_ 114 17,V_ 11 114]
def E7:=R_ [V_ 115 16,V_ 116 1,eR fU 117 115 116,V_ 118 2,V_ 119 16,eR fU 120 118 119,V_ 18 117,V_ 19 120]
def E6:=R_ [V_ 121 12,o_ 122 (di (bQ .quo) 121 8),V_ 20 122]
def E4:=R_ [V_ 123 18,V_ 124 19,B_ 125 123 124]
def E3:=R_ [V_ 126 18,V_ 127 20,eR oh 128 126 127,V_ 10 128]
def E2:=R_ [V_ 129 0,V_ 130 1,V_ 131 16,V_ 132 3,V_ 133 4,y_ 134 220 [z_ 129,z_ 130,z_ 131,z_ 132,z_ 133]]
def E1:=R_ [V_ 135 16,D_ 136 135 1,V_ 1 136]
def EZ:=R_ [V_ 137 19,V_ 138 20,eR oh 139 137 138,V_ 10 139]
def EY:=R_ [V_ 140 0,V_ 141 16,D_ 142 141 1,V_ 143 2,V_ 144 3,V_ 145 4,y_ 146 220 [z_ 140,z_ 142,z_ 143,z_ 144,z_ 145]]
def EX:=R_ [V_ 147 16,V_ 2 147]
def Ol:CT:=.block 1 (sq vf (iq ve 25 (rt EW) (iq EV 32 (rt NA) (iq EU 39 (sq M_ M9) (sq Fj (iq wU 56 (sq Fh (sq Fg Fe)) (iq qV 75 (sq Fb (cd 80 .ret .skip)) (iq wT 97 (sq Fa (sq E' (.exit 1))) (sq E9 (sq E8 (sq E7 (sq E6 (sq E4 (cd 125 (sq E3 (sq E2 E1)) (sq EZ (sq EY EX))))))))))))))))
def A220:CF:=⟨[],sr [T_ 10] (sr [T_ 11] (bl 0 Ol)),148⟩
theorem c220:cF 220=some A220:=bH
def A221:CF:=⟨[aH 2],sr [I_ 2 0] (sq (.cond (aO (.bool false)) (rr [V_ 3 0,o_ 4 (u_ (bZ .u32) 3),y_ 5 282 [z_ 4],V_ 2 5]) .skip) (rr [V_ 6 0,y_ 7 283 [z_ 6],V_ 2 7])),8⟩
theorem c221:cF 221=some A221:=bH
def am1:CT:=sr [B_ 9 8 7] (sq (cd 9 .skip (.exit 0)) (sq (.block 1 (sr [V_ 10 8,V_ 5 10] (sr [V_ 11 1,V_ 12 0,V_ 13 5,J_ 14 1 12 13,L_ 15 14,eR dq 16 11 15] (cd 16 (rr [V_ 17 5,V_ 4 17]) .skip)))) (R_ [D_ 18 8 1,V_ 8 18])))
def A226:CF:=⟨[aH 4],sr [I_ 4 0] (sq (sr [V_ 6 0,E_ 7 6,I_ 8 0] (bl 0 am1)) (rr [o_ 4 (c_ (.int .i64 (-1)))])),19⟩
theorem c226:cF 226=some A226:=bH
def A227:CF:=⟨[aH 2],sr [I_ 2 0] (sr [I_ 3 0] (sq (sr [V_ 4 0] (.block 0 (sq (.block 3 (sq (.block 2 (sq (.block 1 (sq (ir [K_ 6 4 2,V_ 5 6] 5 (.exit 1) (ir [K_ 8 4 1,V_ 7 8] 7 (.exit 2) (sr [K_ 10 4 3,V_ 9 10] (cd 9 (.exit 3) .skip)))) (.exit 0))) (R_ [V_ 11 3,D_ 12 11 1,V_ 3 12]))) (R_ [V_ 13 3,D_ 14 13 1,V_ 3 14]))) (sr [V_ 15 3,D_ 16 15 1,V_ 3 16] (.exit 0))))) (rr [V_ 17 3,V_ 2 17]))),18⟩
theorem c227:cF 227=some A227:=bH
def A228:CF:=⟨[aH 4],sr [I_ 4 0] (rr [V_ 5 0,V_ 6 1,y_ 7 285 [z_ 5,z_ 6],V_ 4 7]),8⟩
theorem c228:cF 228=some A228:=bH
def M8:=R_ [D_ 38 18 1,V_ 18 38]
def adY:CT:=sr [B_ 19 18 17] (sq (cd 19 .skip (.exit 0)) (sq (.block 1 (sr [V_ 20 18,V_ 6 20] (.dI [21,22,23,24,25,26,27,28,29,30,31,32,33,34,35,36,37] [aP 22 0,i_ [22] 23 (aZ (z_ 22)) 1,dT 24 0 23,dT 25 1 24,cK 26 25,aP 27 1,i_ [27] 28 (u_ (bZ .u64) 27) 1,aP 29 6,i_ [29] 30 (e2 (bQ .mul) (kI 8) (z_ 29)) 1,i_ [28,30] 31 (b_ (bQ .shr) 28 30) 1,i_ [31] 32 (u_ (bZ .u8) 31) 1,i_ [32] 33 (aJ Ab 1 1 [(0,1,z_ 32)]) 1,mI [26,33] (bc 34) (dL 1 1 (z_ 26) (z_ 33)),iz 21 0 2,i_ [21] 35 (aZ (z_ 21)) 1,dT 36 0 35,dT 37 1 36,eP 1 37 34]))) M8))
def A229:CF:=⟨[],ir [V_ 7 0,o_ 8 (d_ (kG false .ptr) 7 (.aV (.pointer none))),V_ 9 8,pV 9 10 0,h_ 9 11 (aZ (z_ 10)),jg 9 12 0 11,jg 9 13 0 12,jI 9 14 13,h_ 9 15 (un 14),Q_ 16 9 15] 16 .ret (sr [V_ 17 2,I_ 18 0] (bl 0 adY)),39⟩
theorem c229:cF 229=some A229:=bH
def A230:CF:=⟨[],sr [X_ 3 1] (R_ [V_ 4 0,A_ 5 1 3,L_ 6 5,y_ 7 231 [z_ 4,z_ 6]]),8⟩
theorem c230:cF 230=some A230:=bH
def A231:CF:=⟨[],(R_ [V_ 4 0,V_ 5 1,o_ 6 (u_ (bZ .u64) 5),o_ 7 (d_ (bQ .shl) 6 (.int .u64 1)),V_ 8 1,o_ 9 (d_ (bQ .shr) 8 (.int .u64 63)),o_ 10 (u_ (bZ .u64) 9),o_ 11 (b_ (bQ .xor) 7 10),y_ 12 286 [z_ 4,z_ 11]]),13⟩
theorem c231:cF 231=some A231:=bH
def A234:CF:=⟨[],sr [X_ 3 1] (R_ [V_ 4 0,A_ 5 2 3,L_ 6 5,y_ 7 235 [z_ 4,z_ 6]]),8⟩
theorem c234:cF 234=some A234:=bH
def acx:=R_ [V_ 9 0,V_ 10 1,o_ 11 (U4 (z_ 10)),y_ 12 288 [z_ 9,z_ 11]]
def A235:CF:=⟨[],sr [V_ 4 0,V_ 5 1,u3_ jm 6 5,o_ 7 (u_ (bZ .u64) 6),y_ 8 286 [z_ 4,z_ 7]] acx,13⟩
theorem c235:cF 235=some A235:=bH
def A238:CF:=⟨[],sr [X_ 3 1] (R_ [V_ 4 0,A_ 5 1 3,L_ 6 5,o_ 7 (u_ (bZ .u8) 6),y_ 8 167 [z_ 4,z_ 7]]),9⟩
theorem c238:cF 238=some A238:=bH
def acf:=R_ [A_ 24 1 3,L_ 25 24,o_ 26 (u_ (bZ .u64) 25),o_ 27 (d_ (bQ .xor) 26 (.int .u64 9223372036854775808)),V_ 5 27]
def ace:=R_ [I_ 6 56]
def RH:=R_ [V_ 30 6,eV fU 31 30 8,V_ 6 31]
def Gw:CT:=lr [V_ 28 6,eV oh 29 28 0] 29 1 2 (R_ [V_ 32 0,V_ 33 5,V_ 34 6,o_ 35 (b_ (bQ .shr) 33 34),o_ 36 (u_ (bZ .u8) 35),o_ 37 (aJ Ab 1 1 [(0,1,z_ 36)]),o_ 38 (dL 1 1 (z_ 32) (z_ 37)),V_ 0 38]) RH
def RG:=R_ [V_ 39 0,V_ 4 39]
def RF:=R_ [A_ 45 2 3,L_ 46 45,u3_ jm 47 46,I_ 48 0]
def RE:=R_ [A_ 58 2 3,L_ 59 58,V_ 60 7,eR pj 61 59 60,o_ 62 (d_ dq 61 (.int .u8 0))]
def RD:=R_ [V_ 63 0,o_ 64 (aJ Ab 1 1 [(0,1,(aO (.int .u8 255)))]),o_ 65 (dL 1 1 (z_ 63) (z_ 64)),V_ 0 65]
def ES:=R_ [D_ 66 48 1,V_ 48 66]
def Gv:CT:=sr [B_ 49 48 47] (sq (cd 49 .skip (.exit 3)) (sq (.block 4 (sr [V_ 50 48,V_ 7 50] (sr [V_ 51 0,A_ 52 2 3,L_ 53 52,V_ 54 7,eR pj 55 53 54,o_ 56 (aJ Ab 1 1 [(0,1,z_ 55)]),o_ 57 (dL 1 1 (z_ 51) (z_ 56)),V_ 0 57] (sq RE (cd 62 RD .skip))))) ES))
def RB:=R_ [V_ 67 0,o_ 68 (aJ Ab 2 1 [(0,1,(aO (.int .u8 0))),(1,1,(aO (.int .u8 1)))]),o_ 69 (dL 1 1 (z_ 67) (z_ 68)),V_ 4 69]
def A241:CF:=⟨[aH 4],sr [X_ 3 1,o_ 4 (c_ cJ)] (sq (sr [A_ 8 0 3,L_ 9 8] (.block 0 (sr [K_ 11 9 3,V_ 10 11] (cd 10 (rr [V_ 12 0,A_ 13 1 3,L_ 14 13,o_ 15 (e2 mq (kI 2) (z_ 14)),o_ 16 (u_ (bZ .u8) 15),o_ 17 (aJ Ab 1 1 [(0,1,z_ 16)]),o_ 18 (dL 1 1 (z_ 12) (z_ 17)),V_ 4 18]) (sr [K_ 20 9 1,V_ 19 20] (cd 19 (sr [V_ 21 0,o_ 22 (aJ Ab 1 1 [(0,1,(aO (.int .u8 4)))]),o_ 23 (dL 1 1 (z_ 21) (z_ 22)),V_ 0 23] (sq acf (sq (sq ace (bl 1 Gw)) (rt RG)))) (sr [K_ 41 9 2,V_ 40 41] (cd 40 (sr [V_ 42 0,o_ 43 (aJ Ab 1 1 [(0,1,(aO (.int .u8 5)))]),o_ 44 (dL 1 1 (z_ 42) (z_ 43)),V_ 0 44] (sq (sq RF (bl 3 Gv)) (rt RB))) .skip)))))))) (rr [V_ 70 0,o_ 71 (aJ Ab 1 1 [(0,1,(aO (.int .u8 1)))]),o_ 72 (dL 1 1 (z_ 70) (z_ 71)),V_ 4 72])),73⟩
theorem c241:cF 241=some A241:=bH
def A262:CF:=⟨[aH 3],sr [X_ 2 0,F_ 3] (rr [A_ 4 0 2,L_ 5 4,L_ 6 1,eR dq 7 5 6,V_ 3 7]),8⟩
theorem c262:cF 262=some A262:=bH
def A263:CF:=⟨[aH 4],sr [F_ 4] (rr [V_ 5 0,V_ 6 1,y_ 7 301 [z_ 5,z_ 6],eV oh 8 7 0,V_ 4 8]),9⟩
theorem c263:cF 263=some A263:=bH
def A264:CF:=⟨[aH 3],sr [F_ 3] (rr [V_ 4 0,H_ 5 4 0,V_ 6 5,jh 6 7 0,eI 6 8 1 1,fy 6 9 8,g_ 6 10 (b_ qM 7 9),P_ 11 6 10,V_ 3 11]),12⟩
theorem c264:cF 264=some A264:=bH
def ab_:CT:=.dI [37,38,39,40,41,42,43,44,45,46,47,48,49,50,51,52] [aP 37 0,aP 38 9,aP 42 0,aP 43 9,r6 fU 44 43 1,dJ 45 1 42 44,cK 46 45,aP 47 0,aP 48 9,dJ 49 1 47 48,cK 50 49,dJ 51 1 37 38,eP 1 51 46,iz 39 0 2,iz 40 9 2,i_ [40] 41 (di fU 40 1) 2,dJ 52 1 39 41,eP 1 52 50]
def ab9:=R_ [V_ 35 9,eV fU 36 35 1,V_ 9 36]
def zS:CT:=lp (.dI [18,19,20,21,22,23,24,25,26,27,28,29,30,31,32,33,34] [aP 18 9,aP 19 1,vR mG 20 18 19,aP 21 20,gi 21 22 3,gi 21 23 0,gi 21 24 9,gI [21,23,24] 21 25 (b_ (bW 1) 23 24) 1,rm 21 26 25,gi 21 27 0,gi 21 28 9,gI [21,28] 21 29 (di fU 28 1) 1,gI [21,27,29] 21 30 (b_ (bW 1) 27 29) 1,rm 21 31 30,YF [21,22,26,31] (z_ 21) true (bc 32) (z_ 22) [z_ 26,z_ 31],gI [21,32] 21 33 (di jM 32 0) 1,i_ [21,33] 34 (p_ 21 33) 1]) 34 2 3 ab_ ab9
def ER:=R_ [V_ 15 8,D_ 16 15 1,V_ 8 16]
def vj:CT:=lr [V_ 12 8,V_ 13 2,B_ 14 12 13] 14 0 1 (sr [V_ 17 8,V_ 9 17] (bl 2 zS)) ER
def A265:CF:=⟨[],sr [V_ 10 1,D_ 11 10 1,V_ 8 11] (bl 0 vj),53⟩
theorem c265:cF 265=some A265:=bH
def ab8:=R_ [V_ 53 12,V_ 11 53]
def N9:CT:=sq (sr [V_ 31 10,V_ 32 11,B_ 33 31 32] (cd 33 .skip (.exit 0))) (.block 1 (sr [V_ 34 10,V_ 35 11,eR mq 36 34 35,o_ 37 (u_ (bZ .u64) 36),o_ 38 (d_ (bQ .shr) 37 (.int .u64 1)),o_ 39 (u_ (bZ .i64) 38),V_ 12 39] (sq (.dI [40,41,42,43,44,45,46,47,48,49,50] [aP 40 4,aP 41 0,aP 42 12,dJ 43 1 41 42,cK 44 43,aP 45 0,aP 46 1,dJ 47 1 45 46,cK 48 47,vI [40,44,48] (bc 49) (z_ 40) [z_ 44,z_ 48],r6 jM 50 49 0]) (cd 50 (R_ [V_ 51 12,D_ 52 51 1,V_ 10 52]) ab8))))
def ab7:=R_ [V_ 54 1,V_ 13 54]
def adX:CT:=lr [V_ 55 13,V_ 56 10,eV fU 57 56 1,B_ 58 55 57] 58 2 3 (.dI [61,62,63,64,65,66,67,68,69,70,71,72,73,74,75,76] [aP 61 0,aP 62 13,aP 66 0,aP 67 13,r6 mq 68 67 1,dJ 69 1 66 68,cK 70 69,aP 71 0,aP 72 13,dJ 73 1 71 72,cK 74 73,dJ 75 1 61 62,eP 1 75 70,iz 63 0 2,iz 64 13 2,i_ [64] 65 (di mq 64 1) 2,dJ 76 1 63 65,eP 1 76 74]) (R_ [V_ 59 13,D_ 60 59 1,V_ 13 60])
def RA:=R_ [V_ 104 16,D_ 105 104 1,V_ 14 105]
def N8:CT:=sq (sr [V_ 83 14,V_ 84 15,B_ 85 83 84] (cd 85 .skip (.exit 4))) (.block 5 (sr [V_ 86 14,V_ 87 15,eR mq 88 86 87,o_ 89 (u_ (bZ .u64) 88),o_ 90 (d_ (bQ .shr) 89 (.int .u64 1)),o_ 91 (u_ (bZ .i64) 90),V_ 16 91] (sq (.dI [92,93,94,95,96,97,98,99,100,101,102,103] [aP 92 4,aP 93 0,aP 94 2,dJ 95 1 93 94,cK 96 95,aP 97 0,aP 98 16,dJ 99 1 97 98,cK 100 99,vI [92,96,100] (bc 101) (z_ 92) [z_ 96,z_ 100],r6 jM 102 101 0,Y5 un 103 102]) (cd 103 RA (R_ [V_ 106 16,V_ 15 106])))))
def Rz:=R_ [V_ 107 2,V_ 17 107]
def adW:CT:=lr [V_ 108 17,V_ 109 14,eR mG 110 108 109] 110 6 7 (.dI [113,114,115,116,117,118,119,120,121,122,123,124,125,126,127,128] [aP 113 0,aP 114 17,aP 118 0,aP 119 17,r6 fU 120 119 1,dJ 121 1 118 120,cK 122 121,aP 123 0,aP 124 17,dJ 125 1 123 124,cK 126 125,dJ 127 1 113 114,eP 1 127 122,iz 115 0 2,iz 116 17 2,i_ [116] 117 (di fU 116 1) 2,dJ 128 1 115 117,eP 1 128 126]) (R_ [V_ 111 17,eV fU 112 111 1,V_ 17 112])
def EP:=R_ [V_ 147 19,eV fU 148 147 1,V_ 22 148]
def Ry:=R_ [V_ 172 23,D_ 173 172 1,V_ 20 173]
def Gu:CT:=sq (sr [V_ 149 20,V_ 150 21,B_ 151 149 150] (cd 151 .skip (.exit 8))) (.block 9 (sr [V_ 152 20,V_ 153 21,eR mq 154 152 153,o_ 155 (u_ (bZ .u64) 154),o_ 156 (d_ (bQ .shr) 155 (.int .u64 1)),o_ 157 (u_ (bZ .i64) 156),V_ 23 157] (sq (.dI [158,159,160,161,162,163,164,165,166,167,168,169,170,171] [aP 158 4,aP 159 0,aP 160 22,aP 161 23,vR fU 162 160 161,dJ 163 1 159 162,cK 164 163,aP 165 0,aP 166 23,dJ 167 1 165 166,cK 168 167,vI [158,164,168] (bc 169) (z_ 158) [z_ 164,z_ 168],r6 jM 170 169 0,Y5 un 171 170]) (cd 171 Ry (R_ [V_ 174 23,V_ 21 174])))))
def ug:=R_ [V_ 175 19,V_ 176 20,eR fU 177 175 176,V_ 24 177]
def uf:=R_ [V_ 178 20,V_ 179 2,B_ 180 178 179,V_ 181 180,jh 181 182 2,jh 181 183 24,g_ 181 184 (b_ jM 182 183),P_ 185 181 184]
def Rx:=R_ [V_ 186 0,V_ 187 20,V_ 188 2,V_ 189 24,V_ 190 4,y_ 191 302 [z_ 186,z_ 187,z_ 188,z_ 189,z_ 190]]
def ue:=R_ [V_ 192 1,V_ 193 20,B_ 194 192 193,V_ 195 194,jh 195 196 20,jh 195 197 18,g_ 195 198 (b_ jM 196 197),P_ 199 195 198]
def EO:=R_ [V_ 200 0,V_ 201 1,V_ 202 20,V_ 203 18,V_ 204 4,y_ 205 266 [z_ 200,z_ 201,z_ 202,z_ 203,z_ 204]]
def ud:=R_ [V_ 206 18,V_ 207 24,B_ 208 206 207,V_ 209 208,jh 209 210 24,jh 209 211 3,g_ 209 212 (b_ jM 210 211),P_ 213 209 212]
def EN:=R_ [V_ 214 0,V_ 215 18,V_ 216 24,V_ 217 3,V_ 218 4,y_ 219 266 [z_ 214,z_ 215,z_ 216,z_ 217,z_ 218]]
def A266:CF:=⟨[],ir [V_ 25 2,V_ 26 1,eR fU 27 25 26,K_ 28 27 1] 28 (sr [V_ 29 2,V_ 10 29] (sr [V_ 30 3,V_ 11 30] (sq (bl 0 N9) (rt (sq ab7 (bl 2 adX)))))) (ir [V_ 77 3,V_ 78 2,eR fU 79 77 78,K_ 80 79 1] 80 (sr [V_ 81 1,V_ 14 81] (sr [V_ 82 2,V_ 15 82] (sq (bl 4 N8) (rt (sq Rz (bl 6 adW)))))) (sr [V_ 129 1,V_ 130 3,eR mq 131 129 130,o_ 132 (u_ (bZ .u64) 131),o_ 133 (d_ (bQ .shr) 132 (.int .u64 1)),o_ 134 (u_ (bZ .i64) 133),V_ 18 134] (sr [V_ 135 18,V_ 136 2,eR mq 137 135 136,V_ 19 137] (sr [I_ 20 0,I_ 21 0] (sq (sr [V_ 138 2,V_ 139 18,eR mG 140 138 139] (cd 140 (sr [V_ 141 19,V_ 142 3,eR fU 143 141 142,V_ 20 143] (R_ [V_ 144 18,V_ 21 144])) (sr [V_ 145 1,V_ 20 145] (R_ [V_ 146 2,V_ 21 146])))) (sq EP (sq (bl 8 Gu) (sq ug (iq uf 185 Rx (iq ue 199 EO (sq ud (cd 213 EN .skip)))))))))))),220⟩
theorem c266:cF 266=some A266:=bH
def A267:CF:=⟨[aH 2],sr [I_ 2 0] (sq (.block 0 (sr [V_ 4 0,K_ 5 4 1,V_ 6 5,pV 6 7 0,h_ 6 8 (di dq 7 3),Q_ 9 6 8,V_ 3 9] (cd 3 (rr [I_ 2 0]) (sr [V_ 11 0,eV oh 12 11 4,V_ 13 12,jh 13 14 0,g_ 13 15 (di yU 14 7),P_ 16 13 15,V_ 10 16] (cd 10 (rr [I_ 2 1]) (sr [V_ 18 0,eV oh 19 18 8,V_ 20 19,jh 20 21 0,g_ 20 22 (di yU 21 21),P_ 23 20 22,V_ 17 23] (cd 17 (rr [I_ 2 2]) .skip))))))) (rr [o_ 2 (c_ (.int .i64 (-1)))])),24⟩
theorem c267:cF 267=some A267:=bH
def A268:CF:=⟨[aH 4],sr [F_ 4] (rr [V_ 5 0,V_ 6 1,y_ 7 303 [z_ 5,z_ 6],eV oh 8 7 0,V_ 4 8]),9⟩
theorem c268:cF 268=some A268:=bH
def A269:CF:=⟨[aH 3],sr [X_ 2 0,F_ 3] (rr [N_ 4 8 2,L_ 5 1,y_ 6 216 [z_ 4,z_ 5],qu 7 6,V_ 3 7]),8⟩
theorem c269:cF 269=some A269:=bH
def A270:CF:=⟨[aH 4],sr [F_ 4] (rr [V_ 5 0,V_ 6 1,y_ 7 304 [z_ 5,z_ 6],eV oh 8 7 0,V_ 4 8]),9⟩
theorem c270:cF 270=some A270:=bH
def A271:CF:=⟨[aH 2],sr [X_ 1 0,F_ 2] (rr [N_ 3 3 1,y_ 4 88 [z_ 3],qu 5 4,V_ 2 5]),6⟩
theorem c271:cF 271=some A271:=bH
def A272:CF:=⟨[cj 2 3,aH 3],sr [X_ 1 0,o_ 2 (au fJ 3),I_ 3 0] (rr [o_ 4 (aG fJ 3 [(0,1,kI 1)]),N_ 5 3 1,y_ 6 305 [z_ 4,z_ 5,kf 306],W_ 7 0 6,W_ 8 1 6,S_ 3 2 7,V_ 3 8]),9⟩
theorem c272:cF 272=some A272:=bH
def EM:=R_ [V_ 8 4,H_ 9 8 0,V_ 10 9,jg 10 11 0 1,jI 10 12 11,h_ 10 13 (di dq 12 0),Q_ 14 10 13]
def MP:=R_ [o_ 15 (aG fJ 3 []),V_ 16 4,S_ 3 2 15,V_ 3 16]
def ab6:=R_ [A_ 17 1 1,L_ 18 17,K_ 19 18 0,y_ 20 308 [z_ 19],S_ 3 2 20,I_ 3 0]
def A273:CF:=⟨[cj 2 3,aH 3],sr [X_ 1 0,o_ 2 (au fJ 3),I_ 3 0] (sq (sr [N_ 5 3 1,o_ 6 (aJ fJ 1 3 [(0,3,z_ 5)]),y_ 7 307 [kI 3,z_ 6],V_ 4 7] (sq EM (cd 14 (rt MP) .skip))) (rt ab6)),21⟩
theorem c273:cF 273=some A273:=bH
def A274:CF:=⟨[cj 0 14],sr [o_ 0 (au ajs 14)] (rr [o_ 1 (aG ajs 14 [(0,1,kf 309),(1,1,kf 310),(2,1,kf 311),(3,1,kf 312),(4,1,kf 313),(5,1,kf 314),(6,1,kf 315),(7,1,kf 316),(8,1,kf 317),(9,1,kf 318),(10,1,kf 319),(11,1,kf 320),(12,1,kf 321),(13,1,kf 322)]),S_ 14 0 1]),2⟩
theorem c274:cF 274=some A274:=bH
def ab5:=R_ [V_ 22 11,eV fU 23 22 1,V_ 11 23]
def N7:CT:=lr [V_ 20 11,eV oh 21 20 0] 21 0 1 (R_ [V_ 24 0,V_ 25 11,V_ 26 10,V_ 27 8,V_ 28 3,y_ 29 323 [z_ 24,z_ 25,z_ 26,z_ 27,z_ 28]]) ab5
def ab4:=R_ [V_ 30 10,eV fU 31 30 1,V_ 12 31]
def Ru:=R_ [V_ 54 0,V_ 55 9,V_ 56 12,V_ 57 8,V_ 58 3,y_ 59 323 [z_ 54,z_ 55,z_ 56,z_ 57,z_ 58]]
def Rt:=R_ [V_ 34 12,eV fU 35 34 1,V_ 12 35]
def NZ:CT:=lr [V_ 32 12,eV oh 33 32 0] 33 2 3 (sq (.dI [36,37,38,39,40,41,42,43,44,45,46,47,48,49,50,51,52,53] [aP 36 0,aP 37 8,aP 42 0,aP 43 8,aP 44 12,vR mq 45 43 44,dJ 46 1 42 45,cK 47 46,aP 48 0,aP 49 8,dJ 50 1 48 49,cK 51 50,dJ 52 1 36 37,eP 1 52 47,iz 38 0 2,iz 39 8 2,iz 40 12 2,i_ [39,40] 41 (b_ mq 39 40) 2,dJ 53 1 38 41,eP 1 53 51]) Ru) Rt
def A275:CF:=⟨[],sr [V_ 13 1,V_ 8 13] (sr [I_ 9 0] (sr [V_ 14 2,V_ 15 1,eR fU 16 14 15,V_ 10 16] (sq (sr [V_ 17 10,eV fU 18 17 1,o_ 19 (di (bQ .quo) 18 2),V_ 11 19] (bl 0 N7)) (sq ab4 (bl 2 NZ))))),60⟩
theorem c275:cF 275=some A275:=bH
def ab3:=R_ [V_ 22 1,V_ 23 8,o_ 24 (di (bQ .quo) 23 4),o_ 25 (di (bQ .mul) 24 2),eR mq 26 22 25,eV fU 27 26 1,V_ 11 27]
def MO:=R_ [V_ 43 12,V_ 44 8,eR oh 45 43 44]
def ab2:=R_ [V_ 46 12,V_ 47 8,eR fU 48 46 47,V_ 12 48]
def MN:CT:=.dI [49,50,51,52,53,54,55,56,57,58,59,60,61,62,63,64,65,66] [aP 49 0,aP 50 11,aP 55 0,aP 56 1,aP 57 12,vR mq 58 56 57,dJ 59 1 55 58,cK 60 59,aP 61 0,aP 62 11,dJ 63 1 61 62,cK 64 63,dJ 65 1 49 50,eP 1 65 60,iz 51 0 2,iz 52 1 2,iz 53 12 2,i_ [52,53] 54 (b_ mq 52 53) 2,dJ 66 1 51 54,eP 1 66 64]
def EL:=R_ [V_ 36 11,D_ 37 36 1,V_ 11 37]
def NY:CT:=lr [V_ 28 11,V_ 29 1,V_ 30 8,o_ 31 (di (bQ .quo) 30 4),o_ 32 (di (bQ .mul) 31 2),eR mq 33 29 32,D_ 34 33 1,eR yU 35 28 34] 35 0 1 (sr [y_ 38 325 [z_ 9],V_ 39 10,o_ 40 (d_ fU 39 (.int .u64 1)),o_ 41 (b_ (bQ .and) 38 40),o_ 42 (u_ (bZ .i64) 41),V_ 12 42] (iq MO 45 ab2 MN)) EL
def A276:CF:=⟨[],sr [V_ 13 2,V_ 14 1,eR fU 15 13 14,V_ 8 15] (sr [V_ 16 8,eV oh 17 16 8] (cd 17 (sr [V_ 18 8,o_ 19 (u_ (bZ .u64) 18),o_ 9 (au [.int .u64 0] 1),S_ 1 9 19] (sr [V_ 20 8,y_ 21 324 [z_ 20],V_ 10 21] (sq ab3 (bl 0 NY)))) .skip)),67⟩
theorem c276:cF 276=some A276:=bH
def MM:=R_ [V_ 35 10,eV oh 36 35 50]
def ab1:=R_ [V_ 37 0,V_ 38 12,V_ 39 3,y_ 40 326 [z_ 37,z_ 38,z_ 11,z_ 39],V_ 12 40]
def ab0:=R_ [V_ 41 0,V_ 42 13,V_ 43 3,y_ 44 326 [z_ 41,z_ 42,z_ 11,z_ 43],V_ 13 44]
def Rr:=R_ [V_ 45 0,V_ 46 14,V_ 47 3,y_ 48 326 [z_ 45,z_ 46,z_ 11,z_ 47],V_ 14 48]
def EK:=R_ [V_ 49 0,V_ 50 12,V_ 51 13,V_ 52 14,V_ 53 3,y_ 54 327 [z_ 49,z_ 50,z_ 51,z_ 52,z_ 11,z_ 53],V_ 13 54]
def EJ:=R_ [L_ 55 11]
def oH:=R_ [K_ 58 55 0,V_ 57 58]
def EI:=R_ [V_ 59 13,V_ 8 59,I_ 9 1]
def uc:=R_ [K_ 61 55 12,V_ 60 61]
def EH:=R_ [V_ 62 13,V_ 8 62,I_ 9 2]
def EG:=R_ [V_ 56 13,V_ 8 56,I_ 9 0]
def A277:CF:=⟨[aH 8,aH 9],sr [I_ 8 0,I_ 9 0] (sr [V_ 15 2,V_ 16 1,eR fU 17 15 16,V_ 10 17] (sr [o_ 11 (au Ac 1)] (sr [V_ 18 1,V_ 19 10,o_ 20 (di (bQ .quo) 19 4),o_ 21 (di (bQ .mul) 20 1),eR mq 22 18 21,V_ 12 22] (sr [V_ 23 1,V_ 24 10,o_ 25 (di (bQ .quo) 24 4),o_ 26 (di (bQ .mul) 25 2),eR mq 27 23 26,V_ 13 27] (sr [V_ 28 1,V_ 29 10,o_ 30 (di (bQ .quo) 29 4),o_ 31 (di (bQ .mul) 30 3),eR mq 32 28 31,V_ 14 32] (ir [V_ 33 10,eV oh 34 33 8] 34 (iq MM 36 (sq ab1 (sq ab0 Rr)) EK) (sq EJ (.block 0 (sq oH (cd 57 (rt EI) (sq uc (cd 60 (rt EH) (rt EG))))))))))))),63⟩
theorem c277:cF 277=some A277:=bH
def abZ:=R_ [V_ 30 8,D_ 31 30 1,V_ 8 31]
def abY:=R_ [V_ 32 9,eV fU 33 32 1,V_ 9 33]
def NX:CT:=sq (sr [V_ 13 8,V_ 14 9,B_ 15 13 14] (cd 15 .skip (.exit 0))) (.block 1 (sq (.dI [16,17,18,19,20,21,22,23,24,25,26,27,28,29] [aP 16 0,aP 17 8,aP 20 0,aP 21 9,dJ 22 1 20 21,cK 23 22,aP 24 0,aP 25 8,dJ 26 1 24 25,cK 27 26,dJ 28 1 16 17,eP 1 28 23,iz 18 0 2,iz 19 9 2,dJ 29 1 18 19,eP 1 29 27]) (sq abZ abY)))
def A278:CF:=⟨[],sr [V_ 10 1,V_ 8 10] (sr [V_ 11 2,eV fU 12 11 1,V_ 9 12] (bl 0 NX)),34⟩
theorem c278:cF 278=some A278:=bH
def abX:=R_ [V_ 37 9,D_ 38 37 1,V_ 9 38]
def Gs:CT:=sq (sq (.dI [19,20,21,22,23,24,25,26,27,28,29,30,31,32,33,34,35,36] [aP 19 9,aP 20 2,vR jM 21 19 20,aP 22 21,gi 22 23 3,gi 22 24 0,gi 22 25 9,gI [22,24,25] 22 26 (b_ (bW 1) 24 25) 1,rm 22 27 26,gi 22 28 0,gi 22 29 9,gI [22,29] 22 30 (di fU 29 1) 1,gI [22,28,30] 22 31 (b_ (bW 1) 28 30) 1,rm 22 32 31,YF [22,23,27,32] (z_ 22) true (bc 33) (z_ 23) [z_ 27,z_ 32],gI [22,33] 22 34 (di jM 33 0) 1,gI [22,34] 22 35 (un 34) 1,i_ [22,35] 36 (p_ 22 35) 1]) (cd 36 .skip (.exit 2))) (.block 3 abX)
def EE:=R_ [V_ 39 9,V_ 40 2,eR dq 41 39 40]
def abW:=R_ [T_ 8]
def ML:=R_ [V_ 42 2,V_ 43 1,eR fU 44 42 43,eV jM 45 44 50]
def abV:=R_ [F_ 8]
def Rq:CT:=.dI [46,47,48,49,50,51,52,53,54,55,56,57,58,59,60,61] [aP 46 0,aP 47 9,aP 51 0,aP 52 9,r6 fU 53 52 1,dJ 54 1 51 53,cK 55 54,aP 56 0,aP 57 9,dJ 58 1 56 57,cK 59 58,dJ 60 1 46 47,eP 1 60 55,iz 48 0 2,iz 49 9 2,i_ [49] 50 (di fU 49 1) 2,dJ 61 1 48 50,eP 1 61 59]
def Ro:=R_ [V_ 62 9,V_ 63 1,eR fU 64 62 63,eV oh 65 64 2]
def Rn:=R_ [V_ 66 9,eV fU 67 66 1,V_ 11 67]
def Rm:CT:=.dI [85,86,87,88,89,90,91,92,93,94,95,96,97,98,99,100] [aP 85 0,aP 86 11,aP 90 0,aP 91 11,r6 fU 92 91 1,dJ 93 1 90 92,cK 94 93,aP 95 0,aP 96 11,dJ 97 1 95 96,cK 98 97,dJ 99 1 85 86,eP 1 99 94,iz 87 0 2,iz 88 11 2,i_ [88] 89 (di fU 88 1) 2,dJ 100 1 87 89,eP 1 100 98]
def Rl:=R_ [V_ 70 11,eV fU 71 70 1,V_ 11 71]
def Gq:CT:=lr [V_ 68 11,eV oh 69 68 1] 69 4 5 (iq (.dI [72,73,74,75,76,77,78,79,80,81,82,83,84] [aP 72 3,aP 73 0,aP 74 11,dJ 75 1 73 74,cK 76 75,aP 77 0,aP 78 11,r6 fU 79 78 1,dJ 80 1 77 79,cK 81 80,vI [72,76,81] (bc 82) (z_ 72) [z_ 76,z_ 81],r6 jM 83 82 0,Y5 un 84 83]) 84 (.exit 4) Rm) Rl
def ub:=R_ [V_ 101 2,V_ 102 9,eR fU 103 101 102,eV oh 104 103 2]
def EF:=R_ [V_ 105 9,D_ 106 105 1,V_ 12 106]
def Rk:CT:=.dI [125,126,127,128,129,130,131,132,133,134,135,136,137,138,139,140] [aP 125 0,aP 126 12,aP 130 0,aP 131 12,r6 fU 132 131 1,dJ 133 1 130 132,cK 134 133,aP 135 0,aP 136 12,dJ 137 1 135 136,cK 138 137,dJ 139 1 125 126,eP 1 139 134,iz 127 0 2,iz 128 12 2,i_ [128] 129 (di fU 128 1) 2,dJ 140 1 127 129,eP 1 140 138]
def Rj:=R_ [V_ 110 12,D_ 111 110 1,V_ 12 111]
def Gp:CT:=lr [V_ 107 12,V_ 108 2,B_ 109 107 108] 109 6 7 (iq (.dI [112,113,114,115,116,117,118,119,120,121,122,123,124] [aP 112 3,aP 113 0,aP 114 12,dJ 115 1 113 114,cK 116 115,aP 117 0,aP 118 12,r6 fU 119 118 1,dJ 120 1 117 119,cK 121 120,vI [112,116,121] (bc 122) (z_ 112) [z_ 116,z_ 121],r6 jM 123 122 0,Y5 un 124 123]) 124 (.exit 6) Rk) Rj
def ua:=R_ [V_ 17 10,D_ 18 17 1,V_ 10 18]
def NW:CT:=lr [V_ 15 10,eV jM 16 15 5] 16 0 1 (sq (bl 2 Gs) (iq EE 41 (rt abW) (iq ML 45 (rt abV) (sq Rq (iq Ro 65 (sq Rn (bl 4 Gq)) (sq ub (cd 104 (sq EF (bl 6 Gp)) .skip))))))) ua
def Q9:=R_ [F_ 8]
def A279:CF:=⟨[aH 8],sr [F_ 8] (sr [V_ 13 1,D_ 14 13 1,V_ 9 14] (sq (sr [I_ 10 0] (bl 0 NW)) (rt Q9))),141⟩
theorem c279:cF 279=some A279:=bH
def abU:=R_ [V_ 27 1,D_ 28 27 1,V_ 29 2,eV fU 30 29 1,V_ 11 28,V_ 12 30]
def abT:=R_ [V_ 48 11,D_ 49 48 1,V_ 11 49]
def Gn:CT:=sq (sq (.dI [31,32,33,34,35,36,37,38,39,40,41,42,43,44,45,46,47] [aP 31 11,aP 32 12,vR yU 33 31 32,aP 34 33,gi 34 35 4,gi 34 36 0,gi 34 37 1,gI [34,36,37] 34 38 (b_ (bW 1) 36 37) 1,rm 34 39 38,gi 34 40 0,gi 34 41 11,gI [34,40,41] 34 42 (b_ (bW 1) 40 41) 1,rm 34 43 42,YF [34,35,39,43] (z_ 34) true (bc 44) (z_ 35) [z_ 39,z_ 43],gI [34,44] 34 45 (di jM 44 0) 1,gI [34,45] 34 46 (un 45) 1,i_ [34,46] 47 (p_ 34 46) 1]) (cd 47 .skip (.exit 2))) (.block 3 abT)
def abS:=R_ [V_ 66 12,eV fU 67 66 1,V_ 12 67]
def Gm:CT:=sq (sq (.dI [50,51,52,53,54,55,56,57,58,59,60,61,62,63,64,65] [aP 50 11,aP 51 12,vR yU 52 50 51,aP 53 52,gi 53 54 4,gi 53 55 0,gi 53 56 1,gI [53,55,56] 53 57 (b_ (bW 1) 55 56) 1,rm 53 58 57,gi 53 59 0,gi 53 60 12,gI [53,59,60] 53 61 (b_ (bW 1) 59 60) 1,rm 53 62 61,YF [53,54,58,62] (z_ 53) true (bc 63) (z_ 54) [z_ 58,z_ 62],gI [53,63] 53 64 (di jM 63 0) 1,i_ [53,64] 65 (p_ 53 64) 1]) (cd 65 .skip (.exit 4))) (.block 5 abS)
def MK:=R_ [V_ 68 11,V_ 69 12,eR mG 70 68 69]
def abR:CT:=.dI [71,72,73,74,75,76,77,78,79,80,81,82,83,84] [aP 71 0,aP 72 11,aP 75 0,aP 76 12,dJ 77 1 75 76,cK 78 77,aP 79 0,aP 80 11,dJ 81 1 79 80,cK 82 81,dJ 83 1 71 72,eP 1 83 78,iz 73 0 2,iz 74 12 2,dJ 84 1 73 74,eP 1 84 82]
def abQ:=R_ [V_ 85 11,D_ 86 85 1,V_ 11 86]
def Q8:=R_ [V_ 87 12,eV fU 88 87 1,V_ 12 88]
def adV:CT:=.block 1 (sq (bl 2 Gn) (sq (bl 4 Gm) (iq MK 70 (.exit 0) (sq abR (sq abQ Q8)))))
def Q7:=R_ [V_ 89 11,V_ 10 89]
def A280:CF:=⟨[aH 10],sr [I_ 10 0] (sq (.dI [13,14,15,16,17,18,19,20,21,22,23,24,25,26] [aP 13 0,aP 14 1,aP 17 0,aP 18 3,dJ 19 1 17 18,cK 20 19,aP 21 0,aP 22 1,dJ 23 1 21 22,cK 24 23,dJ 25 1 13 14,eP 1 25 20,iz 15 0 2,iz 16 3 2,dJ 26 1 15 16,eP 1 26 24]) (sq abU (sq (bl 0 adV) (rt Q7)))),90⟩
theorem c280:cF 280=some A280:=bH
def abP:=R_ [V_ 28 1,D_ 29 28 1,V_ 30 2,eV fU 31 30 1,V_ 12 29,V_ 13 31]
def abO:=R_ [V_ 48 12,D_ 49 48 1,V_ 12 49]
def Gl:CT:=sq (sq (.dI [32,33,34,35,36,37,38,39,40,41,42,43,44,45,46,47] [aP 32 12,aP 33 13,vR yU 34 32 33,aP 35 34,gi 35 36 4,gi 35 37 0,gi 35 38 12,gI [35,37,38] 35 39 (b_ (bW 1) 37 38) 1,rm 35 40 39,gi 35 41 0,gi 35 42 1,gI [35,41,42] 35 43 (b_ (bW 1) 41 42) 1,rm 35 44 43,YF [35,36,40,44] (z_ 35) true (bc 45) (z_ 36) [z_ 40,z_ 44],gI [35,45] 35 46 (di jM 45 0) 1,i_ [35,46] 47 (p_ 35 46) 1]) (cd 47 .skip (.exit 0))) (.block 1 abO)
def abN:=R_ [V_ 67 13,eV fU 68 67 1,V_ 13 68]
def Gk:CT:=sq (sq (.dI [50,51,52,53,54,55,56,57,58,59,60,61,62,63,64,65,66] [aP 50 12,aP 51 13,vR yU 52 50 51,aP 53 52,gi 53 54 4,gi 53 55 0,gi 53 56 13,gI [53,55,56] 53 57 (b_ (bW 1) 55 56) 1,rm 53 58 57,gi 53 59 0,gi 53 60 1,gI [53,59,60] 53 61 (b_ (bW 1) 59 60) 1,rm 53 62 61,YF [53,54,58,62] (z_ 53) true (bc 63) (z_ 54) [z_ 58,z_ 62],gI [53,63] 53 64 (di jM 63 0) 1,gI [53,64] 53 65 (un 64) 1,i_ [53,65] 66 (p_ 53 65) 1]) (cd 66 .skip (.exit 2))) (.block 3 abN)
def MJ:=R_ [V_ 69 12,V_ 70 13,eR mG 71 69 70]
def abM:CT:=.dI [72,73,74,75,76,77,78,79,80,81,82,83,84,85] [aP 72 0,aP 73 13,aP 76 0,aP 77 1,dJ 78 1 76 77,cK 79 78,aP 80 0,aP 81 13,dJ 82 1 80 81,cK 83 82,dJ 84 1 72 73,eP 1 84 79,iz 74 0 2,iz 75 1 2,dJ 85 1 74 75,eP 1 85 83]
def abL:=R_ [V_ 86 13,V_ 10 86,T_ 11]
def Q6:CT:=.dI [87,88,89,90,91,92,93,94,95,96,97,98,99,100] [aP 87 0,aP 88 12,aP 91 0,aP 92 13,dJ 93 1 91 92,cK 94 93,aP 95 0,aP 96 12,dJ 97 1 95 96,cK 98 97,dJ 99 1 87 88,eP 1 99 94,iz 89 0 2,iz 90 13 2,dJ 100 1 89 90,eP 1 100 98]
def Q5:=R_ [V_ 101 12,D_ 102 101 1,V_ 12 102]
def Q4:=R_ [V_ 103 13,eV fU 104 103 1,V_ 13 104]
def Q2:=R_ [V_ 121 12,D_ 122 121 1,V_ 12 122]
def Gj:CT:=sq (sq (.dI [105,106,107,108,109,110,111,112,113,114,115,116,117,118,119,120] [aP 105 12,aP 106 13,vR yU 107 105 106,aP 108 107,gi 108 109 4,gi 108 110 0,gi 108 111 12,gI [108,110,111] 108 112 (b_ (bW 1) 110 111) 1,rm 108 113 112,gi 108 114 0,gi 108 115 1,gI [108,114,115] 108 116 (b_ (bW 1) 114 115) 1,rm 108 117 116,YF [108,109,113,117] (z_ 108) true (bc 118) (z_ 109) [z_ 113,z_ 117],gI [108,118] 108 119 (di jM 118 0) 1,i_ [108,119] 120 (p_ 108 119) 1]) (cd 120 .skip (.exit 6))) (.block 7 Q2)
def Q1:=R_ [V_ 140 13,eV fU 141 140 1,V_ 13 141]
def Gi:CT:=sq (sq (.dI [123,124,125,126,127,128,129,130,131,132,133,134,135,136,137,138,139] [aP 123 12,aP 124 13,vR yU 125 123 124,aP 126 125,gi 126 127 4,gi 126 128 0,gi 126 129 13,gI [126,128,129] 126 130 (b_ (bW 1) 128 129) 1,rm 126 131 130,gi 126 132 0,gi 126 133 1,gI [126,132,133] 126 134 (b_ (bW 1) 132 133) 1,rm 126 135 134,YF [126,127,131,135] (z_ 126) true (bc 136) (z_ 127) [z_ 131,z_ 135],gI [126,136] 126 137 (di jM 136 0) 1,gI [126,137] 126 138 (un 137) 1,i_ [126,138] 139 (p_ 126 138) 1]) (cd 139 .skip (.exit 8))) (.block 9 Q1)
def ED:=R_ [V_ 142 12,V_ 143 13,eR mG 144 142 143]
def Q0:CT:=.dI [145,146,147,148,149,150,151,152,153,154,155,156,157,158] [aP 145 0,aP 146 12,aP 149 0,aP 150 13,dJ 151 1 149 150,cK 152 151,aP 153 0,aP 154 12,dJ 155 1 153 154,cK 156 155,dJ 157 1 145 146,eP 1 157 152,iz 147 0 2,iz 148 13 2,dJ 158 1 147 148,eP 1 158 156]
def QZ:=R_ [V_ 159 12,D_ 160 159 1,V_ 12 160]
def QY:=R_ [V_ 161 13,eV fU 162 161 1,V_ 13 162]
def adU:CT:=.block 5 (sq (bl 6 Gj) (sq (bl 8 Gi) (iq ED 144 (.exit 4) (sq Q0 (sq QZ QY)))))
def QX:CT:=.dI [163,164,165,166,167,168,169,170,171,172,173,174,175,176] [aP 163 0,aP 164 13,aP 167 0,aP 168 1,dJ 169 1 167 168,cK 170 169,aP 171 0,aP 172 13,dJ 173 1 171 172,cK 174 173,dJ 175 1 163 164,eP 1 175 170,iz 165 0 2,iz 166 1 2,dJ 176 1 165 166,eP 1 176 174]
def QW:=R_ [V_ 177 13,V_ 10 177,F_ 11]
def A281:CF:=⟨[aH 10,aH 11],sr [I_ 10 0,F_ 11] (sq (.dI [14,15,16,17,18,19,20,21,22,23,24,25,26,27] [aP 14 0,aP 15 1,aP 18 0,aP 19 3,dJ 20 1 18 19,cK 21 20,aP 22 0,aP 23 1,dJ 24 1 22 23,cK 25 24,dJ 26 1 14 15,eP 1 26 21,iz 16 0 2,iz 17 3 2,dJ 27 1 16 17,eP 1 27 25]) (sq abP (sq (bl 0 Gl) (sq (bl 2 Gk) (iq MJ 71 (sq abM (rt abL)) (sq Q6 (sq Q5 (sq Q4 (sq (bl 4 adU) (sq QX (rt QW))))))))))),178⟩
theorem c281:cF 281=some A281:=bH
def A283:CF:=⟨[aH 2],sr [I_ 2 0] (ir [V_ 3 0,o_ 4 (d_ oh 3 (.int .u64 4294967296))] 4 (sr [V_ 5 0,o_ 6 (d_ (bQ .shr) 5 (.int .u64 32)),V_ 0 6] (R_ [I_ 2 32])) (ir [V_ 7 0,o_ 8 (d_ oh 7 (.int .u64 65536))] 8 (sr [V_ 9 0,o_ 10 (d_ (bQ .shr) 9 (.int .u64 16)),V_ 0 10] (R_ [V_ 11 2,D_ 12 11 16,V_ 2 12])) (ir [V_ 13 0,o_ 14 (d_ oh 13 (.int .u64 256))] 14 (sr [V_ 15 0,o_ 16 (d_ (bQ .shr) 15 (.int .u64 8)),V_ 0 16] (R_ [V_ 17 2,D_ 18 17 8,V_ 2 18])) (rr [V_ 19 2,V_ 20 0,o_ 21 (u_ (bZ .u8) 20),o_ 22 (e2 pj (aO (.str [0,1,2,2,3,3,3,3,4,4,4,4,4,4,4,4,5,5,5,5,5,5,5,5,5,5,5,5,5,5,5,5,6,6,6,6,6,6,6,6,6,6,6,6,6,6,6,6,6,6,6,6,6,6,6,6,6,6,6,6,6,6,6,6,7,7,7,7,7,7,7,7,7,7,7,7,7,7,7,7,7,7,7,7,7,7,7,7,7,7,7,7,7,7,7,7,7,7,7,7,7,7,7,7,7,7,7,7,7,7,7,7,7,7,7,7,7,7,7,7,7,7,7,7,7,7,7,7,8,8,8,8,8,8,8,8,8,8,8,8,8,8,8,8,8,8,8,8,8,8,8,8,8,8,8,8,8,8,8,8,8,8,8,8,8,8,8,8,8,8,8,8,8,8,8,8,8,8,8,8,8,8,8,8,8,8,8,8,8,8,8,8,8,8,8,8,8,8,8,8,8,8,8,8,8,8,8,8,8,8,8,8,8,8,8,8,8,8,8,8,8,8,8,8,8,8,8,8,8,8,8,8,8,8,8,8,8,8,8,8,8,8,8,8,8,8,8,8,8,8,8,8,8,8,8,8])) (z_ 21)),o_ 23 (u_ (bZ .i64) 22),eR mq 24 19 23,V_ 2 24])))),25⟩
theorem c283:cF 283=some A283:=bH
def A285:CF:=⟨[aH 4],sr [I_ 4 0] (rr [V_ 5 0,V_ 6 1,eR Ix 7 5 6,V_ 4 7]),8⟩
theorem c285:cF 285=some A285:=bH
def abK:=R_ [V_ 8 0,V_ 9 1,o_ 10 (u_ (bZ .u8) 9),o_ 11 (d_ (bQ .or) 10 (.int .u8 128)),y_ 12 167 [z_ 8,z_ 11]]
def abJ:=R_ [V_ 6 1,o_ 7 (d_ (bQ .shr) 6 (.int .u64 7)),V_ 1 7]
def NU:CT:=lr [V_ 4 1,o_ 5 (d_ mG 4 (.int .u64 127))] 5 0 1 abK abJ
def abI:=R_ [V_ 13 0,V_ 14 1,o_ 15 (u_ (bZ .u8) 14),y_ 16 167 [z_ 13,z_ 15]]
def A286:CF:=⟨[],sq (bl 0 NU) abI,17⟩
theorem c286:cF 286=some A286:=bH
def A288:CF:=⟨[],sr [V_ 4 0,o_ 5 (d_ (kG true .ptr) 4 (.aV (.pointer none))),V_ 6 5,jh 6 7 0,g_ 6 8 (aZ (z_ 7)),eI 6 9 0 8,eI 6 10 0 9,fy 6 11 10,P_ 12 6 11] (cd 12 (R_ [V_ 13 0,V_ 14 0,o_ 15 (aZ (z_ 14)),A_ 16 0 15,A_ 17 1 16,L_ 18 17,V_ 19 1,o_ 20 (dL 1 1 (z_ 18) (z_ 19)),o_ 21 (aZ (z_ 13)),A_ 22 0 21,A_ 23 1 22,S_ 1 23 20]) .skip),24⟩
theorem c288:cF 288=some A288:=bH
def am0:CT:=sr [B_ 9 8 7] (sq (cd 9 .skip (.exit 0)) (sq (.block 1 (sr [V_ 10 8,V_ 5 10] (sr [V_ 11 1,V_ 12 0,V_ 13 5,J_ 14 1 12 13,L_ 15 14,vP (bc 16) (z_ 11) [z_ 15]] (cd 16 (rr [V_ 17 5,V_ 4 17]) .skip)))) (R_ [D_ 18 8 1,V_ 8 18])))
def A301:CF:=⟨[aH 4],sr [I_ 4 0] (sq (sr [V_ 6 0,E_ 7 6,I_ 8 0] (bl 0 am0)) (rr [o_ 4 (c_ (.int .i64 (-1)))])),19⟩
theorem c301:cF 301=some A301:=bH
def amZ:CT:=sr [B_ 9 8 7] (sq (cd 9 .skip (.exit 0)) (sq (.block 1 (sr [V_ 10 8,V_ 5 10] (sr [V_ 11 1,V_ 12 0,V_ 13 5,J_ 14 8 12 13,N_ 15 8 14,vP (bc 16) (z_ 11) [z_ 15]] (cd 16 (rr [V_ 17 5,V_ 4 17]) .skip)))) (R_ [D_ 18 8 1,V_ 8 18])))
def A303:CF:=⟨[aH 4],sr [I_ 4 0] (sq (sr [V_ 6 0,E_ 7 6,I_ 8 0] (bl 0 amZ)) (rr [o_ 4 (c_ (.int .i64 (-1)))])),19⟩
theorem c303:cF 303=some A303:=bH
def amY:CT:=sr [B_ 9 8 7] (sq (cd 9 .skip (.exit 0)) (sq (.block 1 (sr [V_ 10 8,V_ 5 10] (sr [V_ 11 1,V_ 12 0,V_ 13 5,J_ 14 3 12 13,N_ 15 3 14,vP (bc 16) (z_ 11) [z_ 15]] (cd 16 (rr [V_ 17 5,V_ 4 17]) .skip)))) (R_ [D_ 18 8 1,V_ 8 18])))
def A304:CF:=⟨[aH 4],sr [I_ 4 0] (sq (sr [V_ 6 0,E_ 7 6,I_ 8 0] (bl 0 amY)) (rr [o_ 4 (c_ (.int .i64 (-1)))])),19⟩
theorem c304:cF 304=some A304:=bH
def zO:=R_ [V_ 15 8,H_ 16 15 0,V_ 17 16,jg 17 18 0 3,jI 17 19 18,h_ 17 20 (di dq 19 0),Q_ 21 17 20,V_ 22 21,jg 22 23 0 4,jI 22 24 23,h_ 22 25 (di dq 24 0),Q_ 26 22 25]
def EC:=R_ [o_ 27 (aG fJ 3 []),V_ 28 8,S_ 3 6 27,V_ 7 28]
def abH:=R_ [V_ 30 2,A_ 31 1 3,L_ 32 31,A_ 33 1 4,L_ 34 33,vP (bc 35) (z_ 30) [z_ 32,z_ 34],V_ 29 35,W_ 36 0 29,W_ 37 1 29,V_ 9 36,V_ 10 37]
def MI:=R_ [V_ 38 10,qu 39 38]
def abG:=R_ [o_ 40 (aG fJ 3 []),S_ 3 6 40,I_ 7 31]
def abE:=R_ [V_ 41 9,o_ 42 (aG fJ 3 [(0,1,kI 1),(1,1,z_ 41)]),S_ 3 6 42,I_ 7 0]
def A305:CF:=⟨[cj 6 3,aH 7],sr [X_ 3 0,X_ 4 1,o_ 6 (au fJ 3),I_ 7 0] (sq (sr [N_ 11 3 3,N_ 12 3 4,o_ 13 (aJ fJ 2 3 [(0,3,z_ 11),(3,3,z_ 12)]),y_ 14 307 [kI 1,z_ 13],V_ 8 14] (sq zO (cd 26 (rt EC) .skip))) (sq abH (iq MI 39 (rt abG) (rt abE)))),43⟩
theorem c305:cF 305=some A305:=bH
def A306:CF:=⟨[aH 4,aH 5],sr [I_ 4 0,F_ 5] (rr [V_ 6 1,o_ 7 (u_ (cUn .neg) 6),V_ 8 1,eV qM 9 8 (-9223372036854775808),V_ 4 7,V_ 5 9]),10⟩
theorem c306:cF 306=some A306:=bH
def abD:=R_ [I_ 4 5]
def abC:=R_ [D_ 18 11 1,V_ 11 18]
def NT:CT:=sr [B_ 12 11 10] (sq (cd 12 .skip (.exit 0)) (sq (.block 1 (sr [J_ 13 3 9 11,N_ 14 3 13,o_ 6 (au fJ 3),S_ 3 6 14] (sr [N_ 15 3 6,y_ 16 88 [z_ 15],qu 17 16] (cd 17 (rt abD) .skip)))) abC))
def abB:=R_ [V_ 19 1,E_ 20 19,I_ 21 0]
def zR:CT:=sr [B_ 22 21 20] (sq (cd 22 .skip (.exit 2)) (sq (.block 3 (sr [J_ 23 3 19 21,N_ 24 3 23,o_ 8 (au fJ 3),S_ 3 8 24] (sr [A_ 25 0 8,L_ 26 25,H_ 27 26 0,V_ 28 27,eI 28 29 0 8,fy 28 30 29,jh 28 31 0,g_ 28 32 (b_ qM 30 31),P_ 33 28 32] (cd 33 (rr [I_ 4 30]) .skip)))) (R_ [D_ 34 21 1,V_ 21 34])))
def QV:=R_ [I_ 4 0]
def A307:CF:=⟨[aH 4],sr [I_ 4 0] (sq (sr [V_ 9 1,E_ 10 9,I_ 11 0] (bl 0 NT)) (sq (sq abB (bl 2 zR)) (rt QV))),35⟩
theorem c307:cF 307=some A307:=bH
def A308:CF:=⟨[cj 2 3],sr [o_ 2 (au fJ 3)] (ir [V_ 3 0] 3 (rr [o_ 4 (aG fJ 3 [(0,1,kI 3),(1,1,kI 1)]),S_ 3 2 4]) (rr [o_ 5 (aG fJ 3 [(0,1,kI 3)]),S_ 3 2 5])),6⟩
theorem c308:cF 308=some A308:=bH
def A309:CF:=⟨[cj 4 3,aH 5],sr [X_ 2 0,X_ 3 1,o_ 4 (au fJ 3),I_ 5 0] (rr [N_ 6 3 2,N_ 7 3 3,y_ 8 305 [z_ 6,z_ 7,kf 335],W_ 9 0 8,W_ 10 1 8,S_ 3 4 9,V_ 5 10]),11⟩
theorem c309:cF 309=some A309:=bH
def A310:CF:=⟨[cj 4 3,aH 5],sr [X_ 2 0,X_ 3 1,o_ 4 (au fJ 3),I_ 5 0] (rr [N_ 6 3 2,N_ 7 3 3,y_ 8 305 [z_ 6,z_ 7,kf 336],W_ 9 0 8,W_ 10 1 8,S_ 3 4 9,V_ 5 10]),11⟩
theorem c310:cF 310=some A310:=bH
def A311:CF:=⟨[cj 4 3,aH 5],sr [X_ 2 0,X_ 3 1,o_ 4 (au fJ 3),I_ 5 0] (rr [N_ 6 3 2,N_ 7 3 3,y_ 8 305 [z_ 6,z_ 7,kf 337],W_ 9 0 8,W_ 10 1 8,S_ 3 4 9,V_ 5 10]),11⟩
theorem c311:cF 311=some A311:=bH
def MH:=R_ [X_ 2 0,X_ 3 1,o_ 4 (au fJ 3),I_ 5 0]
def MG:=R_ [N_ 6 3 2,N_ 7 3 3,o_ 8 (aJ fJ 2 3 [(0,3,z_ 6),(3,3,z_ 7)]),y_ 9 307 [kI 1,z_ 8],K_ 10 9 0,V_ 11 10,eI 11 12 0 2,fy 11 13 12,g_ 11 14 (di qM 13 0),P_ 15 11 14,V_ 16 15,eI 16 17 0 3,fy 16 18 17,g_ 16 19 (di qM 18 0),P_ 20 16 19,V_ 21 20,eI 21 22 1 3,fy 21 23 22,g_ 21 24 (di dq 23 0),P_ 25 21 24]
def MF:=R_ [o_ 26 (aG fJ 3 []),S_ 3 4 26,I_ 5 32]
def A312:CF:=⟨[cj 4 3,aH 5],sq MH (iq MG 25 (rt MF) (rr [N_ 27 3 2,N_ 28 3 3,y_ 29 305 [z_ 27,z_ 28,kf 338],W_ 30 0 29,W_ 31 1 29,S_ 3 4 30,V_ 5 31])),32⟩
theorem c312:cF 312=some A312:=bH
def A313:CF:=⟨[cj 4 3,aH 5],sr [X_ 2 0,X_ 3 1,o_ 4 (au fJ 3),I_ 5 0] (ir [N_ 6 3 2,N_ 7 3 3,o_ 8 (aJ fJ 2 3 [(0,3,z_ 6),(3,3,z_ 7)]),y_ 9 307 [kI 1,z_ 8],K_ 10 9 0,V_ 11 10,eI 11 12 0 2,fy 11 13 12,g_ 11 14 (di qM 13 0),P_ 15 11 14,V_ 16 15,eI 16 17 0 3,fy 16 18 17,g_ 16 19 (di qM 18 0),P_ 20 16 19,V_ 21 20,eI 21 22 1 3,fy 21 23 22,g_ 21 24 (di dq 23 0),P_ 25 21 24] 25 (rr [o_ 26 (aG fJ 3 []),S_ 3 4 26,I_ 5 32]) (rr [N_ 27 3 2,N_ 28 3 3,y_ 29 305 [z_ 27,z_ 28,kf 339],W_ 30 0 29,W_ 31 1 29,S_ 3 4 30,V_ 5 31])),32⟩
theorem c313:cF 313=some A313:=bH
def vd:=R_ [V_ 11 6,H_ 12 11 0,V_ 13 12,jg 13 14 0 2,jI 13 15 14,h_ 13 16 (di dq 15 0),Q_ 17 13 16,V_ 18 17,jg 18 19 0 3,jI 18 20 19,h_ 18 21 (di dq 20 0),Q_ 22 18 21]
def EB:=R_ [o_ 23 (aG fJ 3 []),V_ 24 6,S_ 3 4 23,V_ 5 24]
def ME:=R_ [A_ 25 2 2,L_ 26 25,u3_ jm 27 26,A_ 28 2 3,L_ 29 28,u3_ jm 30 29,eR mq 31 27 30,eV mG 32 31 64]
def abx:=R_ [o_ 33 (aG fJ 3 []),S_ 3 4 33,I_ 5 3]
def abw:=R_ [A_ 34 2 2,L_ 35 34,A_ 36 2 3,L_ 37 36,eR mq 38 35 37,o_ 39 (aG fJ 3 [(0,1,kI 2),(2,1,z_ 38)]),S_ 3 4 39,I_ 5 0]
def A314:CF:=⟨[cj 4 3,aH 5],sr [X_ 2 0,X_ 3 1,o_ 4 (au fJ 3),I_ 5 0] (sq (sr [N_ 7 3 2,N_ 8 3 3,o_ 9 (aJ fJ 2 3 [(0,3,z_ 7),(3,3,z_ 8)]),y_ 10 307 [kI 2,z_ 9],V_ 6 10] (sq vd (cd 22 (rt EB) .skip))) (iq ME 32 (rt abx) (rt abw))),40⟩
theorem c314:cF 314=some A314:=bH
def A315:CF:=⟨[cj 4 3,aH 5],sr [X_ 2 0,X_ 3 1,o_ 4 (au fJ 3),I_ 5 0] (rr [N_ 6 3 2,N_ 7 3 3,y_ 8 340 [z_ 6,z_ 7,kf 341],W_ 9 0 8,W_ 10 1 8,S_ 3 4 9,V_ 5 10]),11⟩
theorem c315:cF 315=some A315:=bH
def A316:CF:=⟨[cj 4 3,aH 5],sr [X_ 2 0,X_ 3 1,o_ 4 (au fJ 3),I_ 5 0] (rr [N_ 6 3 2,N_ 7 3 3,y_ 8 340 [z_ 6,z_ 7,kf 342],W_ 9 0 8,W_ 10 1 8,S_ 3 4 9,V_ 5 10]),11⟩
theorem c316:cF 316=some A316:=bH
def A317:CF:=⟨[cj 4 3,aH 5],sr [X_ 2 0,X_ 3 1,o_ 4 (au fJ 3),I_ 5 0] (rr [N_ 6 3 2,N_ 7 3 3,y_ 8 340 [z_ 6,z_ 7,kf 343],W_ 9 0 8,W_ 10 1 8,S_ 3 4 9,V_ 5 10]),11⟩
theorem c317:cF 317=some A317:=bH
def A318:CF:=⟨[cj 4 3,aH 5],sr [X_ 2 0,X_ 3 1,o_ 4 (au fJ 3),I_ 5 0] (rr [N_ 6 3 2,N_ 7 3 3,y_ 8 340 [z_ 6,z_ 7,kf 344],W_ 9 0 8,W_ 10 1 8,S_ 3 4 9,V_ 5 10]),11⟩
theorem c318:cF 318=some A318:=bH
def A319:CF:=⟨[cj 4 3,aH 5],sr [X_ 2 0,X_ 3 1,o_ 4 (au fJ 3),I_ 5 0] (rr [N_ 6 3 2,N_ 7 3 3,y_ 8 340 [z_ 6,z_ 7,kf 345],W_ 9 0 8,W_ 10 1 8,S_ 3 4 9,V_ 5 10]),11⟩
theorem c319:cF 319=some A319:=bH
def A320:CF:=⟨[cj 4 3,aH 5],sr [X_ 2 0,X_ 3 1,o_ 4 (au fJ 3),I_ 5 0] (rr [N_ 6 3 2,N_ 7 3 3,y_ 8 340 [z_ 6,z_ 7,kf 346],W_ 9 0 8,W_ 10 1 8,S_ 3 4 9,V_ 5 10]),11⟩
theorem c320:cF 320=some A320:=bH
def MD:=R_ [X_ 2 0,X_ 3 1,o_ 4 (au fJ 3),I_ 5 0]
def MC:=R_ [N_ 8 3 2,N_ 9 3 3,o_ 10 (aJ fJ 2 3 [(0,3,z_ 8),(3,3,z_ 9)]),y_ 11 307 [kI 3,z_ 10],V_ 6 11]
def EA:=R_ [V_ 12 6,H_ 13 12 0]
def MB:=R_ [o_ 14 (aG fJ 3 []),V_ 15 6,S_ 3 4 14,V_ 5 15]
def zN:=R_ [N_ 18 3 2,N_ 19 3 7,o_ 20 (b_ (mY false [.i,.i,.s]) 18 19),V_ 21 20,PV 21 22 3 3,PV 21 23 3 7,h_ 21 24 (b_ (mY false [.i,.i,.s]) 22 23),Q_ 25 21 24,V_ 17 25]
def Ez:=R_ [N_ 26 3 7,S_ 3 4 26,I_ 5 0]
def zM:=R_ [A_ 28 0 2,L_ 29 28,K_ 30 29 0,V_ 31 30,jg 31 32 0 3,jI 31 33 32,h_ 31 34 (di dq 33 0),Q_ 35 31 34,V_ 27 35]
def Ey:=R_ [o_ 36 (aG fJ 3 []),S_ 3 4 36,I_ 5 0]
def A321:CF:=⟨[cj 4 3,aH 5],sq MD (sq (sq MC (sq EA (cd 13 (rt MB) .skip))) (sr [y_ 16 308 [(aO (.bool false))],o_ 7 (au fJ 3),S_ 3 7 16] (sq (.block 0 (sq zN (cd 17 (rt Ez) (sq zM (cd 27 (rt Ey) .skip))))) (rr [y_ 37 308 [(aO (.bool true))],S_ 3 4 37,I_ 5 0])))),38⟩
theorem c321:cF 321=some A321:=bH
def A322:CF:=⟨[cj 4 3,aH 5],sr [X_ 2 0,X_ 3 1,o_ 4 (au fJ 3),I_ 5 0] (sq (sr [N_ 8 3 2,N_ 9 3 3,o_ 10 (aJ fJ 2 3 [(0,3,z_ 8),(3,3,z_ 9)]),y_ 11 307 [kI 3,z_ 10],V_ 6 11] (sr [V_ 12 6,H_ 13 12 0] (cd 13 (rr [o_ 14 (aG fJ 3 []),V_ 15 6,S_ 3 4 14,V_ 5 15]) .skip))) (sr [y_ 16 308 [(aO (.bool true))],o_ 7 (au fJ 3),S_ 3 7 16] (sq (.block 0 (sr [N_ 18 3 2,N_ 19 3 7,o_ 20 (b_ (mY false [.i,.i,.s]) 18 19),V_ 21 20,PV 21 22 3 3,PV 21 23 3 7,h_ 21 24 (b_ (mY false [.i,.i,.s]) 22 23),Q_ 25 21 24,V_ 17 25] (cd 17 (rr [N_ 26 3 7,S_ 3 4 26,I_ 5 0]) (sr [A_ 28 0 2,L_ 29 28,K_ 30 29 0,V_ 31 30,jg 31 32 0 3,jI 31 33 32,h_ 31 34 (di dq 33 0),Q_ 35 31 34,V_ 27 35] (cd 27 (rr [o_ 36 (aG fJ 3 []),S_ 3 4 36,I_ 5 0]) .skip))))) (rr [y_ 37 308 [(aO (.bool false))],S_ 3 4 37,I_ 5 0])))),38⟩
theorem c322:cF 322=some A322:=bH
def zL:=R_ [V_ 13 10,o_ 14 (e2 (bQ .mul) (kI 2) (z_ 13)),D_ 15 14 1,V_ 11 15]
def zK:=R_ [V_ 16 11,V_ 17 2,eR oh 18 16 17]
def Ew:CT:=.dI [19,20,21,22,23,24,25,26,27,28,29,30,31,32,33,34,35,36,37,38,39,40] [aP 19 11,r6 mq 20 19 1,aP 21 2,vR jM 22 20 21,aP 23 22,gi 23 24 4,gi 23 25 0,gi 23 26 3,gi 23 27 11,gI [23,26,27] 23 28 (b_ mq 26 27) 1,gI [23,25,28] 23 29 (b_ (bW 1) 25 28) 1,rm 23 30 29,gi 23 31 0,gi 23 32 3,gi 23 33 11,gI [23,32,33] 23 34 (b_ mq 32 33) 1,gI [23,34] 23 35 (di mq 34 1) 1,gI [23,31,35] 23 36 (b_ (bW 1) 31 35) 1,rm 23 37 36,YF [23,24,30,37] (z_ 23) true (bc 38) (z_ 24) [z_ 30,z_ 37],gI [23,38] 23 39 (di jM 38 0) 1,i_ [23,39] 40 (p_ 23 39) 1]
def MA:=R_ [V_ 41 11,D_ 42 41 1,V_ 11 42]
def Me:CT:=.dI [43,44,45,46,47,48,49,50,51,52,53,54,55,56,57,58] [aP 43 4,aP 44 0,aP 45 3,aP 46 10,vR mq 47 45 46,dJ 48 1 44 47,cK 49 48,aP 50 0,aP 51 3,aP 52 11,vR mq 53 51 52,dJ 54 1 50 53,cK 55 54,vI [43,49,55] (bc 56) (z_ 43) [z_ 49,z_ 55],r6 jM 57 56 0,Y5 un 58 57]
def Md:CT:=.dI [59,60,61,62,63,64,65,66,67,68,69,70,71,72,73,74,75,76,77,78,79,80] [aP 59 0,aP 60 3,aP 61 10,vR mq 62 60 61,aP 67 0,aP 68 3,aP 69 11,vR mq 70 68 69,dJ 71 1 67 70,cK 72 71,aP 73 0,aP 74 3,aP 75 10,vR mq 76 74 75,dJ 77 1 73 76,cK 78 77,dJ 79 1 59 62,eP 1 79 72,iz 63 0 2,iz 64 3 2,iz 65 11 2,i_ [64,65] 66 (b_ mq 64 65) 2,dJ 80 1 63 66,eP 1 80 78]
def Mc:=R_ [V_ 81 11,V_ 10 81]
def adT:CT:=.block 1 (sq zL (iq zK 18 (.exit 0) (iq Ew 40 MA (iq Me 58 .ret (sq Md Mc)))))
def A323:CF:=⟨[],sr [V_ 12 1,V_ 10 12] (bl 0 adT),82⟩
theorem c323:cF 323=some A323:=bH
def A324:CF:=⟨[aH 2],sr [o_ 2 (c_ (.int .u64 0))] (rr [V_ 3 0,o_ 4 (u_ (bZ .u64) 3),y_ 5 221 [z_ 4],o_ 6 (e2 (bQ .shl) (aO (.int .u64 1)) (z_ 5)),V_ 2 6]),7⟩
theorem c324:cF 324=some A324:=bH
def abv:CT:=.dI [12,13,14,15,16,17,18,19,20] [aP 12 0,i_ [12] 13 (aZ (z_ 12)) 1,cK 14 13,aP 15 0,i_ [15] 16 (aZ (z_ 15)) 1,cK 17 16,i_ [17] 18 (d_ (bQ .shr) 17 (.int .u64 7)) 1,i_ [14,18] 19 (b_ (bQ .xor) 14 18) 1,i_ [12] 20 (aZ (z_ 12)) 1,eP 1 20 19]
def abu:CT:=.dI [21,22,23,24,25,26,27,28,29] [aP 21 0,i_ [21] 22 (aZ (z_ 21)) 1,cK 23 22,aP 24 0,i_ [24] 25 (aZ (z_ 24)) 1,cK 26 25,i_ [26] 27 (d_ (bQ .shl) 26 (.int .u64 17)) 1,i_ [23,27] 28 (b_ (bQ .xor) 23 27) 1,i_ [21] 29 (aZ (z_ 21)) 1,eP 1 29 28]
def abt:=R_ [V_ 30 0,o_ 31 (aZ (z_ 30)),L_ 32 31,V_ 2 32]
def A325:CF:=⟨[aH 2],sr [o_ 2 (c_ (.int .u64 0))] (sq (.dI [3,4,5,6,7,8,9,10,11] [aP 3 0,i_ [3] 4 (aZ (z_ 3)) 1,cK 5 4,aP 6 0,i_ [6] 7 (aZ (z_ 6)) 1,cK 8 7,i_ [8] 9 (d_ (bQ .shl) 8 (.int .u64 13)) 1,i_ [5,9] 10 (b_ (bQ .xor) 5 9) 1,i_ [3] 11 (aZ (z_ 3)) 1,eP 1 11 10]) (sq abv (sq abu (rt abt)))),33⟩
theorem c325:cF 325=some A325:=bH
def A326:CF:=⟨[aH 8],sr [I_ 8 0] (rr [V_ 9 0,V_ 10 1,eV fU 11 10 1,V_ 12 1,V_ 13 1,D_ 14 13 1,V_ 15 2,V_ 16 3,y_ 17 327 [z_ 9,z_ 11,z_ 12,z_ 14,z_ 15,z_ 16],V_ 8 17]),18⟩
theorem c326:cF 326=some A326:=bH
def abr:=R_ [V_ 23 0,V_ 24 2,V_ 25 3,V_ 26 4,V_ 27 5,y_ 28 347 [z_ 23,z_ 24,z_ 25,z_ 26,z_ 27],V_ 22 28,W_ 29 0 22,W_ 30 1 22,V_ 2 29,V_ 3 30]
def abq:=R_ [V_ 32 0,V_ 33 1,V_ 34 2,V_ 35 4,V_ 36 5,y_ 37 347 [z_ 32,z_ 33,z_ 34,z_ 35,z_ 36],V_ 31 37,W_ 38 0 31,W_ 39 1 31,V_ 1 38,V_ 2 39]
def abp:=R_ [V_ 40 2,V_ 12 40]
def A327:CF:=⟨[aH 12],sr [I_ 12 0] (sr [V_ 14 0,V_ 15 1,V_ 16 2,V_ 17 4,V_ 18 5,y_ 19 347 [z_ 14,z_ 15,z_ 16,z_ 17,z_ 18],V_ 13 19,W_ 20 0 13,W_ 21 1 13,V_ 1 20,V_ 2 21] (sq abr (sq abq (rt abp)))),41⟩
theorem c327:cF 327=some A327:=bH
def A335:CF:=⟨[aH 4,aH 5],sr [I_ 4 0,F_ 5] (sr [V_ 7 0,V_ 8 1,eR mq 9 7 8,V_ 6 9] (rr [V_ 10 6,V_ 11 0,eV jM 12 11 0,V_ 13 1,eV jM 14 13 0,o_ 15 (b_ (kG true .bool) 12 14),V_ 16 15,pV 16 17 6,h_ 16 18 (di jM 17 0),pV 16 19 0,h_ 16 20 (di jM 19 0),h_ 16 21 (b_ (kG false .bool) 18 20),Q_ 22 16 21,V_ 4 10,V_ 5 22])),23⟩
theorem c335:cF 335=some A335:=bH
def A336:CF:=⟨[aH 4,aH 5],sr [I_ 4 0,F_ 5] (sr [V_ 7 0,V_ 8 1,eR fU 9 7 8,V_ 6 9] (rr [V_ 10 6,V_ 11 0,eV jM 12 11 0,V_ 13 1,eV jM 14 13 0,o_ 15 (b_ (kG false .bool) 12 14),V_ 16 15,pV 16 17 6,h_ 16 18 (di jM 17 0),pV 16 19 0,h_ 16 20 (di jM 19 0),h_ 16 21 (b_ (kG false .bool) 18 20),Q_ 22 16 21,V_ 4 10,V_ 5 22])),23⟩
theorem c336:cF 336=some A336:=bH
def A337:CF:=⟨[aH 4,aH 5],sr [I_ 4 0,F_ 5] (ir [V_ 7 0,K_ 8 7 0,V_ 9 8,pV 9 10 1,h_ 9 11 (di dq 10 0),Q_ 12 9 11] 12 (rr [I_ 4 0,T_ 5]) (sr [V_ 13 0,V_ 14 1,o_ 15 (b_ (bQ .mul) 13 14),V_ 6 15] (rt (.dI [16,17,18,19,20,21,22,23,24,25,26,27,28,29,30,31,32,33,34,35,36,37,38] [aP 16 6,aP 17 0,r6 dq 18 17 (-1),aP 19 18,gi 19 20 1,gI [19,20] 19 21 (di dq 20 (-9223372036854775808)) 1,i_ [19,21] 22 (p_ 19 21) 1,aP 23 22,Xp 23 24 1,hI [23,24] 23 25 (di dq 24 (-1)) 1,Xp 23 26 25,gi 26 27 0,gI [26,27] 26 28 (di dq 27 (-9223372036854775808)) 1,hI [23,26,28] 23 29 (p_ 26 28) 1,i_ [23,29] 30 (q_ 23 29) 1,Y5 un 31 30,aP 32 31,gi 32 33 6,gi 32 34 1,gI [32,33,34] 32 35 (b_ (bQ .quo) 33 34) 1,gi 32 36 0,gI [32,35,36] 32 37 (b_ dq 35 36) 1,i_ [32,37] 38 (p_ 32 37) 1,aP 4 16,aP 5 38])))),39⟩
theorem c337:cF 337=some A337:=bH
def A338:CF:=⟨[aH 4,aH 5],sr [I_ 4 0,F_ 5] (ir [V_ 6 0,eV dq 7 6 (-9223372036854775808),V_ 8 7,jh 8 9 1,g_ 8 10 (di dq 9 (-1)),P_ 11 8 10] 11 (rr [I_ 4 0,F_ 5]) (rr [V_ 12 0,V_ 13 1,o_ 14 (b_ (bQ .quo) 12 13),V_ 4 14,T_ 5])),15⟩
theorem c338:cF 338=some A338:=bH
def A339:CF:=⟨[aH 4,aH 5],sr [I_ 4 0,F_ 5] (ir [V_ 6 1,eV dq 7 6 (-1)] 7 (rr [I_ 4 0,T_ 5]) (rr [V_ 8 0,V_ 9 1,o_ 10 (b_ (bQ .rem) 8 9),V_ 4 10,T_ 5])),11⟩
theorem c339:cF 339=some A339:=bH
def LZ:=R_ [o_ 16 (aG fJ 3 []),S_ 3 6 16,I_ 7 5]
def zJ:=R_ [A_ 17 0 3,L_ 18 17,K_ 19 18 0,V_ 20 19,jg 20 21 0 4,jI 20 22 21,h_ 20 23 (di dq 22 0),Q_ 24 20 23]
def LY:=R_ [o_ 25 (aG fJ 3 []),S_ 3 6 25,I_ 7 0]
def LX:=R_ [A_ 26 0 3,L_ 27 26,A_ 28 0 4,L_ 29 28,eR qM 30 27 29]
def abo:=R_ [o_ 31 (aG fJ 3 []),S_ 3 6 31,I_ 7 30]
def abn:=R_ [V_ 32 2,N_ 33 3 3,N_ 34 3 4,y_ 35 164 [z_ 33,z_ 34],vP (bc 36) (z_ 32) [z_ 35],y_ 37 308 [z_ 36],S_ 3 6 37,I_ 7 0]
def A340:CF:=⟨[cj 6 3,aH 7],sr [X_ 3 0,X_ 4 1,o_ 6 (au fJ 3),I_ 7 0] (ir [N_ 8 3 3,y_ 9 88 [z_ 8],qu 10 9,V_ 11 10,PV 11 12 3 4,j7 (z_ 11) false (bc 13) 88 [z_ 12],h_ 11 14 (un 13),Q_ 15 11 14] 15 (rt LZ) (iq zJ 24 (rt LY) (iq LX 30 (rt abo) (rt abn)))),38⟩
theorem c340:cF 340=some A340:=bH
def A341:CF:=⟨[aH 2],sr [F_ 2] (rr [V_ 3 0,K_ 4 3 0,V_ 2 4]),5⟩
theorem c341:cF 341=some A341:=bH
def A342:CF:=⟨[aH 2],sr [F_ 2] (rr [V_ 3 0,H_ 4 3 0,V_ 2 4]),5⟩
theorem c342:cF 342=some A342:=bH
def A343:CF:=⟨[aH 2],sr [F_ 2] (rr [V_ 3 0,eV jM 4 3 0,V_ 2 4]),5⟩
theorem c343:cF 343=some A343:=bH
def A344:CF:=⟨[aH 2],sr [F_ 2] (rr [V_ 3 0,eV yU 4 3 0,V_ 2 4]),5⟩
theorem c344:cF 344=some A344:=bH
def A345:CF:=⟨[aH 2],sr [F_ 2] (rr [V_ 3 0,eV mG 4 3 0,V_ 2 4]),5⟩
theorem c345:cF 345=some A345:=bH
def A346:CF:=⟨[aH 2],sr [F_ 2] (rr [V_ 3 0,eV oh 4 3 0,V_ 2 4]),5⟩
theorem c346:cF 346=some A346:=bH
def abm:=R_ [V_ 23 3,o_ 24 (aZ (z_ 23)),L_ 25 24,D_ 26 25 1,o_ 27 (aZ (z_ 23)),S_ 1 27 26]
def abl:=R_ [V_ 28 2,V_ 29 1,V_ 10 28,V_ 11 29]
def abk:=R_ [V_ 30 1,V_ 31 2,V_ 10 30,V_ 11 31]
def A347:CF:=⟨[aH 10,aH 11],sr [I_ 10 0,I_ 11 0] (iq (.dI [12,13,14,15,16,17,18,19,20,21,22] [aP 12 4,aP 13 0,aP 14 2,dJ 15 1 13 14,cK 16 15,aP 17 0,aP 18 1,dJ 19 1 17 18,cK 20 19,vI [12,16,20] (bc 21) (z_ 12) [z_ 16,z_ 20],r6 jM 22 21 0]) 22 (sq abm (rt abl)) (rt abk)),32⟩
theorem c347:cF 347=some A347:=bH
end Go.Abs
