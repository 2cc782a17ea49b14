/- A part. -/
import Derived.Test.YtlhafglnokpioaaGreatProg
import Derived.KernelRfl
import Derived.Test.YtlhafglnokpioaaGreatAbs6
noncomputable section
namespace Go.Abs
open Go.Proofs
set_option maxRecDepth 100000
noncomputable  abbrev pG:=Tryz.prog
theorem bH{p:Prop}(h:p:=by kernel_rfl):p:=h
abbrev z_ (a:Nat):G:=aA a
abbrev v_ (a:Nat):Eff:=eL (aA a)
abbrev c_ (x:AV):Eff:=eL (aQ x)
abbrev a_ (k a:Nat):Eff:=e1 (zj k) (aA a)
abbrev l_ (a:Nat):Eff:=u0 (aA a)
abbrev n_ (n a:Nat):Eff:=iS n (aA a)
abbrev u_ (f:AV->bw)(a:Nat):Eff:=e1 f (aA a)
abbrev b_ (f:AV->AV->bw)(a b:Nat):Eff:=e2 f (aA a) (aA b)
abbrev d_ (f:AV->AV->bw)(a:Nat)(x:AV):Eff:=e2 f (aA a) (aQ x)
abbrev s_ (n a b:Nat):Eff:=dz n (aA a) (aA b)
abbrev p_ (a b:Nat):Eff:=y5 (aA a) (aA b) (aQ (.bool false))
abbrev q_ (a b:Nat):Eff:=y5 (aA a) (aQ (.bool true)) (aA b)
abbrev x_ (a:Nat):Eff:=HV (aA a)
abbrev o_ (d:Nat)(e:Eff):Option GO:=oP (bg d) e
abbrev g_ (a d:Nat)(e:Eff):Option GO:=gP (aA a) true (bg d) e
abbrev h_ (a d:Nat)(e:Eff):Option GO:=gP (aA a) false (bg d) e
abbrev i_ (l:List Nat)(d:Nat)(e:Eff)(c:Nat):Option RO:=oI l (bg d) e c
abbrev j_ (l:List Nat)(e:Eff):Option RO:=mI l ri e
abbrev y_ (d:Nat)(f:FuncId)(l:List G):Option GO:=cP (bg d) f l
abbrev cC:AV:=.aV (.slice none 0 0)
abbrev jV:AV:=.aV .nilFunc
abbrev eY:AV:=.int .i64 0
abbrev iJ:AV:=.str []
abbrev Av:AV:=.int .u32 0
abbrev jf:AV:=.bool false
abbrev Vn:List AV:=[eY,iJ,iJ,cC,cC,jf,cC,cC,eY,eY,eY,iJ,iJ,iJ,eY,cC,jf,jf,cC,cC,eY,eY,eY,iJ,iJ,iJ,eY,cC,cC,jf,eY]
@[simp] theorem z1_e:Vn=[eY,iJ,iJ,cC,cC,jf,cC,cC,eY,eY,eY,iJ,iJ,iJ,eY,cC,jf,jf,cC,cC,eY,eY,eY,iJ,iJ,iJ,eY,cC,cC,jf,eY]:=Eq.trans rfl rfl
abbrev uB:List AV:=[eY,eY,eY,iJ,iJ,iJ,eY,cC]
@[simp] theorem z2_e:uB=[eY,eY,eY,iJ,iJ,iJ,eY,cC]:=Eq.trans rfl rfl
abbrev fG:List AV:=[eY,eY,iJ]
@[simp] theorem z3_e:fG=[eY,eY,iJ]:=Eq.trans rfl rfl
abbrev z4_:List AV:=[eY,iJ,Av,iJ,cC,Av,Av,Av,iJ,cC,jf,Av,cC,cC,cC,cC,cC,cC,cC,cC,cC,cC,jf,jf,eY]
@[simp] theorem z4_e:z4_=[eY,iJ,Av,iJ,cC,Av,Av,Av,iJ,cC,jf,Av,cC,cC,cC,cC,cC,cC,cC,cC,cC,cC,jf,jf,eY]:=Eq.trans rfl rfl
abbrev z5_:List AV:=[jf,jf,cC,cC,eY,eY,eY,iJ,iJ,iJ,eY,cC,cC,jf,eY]
@[simp] theorem z5_e:z5_=[jf,jf,cC,cC,eY,eY,eY,iJ,iJ,iJ,eY,cC,cC,jf,eY]:=Eq.trans rfl rfl
abbrev vB:List AV:=[cC,cC,cC]
@[simp] theorem z6_e:vB=[cC,cC,cC]:=Eq.trans rfl rfl
abbrev Vh:List AV:=[iJ,iJ,eY,eY,eY,iJ,iJ,iJ,eY,cC]
@[simp] theorem z7_e:Vh=[iJ,iJ,eY,eY,eY,iJ,iJ,iJ,eY,cC]:=Eq.trans rfl rfl
abbrev wO:List AV:=[Av,iJ,cC,Av]
@[simp] theorem z8_e:wO=[Av,iJ,cC,Av]:=Eq.trans rfl rfl
abbrev IX:List AV:=[cC,cC,cC,eY]
@[simp] theorem z9_e:IX=[cC,cC,cC,eY]:=Eq.trans rfl rfl
abbrev zY:List AV:=[Av,Av,iJ,cC,jf,Av]
@[simp] theorem ax8:zY=[Av,Av,iJ,cC,jf,Av]:=Eq.trans rfl rfl
abbrev xy:List AV:=[eY,eY,eY,jf,jf]
@[simp] theorem ax7:xy=[eY,eY,eY,jf,jf]:=Eq.trans rfl rfl
abbrev ajm:List AV:=[eY,eY,eY,iJ,iJ,iJ,eY,cC,iJ]
@[simp] theorem ax6:ajm=[eY,eY,eY,iJ,iJ,iJ,eY,cC,iJ]:=Eq.trans rfl rfl
abbrev ad7:List AV:=[eY,jV,jV,eY,jV,jV,eY,jV,jV]
@[simp] theorem ax5:ad7=[eY,jV,jV,eY,jV,jV,eY,jV,jV]:=Eq.trans rfl rfl
abbrev uC:List AV:=[cC]
@[simp] theorem ax4:uC=[cC]:=Eq.trans rfl rfl
abbrev ajl:List AV:=[jV,jV,jV,jV,jV,jV,jV,jV,jV,jV,jV,jV,jV,jV]
@[simp] theorem ax3:ajl=[jV,jV,jV,jV,jV,jV,jV,jV,jV,jV,jV,jV,jV,jV]:=Eq.trans rfl rfl
abbrev I3:List AV:=[iJ,eY,jf]
@[simp] theorem ax2:I3=[iJ,eY,jf]:=Eq.trans rfl rfl
abbrev zX:List AV:=[eY]
@[simp] theorem ax1:zX=[eY]:=Eq.trans rfl rfl
abbrev ad6:List AV:=[eY,jV,jV]
@[simp] theorem ax0:ad6=[eY,jV,jV]:=Eq.trans rfl rfl
abbrev zW:List AV:=[(.int .u8 0)]
@[simp] theorem axZ:zW=[(.int .u8 0)]:=Eq.trans rfl rfl
abbrev R_(l:List (Option GO)):CT:=.ng l
@[simp] theorem R_e(l:List (Option GO)):R_ l=.ng l:=Eq.trans rfl rfl
abbrev V_(d a:Nat):Option GO:=o_ d (v_ a)
abbrev A_(d k a:Nat):Option GO:=o_ d (a_ k a)
abbrev L_(d a:Nat):Option GO:=o_ d (l_ a)
abbrev I_(d:Nat)(n:Int):Option GO:=o_ d (c_ (.int .i64 n))
abbrev S_(n a b:Nat):Option GO:=oP ri (s_ n a b)
abbrev N_(d n a:Nat):Option GO:=o_ d (n_ n a)
abbrev F_(d:Nat):Option GO:=o_ d (c_ (.bool false))
abbrev T_(d:Nat):Option GO:=o_ d (c_ (.bool true))
abbrev E_(d a:Nat):Option GO:=o_ d (u_ bm a)
abbrev D_(d a:Nat)(n:Int):Option GO:=o_ d (d_ (bR .add) a (.int .i64 n))
abbrev B_(d a b:Nat):Option GO:=o_ d (b_ (bR .lss) a b)
abbrev P_(d a b:Nat):Option GO:=o_ d (p_ a b)
abbrev Q_(d a b:Nat):Option GO:=o_ d (q_ a b)
abbrev X_(d a:Nat):Option GO:=o_ d (x_ a)
abbrev W_(d k a:Nat):Option GO:=o_ d (u_ (kS k) a)
abbrev J_(d k a b:Nat):Option GO:=o_ d (b_ (cK k) a b)
abbrev K_(d a:Nat)(n:Int):Option GO:=o_ d (d_ (kT false .num) a (.int .i64 n))
abbrev H_(d a:Nat)(n:Int):Option GO:=o_ d (d_ (kT true .num) a (.int .i64 n))
abbrev eJ(c d k a:Nat):Option GO:=g_ c d (a_ k a)
abbrev fu(c d a:Nat):Option GO:=g_ c d (l_ a)
abbrev jn(c d a:Nat):Option GO:=g_ c d (v_ a)
abbrev zV(c d k a:Nat):Option GO:=g_ c d (n_ k a)
abbrev jW(c d k a:Nat):Option GO:=h_ c d (a_ k a)
abbrev kO(c d a:Nat):Option GO:=h_ c d (l_ a)
abbrev pT(c d a:Nat):Option GO:=h_ c d (v_ a)
abbrev O_(c d k a:Nat):Option GO:=h_ c d (n_ k a)
abbrev ia_(l:List Nat)(d k a c:Nat):Option RO:=i_ l d (a_ k a) c
abbrev il_(l:List Nat)(d a c:Nat):Option RO:=i_ l d (l_ a) c
abbrev iv_(l:List Nat)(d a c:Nat):Option RO:=i_ l d (v_ a) c
abbrev in_(l:List Nat)(d k a c:Nat):Option RO:=i_ l d (n_ k a) c
abbrev iJ_(l:List Nat)(d k a b c:Nat):Option RO:=i_ l d (b_ (cK k) a b) c
abbrev sq(a b:CT):CT:=.seq a b
@[simp] theorem sqe(a b:CT):sq a b=.seq a b:=Eq.trans rfl rfl
abbrev cd(a:Nat)(b c:CT):CT:=.cond (z_ a) b c
@[simp] theorem cde(a:Nat)(b c:CT):cd a b c=.cond (z_ a) b c:=Eq.trans rfl rfl
abbrev rt(a:CT):CT:=.seq a .ret
@[simp] theorem rte(a:CT):rt a=.seq a .ret:=Eq.trans rfl rfl
abbrev iq(a:CT)(n:Nat)(b c:CT):CT:=.seq (.seq a (.cond (z_ n) b .skip)) c
@[simp] theorem iqe(a:CT)(n:Nat)(b c:CT):iq a n b c=.seq (.seq a (.cond (z_ n) b .skip)) c:=Eq.trans rfl rfl
abbrev lp(a:CT)(n i j:Nat)(b c:CT):CT:=.seq (.seq a (.cond (z_ n) .skip (.exit i))) (.seq (.block j b) c)
@[simp] theorem lpe(a:CT)(n i j:Nat)(b c:CT):lp a n i j b c=.seq (.seq a (.cond (z_ n) .skip (.exit i))) (.seq (.block j b) c):=Eq.trans rfl rfl
abbrev sr(l:List (Option GO))(b:CT):CT:=.seq (.ng l) b
abbrev rr(l:List (Option GO)):CT:=.seq (.ng l) .ret
abbrev ir(l:List (Option GO))(n:Nat)(b c:CT):CT:=.seq (.seq (.ng l) (.cond (z_ n) b .skip)) c
abbrev lr(l:List (Option GO))(n i j:Nat)(b c:CT):CT:=.seq (.seq (.ng l) (.cond (z_ n) .skip (.exit i))) (.seq (.block j b) c)
abbrev bl(n:Nat)(a:CT):CT:=.block n (.loop a)
@[simp] theorem ble(n:Nat)(a:CT):bl n a=.block n (.loop a):=Eq.trans rfl rfl
abbrev cF(n:FuncId):=J5 pG n
abbrev di(f:AV->AV->bw)(a:Nat)(n:Int):Eff:=e2 f (aA a) (aQ (.int .i64 n))
abbrev dq:AV->AV->bw:=kT false .num
abbrev sO:AV->AV->bw:=kT true .num
abbrev jR:AV->AV->bw:=bR .lss
abbrev nu:AV->AV->bw:=bR .gtr
abbrev nY:AV->AV->bw:=bR .geq
abbrev yW:AV->AV->bw:=bR .leq
abbrev mz:AV->AV->bw:=bR .add
abbrev fZ:AV->AV->bw:=bR .sub
abbrev un(a:Nat):Eff:=e1 (cUn .not) (aA a)
abbrev kf(n:FuncId):G:=aQ (.fn (.func n) [] [])
abbrev kI(n:Int):G:=aQ (.int .i64 n)
abbrev gI(l:List Nat)(a d:Nat)(e:Eff)(c:Nat):Option RO:=goI l (aA a) true (bg d) e c
abbrev hI(l:List Nat)(a d:Nat)(e:Eff)(c:Nat):Option RO:=goI l (aA a) false (bg d) e c
abbrev dV(d k a:Nat):Option RO:=i_ [a] d (a_ k a) 1
abbrev oy(d k a c:Nat):Option RO:=i_ [a] d (a_ k a) c
abbrev cY(d a:Nat):Option RO:=i_ [a] d (l_ a) 1
abbrev nN(d a c:Nat):Option RO:=i_ [a] d (l_ a) c
abbrev aS(d a:Nat):Option RO:=i_ [a] d (v_ a) 1
abbrev iF(d a c:Nat):Option RO:=i_ [a] d (v_ a) c
abbrev mq(d k a c:Nat):Option RO:=i_ [a] d (n_ k a) c
abbrev dR(d k a b:Nat):Option RO:=i_ [a,b] d (b_ (cK k) a b) 1
abbrev J2_(d k a b c:Nat):Option RO:=i_ [a,b] d (b_ (cK k) a b) c
abbrev eU(n a b:Nat):Option RO:=j_ [a,b] (s_ n a b)
abbrev gK(a d b:Nat):Option RO:=gI [a,b] a d (v_ b) 1
abbrev s8(a d b:Nat):Option RO:=gI [a,b] a d (l_ b) 1
abbrev p3_(a d k b:Nat):Option RO:=gI [a,b] a d (a_ k b) 1
abbrev q1_(a d b:Nat):Option RO:=hI [a,b] a d (v_ b) 1
abbrev q2_(a d b:Nat):Option RO:=hI [a,b] a d (l_ b) 1
abbrev e1_(f:Nat->Eff)(d a:Nat):Option RO:=i_ [a] d (f a) 1
abbrev u1_(f:AV->bw)(d a:Nat):Option RO:=i_ [a] d (u_ f a) 1
abbrev u2_(f:AV->bw)(d a c:Nat):Option RO:=i_ [a] d (u_ f a) c
abbrev uz(f:AV->AV->bw)(d a:Nat)(n:Int):Option RO:=i_ [a] d (di f a n) 1
abbrev v7(f:AV->AV->bw)(d a b:Nat):Option RO:=i_ [a,b] d (b_ f a b) 1
abbrev eZ(f:AV->AV->bw)(d a:Nat)(n:Int):Option GO:=o_ d (di f a n)
abbrev eT(f:AV->AV->bw)(d a b:Nat):Option GO:=o_ d (b_ f a b)
abbrev u3_(f:AV->bw)(d a:Nat):Option GO:=o_ d (u_ f a)
abbrev ru(d a:Nat):Option GO:=o_ d (un a)
def axP:CT:=lr [V_ 10 4,V_ 11 0,E_ 12 11,B_ 13 10 12,V_ 14 13,jn 14 15 4,g_ 14 16 (di jR 15 40),P_ 17 14 16] 17 0 1 (iq (.dO [20,21,22,23,24,25,26] [mq 20 3 3 1,aS 21 0,aS 22 4,dR 23 31 21 22,dV 24 16 23,mq 25 15 24 1,cI [20,25] (bg 26) 8 [z_ 20,z_ 25]]) 26 (.exit 1) (sr [N_ 27 3 3,y_ 28 9 [z_ 27],o_ 5 (au vB 3),S_ 3 5 28] (sq (.dO [30,31,32,33,34,35,29,36,37,38,6,7] [mq 30 3 3 1,aS 31 0,aS 32 4,dR 33 31 31 32,mq 34 31 33 1,cI [30,34] (bg 35) 10 [z_ 30,z_ 34],aS 29 35,i_ [29] 36 (u_ (kS 0) 29) 1,i_ [] 6 (au vB 3) 2,i_ [] 7 (au IX 4) 2,eU 3 6 36,i_ [29] 37 (u_ (kS 1) 29) 2,eU 4 7 37,i_ [29] 38 (u_ (kS 2) 29) 3,aS 8 38]) (ir [N_ 39 3 3,N_ 40 3 5,y_ 41 11 [z_ 39,z_ 40],ru 42 41] 42 (rr [F_ 2]) (ir [V_ 43 8,H_ 44 43 0] 44 (ir [A_ 45 2 6,L_ 46 45,E_ 47 46,eZ nu 48 47 0,V_ 49 48,jW 49 50 2 7,kO 49 51 50,h_ 49 52 (u_ bm 51),h_ 49 53 (di nu 52 0),Q_ 54 49 53,V_ 55 54,jW 55 56 3 7,kO 55 57 56,h_ 55 58 (di sO 57 0),Q_ 59 55 58] 59 (rr [F_ 2]) (.exit 1)) (ir [N_ 60 3 6,y_ 61 12 [z_ 60],ru 62 61,V_ 63 62,jW 63 64 3 7,kO 63 65 64,h_ 63 66 (di jR 65 0),Q_ 67 63 66] 67 (rr [F_ 2]) (R_ [N_ 68 3 6,S_ 3 3 68]))))))) (R_ [V_ 18 4,D_ 19 18 1,V_ 4 19])
def A3:CF:=⟨[aG 2],sr [F_ 2] (sr [o_ 9 (aI vB 3 []),o_ 3 (au vB 3),S_ 3 3 9] (sq (sr [I_ 4 0] (bl 0 axP)) (rr [y_ 69 13 [],V_ 2 69]))),70⟩
theorem c3:cF 3=some A3:=bH
def axO:CT:=lr [V_ 50 12,eZ jR 51 50 3] 51 0 1 (sr [V_ 54 11,V_ 55 12,J_ 56 8 54 55,N_ 57 8 56,A_ 58 4 4,S_ 8 58 57] (sr [N_ 60 3 3,N_ 61 15 4,o_ 62 (aI Vn 31 [(0,1,kI 8),(16,15,z_ 61)]),y_ 63 10 [z_ 60,z_ 62],V_ 59 63,W_ 64 0 59,W_ 65 1 59,W_ 66 2 59,o_ 13 (au vB 3),o_ 14 (au IX 4),S_ 3 13 64,S_ 4 14 65,V_ 15 66] (ir [V_ 67 15,H_ 68 67 0] 68 (rr [y_ 69 13 [],V_ 6 69]) (R_ [V_ 70 10,A_ 71 2 14,L_ 72 71,o_ 73 (dG 1 24 (z_ 70) (z_ 72)),V_ 10 73])))) (R_ [V_ 52 12,D_ 53 52 1,V_ 12 53])
def A4:CF:=⟨[aG 6],sr [X_ 3 0,X_ 4 1,X_ 5 2,F_ 6] (ir [N_ 16 3 3,N_ 17 15 4,y_ 18 8 [z_ 16,z_ 17],V_ 19 18,jW 19 20 0 4,kO 19 21 20,Q_ 22 19 21,V_ 23 22,jW 23 24 13 4,kO 23 25 24,Q_ 26 23 25,V_ 27 26,jW 27 28 12 4,kO 27 29 28,h_ 27 30 (u_ bm 29),h_ 27 31 (di nu 30 0),Q_ 32 27 31] 32 (rr [y_ 33 13 [],V_ 6 33]) (sr [o_ 34 (aI uB 8 []),A_ 35 4 4,S_ 8 35 34] (sr [N_ 37 3 3,N_ 38 15 4,o_ 39 (aI Vn 31 [(0,1,kI 8),(16,15,z_ 38)]),y_ 40 10 [z_ 37,z_ 39],V_ 36 40,W_ 41 0 36,W_ 42 1 36,W_ 43 2 36,o_ 7 (au vB 3),o_ 8 (au IX 4),S_ 3 7 41,S_ 4 8 42,V_ 9 43] (sr [o_ 10 (c_ cC)] (sq (.dO [44,45,46,47,48,49] [mq 45 8 5 1,cI [45] (bg 46) 14 [z_ 45],mq 47 8 5 2,cI [47] (bg 48) 15 [z_ 47],mq 44 8 5 3,i_ [44,46,48] 49 (aO uB 3 8 [(0,8,z_ 44),(8,8,z_ 46),(16,8,z_ 48)]) 1,aS 11 49]) (sq (sr [I_ 12 0] (bl 0 axO)) (ir [V_ 74 9,H_ 75 74 0] 75 (rr [V_ 76 9,K_ 77 76 4,V_ 78 77,kz (z_ 78) true (bg 79) 13 [],P_ 80 78 79,V_ 6 80]) (rt (.dO [81,82,83,84,85,86,87,88] [aS 81 10,cI [81] (bg 82) 17 [z_ 81,(aQ cC)],oy 83 2 8 2,nN 84 83 2,cI [82,84] (bg 85) 16 [z_ 82,z_ 84],aS 86 85,gcI [86] (z_ 86) true (bg 87) 13 [],i_ [86,87] 88 (p_ 86 87) 1,aS 6 88]))))))))),89⟩
theorem c4:cF 4=some A4:=bH
def ast:=R_ [y_ 40 13 [],V_ 8 40]
def ass:=R_ [N_ 42 3 4,N_ 43 15 9,o_ 44 (aI Vn 31 [(0,1,kI 8),(16,15,z_ 43)]),y_ 45 10 [z_ 42,z_ 44],V_ 41 45,W_ 46 0 41,W_ 47 1 41,W_ 48 2 41,o_ 11 (au vB 3),o_ 12 (au IX 4),S_ 3 11 46,S_ 4 12 47,V_ 13 48]
def asr:=R_ [N_ 50 3 4,N_ 51 15 10,o_ 52 (aI Vn 31 [(0,1,kI 8),(16,15,z_ 51)]),y_ 53 10 [z_ 50,z_ 52],V_ 49 53,W_ 54 0 49,W_ 55 1 49,W_ 56 2 49,o_ 14 (au vB 3),o_ 15 (au IX 4),S_ 3 14 54,S_ 4 15 55,V_ 16 56]
def asq:=R_ [V_ 57 13,V_ 58 16,eT sO 59 57 58]
def asp:=R_ [A_ 61 0 4,N_ 62 2 61,V_ 63 1,y_ 64 18 [z_ 62,z_ 63],V_ 60 64,W_ 65 0 60,W_ 66 1 60,o_ 17 (au wO 4),S_ 4 17 65,V_ 18 66]
def Z_:=R_ [V_ 67 13,H_ 68 67 0,V_ 69 68,pT 69 70 18,h_ 69 71 (un 70),Q_ 72 69 71]
def Z9:=R_ [y_ 73 13 [],V_ 8 73]
def aia:=R_ [A_ 74 2 17,L_ 75 74,E_ 76 75,V_ 19 76]
def ah':=R_ [o_ 20 (c_ cC)]
def ah_:=R_ [I_ 21 0]
def Z8:CT:=.dO [94,95,96,97,98,99,100,101,102,103,104,105,106,107,108,109,110,111,112,113] [i_ [] 95 (aO fG 0 3 []) 1,dV 96 2 15,cY 97 96,aS 98 21,dR 99 1 97 98,cY 100 99,aS 101 22,i_ [100,101] 102 (wH (ja 3) (z_ 100) (some (z_ 101)) none none) 1,mI [95,102] (bg 103) (dG 3 32 (z_ 95) (z_ 102)),oy 104 2 15 2,nN 105 104 2,iF 106 21 2,J2_ 107 1 105 106 2,nN 108 107 2,iF 109 22 2,i_ [108,109] 110 (wH (ja 3) (z_ 108) none (some (z_ 109)) none) 2,mI [103,110] (bg 111) (dG 3 32 (z_ 103) (z_ 110)),iF 94 20 3,i_ [111] 112 (aO uC 1 1 [(0,1,z_ 111)]) 1,mI [94,112] (bg 113) (dG 1 24 (z_ 94) (z_ 112)),aS 20 113]
def ah9:=R_ [V_ 82 21,D_ 83 82 1,V_ 21 83]
def agx:CT:=lr [V_ 77 21,A_ 78 2 15,L_ 79 78,E_ 80 79,B_ 81 77 80] 81 0 1 (sr [A_ 84 2 15,L_ 85 84,V_ 86 21,J_ 87 1 85 86,L_ 88 87,E_ 89 88,V_ 90 19,eT fZ 91 89 90,V_ 22 91] (ir [V_ 92 22,eZ jR 93 92 0] 93 (rr [F_ 8]) Z8)) ah9
def ah8:CT:=.dO [114,115,116,117,118,119,120,121] [aS 114 20,cI [114] (bg 115) 17 [z_ 114,(aQ cC)],oy 116 2 12 2,nN 117 116 2,cI [115,117] (bg 118) 16 [z_ 115,z_ 117],aS 119 118,gcI [119] (z_ 119) true (bg 120) 13 [],i_ [119,120] 121 (p_ 119 120) 1,aS 8 121]
def A5:CF:=⟨[aG 8],sr [X_ 4 0,X_ 7 3,F_ 8] (sr [V_ 23 1,o_ 24 (aI Vh 10 [(0,1,z_ 23),(1,1,(aQ (.str [120])))]),V_ 25 2,N_ 26 8 7,o_ 27 (aI Vh 10 [(0,1,z_ 25),(1,1,(aQ (.str [121]))),(2,8,z_ 26)]),o_ 28 (aO Vh 2 10 [(0,10,z_ 24),(10,10,z_ 27)]),o_ 29 (aI z5_ 15 [(1,1,(aQ (.bool true))),(3,1,z_ 28)]),o_ 9 (au z5_ 15),S_ 15 9 29] (sr [V_ 30 2,o_ 31 (aI Vh 10 [(0,1,z_ 30),(1,1,(aQ (.str [121])))]),V_ 32 1,N_ 33 8 7,o_ 34 (aI Vh 10 [(0,1,z_ 32),(1,1,(aQ (.str [120]))),(2,8,z_ 33)]),o_ 35 (aO Vh 2 10 [(0,10,z_ 31),(10,10,z_ 34)]),o_ 36 (aI z5_ 15 [(1,1,(aQ (.bool true))),(3,1,z_ 35)]),o_ 10 (au z5_ 15),S_ 15 10 36] (ir [N_ 37 3 4,N_ 38 15 9,y_ 39 8 [z_ 37,z_ 38]] 39 (rt ast) (sq ass (sq asr (iq asq 59 (rr [F_ 8]) (sq asp (iq Z_ 72 (rt Z9) (sq aia (sq ah' (sq (sq ah_ (bl 0 agx)) (rt ah8)))))))))))),122⟩
theorem c5:cF 5=some A5:=bH
def axN:CT:=lr [V_ 44 11,V_ 45 2,E_ 46 45,B_ 47 44 46] 47 0 1 (sq (.dO [51,52,53,54,55,56,57,58,59,50,60,61,62,12,13] [mq 51 3 10 1,aS 52 1,aS 53 2,aS 54 11,aS 55 11,uz mz 56 55 1,i_ [53,54,56] 57 (wH (ja 1) (z_ 53) (some (z_ 54)) (some (z_ 56)) none) 1,i_ [52,57] 58 (aI Vn 31 [(0,1,kI 5),(1,1,z_ 52),(6,1,z_ 57)]) 1,cI [51,58] (bg 59) 10 [z_ 51,z_ 58],aS 50 59,i_ [50] 60 (u_ (kS 0) 50) 1,i_ [] 12 (au vB 3) 2,i_ [] 13 (au IX 4) 2,eU 3 12 60,i_ [50] 61 (u_ (kS 1) 50) 2,eU 4 13 61,i_ [50] 62 (u_ (kS 2) 50) 3,aS 14 62]) (ir [V_ 63 14,H_ 64 63 0,V_ 65 64,jW 65 66 3 13,kO 65 67 66,h_ 65 68 (di sO 67 1),Q_ 69 65 68] 69 (rr [F_ 6]) (R_ [N_ 70 3 12,S_ 3 10 70]))) (R_ [V_ 48 11,D_ 49 48 1,V_ 11 49])
def A6:CF:=⟨[aG 6],sr [X_ 3 0,F_ 6] (ir [N_ 21 3 3,o_ 22 (aI z5_ 15 []),y_ 23 8 [z_ 21,z_ 22],V_ 24 23,pT 24 25 2,h_ 24 26 (u_ bm 25),h_ 24 27 (di nu 26 50),Q_ 28 24 27] 28 (rr [y_ 29 13 [],V_ 6 29]) (sr [N_ 31 3 3,V_ 32 1,V_ 33 2,o_ 34 (aI Vn 31 [(0,1,kI 5),(1,1,z_ 32),(6,1,z_ 33)]),y_ 35 10 [z_ 31,z_ 34],V_ 30 35,W_ 36 0 30,W_ 37 1 30,W_ 38 2 30,o_ 7 (au vB 3),o_ 8 (au IX 4),S_ 3 7 36,S_ 4 8 37,V_ 9 38] (ir [V_ 39 9,H_ 40 39 0] 40 (rr [y_ 41 13 [],V_ 6 41]) (sr [N_ 42 3 3,y_ 43 9 [z_ 42],o_ 10 (au vB 3),S_ 3 10 43] (sq (sr [I_ 11 0] (bl 0 axN)) (sr [N_ 72 3 7,V_ 73 1,o_ 74 (aI Vn 31 [(0,1,kI 6),(1,1,z_ 73)]),y_ 75 10 [z_ 72,z_ 74],V_ 71 75,W_ 76 0 71,W_ 77 1 71,W_ 78 2 71,o_ 15 (au vB 3),o_ 16 (au IX 4),S_ 3 15 76,S_ 4 16 77,V_ 17 78] (sr [N_ 80 3 15,V_ 81 1,o_ 82 (aI Vh 10 [(0,1,z_ 81)]),o_ 83 (aO Vh 1 10 [(0,10,z_ 82)]),o_ 84 (aI z5_ 15 [(1,1,(aQ (.bool true))),(3,1,z_ 83)]),o_ 85 (aI Vn 31 [(0,1,kI 8),(16,15,z_ 84)]),y_ 86 10 [z_ 80,z_ 85],V_ 79 86,W_ 87 0 79,W_ 88 1 79,W_ 89 2 79,o_ 18 (au vB 3),o_ 19 (au IX 4),S_ 3 18 87,S_ 4 19 88,V_ 20 89] (rr [A_ 90 3 8,L_ 91 90,V_ 92 2,E_ 93 92,eT dq 94 91 93,V_ 95 94,zV 95 96 3 7,zV 95 97 3 10,kz (z_ 95) true (bg 98) 11 [z_ 96,z_ 97],P_ 99 95 98,V_ 100 99,jn 100 101 17,g_ 100 102 (di dq 101 0),P_ 103 100 102,V_ 104 103,jn 104 105 20,g_ 104 106 (di dq 105 0),P_ 107 104 106,V_ 108 107,eJ 108 109 2 19,fu 108 110 109,g_ 108 111 (u_ bm 110),g_ 108 112 (di dq 111 0),P_ 113 108 112,V_ 114 113,kz (z_ 114) true (bg 115) 13 [],P_ 116 114 115,V_ 6 116])))))))),117⟩
theorem c6:cF 6=some A6:=bH
def A7:CF:=⟨[aG 4],sr [X_ 2 0,X_ 3 1,F_ 4] (ir [N_ 12 3 2,A_ 13 16 3,N_ 14 15 13,y_ 15 8 [z_ 12,z_ 14]] 15 (rr [y_ 16 13 [],V_ 4 16]) (sr [N_ 17 3 2,y_ 18 9 [z_ 17],o_ 5 (au vB 3),S_ 3 5 18] (iq (.dO [19,20,21,22,23] [mq 19 3 5 1,cI [19] (bg 20) 19 [z_ 19],mq 21 3 2 2,cI [21] (bg 22) 12 [z_ 21],i_ [20,22] 23 (b_ (kT true .bool) 20 22) 1]) 23 (rr [F_ 4]) (sr [N_ 25 3 5,N_ 26 31 3,y_ 27 10 [z_ 25,z_ 26],V_ 24 27,W_ 28 0 24,W_ 29 1 24,W_ 30 2 24,o_ 6 (au vB 3),o_ 7 (au IX 4),S_ 3 6 28,S_ 4 7 29,V_ 8 30] (sr [N_ 32 3 2,N_ 33 31 3,y_ 34 20 [z_ 32,z_ 33],V_ 31 34,W_ 35 0 31,W_ 36 1 31,W_ 37 2 31,o_ 9 (au vB 3),o_ 10 (au IX 4),S_ 3 9 35,S_ 4 10 36,V_ 11 37] (rr [V_ 38 8,V_ 39 11,eT dq 40 38 39,V_ 41 40,zV 41 42 3 6,zV 41 43 3 9,kz (z_ 41) true (bg 44) 11 [z_ 42,z_ 43],P_ 45 41 44,V_ 46 45,zV 46 47 4 7,zV 46 48 4 10,kz (z_ 46) true (bg 49) 21 [z_ 47,z_ 48],P_ 50 46 49,V_ 51 50,zV 51 52 3 5,zV 51 53 3 2,kz (z_ 51) true (bg 54) 11 [z_ 52,z_ 53],P_ 55 51 54,V_ 56 55,kz (z_ 56) true (bg 57) 13 [],P_ 58 56 57,V_ 4 58])))))),59⟩
theorem c7:cF 7=some A7:=bH
def agw:CT:=lr [V_ 10 7,A_ 11 2 2,L_ 12 11,E_ 13 12,B_ 14 10 13] 14 0 1 (sr [V_ 17 5,A_ 18 2 2,L_ 19 18,V_ 20 7,J_ 21 1 19 20,L_ 22 21,E_ 23 22,eT mz 24 17 23,V_ 5 24] (sr [V_ 25 6,A_ 26 2 2,L_ 27 26,V_ 28 7,J_ 29 1 27 28,L_ 30 29,E_ 31 30,o_ 32 (y6 Jz [z_ 25,z_ 31]),V_ 6 32] (sr [V_ 33 5,eZ nu 34 33 5000] (cd 34 (rr [T_ 4]) .skip)))) (R_ [V_ 15 7,D_ 16 15 1,V_ 7 16])
def ahT:=R_ [I_ 8 1]
def ahS:=R_ [I_ 9 0]
def agv:CT:=lr [V_ 35 9,A_ 36 3 3,L_ 37 36,E_ 38 37,B_ 39 35 38] 39 2 3 (sr [V_ 42 8,V_ 43 6,o_ 44 (b_ (bR .mul) 42 43),V_ 8 44] (sr [V_ 45 8,eZ nu 46 45 30000] (cd 46 (rr [T_ 4]) .skip))) (R_ [V_ 40 9,D_ 41 40 1,V_ 9 41])
def ahR:=R_ [F_ 4]
def A8:CF:=⟨[aG 4],sr [X_ 2 0,X_ 3 1,F_ 4] (sr [I_ 5 0] (sr [I_ 6 1] (sq (sr [I_ 7 0] (bl 0 agw)) (sq ahT (sq (sq ahS (bl 2 agv)) (rt ahR)))))),47⟩
theorem c8:cF 8=some A8:=bH
def axL:CT:=lr [V_ 18 6,A_ 19 2 1,L_ 20 19,V_ 21 4,J_ 22 1 20 21,L_ 23 22,E_ 24 23,B_ 25 18 24] 25 2 3 (R_ [V_ 28 5,o_ 29 (aO fG 0 3 []),A_ 30 2 1,L_ 31 30,V_ 32 4,J_ 33 1 31 32,L_ 34 33,V_ 35 6,J_ 36 1 34 35,L_ 37 36,o_ 38 (dG 3 32 (z_ 29) (z_ 37)),o_ 39 (aO uC 1 1 [(0,1,z_ 38)]),o_ 40 (dG 1 24 (z_ 28) (z_ 39)),V_ 5 40]) (R_ [V_ 26 6,D_ 27 26 1,V_ 6 27])
def axK:CT:=lr [V_ 11 4,A_ 12 2 1,L_ 13 12,E_ 14 13,B_ 15 11 14] 15 0 1 (sr [o_ 5 (c_ cC)] (sq (sr [I_ 6 0] (bl 2 axL)) (R_ [A_ 41 2 3,L_ 42 41,V_ 43 5,o_ 44 (aO uC 1 1 [(0,1,z_ 43)]),o_ 45 (dG 1 24 (z_ 42) (z_ 44)),A_ 46 2 3,S_ 1 46 45]))) (R_ [V_ 16 4,D_ 17 16 1,V_ 4 17])
def A9:CF:=⟨[b6 2 3],sr [X_ 1 0,o_ 2 (au vB 3)] (sr [A_ 7 0 1,N_ 8 2 7,y_ 9 22 [z_ 8],o_ 10 (aI vB 3 [(0,2,z_ 9)]),o_ 3 (au vB 3),S_ 3 3 10] (sq (sr [I_ 4 0] (bl 0 axK)) (rr [N_ 47 3 3,S_ 3 2 47]))),48⟩
theorem c9:cF 9=some A9:=bH
def SL:=R_ [N_ 11 3 2,y_ 12 19 [z_ 11],ru 13 12]
def ai9:=R_ [o_ 14 (aI vB 3 []),o_ 15 (aI IX 4 []),S_ 3 4 14,S_ 4 5 15,I_ 6 1]
def adm:=R_ [A_ 17 0 2,N_ 18 2 17,N_ 19 31 3,y_ 20 23 [z_ 18,z_ 19],V_ 16 20,W_ 21 0 16,W_ 22 1 16,o_ 7 (au z4_ 25),S_ 25 7 21,V_ 8 22]
def adl:=R_ [V_ 23 8,H_ 24 23 0]
def ai8:=R_ [o_ 25 (aI vB 3 []),o_ 26 (aI IX 4 []),V_ 27 8,S_ 3 4 25,S_ 4 5 26,V_ 6 27]
def ai7:CT:=.dO [28,29,30,31,32] [mq 28 3 2 1,cI [28] (bg 29) 24 [z_ 28],mq 30 25 7 2,i_ [29,30] 31 (aI [cC,cC,cC,.int .i64 0,.str [],.int .u32 0,.str [],cC,.int .u32 0,.int .u32 0,.int .u32 0,.str [],cC,.bool false,.int .u32 0,cC,cC,cC,cC,cC,cC,cC,cC,cC,cC,.bool false,.bool false,.int .i64 0,cC,cC,cC,.int .i64 0] 32 [(0,3,z_ 29),(3,25,z_ 30)]) 1,e1_ x_ 32 31,aS 9 32]
def ai6:CT:=.dO [33,34,35,36] [cI [] (bg 33) 25 [],oy 34 0 3 2,nN 35 34 2,i_ [33,35] 36 (jF .i jV false (z_ 33) (z_ 35)) 1,aS 10 36]
def ai5:=R_ [V_ 37 10,o_ 38 (d_ (kT true .func) 37 jV)]
def ai4:=R_ [V_ 39 10,V_ 40 9,vP (bg 41) (z_ 39) [z_ 40],V_ 8 41]
def MY:=R_ [V_ 42 8,H_ 43 42 0]
def ado:=R_ [o_ 44 (aI vB 3 []),o_ 45 (aI IX 4 []),V_ 46 8,S_ 3 4 44,S_ 4 5 45,V_ 6 46]
def adn:CT:=.dO [47,48,49,50,51,52,53,54] [aS 47 9,i_ [47] 48 (aY (z_ 47)) 1,dV 49 0 48,mq 50 3 49 1,eU 3 4 50,iF 51 9 2,i_ [51] 52 (aY (z_ 51)) 2,oy 53 28 52 2,mq 54 4 53 2,eU 4 5 54,i_ [] 6 (c_ (.int .i64 0)) 1]
def A10:CF:=⟨[b6 4 3,b6 5 4,aG 6],sr [X_ 2 0,X_ 3 1,o_ 4 (au vB 3),o_ 5 (au IX 4),I_ 6 0] (iq SL 13 (rt ai9) (sq adm (iq adl 24 (rt ai8) (sq ai7 (sq (sq ai6 (sq ai5 (cd 38 ai4 .skip))) (iq MY 43 (rt ado) (rt adn))))))),55⟩
theorem c10:cF 10=some A10:=bH
def ai3:=R_ [F_ 4]
def ai2:=R_ [I_ 5 0]
def ai1:=R_ [F_ 4]
def ai0:=R_ [V_ 15 5,D_ 16 15 1,V_ 5 16]
def adJ:CT:=lr [V_ 11 5,V_ 12 0,E_ 13 12,B_ 14 11 13] 14 0 1 (sq (.dO [17,18,19,20,21,22,23,24,25,26] [aS 17 0,aS 18 5,dR 19 1 17 18,cY 20 19,aS 21 1,aS 22 5,dR 23 1 21 22,cY 24 23,cI [20,24] (bg 25) 35 [z_ 20,z_ 24],e1_ un 26 25]) (cd 26 (rt ai1) .skip)) ai0
def aiZ:=R_ [T_ 4]
def A16:CF:=⟨[aG 4],sr [F_ 4] (ir [V_ 6 0,E_ 7 6,V_ 8 1,E_ 9 8,eT sO 10 7 9] 10 (rt ai3) (sq (sq ai2 (bl 0 adJ)) (rt aiZ))),27⟩
theorem c16:cF 16=some A16:=bH
def aiY:=R_ [V_ 23 0,V_ 24 0,E_ 25 24,o_ 26 (di (bR .quo) 25 2),o_ 27 (wH (ja 1) (z_ 23) (some (z_ 26)) none none),V_ 28 1,y_ 29 17 [z_ 27,z_ 28],V_ 6 29]
def aiX:=R_ [o_ 7 (c_ cC)]
def aiW:=R_ [I_ 8 0]
def aiV:=R_ [I_ 9 0]
def MV:=R_ [V_ 63 7,V_ 64 5,V_ 65 8,J_ 66 1 64 65,L_ 67 66,o_ 68 (aO uC 1 1 [(0,1,z_ 67)]),o_ 69 (dG 1 24 (z_ 63) (z_ 68)),V_ 7 69]
def MU:=R_ [V_ 70 8,D_ 71 70 1,V_ 8 71]
def MS:=R_ [V_ 72 7,V_ 73 6,V_ 74 9,J_ 75 1 73 74,L_ 76 75,o_ 77 (aO uC 1 1 [(0,1,z_ 76)]),o_ 78 (dG 1 24 (z_ 72) (z_ 77)),V_ 7 78]
def MR:=R_ [V_ 79 9,D_ 80 79 1,V_ 9 80]
def IQ:CT:=sq (sr [V_ 30 8,V_ 31 5,E_ 32 31,B_ 33 30 32,V_ 34 33,pT 34 35 9,pT 34 36 6,h_ 34 37 (u_ bm 36),h_ 34 38 (b_ jR 35 37),Q_ 39 34 38] (cd 39 .skip (.exit 0))) (.block 1 (sq (.dO [40,41,42,43,44,45,46,47,48,49,50,51,52,53,54,55,56,57,58,59,60,61,62] [aS 40 9,aS 41 6,u1_ bm 42 41,v7 nY 43 40 42,aS 44 43,q1_ 44 45 8,q1_ 44 46 5,hI [44,46] 44 47 (u_ bm 46) 1,hI [44,45,47] 44 48 (b_ jR 45 47) 1,q1_ 44 49 48,gK 49 50 5,gK 49 51 8,gI [49,50,51] 49 52 (b_ (cK 1) 50 51) 1,s8 49 53 52,gK 49 54 6,gK 49 55 9,gI [49,54,55] 49 56 (b_ (cK 1) 54 55) 1,s8 49 57 56,gK 49 58 1,gcI [49,53,57,58] (z_ 49) true (bg 59) 36 [z_ 53,z_ 57,z_ 58],gI [49,59] 49 60 (di yW 59 0) 1,hI [44,49,60] 44 61 (p_ 49 60) 1,i_ [44,61] 62 (q_ 44 61) 1]) (cd 62 (sq MV MU) (sq MS MR))))
def acI:=R_ [V_ 81 7,V_ 4 81]
def A17:CF:=⟨[aG 4],sr [o_ 4 (c_ cC)] (ir [V_ 10 0,E_ 11 10,eZ jR 12 11 2] 12 (rr [o_ 13 (aO uC 0 1 []),V_ 14 0,o_ 15 (dG 1 24 (z_ 13) (z_ 14)),V_ 4 15]) (sr [V_ 16 0,V_ 17 0,E_ 18 17,o_ 19 (di (bR .quo) 18 2),o_ 20 (wH (ja 1) (z_ 16) none (some (z_ 19)) none),V_ 21 1,y_ 22 17 [z_ 20,z_ 21],V_ 5 22] (sq aiY (sq aiX (sq aiW (sq aiV (sq (bl 0 IQ) (rt acI)))))))),82⟩
theorem c17:cF 17=some A17:=bH
def Tm:CT:=lr [V_ 7 6,A_ 8 0 2,L_ 9 8,E_ 10 9,B_ 11 7 10] 11 0 1 (sr [A_ 14 0 2,L_ 15 14,V_ 16 6,J_ 17 4 15 16,A_ 18 1 17,L_ 19 18,V_ 20 1,eT dq 21 19 20] (cd 21 (rr [A_ 22 0 2,L_ 23 22,V_ 24 6,J_ 25 4 23 24,N_ 26 4 25,S_ 4 4 26,T_ 5]) .skip)) (R_ [V_ 12 6,D_ 13 12 1,V_ 6 13])
def aiU:=R_ [o_ 27 (aI wO 4 []),S_ 4 4 27,F_ 5]
def A18:CF:=⟨[b6 4 4,aG 5],sr [X_ 2 0,o_ 4 (au wO 4),F_ 5] (sq (sr [I_ 6 0] (bl 0 Tm)) (rt aiU)),28⟩
theorem c18:cF 18=some A18:=bH
def acs:=R_ [F_ 2]
def aiT:=R_ [A_ 22 0 1,A_ 23 0 22,L_ 24 23,E_ 25 24,I_ 26 0]
def aiS:=R_ [F_ 2]
def aiR:=R_ [V_ 39 5,E_ 40 39,I_ 41 0]
def acy:=R_ [F_ 2]
def acx:=R_ [D_ 50 41 1,V_ 41 50]
def Tj:CT:=sr [B_ 42 41 40] (sq (cd 42 .skip (.exit 2)) (sq (.block 3 (sr [J_ 43 1 39 41,L_ 44 43,V_ 7 44] (sr [A_ 45 2 4,L_ 46 45,V_ 47 7,y_ 48 38 [z_ 46,z_ 47],H_ 49 48 0] (cd 49 (rt acy) .skip)))) acx))
def acw:=R_ [V_ 51 5,y_ 52 39 [z_ 51,kf 40],ru 53 52,V_ 54 53,jW 54 55 0 1,O_ 54 56 2 55,O_ 54 57 4 4,pT 54 58 5,kz (z_ 54) false (bg 59) 41 [z_ 56,z_ 57,z_ 58],h_ 54 60 (di sO 59 0),Q_ 61 54 60]
def MP:=R_ [F_ 2]
def acv:=R_ [D_ 62 26 1,V_ 26 62]
def adI:CT:=sr [B_ 27 26 25] (sq (cd 27 .skip (.exit 0)) (sq (.block 1 (sr [V_ 28 26,J_ 29 4 24 26,N_ 30 4 29,o_ 4 (au wO 4),V_ 3 28,S_ 4 4 30] (sr [A_ 31 2 1,L_ 32 31,V_ 33 3,J_ 34 1 32 33,L_ 35 34,V_ 5 35] (ir [V_ 36 5,E_ 37 36,eZ nu 38 37 4096] 38 (rt aiS) (sq (sq aiR (bl 2 Tj)) (sq acw (cd 61 (rt MP) .skip))))))) acv))
def acu:=R_ [T_ 2]
def A19:CF:=⟨[aG 2],sr [X_ 1 0,F_ 2] (ir [A_ 8 0 1,N_ 9 2 8,y_ 10 37 [z_ 9],ru 11 10,V_ 12 11,jW 12 13 2 1,kO 12 14 13,h_ 12 15 (u_ bm 14),jW 12 16 0 1,jW 12 17 0 16,kO 12 18 17,h_ 12 19 (u_ bm 18),h_ 12 20 (b_ sO 15 19),Q_ 21 12 20] 21 (rt acs) (sq (sq aiT (bl 0 adI)) (rt acu))),63⟩
theorem c19:cF 19=some A19:=bH
def II:=R_ [X_ 2 0,X_ 3 1,o_ 4 (au z4_ 25),I_ 5 0]
def IH:=R_ [N_ 10 2 2,y_ 11 37 [z_ 10],ru 12 11,V_ 13 12,O_ 13 14 31 3,kz (z_ 13) false (bg 15) 45 [z_ 14],h_ 13 16 (un 15),Q_ 17 13 16]
def Rl:=R_ [o_ 18 (aI z4_ 25 []),S_ 25 4 18,I_ 5 1]
def ab4:=R_ [N_ 19 2 2,o_ 20 (aI [cC,cC,.int .i64 0] 3 [(0,2,z_ 19)]),X_ 21 20,V_ 6 21]
def ab3:=R_ [A_ 22 0 3,L_ 23 22,o_ 24 (aI z4_ 25 [(0,1,z_ 23)]),o_ 7 (au z4_ 25),S_ 25 7 24]
def ab2:=R_ [A_ 25 0 3,L_ 26 25]
def ab1:=R_ [K_ 28 26 1,V_ 27 28]
def aiQ:=R_ [V_ 29 6,N_ 30 31 3,y_ 31 46 [z_ 29,z_ 30,z_ 7]]
def ab0:=R_ [K_ 33 26 2,V_ 32 33]
def aiP:=R_ [V_ 34 6,A_ 35 1 3,L_ 36 35,y_ 37 47 [z_ 34,z_ 36],A_ 38 2 7,S_ 4 38 37]
def ME:=R_ [K_ 40 26 3,V_ 39 40]
def acd:=R_ [V_ 41 6,N_ 42 31 3,y_ 43 48 [z_ 41,z_ 42,z_ 7]]
def MD:=R_ [K_ 45 26 4,V_ 44 45]
def acb:=R_ [N_ 47 2 2,A_ 48 2 3,L_ 49 48,y_ 50 49 [z_ 47,z_ 49],V_ 46 50,W_ 51 0 46,W_ 52 1 46,o_ 8 (au zY 6),S_ 6 8 51,V_ 9 52]
def aca:=R_ [V_ 53 6,V_ 54 9,ru 55 54,y_ 56 50 [z_ 53,kI 202,z_ 55]]
def ab':=R_ [N_ 57 6 8,A_ 58 6 7,S_ 6 58 57]
def ab_:=R_ [N_ 60 2 2,A_ 61 1 8,L_ 62 61,y_ 63 51 [z_ 60,z_ 62],V_ 59 63,W_ 64 0 59,W_ 65 1 59,A_ 66 2 7,S_ 4 66 64]
def MC:=R_ [K_ 68 26 5,V_ 67 68]
def ab9:=R_ [V_ 69 6,N_ 70 31 3,y_ 71 52 [z_ 69,z_ 70,z_ 7]]
def MB:=R_ [K_ 73 26 6,V_ 72 73]
def ab8:=R_ [V_ 74 6,A_ 75 1 3,L_ 76 75,y_ 77 47 [z_ 74,z_ 76],A_ 78 2 7,S_ 4 78 77]
def ab7:=R_ [V_ 79 6,o_ 80 (aY (z_ 79)),A_ 81 2 80,L_ 82 81,K_ 83 82 0]
def ab6:CT:=.dO [84,85,86,87,88,89,90,91] [dV 85 2 7,mq 86 4 85 1,cI [86] (bg 87) 54 [z_ 86],iF 84 6 2,oy 88 8 3 2,mq 89 8 88 2,cI [84,87,89] (bg 90) 53 [z_ 84,z_ 87,z_ 89],dV 91 17 7,eU 1 91 90]
def MA:=R_ [K_ 93 26 7,V_ 92 93]
def ab5:=R_ [V_ 94 6,N_ 95 31 3,y_ 96 55 [z_ 94,z_ 95,z_ 7]]
def Me:=R_ [K_ 98 26 8,V_ 97 98]
def Md:=R_ [V_ 99 6,A_ 100 16 3,N_ 101 15 100,y_ 102 56 [z_ 99,z_ 101,z_ 7]]
def EE:=R_ [V_ 103 6,o_ 104 (aY (z_ 103)),A_ 105 2 104,L_ 106 105,H_ 107 106 0]
def Mc:CT:=.dO [108,109,110,111,112] [i_ [] 108 (aI z4_ 25 []) 1,eU 25 4 108,iF 109 6 2,i_ [109] 110 (aY (z_ 109)) 2,oy 111 2 110 2,nN 112 111 2,aS 5 112]
def LZ:=R_ [N_ 113 25 7,S_ 25 4 113,I_ 5 0]
def A23:CF:=⟨[b6 4 25,aG 5],sq II (iq IH 17 (rt Rl) (sq ab4 (sq ab3 (sq (sq ab2 (.block 0 (sq ab1 (cd 27 aiQ (sq ab0 (cd 32 aiP (sq ME (cd 39 acd (sq MD (cd 44 (sq acb (sq aca (sq ab' ab_))) (sq MC (cd 67 ab9 (sq MB (cd 72 (sq ab8 (sq ab7 (cd 83 ab6 .skip))) (sq MA (cd 92 ab5 (sq Me (cd 97 Md .skip)))))))))))))))))) (iq EE 107 (rt Mc) (rt LZ)))))),114⟩
theorem c23:cF 23=some A23:=bH
def aiO:=R_ [A_ 17 2 5,L_ 18 17,y_ 19 57 [z_ 18],A_ 20 2 5,S_ 1 20 19]
def aiN:=R_ [A_ 21 0 3,A_ 22 0 21,L_ 23 22,N_ 24 4 5,o_ 25 (aO wO 1 4 [(0,4,z_ 24)]),o_ 26 (dG 4 56 (z_ 23) (z_ 25)),A_ 27 0 3,A_ 28 0 27,S_ 1 28 26]
def aiM:CT:=.dO [29,30,31,32,33,34,35,36,37,38,39] [dV 31 2 1,cY 32 31,aS 33 4,dR 34 1 32 33,cY 35 34,cI [35] (bg 36) 58 [z_ 35],oy 29 2 3 2,nN 30 29 2,i_ [36] 37 (aO uC 1 1 [(0,1,z_ 36)]) 1,mI [30,37] (bg 38) (dG 1 24 (z_ 30) (z_ 37)),dV 39 2 3,eU 1 39 38]
def aiL:=R_ [D_ 40 12 1,V_ 12 40]
def S9:CT:=sr [B_ 13 12 11] (sq (cd 13 .skip (.exit 0)) (sq (.block 1 (sr [V_ 14 12,J_ 15 4 10 12,N_ 16 4 15,o_ 5 (au wO 4),V_ 4 14,S_ 4 5 16] (sq aiO (sq aiN aiM)))) aiL))
def aiK:=R_ [A_ 41 0 1,A_ 42 1 41,L_ 43 42,E_ 44 43,I_ 45 0]
def abX:=R_ [A_ 49 3 7,L_ 50 49,y_ 51 59 [z_ 50],A_ 52 3 7,S_ 1 52 51]
def abW:=R_ [A_ 53 0 3,A_ 54 1 53,L_ 55 54,N_ 56 6 7,o_ 57 (aO zY 1 6 [(0,6,z_ 56)]),o_ 58 (dG 6 56 (z_ 55) (z_ 57)),A_ 59 0 3,A_ 60 1 59,S_ 1 60 58]
def abV:=R_ [D_ 61 45 1,V_ 45 61]
def S8:CT:=sr [B_ 46 45 44] (sq (cd 46 .skip (.exit 2)) (sq (.block 3 (sr [J_ 47 6 43 45,N_ 48 6 47,o_ 7 (au zY 6),S_ 6 7 48] (sq abX abW))) abV))
def abU:=R_ [N_ 62 3 3,S_ 3 2 62]
def A24:CF:=⟨[b6 2 3],sr [X_ 1 0,o_ 2 (au vB 3)] (sr [o_ 3 (au vB 3)] (sq (sr [A_ 8 0 1,A_ 9 0 8,L_ 10 9,E_ 11 10,I_ 12 0] (bl 0 S9)) (sq (sq aiK (bl 2 S8)) (rt abU)))),63⟩
theorem c24:cF 24=some A24:=bH
def A25:CF:=⟨[aG 0],sr [o_ 0 (c_ (.aV (.map none)))] (rr [o_ 1 (lJ),oP ri (lI .i (z_ 1) (kI 1) (kf 60)),oP ri (lI .i (z_ 1) (kI 2) (kf 61)),oP ri (lI .i (z_ 1) (kI 3) (kf 62)),oP ri (lI .i (z_ 1) (kI 4) (kf 63)),oP ri (lI .i (z_ 1) (kI 5) (kf 64)),oP ri (lI .i (z_ 1) (kI 6) (kf 65)),oP ri (lI .i (z_ 1) (kI 7) (kf 66)),oP ri (lI .i (z_ 1) (kI 8) (kf 67)),V_ 2 1,V_ 0 2]),3⟩
theorem c25:cF 25=some A25:=bH
def aiJ:=R_ [V_ 28 6,H_ 29 28 0]
def aiI:=R_ [V_ 30 6,V_ 4 30]
def aiH:=R_ [V_ 17 5,D_ 18 17 1,V_ 5 18]
def IP:CT:=lr [V_ 7 5,V_ 8 0,E_ 9 8,B_ 10 7 9,V_ 11 10,jn 11 12 5,jn 11 13 1,g_ 11 14 (u_ bm 13),g_ 11 15 (b_ jR 12 14),P_ 16 11 15] 16 0 1 (sq (.dO [19,20,21,22,23,24,25,26,27] [aS 19 0,aS 20 5,dR 21 3 19 20,mq 22 3 21 1,aS 23 1,aS 24 5,dR 25 3 23 24,mq 26 3 25 1,cI [22,26] (bg 27) 79 [z_ 22,z_ 26],aS 6 27]) (sq aiJ (cd 29 (rt aiI) .skip))) aiH
def Qx:=R_ [V_ 31 0,E_ 32 31,V_ 33 1,E_ 34 33,B_ 35 32 34]
def aiG:=R_ [o_ 4 (c_ (.int .i64 (-1)))]
def abf:=R_ [V_ 36 0,E_ 37 36,V_ 38 1,E_ 39 38,eT nu 40 37 39]
def abh:=R_ [I_ 4 1]
def abg:=R_ [I_ 4 0]
def A30:CF:=⟨[aG 4],sr [I_ 4 0] (sq (sr [I_ 5 0] (bl 0 IP)) (iq Qx 35 (rt aiG) (iq abf 40 (rt abh) (rt abg)))),41⟩
theorem c30:cF 30=some A30:=bH
def aiF:=R_ [F_ 4]
def aiE:=R_ [I_ 5 0]
def aiD:=R_ [F_ 4]
def aiC:=R_ [V_ 15 5,D_ 16 15 1,V_ 5 16]
def adB:CT:=lr [V_ 11 5,V_ 12 0,E_ 13 12,B_ 14 11 13] 14 0 1 (sq (.dO [17,18,19,20,21,22,23,24,25] [aS 17 0,aS 18 5,dR 19 3 17 18,mq 20 3 19 1,aS 21 1,aS 22 5,dR 23 3 21 22,mq 24 3 23 1,i_ [20,24] 25 (b_ (og true [.i,.i,.s]) 20 24) 1]) (cd 25 (rt aiD) .skip)) aiC
def aiB:=R_ [T_ 4]
def A35:CF:=⟨[aG 4],sr [F_ 4] (ir [V_ 6 0,E_ 7 6,V_ 8 1,E_ 9 8,eT sO 10 7 9] 10 (rt aiF) (sq (sq aiE (bl 0 adB)) (rt aiB))),26⟩
theorem c35:cF 35=some A35:=bH
def ajd:CT:=lr [V_ 9 7,V_ 10 2,E_ 11 10,B_ 12 9 11] 12 0 1 (sq (.dO [15,16,17,18,19,20,21,22,23,24,25,26,27,28,29,30,31] [aS 15 0,aS 16 2,aS 17 7,dR 18 2 16 17,dV 19 0 18,cY 20 19,dR 21 3 15 20,mq 22 3 21 1,aS 23 1,aS 24 2,aS 25 7,dR 26 2 24 25,dV 27 0 26,cY 28 27,dR 29 3 23 28,mq 30 3 29 1,cI [22,30] (bg 31) 79 [z_ 22,z_ 30],aS 8 31]) (ir [V_ 32 2,V_ 33 7,J_ 34 2 32 33,A_ 35 1 34,L_ 36 35] 36 (R_ [V_ 37 8,o_ 38 (u_ (cUn .neg) 37),V_ 8 38]) (sr [V_ 39 8,H_ 40 39 0] (cd 40 (rr [V_ 41 8,V_ 6 41]) .skip)))) (R_ [V_ 13 7,D_ 14 13 1,V_ 7 14])
def aiA:=R_ [V_ 42 0,V_ 43 1,y_ 44 30 [z_ 42,z_ 43],V_ 6 44]
def A36:CF:=⟨[aG 6],sr [I_ 6 0] (sq (sr [I_ 7 0] (bl 0 ajd)) (rt aiA)),45⟩
theorem c36:cF 36=some A36:=bH
def aiz:=R_ [V_ 4 25]
def IG:=R_ [L_ 26 3,V_ 27 4,o_ 28 (jF .i (.int .i64 0) false (z_ 26) (z_ 27)),D_ 29 28 1,oP ri (lI .i (z_ 26) (z_ 27) (z_ 29))]
def IE:=R_ [V_ 30 4,o_ 31 (d_ dq 30 (.int .u32 0)),V_ 32 31,kO 32 33 3,pT 32 34 4,h_ 32 35 (jF .i (.int .i64 0) false (z_ 33) (z_ 34)),h_ 32 36 (di nu 35 1),Q_ 37 32 36]
def ID:=R_ [oP ri (dz 1 (z_ 2) (aQ (.bool false)))]
def CC:Code×Code:=V8 pG 37 0
theorem ajq:eQ pG 120 true CC.1=aiz :=bH
theorem ajp:eQ pG 120 true CC.2=(.block 1 (sq IG (sq IE (cd 37 (sq ID .ret) .skip)))) :=bH
def aiy:=R_ [o_ 5 (c_ (.int .u32 0))]
def aa3:=R_ [A_ 38 0 1,L_ 39 38,E_ 40 39,I_ 41 0]
def Lx:=R_ [A_ 46 0 7,L_ 47 46,V_ 48 5,eT yW 49 47 48,V_ 50 49,jW 50 51 1 7,kO 50 52 51,kz (z_ 50) false (bg 53) 81 [z_ 52],h_ 50 54 (un 53),Q_ 55 50 54,V_ 56 55,jW 56 57 2 7,kO 56 58 57,kz (z_ 56) false (bg 59) 82 [z_ 58],h_ 56 60 (un 59),Q_ 61 56 60,V_ 62 61,jW 62 63 0 1,kO 62 64 63,pT 62 65 6,h_ 62 66 (wH (ja 4) (z_ 64) none (some (z_ 65)) none),h_ 62 67 (jr (.func 84) [] [z_ 7]),kz (z_ 62) false (bg 68) 83 [z_ 66,z_ 67],Q_ 69 62 68]
def zB:=R_ [oP ri (dz 1 (z_ 2) (aQ (.bool false)))]
def aa2:=R_ [A_ 70 0 7,L_ 71 70,V_ 5 71]
def aa1:=R_ [D_ 72 41 1,V_ 41 72]
def S0:CT:=sr [B_ 42 41 40] (sq (cd 42 .skip (.exit 2)) (sq (.block 3 (sr [V_ 43 41,J_ 44 4 39 41,N_ 45 4 44,o_ 7 (au wO 4),V_ 6 43,S_ 4 7 45] (iq Lx 69 (rt zB) aa2))) aa1))
def aa0:=R_ [o_ 5 (c_ (.int .u32 0))]
def aaZ:=R_ [A_ 73 1 1,L_ 74 73,E_ 75 74,I_ 76 0]
def aaY:=R_ [N_ 82 2 1,A_ 83 1 9,L_ 84 83,y_ 85 51 [z_ 82,z_ 84],V_ 81 85,W_ 86 0 81,W_ 87 1 81,o_ 10 (au wO 4),S_ 4 10 86,V_ 11 87]
def Lu:=R_ [A_ 88 0 9,L_ 89 88,V_ 90 5,eT yW 91 89 90,V_ 92 91,jW 92 93 2 9,kO 92 94 93,kz (z_ 92) false (bg 95) 81 [z_ 94],h_ 92 96 (un 95),Q_ 97 92 96,V_ 98 97,pT 98 99 11,h_ 98 100 (un 99),Q_ 101 98 100,V_ 102 101,O_ 102 103 4 10,jW 102 104 3 9,kO 102 105 104,kz (z_ 102) false (bg 106) 85 [z_ 103,z_ 105],h_ 102 107 (un 106),Q_ 108 102 107,V_ 109 108,jW 109 110 1 1,kO 109 111 110,pT 109 112 8,h_ 109 113 (wH (ja 6) (z_ 111) none (some (z_ 112)) none),h_ 109 114 (jr (.func 87) [] [z_ 9]),kz (z_ 109) false (bg 115) 86 [z_ 113,z_ 114],Q_ 116 109 115]
def vo:=R_ [oP ri (dz 1 (z_ 2) (aQ (.bool false)))]
def aaX:=R_ [A_ 117 0 9,L_ 118 117,V_ 5 118]
def aaW:=R_ [D_ 119 76 1,V_ 76 119]
def SZ:CT:=sr [B_ 77 76 75] (sq (cd 77 .skip (.exit 4)) (sq (.block 5 (sr [V_ 78 76,J_ 79 6 74 76,N_ 80 6 79,o_ 9 (au zY 6),V_ 8 78,S_ 6 9 80] (sq aaY (iq Lu 116 (rt vo) aaX)))) aaW))
def aaV:=R_ [oP ri (dz 1 (z_ 2) (aQ (.bool true)))]
def A37:CF:=⟨[OD 2],sr [X_ 1 0,o_ 2 (au [.bool false] 1)] (ir [A_ 12 0 1,L_ 13 12,E_ 14 13,eZ nu 15 14 32,V_ 16 15,jW 16 17 1 1,kO 16 18 17,h_ 16 19 (u_ bm 18),h_ 16 20 (di nu 19 64),Q_ 21 16 20] 21 (rr [oP ri (dz 1 (z_ 2) (aQ (.bool false)))]) (sr [o_ 22 (lJ),o_ 3 (au [(.aV (.map none))] 1),S_ 1 3 22] (sq (sr [N_ 23 2 1,y_ 24 80 [z_ 23]] (.block 0 (.range 120 (z_ 24) [25] CC.1 CC.2))) (sq aiy (sq (sq aa3 (bl 2 S0)) (sq aa0 (sq (sq aaZ (bl 4 SZ)) (rt aaV)))))))),120⟩
theorem c37:cF 37=some A37:=bH
def aaS:=R_ [I_ 4 1]
def aix:=R_ [V_ 17 1,E_ 18 17,I_ 19 0]
def aiw:=R_ [I_ 4 5]
def aiv:CT:=.dO [29,30,31,32,33,34,35,36,37,38,39,40,41] [dV 29 0 6,cY 30 29,uz sO 31 30 0,aS 32 31,p3_ 32 33 0 6,s8 32 34 33,gK 32 35 0,gK 32 36 5,gI [32,35,36] 32 37 (b_ (cK 3) 35 36) 1,p3_ 32 38 1 37,s8 32 39 38,gI [32,34,39] 32 40 (b_ sO 34 39) 1,i_ [32,40] 41 (p_ 32 40) 1,aS 28 41]
def aiu:=R_ [I_ 4 30]
def Ed:=R_ [A_ 43 0 6,L_ 44 43,K_ 45 44 0,V_ 46 45,jn 46 47 0,jn 46 48 5,g_ 46 49 (b_ (cK 3) 47 48),eJ 46 50 2 49,fu 46 51 50,P_ 52 46 51,V_ 42 52]
def aaU:=R_ [I_ 4 50]
def Lt:=R_ [D_ 53 19 1,V_ 19 53]
def adA:CT:=sr [B_ 20 19 18] (sq (cd 20 .skip (.exit 0)) (sq (.block 1 (sr [V_ 21 19,J_ 22 3 17 19,N_ 23 3 22,o_ 6 (au fG 3),V_ 5 21,S_ 3 6 23] (.block 2 (sr [N_ 25 3 6,y_ 26 88 [z_ 25],ru 27 26,V_ 24 27] (cd 24 (rt aiw) (sq aiv (cd 28 (rt aiu) (sq Ed (cd 42 (rt aaU) .skip))))))))) Lt))
def aaT:=R_ [I_ 4 0]
def A38:CF:=⟨[aG 4],sr [I_ 4 0] (ir [V_ 7 0,y_ 8 82 [z_ 7],ru 9 8,V_ 10 9,pT 10 11 1,h_ 10 12 (u_ bm 11),pT 10 13 0,h_ 10 14 (u_ bm 13),h_ 10 15 (b_ sO 12 14),Q_ 16 10 15] 16 (rt aaS) (sq (sq aix (bl 0 adA)) (rt aaT))),54⟩
theorem c38:cF 38=some A38:=bH
def ait:=R_ [F_ 4]
def ais:=R_ [V_ 11 5,eZ fZ 12 11 1,V_ 5 12]
def adz:CT:=lr [V_ 9 5,eZ nu 10 9 0] 10 0 1 (sq (.dO [13,14,15,16,17,18,19,20,21,22,23,24] [aS 13 1,aS 14 0,aS 15 5,dR 16 1 14 15,cY 17 16,aS 18 0,aS 19 5,uz fZ 20 19 1,dR 21 1 18 20,cY 22 21,vI [13,17,22] (bg 23) (z_ 13) [z_ 17,z_ 22],uz jR 24 23 0]) (cd 24 (rt ait) .skip)) ais
def air:=R_ [T_ 4]
def A39:CF:=⟨[aG 4],sr [F_ 4] (sq (sr [V_ 6 0,E_ 7 6,eZ fZ 8 7 1,V_ 5 8] (bl 0 adz)) (rt air)),25⟩
theorem c39:cF 39=some A39:=bH
def IC:=R_ [V_ 28 7,H_ 29 28 0]
def aaP:=R_ [I_ 6 0]
def aaO:=R_ [V_ 30 0,V_ 31 5,J_ 32 3 30 31,N_ 33 3 32,y_ 34 88 [z_ 33]]
def aiq:=R_ [o_ 6 (c_ (.int .i64 (-1)))]
def aip:=R_ [V_ 35 1,V_ 36 5,J_ 37 3 35 36,N_ 38 3 37,y_ 39 88 [z_ 38]]
def aaR:=R_ [I_ 6 1]
def vm:=R_ [V_ 40 6,H_ 41 40 0]
def Ec:=R_ [V_ 42 6,V_ 4 42]
def Ls:=R_ [D_ 43 13 1,V_ 13 43]
def ady:CT:=sr [B_ 14 13 12] (sq (cd 14 .skip (.exit 0)) (sq (.block 1 (sr [V_ 15 13,V_ 5 15] (sq (.dO [17,18,19,20,21,22,23,24,25,16,26,27] [aS 17 0,aS 18 5,dR 19 3 17 18,mq 20 3 19 1,aS 21 1,aS 22 5,dR 23 3 21 22,mq 24 3 23 1,cI [20,24] (bg 25) 89 [z_ 20,z_ 24],aS 16 25,i_ [16] 26 (u_ (kS 0) 16) 1,i_ [16] 27 (u_ (kS 1) 16) 1,aS 6 26,aS 7 27]) (iq IC 29 (sq aaP (sq aaO (cd 34 aiq (sq aip (cd 39 aaR .skip))))) (sq vm (cd 41 (rt Ec) .skip)))))) Ls))
def aaQ:=R_ [V_ 44 0,E_ 45 44,V_ 46 1,E_ 47 46,eT fZ 48 45 47,V_ 4 48]
def A40:CF:=⟨[aG 4],sr [I_ 4 0] (sq (sr [V_ 8 0,E_ 9 8,V_ 10 1,E_ 11 10,o_ 12 (y6 Uj [z_ 9,z_ 11]),I_ 13 0] (bl 0 ady)) (rt aaQ)),49⟩
theorem c40:cF 40=some A40:=bH
def aio:=R_ [V_ 21 2,E_ 22 21,I_ 23 0]
def ain:=R_ [V_ 34 7,V_ 35 11,vP (bg 36) (z_ 34) [z_ 35]]
def aim:=R_ [N_ 37 2 3,A_ 38 0 4,L_ 39 38,y_ 40 92 [z_ 37,z_ 39],E_ 41 40,I_ 42 0]
def aaN:=R_ [V_ 55 7,V_ 56 16,vP (bg 57) (z_ 55) [z_ 56]]
def Lr:=R_ [D_ 58 42 1,V_ 42 58]
def IM:CT:=sr [B_ 43 42 41] (sq (cd 43 .skip (.exit 2)) (sq (.block 3 (sr [J_ 44 6 40 42,N_ 45 6 44,o_ 13 (au zY 6),S_ 6 13 45] (sr [V_ 46 11,K_ 47 46 0] (cd 47 (sr [N_ 49 6 13,V_ 50 9,y_ 51 93 [z_ 49,z_ 50],V_ 48 51,W_ 52 0 48,W_ 53 1 48,W_ 54 2 48,V_ 14 52,V_ 15 53,V_ 16 54] aaN) .skip)))) Lr))
def aaM:=R_ [D_ 59 23 1,V_ 23 59]
def adx:CT:=sr [B_ 24 23 22] (sq (cd 24 .skip (.exit 0)) (sq (.block 1 (sr [J_ 25 1 21 23,L_ 26 25,V_ 9 26] (sr [A_ 28 2 4,L_ 29 28,V_ 30 9,y_ 31 91 [z_ 29,z_ 30],V_ 27 31,W_ 32 0 27,W_ 33 1 27,V_ 10 32,V_ 11 33] (sq ain (sq aim (bl 2 IM)))))) aaM))
def aaL:=R_ [V_ 60 7,vP (bg 61) (z_ 60) [kI 0],V_ 17 61]
def Lq:=R_ [V_ 62 17,H_ 63 62 0]
def aaK:=R_ [V_ 64 17,V_ 6 64]
def aaJ:=R_ [N_ 65 2 3,A_ 66 0 4,L_ 67 66,y_ 68 92 [z_ 65,z_ 67],E_ 69 68,I_ 70 0]
def aaI:=R_ [I_ 6 160]
def Lp:=R_ [D_ 81 70 1,V_ 70 81]
def SY:CT:=sr [B_ 71 70 69] (sq (cd 71 .skip (.exit 4)) (sq (.block 5 (sr [J_ 72 6 68 70,N_ 73 6 72,o_ 19 (au zY 6),S_ 6 19 73] (sr [A_ 74 4 19,L_ 75 74,V_ 76 75,zV 76 77 6 19,jn 76 78 2,kz (z_ 76) true (bg 79) 94 [z_ 77,z_ 78],P_ 80 76 79] (cd 80 (rt aaI) .skip)))) Lp))
def aaH:=R_ [I_ 6 0]
def A41:CF:=⟨[aG 6],sr [X_ 3 0,X_ 4 1,I_ 6 0] (sr [y_ 20 90 [],V_ 7 20] (sq (sq aio (bl 0 adx)) (sq (sq aaL (sq Lq (cd 63 (rt aaK) .skip))) (sq (sq aaJ (bl 4 SY)) (rt aaH))))),82⟩
theorem c41:cF 41=some A41:=bH
def aaG:=R_ [X_ 1 0,F_ 2]
def aaF:=R_ [A_ 15 0 1,L_ 16 15,o_ 17 (aI Vn 31 [(0,1,z_ 16)]),o_ 3 (au Vn 31),S_ 31 3 17]
def aaz:=R_ [F_ 4]
def aat:=R_ [A_ 18 0 1,L_ 19 18]
def aas:=R_ [K_ 21 19 1,V_ 20 21]
def ail:CT:=.dO [22,23,24,25,26,27] [dV 22 1 1,cY 23 22,dV 26 1 3,eU 1 26 23,oy 24 3 1 2,nN 25 24 2,dV 27 3 3,eU 1 27 25]
def aik:=R_ [A_ 28 1 1,L_ 29 28,y_ 30 109 [z_ 29],V_ 31 30,eJ 31 32 3 1,fu 31 33 32,g_ 31 34 (u_ bm 33),kz (z_ 31) true (bg 35) 110 [z_ 34,kI 16],P_ 36 31 35,V_ 4 36]
def aij:=R_ [A_ 37 3 1,L_ 38 37,E_ 39 38,I_ 40 0]
def ajc:CT:=sr [B_ 41 40 39] (sq (cd 41 .skip (.exit 1)) (sq (.block 2 (sr [J_ 42 3 38 40,N_ 43 3 42,o_ 6 (au I3 3),S_ 3 6 43] (R_ [V_ 44 4,V_ 45 44,eJ 45 46 0 6,fu 45 47 46,kz (z_ 45) true (bg 48) 109 [z_ 47],P_ 49 45 48,V_ 50 49,eJ 50 51 1 6,fu 50 52 51,g_ 50 53 (di nY 52 1),P_ 54 50 53,V_ 55 54,eJ 55 56 1 6,fu 55 57 56,g_ 55 58 (di yW 57 3),P_ 59 55 58,V_ 4 59]))) (R_ [D_ 60 40 1,V_ 40 60])))
def Lo:=R_ [K_ 62 19 2,V_ 61 62]
def aaE:=R_ [A_ 63 1 1,L_ 64 63,A_ 65 1 3,S_ 1 65 64]
def aaD:=R_ [A_ 66 1 1,L_ 67 66,y_ 68 109 [z_ 67],V_ 4 68]
def Ln:=R_ [K_ 70 19 3,V_ 69 70]
def aaC:CT:=.dO [71,72,73,74,75,76,77,78,79,80,81,82] [dV 71 1 1,cY 72 71,dV 79 1 3,eU 1 79 72,oy 73 2 1 2,nN 74 73 2,dV 80 2 3,eU 1 80 74,oy 75 4 1 3,nN 76 75 3,dV 81 4 3,eU 1 81 76,oy 77 5 1 4,nN 78 77 4,dV 82 5 3,eU 1 82 78]
def aaB:=R_ [A_ 83 1 1,L_ 84 83,y_ 85 109 [z_ 84],V_ 86 85,eJ 86 87 2 1,fu 86 88 87,kz (z_ 86) true (bg 89) 109 [z_ 88],P_ 90 86 89,V_ 91 90,eJ 91 92 4 1,fu 91 93 92,g_ 91 94 (u_ bm 93),kz (z_ 91) true (bg 95) 110 [z_ 94,kI 16],P_ 96 91 95,V_ 4 96]
def aaA:=R_ [A_ 97 4 1,L_ 98 97,E_ 99 98,I_ 100 0]
def ajb:CT:=sr [B_ 101 100 99] (sq (cd 101 .skip (.exit 3)) (sq (.block 4 (sr [J_ 102 1 98 100,L_ 103 102,V_ 8 103] (R_ [V_ 104 4,V_ 105 104,jn 105 106 8,kz (z_ 105) true (bg 107) 109 [z_ 106],P_ 108 105 107,V_ 4 108]))) (R_ [D_ 109 100 1,V_ 100 109])))
def Lm:=R_ [K_ 111 19 4,V_ 110 111]
def aay:=R_ [A_ 112 2 1,L_ 113 112,A_ 114 2 3,S_ 1 114 113]
def aax:=R_ [A_ 115 2 1,L_ 116 115,y_ 117 109 [z_ 116],V_ 4 117]
def Ll:=R_ [K_ 119 19 5,V_ 118 119]
def aaw:CT:=.dO [120,121,122,123,124,125] [dV 120 1 1,cY 121 120,dV 124 1 3,eU 1 124 121,oy 122 6 1 2,nN 123 122 2,dV 125 6 3,eU 1 125 123]
def aav:=R_ [A_ 126 1 1,L_ 127 126,y_ 128 109 [z_ 127],V_ 129 128,eJ 129 130 6 1,fu 129 131 130,g_ 129 132 (u_ bm 131),g_ 129 133 (di nu 132 0),P_ 134 129 133,V_ 4 134]
def aau:=R_ [A_ 135 6 1,L_ 136 135,E_ 137 136,I_ 138 0]
def asA:CT:=sr [B_ 151 150 149] (sq (cd 151 .skip (.exit 7)) (sq (.block 8 (sr [J_ 152 8 148 150,N_ 153 8 152,o_ 12 (au uB 8),S_ 8 12 153] (R_ [V_ 154 4,V_ 155 154,zV 155 156 8 12,kz (z_ 155) true (bg 157) 111 [z_ 156],P_ 158 155 157,V_ 4 158]))) (R_ [D_ 159 150 1,V_ 150 159])))
def aja:CT:=sr [B_ 139 138 137] (sq (cd 139 .skip (.exit 5)) (sq (.block 6 (sr [J_ 140 1 136 138,L_ 141 140,V_ 10 141] (sr [V_ 142 4,V_ 143 142,jn 143 144 10,g_ 143 145 (u_ bm 144),kz (z_ 143) true (bg 146) 110 [z_ 145,kI 16],P_ 147 143 146,V_ 4 147] (sr [V_ 148 10,E_ 149 148,I_ 150 0] (bl 7 asA))))) (R_ [D_ 160 138 1,V_ 138 160])))
def Lj:=R_ [K_ 162 19 6,V_ 161 162]
def aar:CT:=.dO [163,164,165,166,167,168] [dV 163 1 1,cY 164 163,dV 167 1 3,eU 1 167 164,oy 165 8 1 2,mq 166 8 165 2,dV 168 8 3,eU 8 168 166]
def aaq:=R_ [A_ 169 1 1,L_ 170 169,y_ 171 109 [z_ 170],V_ 172 171,eJ 172 173 8 1,zV 172 174 8 173,kz (z_ 172) true (bg 175) 112 [z_ 174],P_ 176 172 175,V_ 4 176]
def Lh:=R_ [K_ 178 19 7,V_ 177 178]
def aap:CT:=.dO [179,180,181,182,183,184,185,186,187] [dV 179 1 1,cY 180 179,dV 185 1 3,eU 1 185 180,oy 181 7 1 2,nN 182 181 2,dV 186 7 3,eU 1 186 182,oy 183 8 1 3,mq 184 8 183 3,dV 187 8 3,eU 8 187 184]
def aao:=R_ [A_ 188 1 1,L_ 189 188,y_ 190 109 [z_ 189],V_ 191 190,eJ 191 192 7 1,fu 191 193 192,g_ 191 194 (u_ bm 193),kz (z_ 191) true (bg 195) 110 [z_ 194,kI 16],P_ 196 191 195,V_ 197 196,eJ 197 198 8 1,zV 197 199 8 198,kz (z_ 197) true (bg 200) 112 [z_ 199],P_ 201 197 200,V_ 4 201]
def aan:=R_ [A_ 202 7 1,L_ 203 202,E_ 204 203,I_ 205 0]
def ai':CT:=sr [B_ 206 205 204] (sq (cd 206 .skip (.exit 9)) (sq (.block 10 (sr [J_ 207 9 203 205,N_ 208 9 207,o_ 14 (au [.str [],.int .i64 0,.int .i64 0,.int .i64 0,.str [],.str [],.str [],.int .i64 0,cC] 9),S_ 9 14 208] (R_ [V_ 209 4,V_ 210 209,eJ 210 211 0 14,fu 210 212 211,kz (z_ 210) true (bg 213) 109 [z_ 212],P_ 214 210 213,V_ 215 214,eJ 215 216 1 14,zV 215 217 8 216,kz (z_ 215) true (bg 218) 111 [z_ 217],P_ 219 215 218,V_ 4 219]))) (R_ [D_ 220 205 1,V_ 205 220])))
def Ld:=R_ [K_ 222 19 8,V_ 221 222]
def Lc:=R_ [A_ 223 16 1,N_ 224 15 223,A_ 225 16 3,S_ 15 225 224]
def La:=R_ [A_ 226 16 1,N_ 227 15 226,y_ 228 113 [z_ 227],V_ 4 228]
def aam:=R_ [K_ 230 19 9,V_ 229 230]
def aal:=R_ [K_ 231 19 10,V_ 229 231]
def aak:=R_ [K_ 232 19 11,V_ 229 232]
def aaj:=R_ [T_ 4]
def vl:=R_ [V_ 233 4,V_ 234 233,zV 234 235 31 1,zV 234 236 31 3,kz (z_ 234) true (bg 237) 114 [z_ 235,z_ 236],P_ 238 234 237,V_ 2 238]
def A45:CF:=⟨[aG 2],sq aaG (sq aaF (sq aaz (sq (sq aat (.block 0 (sq aas (cd 20 (sq ail (sq aik (sq aij (bl 1 ajc)))) (sq Lo (cd 61 (sq aaE aaD) (sq Ln (cd 69 (sq aaC (sq aaB (sq aaA (bl 3 ajb)))) (sq Lm (cd 110 (sq aay aax) (sq Ll (cd 118 (sq aaw (sq aav (sq aau (bl 5 aja)))) (sq Lj (cd 161 (sq aar aaq) (sq Lh (cd 177 (sq aap (sq aao (sq aan (bl 9 ai')))) (sq Ld (cd 221 (sq Lc La) (sq (sq aam (cd 229 .skip (sq aal (cd 229 .skip aak)))) (cd 229 aaj .skip)))))))))))))))))))) (rt vl)))),239⟩
theorem c45:cF 45=some A45:=bH
def aii:=R_ [V_ 16 0,V_ 17 6,ru 18 17,y_ 19 50 [z_ 16,kI 200,z_ 18]]
def aih:=R_ [N_ 20 4 5,S_ 4 4 20]
def A47:CF:=⟨[b6 4 4],sr [o_ 4 (au wO 4)] (sr [V_ 8 0,o_ 9 (aY (z_ 8)),A_ 10 0 9,N_ 11 2 10,V_ 12 1,y_ 13 115 [z_ 11,z_ 12],V_ 7 13,W_ 14 0 7,W_ 15 1 7,o_ 5 (au wO 4),S_ 4 5 14,V_ 6 15] (sq aii (rt aih))),21⟩
theorem c47:cF 47=some A47:=bH
def A50:CF:=⟨[],sr [V_ 6 2,V_ 7 6,jn 7 8 0,g_ 7 9 (aY (z_ 8)),eJ 7 10 2 9,fu 7 11 10,g_ 7 12 (di dq 11 0),P_ 13 7 12] (cd 13 (R_ [V_ 14 0,V_ 15 1,o_ 16 (aY (z_ 14)),A_ 17 2 16,S_ 1 17 15]) .skip),18⟩
theorem c50:cF 50=some A50:=bH
def A51:CF:=⟨[b6 4 4,aG 5],sr [X_ 2 0,X_ 3 1,o_ 4 (au wO 4),F_ 5] (rr [A_ 6 0 2,L_ 7 6,o_ 8 (jr (.func 126) [] [z_ 3]),y_ 9 125 [z_ 7,z_ 8],W_ 10 0 9,W_ 11 1 9,y_ 12 124 [z_ 10,z_ 11],W_ 13 0 12,W_ 14 1 12,S_ 4 4 13,V_ 5 14]),15⟩
theorem c51:cF 51=some A51:=bH
def Qw:=R_ [V_ 19 0,V_ 20 8,H_ 21 20 3,V_ 22 21,jn 22 23 8,g_ 22 24 (di sO 23 0),P_ 25 22 24,y_ 26 50 [z_ 19,kI 203,z_ 25]]
def Qv:=R_ [N_ 27 8 7,y_ 28 129 [z_ 27],V_ 6 28]
def A53:CF:=⟨[aG 6],sr [X_ 4 1,X_ 5 2,o_ 6 (c_ cC)] (ir [A_ 9 0 5,L_ 10 9,K_ 11 10 0] 11 (rr [o_ 6 (c_ cC)]) (sr [V_ 13 0,N_ 14 2 4,N_ 15 8 5,y_ 16 128 [z_ 13,z_ 14,z_ 15],V_ 12 16,W_ 17 0 12,W_ 18 1 12,o_ 7 (au uB 8),S_ 8 7 17,V_ 8 18] (sq Qw (rt Qv)))),29⟩
theorem c53:cF 53=some A53:=bH
def aif:=R_ [A_ 27 0 8,L_ 28 27,V_ 10 28]
def aaa:=R_ [A_ 29 1 8,L_ 30 29,o_ 31 (d_ sO 30 (.str []))]
def aie:=R_ [A_ 32 1 8,L_ 33 32,V_ 10 33]
def Z':=R_ [V_ 34 0,A_ 35 0 6,L_ 36 35,V_ 37 10,y_ 38 120 [z_ 36,z_ 37],y_ 39 50 [z_ 34,kI 205,z_ 38]]
def Eb:CT:=.dO [40,41,42,43,44,45,46,47,48,49,50,51] [dV 40 0 6,cY 41 40,aS 42 10,i_ [42] 43 (aO [.str []] 1 1 [(0,1,z_ 42)]) 1,mI [41,43] (bg 44) (dG 1 16 (z_ 41) (z_ 43)),oy 45 1 6 2,nN 46 45 2,mq 47 4 9 2,i_ [47] 48 (aO wO 1 4 [(0,4,z_ 47)]) 2,mI [46,48] (bg 49) (dG 4 56 (z_ 46) (z_ 48)),oy 50 0 6 2,eU 1 50 44,dV 51 1 6,eU 1 51 49]
def KZ:=R_ [D_ 52 19 1,V_ 19 52]
def SX:CT:=sr [B_ 20 19 18] (sq (cd 20 .skip (.exit 0)) (sq (.block 1 (sr [J_ 21 10 17 19,N_ 22 10 21,o_ 8 (au Vh 10),S_ 10 8 22] (sr [V_ 23 0,A_ 24 0 8,L_ 25 24,y_ 26 47 [z_ 23,z_ 25],o_ 9 (au wO 4),S_ 4 9 26] (sq aif (iq aaa 31 aie (sq Z' Eb)))))) KZ))
def KY:=R_ [V_ 53 0,o_ 54 (aY (z_ 53)),A_ 55 2 54,L_ 56 55,H_ 57 56 0]
def aai:=R_ [V_ 58 2,A_ 59 1 6,L_ 60 59,o_ 61 (aY (z_ 58)),A_ 62 15 61,S_ 1 62 60]
def aah:=R_ [A_ 63 3 4,L_ 64 63,E_ 65 64,I_ 66 0]
def aag:CT:=.dO [71,72,73,74,75,76,77,78,79,80,81,82,83,84,85,86,87,88,89,90,91,92,93,94] [aS 76 0,dV 77 0 6,cY 78 77,aS 79 11,uz mz 80 79 1,i_ [78,80] 81 (wH (ja 1) (z_ 78) none (some (z_ 80)) none) 1,dV 82 1 6,cY 83 82,aS 84 11,uz mz 85 84 1,i_ [83,85] 86 (wH (ja 4) (z_ 83) none (some (z_ 85)) none) 1,i_ [81,86] 87 (aI [cC,cC] 2 [(0,1,z_ 81),(1,1,z_ 86)]) 1,dV 88 2 12,mq 89 8 88 1,cI [76,87,89] (bg 90) 53 [z_ 76,z_ 87,z_ 89],iF 72 2 2,i_ [72] 73 (aY (z_ 72)) 2,oy 74 16 73 2,nN 75 74 2,i_ [90] 91 (aO uC 1 1 [(0,1,z_ 90)]) 1,mI [75,91] (bg 92) (dG 1 24 (z_ 75) (z_ 91)),iF 71 2 3,i_ [71] 93 (aY (z_ 71)) 1,dV 94 16 93,eU 1 94 92]
def aaf:=R_ [D_ 95 66 1,V_ 66 95]
def SV:CT:=sr [B_ 67 66 65] (sq (cd 67 .skip (.exit 2)) (sq (.block 3 (sr [V_ 68 66,J_ 69 10 64 66,N_ 70 10 69,o_ 12 (au Vh 10),V_ 11 68,S_ 10 12 70] aag)) aaf))
def aae:=R_ [V_ 96 0,N_ 97 2 6,N_ 98 15 4,V_ 99 2,y_ 100 133 [z_ 96,z_ 97,z_ 98,z_ 99]]
def aad:=R_ [V_ 101 2,V_ 102 0,N_ 103 2 6,A_ 104 4 4,N_ 105 8 104,y_ 106 53 [z_ 102,z_ 103,z_ 105],o_ 107 (aY (z_ 101)),A_ 108 17 107,S_ 1 108 106]
def aac:=R_ [A_ 109 12 4,L_ 110 109,E_ 111 110,I_ 112 0]
def adw:CT:=sr [B_ 113 112 111] (sq (cd 113 .skip (.exit 4)) (sq (.block 5 (sr [J_ 114 2 110 112,N_ 115 2 114,o_ 14 (au [.str [],.bool false] 2),S_ 2 14 115] (sq (.dO [116,117,118,119,120,121,122] [aS 116 2,i_ [116] 117 (aY (z_ 116)) 1,dV 118 19 117,cY 119 118,dV 120 0 14,cY 121 120,cI [119,121] (bg 122) 134 [z_ 119,z_ 121],aS 15 122]) (sr [V_ 123 0,V_ 124 15,eZ jR 125 124 0,y_ 126 50 [z_ 123,kI 201,z_ 125]] (sq (.dO [127,128,129,130,131,132,133,134,135,136,137,138,139,140,141,142] [aS 128 15,uz nY 129 128 0,aS 130 129,gK 130 131 2,gI [130,131] 130 132 (aY (z_ 131)) 1,p3_ 130 133 19 132,s8 130 134 133,gK 130 135 15,gI [130,135] 130 136 (di mz 135 1) 1,gI [130,134,136] 130 137 (wH (ja 1) (z_ 134) (some (z_ 136)) none none) 1,p3_ 130 138 0 14,s8 130 139 138,gcI [130,137,139] (z_ 130) true (bg 140) 120 [z_ 137,z_ 139],iF 127 0 2,i_ [130,140] 141 (p_ 130 140) 1,cI [127,141] (bg 142) 50 [z_ 127,kI 205,z_ 141]]) (.dO [143,144,145,146,147,148,149,150,151,152,153,154,155] [aS 144 2,i_ [144] 145 (aY (z_ 144)) 1,dV 146 21 145,cY 147 146,aS 148 15,dV 149 1 14,cY 150 149,i_ [148,150] 151 (aI [.int .i64 0,.bool false] 2 [(0,1,z_ 148),(1,1,z_ 150)]) 1,i_ [151] 152 (aO [.int .i64 0,.bool false] 1 2 [(0,2,z_ 151)]) 1,mI [147,152] (bg 153) (dG 2 16 (z_ 147) (z_ 152)),iF 143 2 2,i_ [143] 154 (aY (z_ 143)) 1,dV 155 21 154,eU 1 155 153])))))) (R_ [D_ 156 112 1,V_ 112 156])))
def aab:CT:=.dO [157,158,159,160,161,162,163,164,165,166,167,168,169,170,171] [aS 157 2,dV 160 0 4,cY 161 160,i_ [157] 166 (aY (z_ 157)) 1,dV 167 22 166,eU 1 167 161,iF 158 2 2,oy 162 13 4 2,nN 163 162 2,i_ [158] 168 (aY (z_ 158)) 1,dV 169 23 168,eU 1 169 163,iF 159 2 3,oy 164 14 4 3,nN 165 164 3,i_ [159] 170 (aY (z_ 159)) 1,dV 171 24 170,eU 1 171 165]
def A56:CF:=⟨[],sr [X_ 4 1] (sr [o_ 6 (au [cC,cC] 2)] (sq (sr [A_ 16 3 4,L_ 17 16,E_ 18 17,I_ 19 0] (bl 0 SX)) (iq KY 57 .ret (sq aai (sq (sq aah (bl 2 SV)) (sq aae (sq aad (sq (sq aac (bl 4 adw)) aab)))))))),172⟩
theorem c56:cF 56=some A56:=bH
def A57:CF:=⟨[aG 2],sr [o_ 2 (c_ cC)] (ir [V_ 3 0,o_ 4 (d_ (kT false .slice) 3 cC)] 4 (rr [o_ 2 (c_ cC)]) (rr [o_ 5 (aO I3 0 3 []),V_ 6 0,o_ 7 (dG 3 32 (z_ 5) (z_ 6)),V_ 2 7])),8⟩
theorem c57:cF 57=some A57:=bH
def aid:=R_ [D_ 20 11 1,V_ 11 20]
def adv:CT:=sr [B_ 12 11 10] (sq (cd 12 .skip (.exit 0)) (sq (.block 1 (sr [J_ 13 1 9 11,L_ 14 13,V_ 5 14] (R_ [V_ 15 3,V_ 16 5,y_ 17 135 [z_ 16],o_ 18 (aO uC 1 1 [(0,1,z_ 17)]),o_ 19 (dG 1 24 (z_ 15) (z_ 18)),V_ 3 19]))) aid))
def aic:=R_ [V_ 21 3,y_ 22 136 [z_ 21,kf 40]]
def aib:=R_ [V_ 23 3,V_ 2 23]
def A58:CF:=⟨[aG 2],sr [o_ 2 (c_ cC)] (sr [V_ 6 0,E_ 7 6,o_ 8 (BL uC 1 24 (kI 0) (z_ 7)),V_ 3 8] (sq (sr [V_ 9 0,E_ 10 9,I_ 11 0] (bl 0 adv)) (sq aic (rt aib)))),24⟩
theorem c58:cF 58=some A58:=bH
def A59:CF:=⟨[aG 2],sr [o_ 2 (c_ cC)] (ir [V_ 3 0,o_ 4 (d_ (kT false .slice) 3 cC)] 4 (rr [o_ 2 (c_ cC)]) (rr [o_ 5 (aO zX 0 1 []),V_ 6 0,o_ 7 (dG 1 8 (z_ 5) (z_ 6)),V_ 2 7])),8⟩
theorem c59:cF 59=some A59:=bH
def ah7:CT:=.dO [9,10,11,12,13,14,15,16,17,18,19,20,21,22,23,24,25,26,27,28] [cY 11 1,i_ [11] 12 (aY (z_ 11)) 1,dV 13 3 12,dV 14 19 13,cY 15 14,cI [15] (bg 16) 148 [z_ 15],nN 17 1 2,i_ [17] 18 (aY (z_ 17)) 2,oy 19 3 18 2,oy 20 20 19 2,nN 21 20 2,cI [21] (bg 22) 59 [z_ 21],nN 9 1 3,i_ [9] 23 (aY (z_ 9)) 1,dV 24 28 23,dV 25 0 24,eU 1 25 16,nN 10 1 4,i_ [10] 26 (aY (z_ 10)) 1,dV 27 28 26,dV 28 1 27,eU 1 28 22]
def ah6:CT:=.dO [29,30,31,32,33,34,35,36,37] [cY 29 1,cY 30 1,i_ [30] 31 (aY (z_ 30)) 1,dV 32 3 31,dV 33 15 32,cY 34 33,u1_ bm 35 34,cY 36 3,cI [29,35,36] (bg 37) 149 [z_ 29,z_ 35,z_ 36]]
def ah5:=R_ [V_ 4 38]
def ah4:=R_ [L_ 40 1,o_ 41 (aY (z_ 40)),A_ 42 3 41,A_ 43 17 42,L_ 44 43,V_ 45 4,y_ 46 150 [z_ 44,z_ 45],V_ 39 46,W_ 47 0 39,W_ 48 1 39,V_ 5 47,V_ 6 48]
def ah3:=R_ [L_ 49 3,V_ 50 6,vP (bg 51) (z_ 49) [z_ 50]]
def Z2:=R_ [V_ 52 5,ru 53 52]
def ah2:=R_ [L_ 54 1,o_ 55 (aY (z_ 54)),A_ 56 28 55,A_ 57 2 56,L_ 58 57,E_ 59 58,K_ 60 59 4096]
def ah1:=R_ [oP ri (dz 1 (z_ 2) (kI 4))]
def Z7:CT:=.dO [61,62,63,64,65,66,67,68,69,70,71,72,73,74,75,76,77,78,79] [cY 67 1,i_ [67] 68 (aY (z_ 67)) 1,dV 69 3 68,dV 70 18 69,cY 71 70,aS 72 4,cY 73 3,cI [71,72,73] (bg 74) 144 [z_ 71,z_ 72,z_ 73],nN 62 1 2,i_ [62] 63 (aY (z_ 62)) 2,oy 64 28 63 2,oy 65 2 64 2,nN 66 65 2,i_ [74] 75 (aO uC 1 1 [(0,1,z_ 74)]) 1,mI [66,75] (bg 76) (dG 1 24 (z_ 66) (z_ 75)),nN 61 1 3,i_ [61] 77 (aY (z_ 61)) 1,dV 78 28 77,dV 79 2 78,eU 1 79 76]
def kE:Code×Code:=V8 pG 67 0
theorem ajo:eQ pG 148 true kE.1=ah5 :=bH
theorem ajn:eQ pG 148 true kE.2=(.block 1 (sq ah4 (sq ah3 (sq (sq Z2 (cd 53 (.exit 1) .skip)) (sq (sq ah2 (cd 60 (sq ah1 .ret) .skip)) Z7))))) :=bH
def Z6:=R_ [L_ 80 3,vP (bg 81) (z_ 80) [kI 0],V_ 7 81]
def KX:=R_ [V_ 82 7,H_ 83 82 0]
def Z5:=R_ [V_ 84 7,S_ 1 2 84]
def Z4:=R_ [L_ 85 1,o_ 86 (aY (z_ 85)),A_ 87 3 86,A_ 88 22 87,L_ 89 88]
def Z3:CT:=.dO [101,102,103,104,105,106,107,108] [cY 101 1,i_ [101] 102 (aY (z_ 101)) 1,dV 103 28 102,dV 104 2 103,cY 105 104,cY 106 1,i_ [106] 107 (jr (.func 154) [z_ 106] []) 1,cI [105,107] (bg 108) 153 [z_ 105,z_ 107]]
def KW:CT:=.dO [109,110,111,112,113,114,115,116,117,118,119,120,121,122,123,124,125,126,127] [cY 109 1,i_ [109] 110 (aY (z_ 109)) 1,dV 111 3 110,dV 112 23 111,cY 113 112,aS 114 113,s8 114 115 1,gI [114,115] 114 116 (aY (z_ 115)) 1,p3_ 114 117 3 116,p3_ 114 118 24 117,s8 114 119 118,s8 114 120 1,gI [114,120] 114 121 (aY (z_ 120)) 1,p3_ 114 122 28 121,p3_ 114 123 2 122,s8 114 124 123,gI [114,124] 114 125 (u_ bm 124) 1,gI [114,119,125] 114 126 (b_ jR 119 125) 1,i_ [114,126] 127 (p_ 114 126) 1]
def KV:=R_ [oP ri (dz 1 (z_ 2) (kI 0))]
def A67:CF:=⟨[OD 2],sr [X_ 1 0,o_ 2 (au zX 1)] (sr [y_ 8 90 [],o_ 3 (au [jV] 1),S_ 1 3 8] (sq ah7 (sq (sq ah6 (.block 0 (.range 148 (z_ 37) [38] kE.1 kE.2))) (sq (sq Z6 (sq KX (cd 83 (rt Z5) .skip))) (iq Z4 89 (.dO [90,91,92,93,94,95,96,97,98,99,100] [cY 91 1,i_ [91] 92 (aY (z_ 91)) 1,dV 93 28 92,dV 94 2 93,cY 95 94,cI [95] (bg 96) 58 [z_ 95],cI [96] (bg 97) 151 [z_ 96,kf 152],nN 90 1 3,i_ [90] 98 (aY (z_ 90)) 1,dV 99 28 98,dV 100 2 99,eU 1 100 97]) (sq Z3 (iq KW 127 (.dO [128,129,130,131,132,133,134,135,136,137,138,139,140,141,142,143,144,145,146,147] [cY 128 1,cY 129 1,i_ [129] 130 (aY (z_ 129)) 1,dV 131 28 130,dV 132 2 131,cY 133 132,cY 134 1,i_ [134] 135 (aY (z_ 134)) 1,dV 136 3 135,dV 137 24 136,cY 138 137,cY 139 1,i_ [139] 140 (aY (z_ 139)) 1,dV 141 3 140,dV 142 24 141,cY 143 142,i_ [133,138,143] 144 (wH (ja 1) (z_ 133) none (some (z_ 138)) (some (z_ 143))) 1,i_ [128] 145 (aY (z_ 128)) 1,dV 146 28 145,dV 147 2 146,eU 1 147 144]) (rt KV)))))))),148⟩
theorem c67:cF 67=some A67:=bH
def wc:=R_ [V_ 13 5,V_ 14 6,B_ 15 13 14]
def Z1:=R_ [o_ 4 (c_ (.int .i64 (-1)))]
def zA:=R_ [V_ 16 5,V_ 17 6,eT nu 18 16 17]
def Z0:=R_ [I_ 4 1]
def CG:=R_ [A_ 19 0 2,L_ 20 19,K_ 21 20 2]
def ZZ:=R_ [A_ 22 2 2,L_ 23 22,A_ 24 2 3,L_ 25 24,y_ 26 159 [z_ 23,z_ 25],V_ 4 26]
def IB:=R_ [A_ 27 1 2,L_ 28 27,A_ 29 1 3,L_ 30 29,B_ 31 28 30]
def ZY:=R_ [o_ 4 (c_ (.int .i64 (-1)))]
def Ea:=R_ [A_ 32 1 2,L_ 33 32,A_ 34 1 3,L_ 35 34,eT nu 36 33 35]
def KU:=R_ [I_ 4 1]
def KT:=R_ [I_ 4 0]
def A79:CF:=⟨[aG 4],sr [X_ 2 0,X_ 3 1,I_ 4 0] (sq (.dO [7,8,9,10,11,12] [dV 7 0 2,cY 8 7,cI [8] (bg 9) 158 [z_ 8],oy 10 0 3 2,nN 11 10 2,cI [11] (bg 12) 158 [z_ 11],aS 5 9,aS 6 12]) (iq wc 15 (rt Z1) (iq zA 18 (rt Z0) (iq CG 21 (rt ZZ) (iq IB 31 (rt ZY) (iq Ea 36 (rt KU) (rt KT))))))),37⟩
theorem c79:cF 79=some A79:=bH
def A80:CF:=⟨[aG 2],sr [X_ 1 0,o_ 2 (c_ jV)] (rr [o_ 3 (jr (.func 160) [] [z_ 1]),V_ 2 3]),4⟩
theorem c80:cF 80=some A80:=bH
def ZX:=R_ [F_ 2]
def ah0:=R_ [V_ 12 0,u3_ js 13 12,I_ 14 0]
def ahZ:=R_ [V_ 28 3,eZ nu 29 28 0,V_ 30 29,jn 30 31 4,g_ 30 32 (d_ nY 31 (.int .u8 48)),jn 30 33 32,jn 33 34 4,g_ 33 35 (d_ yW 34 (.int .u8 57)),g_ 30 36 (p_ 33 35),jn 30 37 36,pT 37 38 4,h_ 37 39 (d_ dq 38 (.int .u8 95)),g_ 30 40 (q_ 37 39),P_ 41 30 40,V_ 27 41]
def ahY:=R_ [F_ 2]
def KQ:=R_ [D_ 42 14 1,V_ 14 42]
def adu:CT:=sr [B_ 15 14 13] (sq (cd 15 .skip (.exit 0)) (sq (.block 1 (sr [V_ 16 14,V_ 3 16] (sr [V_ 17 0,V_ 18 3,eT oZ 19 17 18,V_ 4 19] (.block 2 (sr [V_ 21 4,o_ 22 (d_ nY 21 (.int .u8 97)),V_ 23 22,jn 23 24 4,g_ 23 25 (d_ yW 24 (.int .u8 122)),P_ 26 23 25,V_ 20 26] (cd 20 .skip (sq ahZ (cd 27 .skip (rt ahY))))))))) KQ))
def KP:=R_ [T_ 2]
def A81:CF:=⟨[aG 2],sr [F_ 2] (ir [V_ 5 0,o_ 6 (d_ dq 5 (.str [])),V_ 7 6,pT 7 8 0,h_ 7 9 (u_ js 8),h_ 7 10 (di nu 9 24),Q_ 11 7 10] 11 (rt ZX) (sq (sq ah0 (bl 0 adu)) (rt KP))),43⟩
theorem c81:cF 81=some A81:=bH
def Qu:=R_ [F_ 2]
def ahX:=R_ [V_ 36 0,V_ 37 3,o_ 38 (wH (ja 3) (z_ 36) none (some (z_ 37)) none),E_ 39 38,I_ 40 0]
def ZW:=R_ [F_ 2]
def ZV:=R_ [D_ 49 40 1,V_ 40 49]
def adt:CT:=sr [B_ 41 40 39] (sq (cd 41 .skip (.exit 2)) (sq (.block 3 (sr [J_ 42 3 38 40,N_ 43 3 42,o_ 6 (au I3 3),S_ 3 6 43] (sr [A_ 44 0 6,L_ 45 44,A_ 46 0 4,L_ 47 46,eT dq 48 45 47] (cd 48 (rt ZW) .skip)))) ZV))
def ZU:=R_ [D_ 50 17 1,V_ 17 50]
def ads:CT:=sr [B_ 18 17 16] (sq (cd 18 .skip (.exit 0)) (sq (.block 1 (sr [V_ 19 17,J_ 20 3 15 17,N_ 21 3 20,o_ 4 (au I3 3),V_ 3 19,S_ 3 4 21] (ir [A_ 22 0 4,L_ 23 22,y_ 24 81 [z_ 23],ru 25 24,V_ 26 25,jW 26 27 1 4,kO 26 28 27,h_ 26 29 (di jR 28 1),Q_ 30 26 29,V_ 31 30,jW 31 32 1 4,kO 31 33 32,h_ 31 34 (di nu 33 3),Q_ 35 31 34] 35 (rt Qu) (sq ahX (bl 2 adt))))) ZU))
def ZT:=R_ [T_ 2]
def A82:CF:=⟨[aG 2],sr [F_ 2] (ir [V_ 7 0,E_ 8 7,K_ 9 8 0,V_ 10 9,pT 10 11 0,h_ 10 12 (u_ bm 11),h_ 10 13 (di nu 12 16),Q_ 14 10 13] 14 (rr [F_ 2]) (sq (sr [V_ 15 0,E_ 16 15,I_ 17 0] (bl 0 ads)) (rt ZT))),51⟩
theorem c82:cF 82=some A82:=bH
def A83:CF:=⟨[aG 4],sr [F_ 4] (rr [V_ 5 0,V_ 6 1,y_ 7 161 [z_ 5,z_ 6],eZ nY 8 7 0,V_ 4 8]),9⟩
theorem c83:cF 83=some A83:=bH
def A84:CF:=⟨[aG 3],sr [X_ 2 0,F_ 3] (rr [A_ 4 1 2,L_ 5 4,A_ 6 1 1,L_ 7 6,eT dq 8 5 7,V_ 3 8]),9⟩
theorem c84:cF 84=some A84:=bH
def Qs:=R_ [F_ 4]
def ahW:=R_ [D_ 38 17 1,V_ 17 38]
def adr:CT:=sr [B_ 18 17 16] (sq (cd 18 .skip (.exit 0)) (sq (.block 1 (sr [V_ 19 17,J_ 20 1 15 17,L_ 21 20,V_ 5 19,V_ 6 21] (sr [V_ 22 6,eZ jR 23 22 0,V_ 24 23,pT 24 25 6,jW 24 26 2 2,kO 24 27 26,h_ 24 28 (u_ bm 27),h_ 24 29 (b_ nY 25 28),Q_ 30 24 29,V_ 31 30,pT 31 32 1,pT 31 33 5,h_ 31 34 (wH (ja 1) (z_ 32) none (some (z_ 33)) none),pT 31 35 6,kz (z_ 31) false (bg 36) 162 [z_ 34,z_ 35],Q_ 37 31 36] (cd 37 (rt Qs) .skip)))) ahW))
def ahV:=R_ [T_ 4]
def A85:CF:=⟨[aG 4],sr [X_ 2 0,F_ 4] (ir [V_ 7 1,E_ 8 7,K_ 9 8 0,V_ 10 9,pT 10 11 1,h_ 10 12 (u_ bm 11),h_ 10 13 (di nu 12 16),Q_ 14 10 13] 14 (rr [F_ 4]) (sq (sr [V_ 15 1,E_ 16 15,I_ 17 0] (bl 0 adr)) (rt ahV))),39⟩
theorem c85:cF 85=some A85:=bH
def A86:CF:=⟨[aG 4],sr [F_ 4] (rr [V_ 5 0,V_ 6 1,y_ 7 163 [z_ 5,z_ 6],eZ nY 8 7 0,V_ 4 8]),9⟩
theorem c86:cF 86=some A86:=bH
def A87:CF:=⟨[aG 3],sr [X_ 2 0,F_ 3] (rr [A_ 4 2 2,L_ 5 4,A_ 6 2 1,L_ 7 6,eT dq 8 5 7,V_ 3 8]),9⟩
theorem c87:cF 87=some A87:=bH
def A88:CF:=⟨[aG 2],sr [X_ 1 0,F_ 2] (sq (sr [A_ 3 0 1,L_ 4 3] (.block 0 (sr [K_ 6 4 0,V_ 5 6] (cd 5 (rr [N_ 7 3 1,o_ 8 (aI fG 3 []),o_ 9 (b_ (og false [.i,.i,.s]) 7 8),V_ 2 9]) (sr [K_ 11 4 1,V_ 10 11] (cd 10 (rr [A_ 12 2 1,L_ 13 12,o_ 14 (d_ dq 13 (.str [])),V_ 2 14]) (sr [K_ 16 4 2,V_ 15 16] (cd 15 (rr [A_ 17 1 1,L_ 18 17,K_ 19 18 0,V_ 20 19,eJ 20 21 2 1,fu 20 22 21,g_ 20 23 (u_ js 22),g_ 20 24 (di yW 23 64),P_ 25 20 24,V_ 2 25]) (sr [K_ 27 4 3,V_ 26 27] (cd 26 (rr [A_ 28 2 1,L_ 29 28,o_ 30 (d_ dq 29 (.str [])),V_ 31 30,eJ 31 32 1 1,fu 31 33 32,g_ 31 34 (di dq 33 0),jn 31 35 34,jW 35 36 1 1,kO 35 37 36,h_ 35 38 (di dq 37 1),g_ 31 39 (q_ 35 38),P_ 40 31 39,V_ 2 40]) .skip)))))))))) (rr [F_ 2])),41⟩
theorem c88:cF 88=some A88:=bH
def ZS:=R_ [I_ 4 0,I_ 5 5]
def ahU:=R_ [N_ 14 3 2,N_ 15 3 3,y_ 16 164 [z_ 14,z_ 15],V_ 4 16,I_ 5 0]
def A89:CF:=⟨[aG 4,aG 5],sr [X_ 2 0,X_ 3 1,I_ 4 0,I_ 5 0] (ir [N_ 6 3 2,y_ 7 88 [z_ 6],ru 8 7,V_ 9 8,O_ 9 10 3 3,kz (z_ 9) false (bg 11) 88 [z_ 10],h_ 9 12 (un 11),Q_ 13 9 12] 13 (rt ZS) (rt ahU)),17⟩
theorem c89:cF 89=some A89:=bH
def A90:CF:=⟨[aG 0],sr [o_ 0 (c_ jV)] (sr [o_ 1 (au zX 1),oP ri (dz 1 (z_ 1) (kI 0))] (rr [o_ 2 (jr (.func 165) [] [z_ 1]),V_ 0 2])),3⟩
theorem c90:cF 90=some A90:=bH
def ZM:=R_ [V_ 17 6,H_ 18 17 0]
def ahQ:=R_ [V_ 19 6,o_ 4 (c_ (.str [])),V_ 5 19]
def ahP:=R_ [y_ 20 166 [],V_ 7 20]
def ahO:=R_ [I_ 8 0]
def ZR:=R_ [V_ 46 9,V_ 47 10,V_ 48 8,eT fZ 49 47 48,o_ 50 (e2 (bR .shl) (aQ (.int .u8 1)) (z_ 49)),o_ 51 (b_ (bR .or) 46 50),V_ 9 51]
def KN:=R_ [V_ 38 10,D_ 39 38 1,V_ 10 39]
def IL:CT:=lr [V_ 28 10,V_ 29 1,E_ 30 29,B_ 31 28 30,V_ 32 31,jn 32 33 10,jn 32 34 8,g_ 32 35 (di mz 34 8),g_ 32 36 (b_ jR 33 35),P_ 37 32 36] 37 2 3 (sr [V_ 40 1,V_ 41 10,J_ 42 3 40 41,A_ 43 0 42,L_ 44 43,K_ 45 44 0] (cd 45 ZR .skip)) KN
def ZQ:=R_ [V_ 52 7,V_ 53 9,y_ 54 167 [z_ 52,z_ 53]]
def ZP:=R_ [V_ 25 8,D_ 26 25 8,V_ 8 26]
def SU:CT:=lr [V_ 21 8,V_ 22 1,E_ 23 22,B_ 24 21 23] 24 0 1 (sr [o_ 9 (c_ (.int .u8 0))] (sq (sr [V_ 27 8,V_ 10 27] (bl 2 IL)) ZQ)) ZP
def ZO:=R_ [y_ 55 168 [],o_ 11 (au ad7 9),S_ 9 11 55]
def ZN:=R_ [V_ 56 1,E_ 57 56,I_ 58 0]
def ZL:CT:=.dO [65,66,67,68,69,70,71,72,73] [dV 65 0 13,cY 66 65,uz fZ 67 66 1,i_ [11,67] 68 (b_ (gJ 3 3) 11 67) 1,dV 69 1 68,cY 70 69,aS 71 7,mq 72 3 13 1,vI [70,71,72] (bg 73) (z_ 70) [z_ 71,z_ 72]]
def zy:=R_ [D_ 74 58 1,V_ 58 74]
def SS:CT:=sr [B_ 59 58 57] (sq (cd 59 .skip (.exit 4)) (sq (.block 5 (sr [J_ 60 3 56 58,N_ 61 3 60,o_ 13 (au fG 3),S_ 3 13 61] (sr [A_ 62 0 13,L_ 63 62,H_ 64 63 0] (cd 64 ZL .skip)))) zy))
def ZK:=R_ [V_ 75 7,y_ 76 169 [z_ 75],eZ nu 77 76 160]
def ZJ:=R_ [o_ 4 (c_ (.str [])),I_ 5 51]
def ZI:=R_ [V_ 78 7,y_ 79 170 [z_ 78],o_ 80 (J1 (z_ 79)),V_ 4 80,I_ 5 0]
def A91:CF:=⟨[aG 4,aG 5],sr [o_ 4 (c_ (.str [])),I_ 5 0] (sq (sr [V_ 14 0,V_ 15 1,y_ 16 38 [z_ 14,z_ 15],V_ 6 16] (sq ZM (cd 18 (rt ahQ) .skip))) (sq ahP (sq (sq ahO (bl 0 SU)) (sq ZO (sq (sq ZN (bl 4 SS)) (iq ZK 77 (rt ZJ) (rt ZI))))))),81⟩
theorem c91:cF 91=some A91:=bH
def ahN:=R_ [V_ 23 5,N_ 24 6 7,o_ 25 (aO zY 1 6 [(0,6,z_ 24)]),o_ 26 (dG 6 56 (z_ 23) (z_ 25)),V_ 5 26]
def ZH:=R_ [D_ 27 11 1,V_ 11 27]
def SR:CT:=sr [B_ 12 11 10] (sq (cd 12 .skip (.exit 0)) (sq (.block 1 (sr [J_ 13 6 9 11,N_ 14 6 13,o_ 7 (au zY 6),S_ 6 7 14] (sr [A_ 15 1 7,L_ 16 15,V_ 17 1,eT dq 18 16 17] (cd 18 (sr [A_ 19 3 7,L_ 20 19,y_ 21 59 [z_ 20],A_ 22 3 7,S_ 1 22 21] ahN) .skip)))) ZH))
def ahM:=R_ [V_ 28 5,V_ 4 28]
def A92:CF:=⟨[aG 4],sr [X_ 2 0,o_ 4 (c_ cC)] (sr [o_ 5 (c_ cC)] (sq (sr [A_ 8 1 2,L_ 9 8,E_ 10 9,I_ 11 0] (bl 0 SR)) (rt ahM))),29⟩
theorem c92:cF 92=some A92:=bH
def ZF:=R_ [V_ 27 8,V_ 28 27,pT 28 29 1,pT 28 30 10,h_ 28 31 (b_ (cK 3) 29 30),jW 28 32 0 31,kO 28 33 32,h_ 28 34 (di dq 33 0),Q_ 35 28 34,V_ 8 35]
def ZE:=R_ [D_ 36 16 1,V_ 16 36]
def adq:CT:=sr [B_ 17 16 15] (sq (cd 17 .skip (.exit 0)) (sq (.block 1 (sr [J_ 18 1 14 16,L_ 19 18,V_ 10 19] (sr [V_ 20 7,V_ 21 1,V_ 22 10,J_ 23 3 21 22,N_ 24 3 23,o_ 25 (aO fG 1 3 [(0,3,z_ 24)]),o_ 26 (dG 3 32 (z_ 20) (z_ 25)),V_ 7 26] ZF))) ZE))
def ahL:=R_ [V_ 38 7,y_ 39 171 [z_ 38],V_ 37 39,W_ 40 0 37,W_ 41 1 37,V_ 11 40,V_ 12 41]
def ZG:=R_ [V_ 42 11,V_ 43 8,V_ 44 12,V_ 4 42,V_ 5 43,V_ 6 44]
def A93:CF:=⟨[aG 4,aG 5,aG 6],sr [X_ 2 0,o_ 4 (c_ (.str [])),F_ 5,I_ 6 0] (sr [o_ 7 (c_ cC)] (sr [F_ 8] (sq (sr [A_ 13 3 2,L_ 14 13,E_ 15 14,I_ 16 0] (bl 0 adq)) (sq ahL (rt ZG))))),45⟩
theorem c93:cF 93=some A93:=bH
def Qr:=R_ [V_ 25 9,ru 26 25]
def ZC:=R_ [V_ 27 5,V_ 28 8,o_ 29 (jF .s (.int .i64 0) false (z_ 27) (z_ 28)),D_ 30 29 1,oP ri (lI .s (z_ 27) (z_ 28) (z_ 30))]
def ZB:=R_ [V_ 31 5,V_ 32 8,o_ 33 (jF .s (.int .i64 0) false (z_ 31) (z_ 32)),eZ nu 34 33 1]
def ahK:=R_ [T_ 4]
def KL:=R_ [D_ 35 14 1,V_ 14 35]
def adp:CT:=sr [B_ 15 14 13] (sq (cd 15 .skip (.exit 0)) (sq (.block 1 (sr [J_ 16 1 12 14,L_ 17 16,V_ 7 17] (sr [N_ 19 6 2,V_ 20 7,y_ 21 93 [z_ 19,z_ 20],V_ 18 21,W_ 22 0 18,W_ 23 1 18,W_ 24 2 18,V_ 8 22,V_ 9 23,V_ 10 24] (sq Qr (cd 26 (sq ZC (sq ZB (cd 34 (rt ahK) .skip))) .skip))))) KL))
def ZD:=R_ [F_ 4]
def A94:CF:=⟨[aG 4],sr [X_ 2 0,F_ 4] (sr [o_ 11 (lJ),V_ 5 11] (sq (sr [V_ 12 1,E_ 13 12,I_ 14 0] (bl 0 adp)) (rt ZD))),36⟩
theorem c94:cF 94=some A94:=bH
def A109:CF:=⟨[aG 2],sr [F_ 2] (rr [V_ 3 0,y_ 4 81 [z_ 3],V_ 5 4,jn 5 6 0,kz (z_ 5) true (bg 7) 192 [z_ 6],g_ 5 8 (un 7),P_ 9 5 8,V_ 2 9]),10⟩
theorem c109:cF 109=some A109:=bH
def A110:CF:=⟨[aG 4],sr [F_ 4] (rr [V_ 5 0,eZ nY 6 5 1,V_ 7 6,jn 7 8 0,jn 7 9 1,g_ 7 10 (b_ yW 8 9),P_ 11 7 10,V_ 4 11]),12⟩
theorem c110:cF 110=some A110:=bH
def FK:=R_ [A_ 49 5 1,oP ri (dz 1 (z_ 49) (aQ (.str []))),A_ 50 4 1,oP ri (dz 1 (z_ 50) (aQ (.str [])))]
def FH:=R_ [V_ 51 5,V_ 52 51,zV 52 53 8 1,kz (z_ 52) true (bg 54) 193 [z_ 53,kI 2],P_ 55 52 54,V_ 2 55]
def kV:=R_ [A_ 84 7 1,L_ 85 84,E_ 86 85,V_ 87 3,eT sO 88 86 87,V_ 89 88,jW 89 90 1 1,O_ 89 91 3 90,h_ 89 92 (aI fG 3 []),h_ 89 93 (b_ (og true [.i,.i,.s]) 91 92),Q_ 94 89 93,V_ 95 94,jW 95 96 4 1,kO 95 97 96,h_ 95 98 (d_ sO 97 (.str [])),Q_ 99 95 98,V_ 100 99,jW 100 101 5 1,kO 100 102 101,h_ 100 103 (d_ sO 102 (.str [])),Q_ 104 100 103,V_ 105 104,jW 105 106 6 1,kO 105 107 106,h_ 105 108 (di sO 107 0),Q_ 109 105 108]
def mf:=R_ [F_ 2]
def xu:=R_ [A_ 110 7 1,L_ 111 110,E_ 112 111,I_ 113 0]
def SK:=R_ [F_ 2]
def SJ:=R_ [D_ 120 113 1,V_ 113 120]
def zQ:CT:=sr [B_ 114 113 112] (sq (cd 114 .skip (.exit 1)) (sq (.block 2 (sr [J_ 115 8 111 113,N_ 116 8 115,o_ 7 (au uB 8),S_ 8 7 116] (sr [N_ 117 8 7,y_ 118 111 [z_ 117],ru 119 118] (cd 119 (rt SK) .skip)))) SJ))
def xn:=R_ [T_ 2]
def A111:CF:=⟨[aG 2],sr [X_ 1 0,F_ 2] (sr [I_ 3 2] (sq (.block 0 (sr [A_ 9 0 1,L_ 10 9,K_ 11 10 1,V_ 8 11] (cd 8 (sr [A_ 12 1 1,N_ 13 3 12,o_ 4 (au fG 3),S_ 3 4 13] (sr [o_ 14 (aI fG 3 []),A_ 15 1 1,S_ 3 15 14] (rr [N_ 16 8 1,y_ 17 193 [z_ 16,kI 1],V_ 18 17,zV 18 19 3 4,kz (z_ 18) true (bg 20) 88 [z_ 19],P_ 21 18 20,V_ 22 21,eJ 22 23 0 4,fu 22 24 23,g_ 22 25 (di sO 24 1),jn 22 26 25,jW 26 27 1 4,kO 26 28 27,h_ 26 29 (di nY 28 0),g_ 22 30 (q_ 26 29),P_ 31 22 30,V_ 2 31]))) (sr [A_ 33 0 1,L_ 34 33,K_ 35 34 2,V_ 32 35] (cd 32 (sr [A_ 36 5 1,L_ 37 36,y_ 38 109 [z_ 37],V_ 39 38,eJ 39 40 4 1,fu 39 41 40,g_ 39 42 (d_ dq 41 (.str [])),jn 39 43 42,jW 43 44 4 1,kO 43 45 44,kz (z_ 43) false (bg 46) 109 [z_ 45],g_ 39 47 (q_ 43 46),P_ 48 39 47,V_ 5 48] (sq FK (rt FH))) (sr [A_ 57 0 1,L_ 58 57,K_ 59 58 4,V_ 60 59,jW 60 61 0 1,kO 60 62 61,h_ 60 63 (di dq 62 5),Q_ 64 60 63,V_ 65 64,jW 65 66 0 1,kO 65 67 66,h_ 65 68 (di dq 67 6),Q_ 69 65 68,V_ 70 69,jW 70 71 0 1,kO 70 72 71,h_ 70 73 (di dq 72 7),Q_ 74 70 73,V_ 56 74] (cd 56 (R_ [I_ 3 1]) (sr [A_ 76 0 1,L_ 77 76,eZ jR 78 77 8,V_ 79 78,jW 79 80 0 1,kO 79 81 80,h_ 79 82 (di nu 81 21),Q_ 83 79 82,V_ 75 83] (cd 75 (rr [F_ 2]) .skip))))))))) (iq kV 109 (rt mf) (sq (sq xu (bl 1 zQ)) (rt xn))))),121⟩
theorem c111:cF 111=some A111:=bH
def A112:CF:=⟨[aG 2],sr [X_ 1 0,F_ 2] (rr [N_ 3 8 1,y_ 4 194 [z_ 3],V_ 5 4,O_ 5 6 8 1,kz (z_ 5) false (bg 7) 111 [z_ 6],Q_ 8 5 7,V_ 2 8]),9⟩
theorem c112:cF 112=some A112:=bH
def MX:=R_ [A_ 10 4 1,N_ 11 8 10,y_ 12 112 [z_ 11],V_ 13 12,eJ 13 14 3 1,fu 13 15 14,g_ 13 16 (u_ bm 15),g_ 13 17 (di yW 16 4),P_ 18 13 17,V_ 19 18,eJ 19 20 12 1,fu 19 21 20,g_ 19 22 (u_ bm 21),g_ 19 23 (di yW 22 16),P_ 24 19 23,V_ 25 24,eJ 25 26 14 1,fu 25 27 26,g_ 25 28 (di nY 27 0),P_ 29 25 28,V_ 30 29,eJ 30 31 13 1,fu 30 32 31,jn 30 33 32,jW 33 34 14 1,kO 33 35 34,h_ 33 36 (di dq 35 0),g_ 30 37 (q_ 33 36),P_ 38 30 37,V_ 3 38]
def s5:=R_ [A_ 39 1 1,L_ 40 39]
def zK:=R_ [V_ 41 3,V_ 42 41,eJ 42 43 2 1,fu 42 44 43,g_ 42 45 (u_ bm 44),g_ 42 46 (di dq 45 0),P_ 47 42 46,V_ 3 47]
def FB:=R_ [V_ 48 3,V_ 49 48,eJ 49 50 2 1,fu 49 51 50,g_ 49 52 (u_ bm 51),kz (z_ 49) true (bg 53) 110 [z_ 52,kI 16],P_ 54 49 53,V_ 3 54]
def FA:=R_ [A_ 55 2 1,L_ 56 55,E_ 57 56,I_ 58 0]
def MW:=R_ [V_ 62 3,V_ 63 62,eJ 63 64 0 5,zV 63 65 8 64,kz (z_ 63) true (bg 66) 111 [z_ 65],P_ 67 63 66,V_ 68 67,eJ 68 69 8 5,fu 68 70 69,g_ 68 71 (d_ dq 70 (.str [])),jn 68 72 71,jW 72 73 8 5,kO 72 74 73,kz (z_ 72) false (bg 75) 109 [z_ 74],g_ 68 76 (q_ 72 75),P_ 77 68 76,V_ 3 77]
def zJ:=R_ [D_ 78 58 1,V_ 58 78]
def zP:CT:=sr [B_ 59 58 57] (sq (cd 59 .skip (.exit 0)) (sq (.block 1 (sr [J_ 60 9 56 58,N_ 61 9 60,o_ 5 (au ajm 9),S_ 9 5 61] MW)) zJ))
def um:=R_ [A_ 79 3 1,L_ 80 79,E_ 81 80,I_ 82 0]
def FG:=R_ [V_ 87 3,V_ 88 87,eJ 88 89 0 7,fu 88 90 89,kz (z_ 88) true (bg 91) 109 [z_ 90],P_ 92 88 91,V_ 93 92,eJ 93 94 1 7,fu 93 95 94,g_ 93 96 (d_ dq 95 (.str [])),jn 93 97 96,jW 97 98 1 7,kO 97 99 98,kz (z_ 97) false (bg 100) 109 [z_ 99],g_ 93 101 (q_ 97 100),P_ 102 93 101,V_ 103 102,jn 103 104 6,g_ 103 105 (di dq 104 0),jn 103 106 105,eJ 106 107 2 7,zV 106 108 8 107,kz (z_ 106) true (bg 109) 194 [z_ 108],g_ 103 110 (p_ 106 109),jn 103 111 110,pT 111 112 6,h_ 111 113 (di nu 112 0),pT 111 114 113,eJ 114 115 2 7,zV 114 116 8 115,kz (z_ 114) true (bg 117) 111 [z_ 116],h_ 111 118 (p_ 114 117),g_ 103 119 (q_ 111 118),P_ 120 103 119,V_ 3 120]
def jH:=R_ [D_ 121 82 1,V_ 82 121]
def vA:CT:=sr [B_ 83 82 81] (sq (cd 83 .skip (.exit 2)) (sq (.block 3 (sr [V_ 84 82,J_ 85 10 80 82,N_ 86 10 85,o_ 7 (au Vh 10),V_ 6 84,S_ 10 7 86] FG)) jH))
def qZ:=R_ [A_ 122 12 1,L_ 123 122,E_ 124 123,I_ 125 0]
def FD:=R_ [V_ 129 3,V_ 130 129,eJ 130 131 0 9,fu 130 132 131,kz (z_ 130) true (bg 133) 109 [z_ 132],P_ 134 130 133,V_ 3 134]
def FC:=R_ [D_ 135 125 1,V_ 125 135]
def s6:CT:=sr [B_ 126 125 124] (sq (cd 126 .skip (.exit 4)) (sq (.block 5 (sr [J_ 127 2 123 125,N_ 128 2 127,o_ 9 (au [.str [],.bool false] 2),S_ 2 9 128] FD)) FC))
def qY:=R_ [V_ 136 3,V_ 2 136]
def A113:CF:=⟨[aG 2],sr [X_ 1 0,F_ 2] (sq MX (sq (sq s5 (cd 40 zK FB)) (sq (sq FA (bl 0 zP)) (sq (sq um (bl 2 vA)) (sq (sq qZ (bl 4 s6)) (rt qY)))))),137⟩
theorem c113:cF 113=some A113:=bH
def adk:CT:=.dO [7,8,9,10,5,6] [dV 7 16 2,mq 8 15 7 1,i_ [] 5 (au z5_ 15) 1,i_ [] 6 (au z5_ 15) 1,eU 15 5 8,oy 9 16 3 2,mq 10 15 9 2,eU 15 6 10]
def adi:=R_ [A_ 11 1 2,L_ 12 11,A_ 13 1 3,L_ 14 13,eT dq 15 12 14,V_ 16 15,eJ 16 17 2 2,fu 16 18 17,eJ 16 19 2 3,fu 16 20 19,g_ 16 21 (b_ dq 18 20),P_ 22 16 21,V_ 23 22,eJ 23 24 3 2,fu 23 25 24,g_ 23 26 (u_ bm 25),eJ 23 27 3 3,fu 23 28 27,g_ 23 29 (u_ bm 28),g_ 23 30 (b_ dq 26 29),P_ 31 23 30,V_ 32 31,eJ 32 33 4 2,fu 32 34 33,g_ 32 35 (u_ bm 34),eJ 32 36 4 3,fu 32 37 36,g_ 32 38 (u_ bm 37),g_ 32 39 (b_ dq 35 38),P_ 40 32 39,V_ 41 40,eJ 41 42 5 2,fu 41 43 42,eJ 41 44 5 3,fu 41 45 44,g_ 41 46 (b_ (kT false .bool) 43 45),P_ 47 41 46,V_ 48 47,eJ 48 49 6 2,fu 48 50 49,g_ 48 51 (u_ bm 50),eJ 48 52 6 3,fu 48 53 52,g_ 48 54 (u_ bm 53),g_ 48 55 (b_ dq 51 54),P_ 56 48 55,V_ 57 56,eJ 57 58 7 2,fu 57 59 58,g_ 57 60 (u_ bm 59),eJ 57 61 7 3,fu 57 62 61,g_ 57 63 (u_ bm 62),g_ 57 64 (b_ dq 60 63),P_ 65 57 64,V_ 66 65,eJ 66 67 8 2,eJ 66 68 0 67,fu 66 69 68,eJ 66 70 8 3,eJ 66 71 0 70,fu 66 72 71,g_ 66 73 (b_ dq 69 72),jn 66 74 73,eJ 74 75 8 3,eJ 74 76 0 75,fu 74 77 76,g_ 74 78 (di sO 77 0),jn 74 79 78,jW 79 80 8 2,O_ 79 81 8 80,kz (z_ 79) false (bg 82) 194 [z_ 81],g_ 74 83 (q_ 79 82),g_ 66 84 (p_ 74 83),P_ 85 66 84,V_ 86 85,eJ 86 87 0 5,fu 86 88 87,eJ 86 89 0 6,fu 86 90 89,g_ 86 91 (b_ (kT false .bool) 88 90),P_ 92 86 91,V_ 93 92,eJ 93 94 1 5,fu 93 95 94,eJ 93 96 1 6,fu 93 97 96,g_ 93 98 (b_ (kT false .bool) 95 97),P_ 99 93 98,V_ 100 99,eJ 100 101 2 5,fu 100 102 101,g_ 100 103 (u_ bm 102),eJ 100 104 2 6,fu 100 105 104,g_ 100 106 (u_ bm 105),g_ 100 107 (b_ dq 103 106),P_ 108 100 107,V_ 109 108,eJ 109 110 3 5,fu 109 111 110,g_ 109 112 (u_ bm 111),eJ 109 113 3 6,fu 109 114 113,g_ 109 115 (u_ bm 114),g_ 109 116 (b_ dq 112 115),P_ 117 109 116,V_ 118 117,eJ 118 119 4 5,eJ 118 120 0 119,fu 118 121 120,eJ 118 122 4 6,eJ 118 123 0 122,fu 118 124 123,g_ 118 125 (b_ dq 121 124),jn 118 126 125,eJ 126 127 4 6,eJ 126 128 0 127,fu 126 129 128,g_ 126 130 (di sO 129 0),jn 126 131 130,jW 131 132 4 5,O_ 131 133 8 132,kz (z_ 131) false (bg 134) 194 [z_ 133],g_ 126 135 (q_ 131 134),g_ 118 136 (p_ 126 135),P_ 137 118 136,V_ 138 137,eJ 138 139 12 5,fu 138 140 139,g_ 138 141 (u_ bm 140),eJ 138 142 12 6,fu 138 143 142,g_ 138 144 (u_ bm 143),g_ 138 145 (b_ dq 141 144),P_ 146 138 145,V_ 147 146,eJ 147 148 13 5,fu 147 149 148,eJ 147 150 13 6,fu 147 151 150,g_ 147 152 (b_ (kT false .bool) 149 151),P_ 153 147 152,V_ 154 153,eJ 154 155 14 5,fu 154 156 155,eJ 154 157 14 6,fu 154 158 157,g_ 154 159 (b_ dq 156 158),P_ 160 154 159,V_ 4 160]
def A114:CF:=⟨[aG 4],sr [X_ 2 0,X_ 3 1,F_ 4] (sq adk (rt adi)),161⟩
theorem c114:cF 114=some A114:=bH
def A115:CF:=⟨[b6 4 4,aG 5],sr [X_ 2 0,X_ 3 1,o_ 4 (au wO 4),F_ 5] (rr [A_ 6 0 2,L_ 7 6,o_ 8 (jr (.func 195) [] [z_ 3]),y_ 9 125 [z_ 7,z_ 8],W_ 10 0 9,W_ 11 1 9,y_ 12 124 [z_ 10,z_ 11],W_ 13 0 12,W_ 14 1 12,S_ 4 4 13,V_ 5 14]),15⟩
theorem c115:cF 115=some A115:=bH
def amP:CT:=sr [B_ 9 8 7] (sq (cd 9 .skip (.exit 0)) (sq (.block 1 (sr [V_ 10 8,V_ 5 10] (sr [V_ 11 1,V_ 12 0,V_ 13 5,J_ 14 3 12 13,N_ 15 3 14,vP (bg 16) (z_ 11) [z_ 15]] (cd 16 (rr [V_ 17 5,V_ 4 17]) .skip)))) (R_ [D_ 18 8 1,V_ 8 18])))
def A118:CF:=⟨[aG 4],sr [I_ 4 0] (sq (sr [V_ 6 0,E_ 7 6,I_ 8 0] (bl 0 amP)) (rr [o_ 4 (c_ (.int .i64 (-1)))])),19⟩
theorem c118:cF 118=some A118:=bH
def A120:CF:=⟨[aG 4],sr [F_ 4] (rr [V_ 5 0,V_ 6 1,y_ 7 134 [z_ 5,z_ 6],eZ nY 8 7 0,V_ 4 8]),9⟩
theorem c120:cF 120=some A120:=bH
def A124:CF:=⟨[b6 4 4,aG 5],sr [X_ 2 0,o_ 4 (au wO 4),F_ 5] (sr [A_ 6 2 2,L_ 7 6,y_ 8 57 [z_ 7],A_ 9 2 2,S_ 1 9 8] (rr [N_ 10 4 2,V_ 11 1,S_ 4 4 10,V_ 5 11])),12⟩
theorem c124:cF 124=some A124:=bH
def amO:CT:=sr [B_ 12 11 10] (sq (cd 12 .skip (.exit 0)) (sq (.block 1 (sr [J_ 13 4 9 11,N_ 14 4 13,o_ 7 (au wO 4),S_ 4 7 14] (sr [V_ 15 1,N_ 16 4 7,vP (bg 17) (z_ 15) [z_ 16]] (cd 17 (rr [N_ 18 4 7,S_ 4 4 18,T_ 5]) .skip)))) (R_ [D_ 19 11 1,V_ 11 19])))
def A125:CF:=⟨[b6 4 4,aG 5],sr [o_ 4 (au wO 4),F_ 5] (sq (sr [V_ 9 0,E_ 10 9,I_ 11 0] (bl 0 amO)) (sr [o_ 8 (au wO 4)] (rr [N_ 20 4 8,S_ 4 4 20,F_ 5]))),21⟩
theorem c125:cF 125=some A125:=bH
def A126:CF:=⟨[aG 3],sr [X_ 2 0,F_ 3] (rr [A_ 4 0 2,L_ 5 4,L_ 6 1,eT dq 7 5 6,V_ 3 7]),8⟩
theorem c126:cF 126=some A126:=bH
def adh:=R_ [o_ 9 (au [jV] 1)]
def adg:=R_ [o_ 12 (jr (.func 197) [] [z_ 4,z_ 3,z_ 8,z_ 9]),S_ 1 9 12]
def adf:=R_ [L_ 13 9,N_ 14 8 5,vP (bg 15) (z_ 13) [z_ 14],W_ 16 0 15,W_ 17 1 15,S_ 8 6 16,V_ 7 17]
def A128:CF:=⟨[b6 6 8,aG 7],sr [X_ 3 0,X_ 4 1,X_ 5 2,o_ 6 (au uB 8),I_ 7 0] (sr [N_ 10 2 4,y_ 11 196 [z_ 10],o_ 8 (au uC 1),S_ 1 8 11] (sq adh (sq adg (rt adf)))),18⟩
theorem c128:cF 128=some A128:=bH
def A129:CF:=⟨[aG 2],sr [X_ 1 0,o_ 2 (c_ cC)] (ir [A_ 3 0 1,L_ 4 3,K_ 5 4 20,V_ 6 5,eJ 6 7 7 1,fu 6 8 7,g_ 6 9 (u_ bm 8),g_ 6 10 (di dq 9 2),P_ 11 6 10] 11 (rt (.dO [12,13,14,15,16,17,18,19,20,21,22] [dV 12 7 1,cY 13 12,i_ [13] 14 (di (cK 8) 13 0) 1,mq 15 8 14 1,cI [15] (bg 16) 129 [z_ 15],oy 17 7 1 2,nN 18 17 2,i_ [18] 19 (di (cK 8) 18 1) 2,mq 20 8 19 2,cI [20] (bg 21) 129 [z_ 20],mI [16,21] (bg 22) (dG 8 104 (z_ 16) (z_ 21)),aS 2 22])) (rr [N_ 23 8 1,y_ 24 201 [z_ 23],o_ 25 (aO uB 1 8 [(0,8,z_ 24)]),V_ 2 25])),26⟩
theorem c129:cF 129=some A129:=bH
def ade:=R_ [V_ 19 0,A_ 20 1 5,L_ 21 20,E_ 22 21,K_ 23 22 0,y_ 24 50 [z_ 19,kI 200,z_ 23]]
def adb:=R_ [V_ 25 0,N_ 26 2 5,y_ 27 196 [z_ 26],E_ 28 27,eZ nu 29 28 16,y_ 30 50 [z_ 25,kI 3,z_ 29]]
def ada:=R_ [A_ 31 1 5,L_ 32 31,E_ 33 32,I_ 34 0]
def SI:CT:=.dO [45,46,47,48,49,50,51,52,53,54,55,56,57,58,59,60] [aS 45 3,i_ [45] 46 (aY (z_ 45)) 1,dV 47 18 46,cY 48 47,aS 49 3,i_ [49] 50 (aY (z_ 49)) 1,dV 51 18 50,cY 52 51,u1_ bm 53 52,i_ [53] 54 (aI uB 8 [(0,1,kI 3),(6,1,z_ 53)]) 1,u1_ bm 55 48,i_ [] 56 (aO uB 1 8 [(0,8,(aQ (.agg uB 8)))]) 1,mI [48,56] (bg 57) (dG 8 104 (z_ 48) (z_ 56)),J2_ 58 8 57 55 0,i_ [45] 59 (aY (z_ 45)) 0,oy 60 18 59 0,fI [58,54] ri (s_ 8 58 54),fI [60,57] ri (s_ 1 60 57)]
def SH:CT:=.dO [61,62,63,64,65,66,67,68,69,70,71,72,73,74,75,76,77,78,79,80,81,82] [aS 63 3,i_ [63] 64 (aY (z_ 63)) 1,dV 65 19 64,cY 66 65,dV 67 0 11,cY 68 67,i_ [68] 69 (aO [.str []] 1 1 [(0,1,z_ 68)]) 1,mI [66,69] (bg 70) (dG 1 16 (z_ 66) (z_ 69)),iF 71 3 2,i_ [71] 72 (aY (z_ 71)) 2,oy 73 20 72 2,nN 74 73 2,oy 75 1 11 2,nN 76 75 2,i_ [76] 77 (aO zX 1 1 [(0,1,z_ 76)]) 2,mI [74,77] (bg 78) (dG 1 8 (z_ 74) (z_ 77)),iF 61 3 3,i_ [61] 79 (aY (z_ 61)) 1,dV 80 19 79,eU 1 80 70,iF 62 3 4,i_ [62] 81 (aY (z_ 62)) 1,dV 82 20 81,eU 1 82 78]
def SG:=R_ [D_ 83 41 1,V_ 41 83]
def Gl:CT:=sr [B_ 42 41 40] (sq (cd 42 .skip (.exit 2)) (sq (.block 3 (sr [J_ 43 3 39 41,N_ 44 3 43,o_ 11 (au I3 3),S_ 3 11 44] (sq SI SH))) SG))
def SE:=R_ [D_ 84 34 1,V_ 34 84]
def Gk:CT:=sr [B_ 35 34 33] (sq (cd 35 .skip (.exit 0)) (sq (.block 1 (sr [J_ 36 4 32 34,N_ 37 4 36,o_ 9 (au wO 4),S_ 4 9 37] (sr [A_ 38 2 9,L_ 39 38,E_ 40 39,I_ 41 0] (bl 2 Gl)))) SE))
def Fz:=R_ [A_ 85 2 6,L_ 86 85,E_ 87 86,I_ 88 0]
def Gj:CT:=sr [B_ 89 88 87] (sq (cd 89 .skip (.exit 4)) (sq (.block 5 (sr [J_ 90 9 86 88,N_ 91 9 90,o_ 13 (au ajm 9),S_ 9 13 91] (sr [V_ 93 0,N_ 94 2 5,A_ 95 0 13,N_ 96 8 95,y_ 97 128 [z_ 93,z_ 94,z_ 96],V_ 92 97,W_ 98 0 92,W_ 99 1 92,o_ 14 (au uB 8),S_ 8 14 98,V_ 15 99] (sr [A_ 100 8 13,L_ 101 100,V_ 16 101] (ir [V_ 102 16,o_ 103 (d_ dq 102 (.str [])),V_ 104 103,eJ 104 105 0 13,eJ 104 106 0 105,fu 104 107 106,g_ 104 108 (di dq 107 2),P_ 109 104 108] 109 (R_ [A_ 110 0 13,A_ 111 5 110,L_ 112 111,V_ 16 112]) (.dO [113,114,115,116,117,118,119,120,121,122,123,124,125,126,127,128,129,130,131,132,133,134,135,136,137,138,139,140,141,142] [aS 116 3,i_ [116] 117 (aY (z_ 116)) 1,dV 118 18 117,cY 119 118,mq 120 8 14 1,i_ [120] 121 (aO uB 1 8 [(0,8,z_ 120)]) 1,mI [119,121] (bg 122) (dG 8 104 (z_ 119) (z_ 121)),iF 123 3 2,i_ [123] 124 (aY (z_ 123)) 2,oy 125 19 124 2,nN 126 125 2,iF 127 16 2,i_ [127] 128 (aO [.str []] 1 1 [(0,1,z_ 127)]) 2,mI [126,128] (bg 129) (dG 1 16 (z_ 126) (z_ 128)),iF 130 3 3,i_ [130] 131 (aY (z_ 130)) 3,oy 132 20 131 3,nN 133 132 3,iF 134 15 3,i_ [134] 135 (aO zX 1 1 [(0,1,z_ 134)]) 3,mI [133,135] (bg 136) (dG 1 8 (z_ 133) (z_ 135)),iF 113 3 4,i_ [113] 137 (aY (z_ 113)) 1,dV 138 18 137,eU 1 138 122,iF 114 3 5,i_ [114] 139 (aY (z_ 114)) 1,dV 140 19 139,eU 1 140 129,iF 115 3 6,i_ [115] 141 (aY (z_ 115)) 1,dV 142 20 141,eU 1 142 136])))))) (R_ [D_ 143 88 1,V_ 88 143])))
def A133:CF:=⟨[],sr [X_ 5 1,X_ 6 2] (ir [A_ 17 1 6,L_ 18 17] 18 (sq ade (sq adb (sq ada (bl 0 Gk)))) (sq Fz (bl 4 Gj))),144⟩
theorem c133:cF 133=some A133:=bH
def ac':=R_ [V_ 17 5,V_ 4 17]
def ac_:=R_ [D_ 18 8 1,V_ 8 18]
def NW:CT:=sr [B_ 9 8 7] (sq (cd 9 .skip (.exit 0)) (sq (.block 1 (sr [V_ 10 8,V_ 5 10] (sr [V_ 11 1,V_ 12 0,V_ 13 5,J_ 14 1 12 13,L_ 15 14,eT dq 16 11 15] (cd 16 (rt ac') .skip)))) ac_))
def ac9:=R_ [o_ 4 (c_ (.int .i64 (-1)))]
def A134:CF:=⟨[aG 4],sr [I_ 4 0] (sq (sr [V_ 6 0,E_ 7 6,I_ 8 0] (bl 0 NW)) (rt ac9)),19⟩
theorem c134:cF 134=some A134:=bH
def A135:CF:=⟨[aG 2],sr [o_ 2 (c_ cC)] (ir [V_ 3 0,o_ 4 (d_ (kT false .slice) 3 cC)] 4 (rr [o_ 2 (c_ cC)]) (rr [o_ 5 (aO fG 0 3 []),V_ 6 0,o_ 7 (dG 3 32 (z_ 5) (z_ 6)),V_ 2 7])),8⟩
theorem c135:cF 135=some A135:=bH
def A136:CF:=⟨[],(R_ [V_ 4 0,V_ 5 0,E_ 6 5,V_ 7 1,y_ 8 203 [z_ 4,z_ 6,z_ 7]]),9⟩
theorem c136:cF 136=some A136:=bH
def ac8:=R_ [V_ 24 2,V_ 25 11,vP (bg 26) (z_ 24) [z_ 25]]
def ac7:=R_ [V_ 27 7,N_ 28 3 10,o_ 29 (aO fG 1 3 [(0,3,z_ 28)]),o_ 30 (dG 3 32 (z_ 27) (z_ 29)),V_ 7 30]
def ac6:=R_ [D_ 31 14 1,V_ 14 31]
def NU:CT:=sr [B_ 15 14 13] (sq (cd 15 .skip (.exit 0)) (sq (.block 1 (sr [J_ 16 8 12 14,N_ 17 8 16,o_ 9 (au uB 8),S_ 8 9 17] (sr [N_ 19 8 9,V_ 20 1,y_ 21 212 [z_ 19,z_ 20],V_ 18 21,W_ 22 0 18,W_ 23 1 18,o_ 10 (au fG 3),S_ 3 10 22,V_ 11 23] (sq ac8 ac7)))) ac6))
def ac5:=R_ [V_ 32 7,V_ 6 32]
def A144:CF:=⟨[aG 6],sr [o_ 6 (c_ cC)] (sr [o_ 7 (c_ cC)] (sq (sr [V_ 12 0,E_ 13 12,I_ 14 0] (bl 0 NU)) (rt ac5))),33⟩
theorem c144:cF 144=some A144:=bH
def A148:CF:=⟨[aG 2],sr [o_ 2 (c_ cC)] (ir [V_ 3 0,o_ 4 (d_ (kT false .slice) 3 cC)] 4 (rr [o_ 2 (c_ cC)]) (rr [o_ 5 (aO [.str []] 0 1 []),V_ 6 0,o_ 7 (dG 1 16 (z_ 5) (z_ 6)),V_ 2 7])),8⟩
theorem c148:cF 148=some A148:=bH
def ac4:CT:=.dO [11,12,13,14,15,16,17,18,19,7] [cY 11 3,i_ [11] 12 (aY (z_ 11)) 1,dV 13 3 12,dV 14 15 13,cY 15 14,cY 16 4,uz fZ 17 16 1,dR 18 4 15 17,mq 19 4 18 1,i_ [] 7 (au wO 4) 1,eU 4 7 19]
def ac3:=R_ [L_ 20 3,o_ 21 (aY (z_ 20)),A_ 22 0 21,A_ 23 0 22,A_ 24 0 23,L_ 25 24,o_ 26 (jr (.func 214) [] [z_ 7]),y_ 27 161 [z_ 25,z_ 26],o_ 8 (au zX 1),S_ 1 8 27]
def ac2:=R_ [o_ 28 (jr (.func 215) [] [z_ 3,z_ 4,z_ 5,z_ 8]),V_ 6 28]
def A149:CF:=⟨[aG 6],sr [X_ 3 0,X_ 4 1,X_ 5 2,o_ 6 (c_ jV)] (ir [L_ 9 4,K_ 10 9 0] 10 (rr [o_ 6 (c_ (.fn (.func 213) [] []))]) (sq ac4 (sq ac3 (rt ac2)))),29⟩
theorem c149:cF 149=some A149:=bH
def ac1:=R_ [F_ 4,I_ 5 1]
def ac0:=R_ [D_ 23 14 1,V_ 14 23]
def NT:CT:=sr [B_ 15 14 13] (sq (cd 15 .skip (.exit 0)) (sq (.block 1 (sr [J_ 16 8 12 14,N_ 17 8 16,o_ 7 (au uB 8),S_ 8 7 17] (sr [N_ 18 8 7,V_ 19 1,E_ 20 19,y_ 21 216 [z_ 18,z_ 20],ru 22 21] (cd 22 (rt ac1) .skip)))) ac0))
def acZ:=R_ [V_ 24 1,y_ 25 217 [z_ 24],ru 26 25]
def acY:=R_ [F_ 4,I_ 5 5]
def acX:=R_ [V_ 27 0,E_ 28 27,I_ 29 0]
def SD:=R_ [V_ 40 11,H_ 41 40 0,V_ 39 41]
def SC:=R_ [V_ 42 11,F_ 4,V_ 5 42]
def SB:=R_ [A_ 44 0 10,L_ 45 44,H_ 46 45 0,V_ 47 46,eJ 47 48 0 10,fu 47 49 48,g_ 47 50 (di sO 49 3),P_ 51 47 50,V_ 43 51]
def SA:=R_ [F_ 4,I_ 5 30]
def Fv:CT:=.dO [53,54,55] [cI [] (bg 54) 219 [(aQ (.bool true))],mq 53 3 10 2,i_ [53,54] 55 (b_ (og true [.i,.i,.s]) 53 54) 1,aS 52 55]
def Ft:=R_ [F_ 4,I_ 5 0]
def Sz:=R_ [D_ 56 29 1,V_ 29 56]
def NS:CT:=sr [B_ 30 29 28] (sq (cd 30 .skip (.exit 2)) (sq (.block 3 (sr [J_ 31 8 27 29,N_ 32 8 31,o_ 9 (au uB 8),S_ 8 9 32] (sr [N_ 34 8 9,V_ 35 1,y_ 36 218 [z_ 34,z_ 35],V_ 33 36,W_ 37 0 33,W_ 38 1 33,o_ 10 (au fG 3),S_ 3 10 37,V_ 11 38] (.block 4 (sq SD (cd 39 (rt SC) (sq SB (cd 43 (rt SA) (sq Fv (cd 52 (rt Ft) .skip)))))))))) Sz))
def Su:=R_ [T_ 4,I_ 5 0]
def A150:CF:=⟨[aG 4,aG 5],sr [F_ 4,I_ 5 0] (sq (sr [V_ 12 0,E_ 13 12,I_ 14 0] (bl 0 NT)) (iq acZ 26 (rt acY) (sq (sq acX (bl 2 NS)) (rt Su)))),57⟩
theorem c150:cF 150=some A150:=bH
def A153:CF:=⟨[],sr [V_ 5 0,E_ 6 5,V_ 4 6] (R_ [V_ 7 0,V_ 8 4,V_ 9 4,o_ 10 (u_ (bV .u64) 9),y_ 11 221 [z_ 10],V_ 12 1,y_ 13 220 [z_ 7,kI 0,z_ 8,z_ 11,z_ 12]]),14⟩
theorem c153:cF 153=some A153:=bH
def adK:CT:=sr [B_ 18 17 16] (sq (cd 18 .skip (.exit 0)) (sq (.block 1 (sr [J_ 19 2 15 17,N_ 20 2 19,o_ 8 (au [.int .i64 0,.bool false] 2),S_ 2 8 20] (sq (.dO [22,23,24,25,26,27,28,29,30,31,32,21,33,34] [aS 22 1,dV 23 0 8,cY 24 23,dR 25 3 22 24,mq 26 3 25 1,aS 27 2,dV 28 0 8,cY 29 28,dR 30 3 27 29,mq 31 3 30 1,cI [26,31] (bg 32) 89 [z_ 26,z_ 31],aS 21 32,i_ [21] 33 (u_ (kS 0) 21) 1,i_ [21] 34 (u_ (kS 1) 21) 1,aS 9 33,aS 10 34]) (ir [A_ 35 1 8,L_ 36 35] 36 (R_ [V_ 37 9,o_ 38 (u_ (cUn .neg) 37),V_ 9 38]) (sr [V_ 39 9,H_ 40 39 0] (cd 40 (rr [V_ 41 9,V_ 6 41]) .skip)))))) (R_ [D_ 42 17 1,V_ 17 42])))
def Sr:=R_ [V_ 43 1,V_ 44 2,y_ 45 40 [z_ 43,z_ 44],V_ 6 45]
def A154:CF:=⟨[aG 6],sr [I_ 6 0] (sq (sr [V_ 11 0,o_ 12 (aY (z_ 11)),A_ 13 3 12,A_ 14 21 13,L_ 15 14,E_ 16 15,I_ 17 0] (bl 0 adK)) (rt Sr)),46⟩
theorem c154:cF 154=some A154:=bH
def A158:CF:=⟨[aG 2],sr [I_ 2 0] (ir [V_ 3 0,K_ 4 3 0] 4 (rr [I_ 2 0]) (ir [V_ 5 0,K_ 6 5 3] 6 (rr [I_ 2 1]) (ir [V_ 7 0,K_ 8 7 1] 8 (rr [I_ 2 2]) (rr [I_ 2 3])))),9⟩
theorem c158:cF 158=some A158:=bH
def acW:=R_ [o_ 4 (c_ (.int .i64 (-1)))]
def acV:CT:=.dO [25,26,27,28,29,30,31] [aS 25 0,aS 26 5,v7 oZ 27 25 26,aS 28 1,aS 29 5,v7 oZ 30 28 29,v7 nu 31 27 30]
def acU:=R_ [I_ 4 1]
def acT:=R_ [V_ 16 5,D_ 17 16 1,V_ 5 17]
def zO:CT:=lr [V_ 6 5,V_ 7 0,u3_ js 8 7,B_ 9 6 8,V_ 10 9,jn 10 11 5,jn 10 12 1,g_ 10 13 (u_ js 12),g_ 10 14 (b_ jR 11 13),P_ 15 10 14] 15 0 1 (iq (.dO [18,19,20,21,22,23,24] [aS 18 0,aS 19 5,v7 oZ 20 18 19,aS 21 1,aS 22 5,v7 oZ 23 21 22,v7 jR 24 20 23]) 24 (rt acW) (sq acV (cd 31 (rt acU) .skip))) acT
def Fh:=R_ [V_ 32 0,u3_ js 33 32,V_ 34 1,u3_ js 35 34,B_ 36 33 35]
def acS:=R_ [o_ 4 (c_ (.int .i64 (-1)))]
def Fj:=R_ [V_ 37 0,u3_ js 38 37,V_ 39 1,u3_ js 40 39,eT nu 41 38 40]
def Sm:=R_ [I_ 4 1]
def Sl:=R_ [I_ 4 0]
def A159:CF:=⟨[aG 4],sr [I_ 4 0] (sq (sr [I_ 5 0] (bl 0 zO)) (iq Fh 36 (rt acS) (iq Fj 41 (rt Sm) (rt Sl)))),42⟩
theorem c159:cF 159=some A159:=bH
def acR:=R_ [V_ 14 0,A_ 15 3 4,L_ 16 15,vP (bg 17) (z_ 14) [z_ 16],ru 18 17]
def acQ:=R_ [D_ 19 10 1,V_ 10 19]
def NR:CT:=sr [B_ 11 10 9] (sq (cd 11 .skip (.exit 0)) (sq (.block 1 (sr [J_ 12 4 8 10,N_ 13 4 12,o_ 4 (au wO 4),S_ 4 4 13] (sq acR (cd 18 .ret .skip)))) acQ))
def acP:=R_ [A_ 20 1 1,L_ 21 20,E_ 22 21,I_ 23 0]
def acO:=R_ [V_ 27 0,A_ 28 5 6,L_ 29 28,vP (bg 30) (z_ 27) [z_ 29],ru 31 30]
def acN:=R_ [D_ 32 23 1,V_ 23 32]
def NQ:CT:=sr [B_ 24 23 22] (sq (cd 24 .skip (.exit 2)) (sq (.block 3 (sr [J_ 25 6 21 23,N_ 26 6 25,o_ 6 (au zY 6),S_ 6 6 26] (sq acO (cd 31 .ret .skip)))) acN))
def A160:CF:=⟨[],sq (sr [A_ 7 0 1,L_ 8 7,E_ 9 8,I_ 10 0] (bl 0 NR)) (sq acP (bl 2 NQ)),33⟩
theorem c160:cF 160=some A160:=bH
def amN:CT:=sr [B_ 9 8 7] (sq (cd 9 .skip (.exit 0)) (sq (.block 1 (sr [V_ 10 8,V_ 5 10] (sr [V_ 11 1,V_ 12 0,V_ 13 5,J_ 14 4 12 13,N_ 15 4 14,vP (bg 16) (z_ 11) [z_ 15]] (cd 16 (rr [V_ 17 5,V_ 4 17]) .skip)))) (R_ [D_ 18 8 1,V_ 8 18])))
def A161:CF:=⟨[aG 4],sr [I_ 4 0] (sq (sr [V_ 6 0,E_ 7 6,I_ 8 0] (bl 0 amN)) (rr [o_ 4 (c_ (.int .i64 (-1)))])),19⟩
theorem c161:cF 161=some A161:=bH
def A162:CF:=⟨[aG 4],sr [F_ 4] (rr [V_ 5 0,V_ 6 1,y_ 7 226 [z_ 5,z_ 6],eZ nY 8 7 0,V_ 4 8]),9⟩
theorem c162:cF 162=some A162:=bH
def amM:CT:=sr [B_ 9 8 7] (sq (cd 9 .skip (.exit 0)) (sq (.block 1 (sr [V_ 10 8,V_ 5 10] (sr [V_ 11 1,V_ 12 0,V_ 13 5,J_ 14 6 12 13,N_ 15 6 14,vP (bg 16) (z_ 11) [z_ 15]] (cd 16 (rr [V_ 17 5,V_ 4 17]) .skip)))) (R_ [D_ 18 8 1,V_ 8 18])))
def A163:CF:=⟨[aG 4],sr [I_ 4 0] (sq (sr [V_ 6 0,E_ 7 6,I_ 8 0] (bl 0 amM)) (rr [o_ 4 (c_ (.int .i64 (-1)))])),19⟩
theorem c163:cF 163=some A163:=bH
def acM:=R_ [o_ 4 (c_ (.int .i64 (-1)))]
def acL:=R_ [I_ 4 1]
def A164:CF:=⟨[aG 4],sr [X_ 2 0,X_ 3 1,I_ 4 0] (ir [A_ 5 0 2,L_ 6 5,A_ 7 0 3,L_ 8 7,eT sO 9 6 8] 9 (iq (.dO [10,11,12,13,14,15,16] [dV 10 0 2,cY 11 10,cI [11] (bg 12) 227 [z_ 11],oy 13 0 3 2,nN 14 13 2,cI [14] (bg 15) 227 [z_ 14],v7 jR 16 12 15]) 16 (rt acM) (rt acL)) (ir [A_ 17 0 2,L_ 18 17,K_ 19 18 2] 19 (rr [A_ 20 2 2,L_ 21 20,A_ 22 2 3,L_ 23 22,y_ 24 228 [z_ 21,z_ 23],V_ 4 24]) (ir [A_ 25 1 2,L_ 26 25,A_ 27 1 3,L_ 28 27,B_ 29 26 28] 29 (rr [o_ 4 (c_ (.int .i64 (-1)))]) (ir [A_ 30 1 2,L_ 31 30,A_ 32 1 3,L_ 33 32,eT nu 34 31 33] 34 (rr [I_ 4 1]) (rr [I_ 4 0]))))),35⟩
theorem c164:cF 164=some A164:=bH
def A165:CF:=⟨[aG 3],sr [I_ 3 0] (ir [V_ 4 0,H_ 5 4 0,V_ 6 5,fu 6 7 1,g_ 6 8 (di dq 7 0),jn 6 9 8,pT 9 10 0,kO 9 11 1,h_ 9 12 (b_ jR 10 11),g_ 6 13 (q_ 9 12),P_ 14 6 13] 14 (R_ [V_ 15 0,S_ 1 1 15]) (rr [L_ 16 1,V_ 3 16])),17⟩
theorem c165:cF 165=some A165:=bH
def A166:CF:=⟨[aG 0],sr [o_ 0 (c_ (.aV (.pointer none)))] (rr [o_ 1 (aI [.bool false,cC] 2 [(0,1,(aQ (.bool true)))]),o_ 2 (aI [.bool false,cC] 2 [(0,2,z_ 1)]),X_ 3 2,V_ 0 3]),4⟩
theorem c166:cF 166=some A166:=bH
def A167:CF:=⟨[],(R_ [V_ 4 0,V_ 5 1,y_ 6 229 [z_ 4,z_ 5,kI 1]]),7⟩
theorem c167:cF 167=some A167:=bH
def A168:CF:=⟨[b6 0 9],sr [o_ 0 (au ad7 9)] (rr [o_ 1 (aI ad6 3 [(0,1,kI 1),(1,1,kf 230),(2,1,kf 232)]),o_ 2 (aI ad6 3 [(0,1,kI 2),(1,1,kf 234),(2,1,kf 236)]),o_ 3 (aI ad6 3 [(0,1,kI 3),(1,1,kf 238),(2,1,kf 239)]),o_ 4 (aI ad7 9 [(0,3,z_ 1),(3,3,z_ 2),(6,3,z_ 3)]),S_ 9 0 4]),5⟩
theorem c168:cF 168=some A168:=bH
def A169:CF:=⟨[aG 2],sr [I_ 2 0] (ir [V_ 3 0,o_ 4 (d_ (kT false .ptr) 3 (.aV (.pointer none)))] 4 (rr [I_ 2 0]) (rr [V_ 5 0,o_ 6 (aY (z_ 5)),A_ 7 0 6,A_ 8 1 7,L_ 9 8,E_ 10 9,V_ 2 10])),11⟩
theorem c169:cF 169=some A169:=bH
def A170:CF:=⟨[aG 2],sr [o_ 2 (c_ cC)] (ir [V_ 3 0,o_ 4 (d_ (kT false .ptr) 3 (.aV (.pointer none)))] 4 (rr [o_ 2 (c_ cC)]) (rr [V_ 5 0,o_ 6 (aY (z_ 5)),A_ 7 0 6,A_ 8 1 7,L_ 9 8,o_ 10 (dG 1 1 (aQ cC) (z_ 9)),V_ 2 10])),11⟩
theorem c170:cF 170=some A170:=bH
def acK:=R_ [o_ 2 (c_ (.str [])),I_ 3 5]
def acJ:=R_ [V_ 19 4,N_ 20 3 6,y_ 21 241 [z_ 19,z_ 20],V_ 4 21]
def Sj:=R_ [D_ 22 12 1,V_ 12 22]
def Gi:CT:=sr [B_ 13 12 11] (sq (cd 13 .skip (.exit 0)) (sq (.block 1 (sr [J_ 14 3 10 12,N_ 15 3 14,o_ 6 (au fG 3),S_ 3 6 15] (ir [N_ 16 3 6,y_ 17 88 [z_ 16],ru 18 17] 18 (rt acK) acJ))) Sj))
def Fg:=R_ [V_ 23 4,E_ 24 23,eZ nu 25 24 140]
def Si:=R_ [o_ 2 (c_ (.str [])),I_ 3 51]
def RZ:=R_ [V_ 26 4,o_ 27 (J1 (z_ 26)),V_ 2 27,I_ 3 0]
def A171:CF:=⟨[aG 2,aG 3],sr [o_ 2 (c_ (.str [])),I_ 3 0] (ir [V_ 7 0,E_ 8 7,eZ nu 9 8 16] 9 (rr [o_ 2 (c_ (.str [])),I_ 3 1]) (sr [o_ 4 (c_ cC)] (sq (sr [V_ 10 0,E_ 11 10,I_ 12 0] (bl 0 Gi)) (iq Fg 25 (rt Si) (rt RZ))))),28⟩
theorem c171:cF 171=some A171:=bH
def A192:CF:=⟨[aG 2],sr [F_ 2] (sq (sr [V_ 3 0] (.block 0 (sq (.block 3 (.block 2 (.block 1 (sq (iq (sr [o_ 5 (d_ dq 3 (.str [97,110,100])),V_ 4 5] (cd 4 .skip (sr [o_ 6 (d_ dq 3 (.str [97,115])),V_ 4 6] (cd 4 .skip (sr [o_ 7 (d_ dq 3 (.str [98,101,103,105,110])),V_ 4 7] (cd 4 .skip (sr [o_ 8 (d_ dq 3 (.str [98,111,111,108])),V_ 4 8] (cd 4 .skip (sr [o_ 9 (d_ dq 3 (.str [98,121])),V_ 4 9] (cd 4 .skip (sr [o_ 10 (d_ dq 3 (.str [99,111,109,109,105,116])),V_ 4 10] (cd 4 .skip (sr [o_ 11 (d_ dq 3 (.str [99,114,101,97,116,101])),V_ 4 11] (cd 4 .skip (sr [o_ 12 (d_ dq 3 (.str [100,101,108,101,116,101])),V_ 4 12] (cd 4 .skip (sr [o_ 13 (d_ dq 3 (.str [100,101,115,99])),V_ 4 13] (cd 4 .skip (sr [o_ 14 (d_ dq 3 (.str [100,105,115,116,105,110,99,116])),V_ 4 14] (cd 4 .skip (R_ [o_ 15 (d_ dq 3 (.str [100,114,111,112])),V_ 4 15]))))))))))))))))))))) 4 (.exit 1) (iq (sr [o_ 17 (d_ dq 3 (.str [102,97,108,115,101])),V_ 16 17] (cd 16 .skip (sr [o_ 18 (d_ dq 3 (.str [102,114,111,109])),V_ 16 18] (cd 16 .skip (sr [o_ 19 (d_ dq 3 (.str [105,110,100,101,120])),V_ 16 19] (cd 16 .skip (sr [o_ 20 (d_ dq 3 (.str [105,110,115,101,114,116])),V_ 16 20] (cd 16 .skip (sr [o_ 21 (d_ dq 3 (.str [105,110,116])),V_ 16 21] (cd 16 .skip (sr [o_ 22 (d_ dq 3 (.str [105,110,116,111])),V_ 16 22] (cd 16 .skip (sr [o_ 23 (d_ dq 3 (.str [105,115])),V_ 16 23] (cd 16 .skip (sr [o_ 24 (d_ dq 3 (.str [106,111,105,110])),V_ 16 24] (cd 16 .skip (sr [o_ 25 (d_ dq 3 (.str [108,105,109,105,116])),V_ 16 25] (cd 16 .skip (sr [o_ 26 (d_ dq 3 (.str [110,111,116])),V_ 16 26] (cd 16 .skip (R_ [o_ 27 (d_ dq 3 (.str [110,117,108,108])),V_ 16 27]))))))))))))))))))))) 16 (.exit 2) (sq (sr [o_ 29 (d_ dq 3 (.str [111,110])),V_ 28 29] (cd 28 .skip (sr [o_ 30 (d_ dq 3 (.str [111,114])),V_ 28 30] (cd 28 .skip (sr [o_ 31 (d_ dq 3 (.str [111,114,100,101,114])),V_ 28 31] (cd 28 .skip (sr [o_ 32 (d_ dq 3 (.str [114,111,108,108,98,97,99,107])),V_ 28 32] (cd 28 .skip (sr [o_ 33 (d_ dq 3 (.str [115,101,108,101,99,116])),V_ 28 33] (cd 28 .skip (sr [o_ 34 (d_ dq 3 (.str [115,101,116])),V_ 28 34] (cd 28 .skip (sr [o_ 35 (d_ dq 3 (.str [116,97,98,108,101])),V_ 28 35] (cd 28 .skip (sr [o_ 36 (d_ dq 3 (.str [116,101,120,116])),V_ 28 36] (cd 28 .skip (sr [o_ 37 (d_ dq 3 (.str [116,114,117,101])),V_ 28 37] (cd 28 .skip (sr [o_ 38 (d_ dq 3 (.str [117,110,105,113,117,101])),V_ 28 38] (cd 28 .skip (sr [o_ 39 (d_ dq 3 (.str [117,112,100,97,116,101])),V_ 28 39] (cd 28 .skip (sr [o_ 40 (d_ dq 3 (.str [118,97,108,117,101,115])),V_ 28 40] (cd 28 .skip (R_ [o_ 41 (d_ dq 3 (.str [119,104,101,114,101])),V_ 28 41]))))))))))))))))))))))))) (cd 28 (.exit 3) .skip)))) (.exit 0))))) (sq (rr [T_ 2]) (.exit 0))))) (rr [F_ 2])),42⟩
theorem c192:cF 192=some A192:=bH
def A193:CF:=⟨[aG 4],sr [X_ 2 0,F_ 4] (rr [A_ 5 0 2,L_ 6 5,V_ 7 1,eT dq 8 6 7,V_ 9 8,eJ 9 10 1 2,zV 9 11 3 10,g_ 9 12 (aI fG 3 []),g_ 9 13 (b_ (og false [.i,.i,.s]) 11 12),P_ 14 9 13,V_ 15 14,eJ 15 16 4 2,fu 15 17 16,g_ 15 18 (d_ dq 17 (.str [])),P_ 19 15 18,V_ 20 19,eJ 20 21 5 2,fu 20 22 21,g_ 20 23 (d_ dq 22 (.str [])),P_ 24 20 23,V_ 25 24,eJ 25 26 6 2,fu 25 27 26,g_ 25 28 (di dq 27 0),P_ 29 25 28,V_ 30 29,eJ 30 31 7 2,fu 30 32 31,g_ 30 33 (u_ bm 32),g_ 30 34 (di dq 33 0),P_ 35 30 34,V_ 4 35]),36⟩
theorem c193:cF 193=some A193:=bH
def A194:CF:=⟨[aG 2],sr [X_ 1 0,F_ 2] (rr [N_ 3 8 1,y_ 4 193 [z_ 3,kI 0],V_ 2 4]),5⟩
theorem c194:cF 194=some A194:=bH
def A195:CF:=⟨[aG 3],sr [X_ 2 0,F_ 3] (rr [A_ 4 1 2,L_ 5 4,L_ 6 1,eT dq 7 5 6,V_ 3 7]),8⟩
theorem c195:cF 195=some A195:=bH
def acH:=R_ [V_ 22 3,A_ 23 1 7,L_ 24 23,o_ 25 (aO zX 1 1 [(0,1,z_ 24)]),o_ 26 (dG 1 8 (z_ 22) (z_ 25)),V_ 3 26]
def acG:=R_ [D_ 27 18 1,V_ 18 27]
def NP:CT:=sr [B_ 19 18 17] (sq (cd 19 .skip (.exit 2)) (sq (.block 3 (sr [J_ 20 3 16 18,N_ 21 3 20,o_ 7 (au I3 3),S_ 3 7 21] acH)) acG))
def RY:=R_ [D_ 28 11 1,V_ 11 28]
def NN:CT:=sr [B_ 12 11 10] (sq (cd 12 .skip (.exit 0)) (sq (.block 1 (sr [J_ 13 4 9 11,N_ 14 4 13,o_ 5 (au wO 4),S_ 4 5 14] (sr [A_ 15 2 5,L_ 16 15,E_ 17 16,I_ 18 0] (bl 2 NP)))) RY))
def RX:=R_ [V_ 29 3,V_ 2 29]
def A196:CF:=⟨[aG 2],sr [X_ 1 0,o_ 2 (c_ cC)] (sr [o_ 3 (c_ cC)] (sq (sr [A_ 8 1 1,L_ 9 8,E_ 10 9,I_ 11 0] (bl 0 NN)) (rt RX))),30⟩
theorem c196:cF 196=some A196:=bH
def acF:=R_ [L_ 30 2,V_ 31 9,V_ 32 9,H_ 33 32 0,y_ 34 50 [z_ 30,z_ 31,z_ 33]]
def MQ:=R_ [V_ 35 9,H_ 36 35 0]
def acE:=R_ [N_ 37 8 5,S_ 8 6 37,I_ 7 0]
def RV:=R_ [A_ 67 7 10,L_ 68 67,N_ 69 8 14,o_ 70 (aO uB 1 8 [(0,8,z_ 69)]),o_ 71 (dG 8 104 (z_ 68) (z_ 70)),V_ 72 11,V_ 73 15,o_ 74 (aO zX 1 1 [(0,1,z_ 73)]),o_ 75 (dG 1 8 (z_ 72) (z_ 74)),A_ 76 7 10,S_ 1 76 71,V_ 11 75]
def RQ:=R_ [D_ 77 57 1,V_ 57 77]
def NM:CT:=sr [B_ 58 57 56] (sq (cd 58 .skip (.exit 0)) (sq (.block 1 (sr [J_ 59 8 55 57,N_ 60 8 59,o_ 13 (au uB 8),S_ 8 13 60] (sr [L_ 62 4,N_ 63 8 13,vP (bg 64) (z_ 62) [z_ 63],V_ 61 64,W_ 65 0 61,W_ 66 1 61,o_ 14 (au uB 8),S_ 8 14 65,V_ 15 66] RV))) RQ))
def RP:=R_ [A_ 79 0 5,L_ 80 79,y_ 81 199 [z_ 80],V_ 78 81,W_ 82 0 78,W_ 83 1 78,o_ 16 (au xy 5),S_ 5 16 82,V_ 17 83]
def RN:CT:=.dO [84,85,86,87,88,89] [mq 85 5 16 1,aS 86 11,cI [85,86] (bg 87) 200 [z_ 85,z_ 86],nN 84 2 2,e1_ un 88 87,cI [84,88] (bg 89) 50 [z_ 84,kI 203,z_ 88]]
def RL:CT:=.dO [90,91,92] [mq 90 8 10 1,eU 8 6 90,oy 91 2 16 2,nN 92 91 2,aS 7 92]
def A197:CF:=⟨[b6 6 8,aG 7],sr [X_ 5 0,o_ 6 (au uB 8),I_ 7 0] (ir [A_ 18 0 5,L_ 19 18,K_ 20 19 2] 20 (sr [N_ 22 2 1,A_ 23 4 5,L_ 24 23,A_ 25 5 5,L_ 26 25,y_ 27 198 [z_ 22,z_ 24,z_ 26],V_ 21 27,W_ 28 0 21,W_ 29 1 21,V_ 8 28,V_ 9 29] (sq acF (iq MQ 36 (rt acE) (rt (.dO [38,39,40,41,42,43] [aS 38 8,i_ [38] 39 (aI uB 8 [(0,1,kI 3),(6,1,z_ 38)]) 1,eU 8 6 39,nN 40 3 2,iF 41 8 2,J2_ 42 1 40 41 2,nN 43 42 2,aS 7 43]))))) (ir [A_ 44 0 5,L_ 45 44,K_ 46 45 1] 46 (rt (.dO [47,48,49,50] [mq 47 8 5 1,eU 8 6 47,oy 48 1 5 2,oy 49 0 48 2,nN 50 49 2,aS 7 50])) (sr [A_ 51 0 5,L_ 52 51,o_ 53 (aI uB 8 [(0,1,z_ 52)]),o_ 10 (au uB 8),S_ 8 10 53] (sr [o_ 11 (c_ cC)] (sq (sr [A_ 54 7 5,L_ 55 54,E_ 56 55,I_ 57 0] (bl 0 NM)) (sq RP (sq RN (rt RL)))))))),93⟩
theorem c197:cF 197=some A197:=bH
def acD:=R_ [V_ 23 1,o_ 24 (d_ dq 23 (.str [])),V_ 25 24,jW 25 26 0 3,kO 25 27 26,pT 25 28 11,h_ 25 29 (b_ (cK 1) 27 28),kO 25 30 29,pT 25 31 1,h_ 25 32 (b_ dq 30 31),Q_ 33 25 32,V_ 13 33]
def acC:=R_ [V_ 34 10,V_ 35 34,pT 35 36 13,Q_ 37 35 36,V_ 10 37]
def acB:=R_ [A_ 38 2 12,L_ 39 38,o_ 40 (jr (.func 262) [] [z_ 5]),y_ 41 118 [z_ 39,z_ 40],V_ 14 41]
def acA:=R_ [V_ 42 13,V_ 43 42,jn 43 44 14,g_ 43 45 (di nY 44 0),P_ 46 43 45]
def acz:=R_ [V_ 47 9,eZ nY 48 47 0]
def RJ:=R_ [I_ 6 0,I_ 7 205]
def RI:=R_ [V_ 49 8,V_ 50 14,eT mz 51 49 50,V_ 9 51]
def RH:=R_ [V_ 52 8,A_ 53 2 12,L_ 54 53,E_ 55 54,eT mz 56 52 55,V_ 8 56]
def RG:=R_ [D_ 57 18 1,V_ 18 57]
def zN:CT:=sr [B_ 19 18 17] (sq (cd 19 .skip (.exit 0)) (sq (.block 1 (sr [V_ 20 18,J_ 21 4 16 18,N_ 22 4 21,o_ 12 (au wO 4),V_ 11 20,S_ 4 12 22] (sq acD (sq acC (sq acB (iq acA 46 (iq acz 48 (rt RJ) RI) RH)))))) RG))
def xm:=R_ [V_ 59 9,eZ nY 60 59 0,V_ 58 60]
def RF:=R_ [V_ 61 9,V_ 6 61,I_ 7 0]
def Fe:=R_ [V_ 63 1,o_ 64 (d_ sO 63 (.str [])),V_ 65 64,jn 65 66 10,g_ 65 67 (un 66),P_ 68 65 67,V_ 62 68]
def RE:=R_ [I_ 6 0,I_ 7 200]
def Fb:=R_ [I_ 6 0,I_ 7 201]
def A198:CF:=⟨[aG 6,aG 7],sr [X_ 3 0,X_ 5 2,I_ 6 0,I_ 7 0] (sr [I_ 8 0,o_ 9 (c_ (.int .i64 (-1))),F_ 10] (sq (sr [A_ 15 1 3,L_ 16 15,E_ 17 16,I_ 18 0] (bl 0 zN)) (sq (.block 2 (sq xm (cd 58 (rt RF) (sq Fe (cd 62 (rt RE) .skip))))) (rt Fb)))),69⟩
theorem c198:cF 198=some A198:=bH
def A199:CF:=⟨[b6 2 5,aG 3],sr [o_ 2 (au xy 5),F_ 3] (sq (sr [V_ 4 0] (.block 0 (sr [K_ 6 4 4,V_ 5 6] (cd 5 (rr [o_ 7 (aI xy 5 [(0,1,kI 1),(1,1,kI 1),(2,1,kI 1)]),S_ 5 2 7,T_ 3]) (sr [K_ 9 4 5,V_ 8 9] (cd 8 (rr [o_ 10 (aI xy 5 [(0,1,kI 1),(1,1,kI 3),(2,1,kI 3)]),S_ 5 2 10,T_ 3]) (sq (sr [K_ 12 4 6,V_ 11 12] (cd 11 .skip (R_ [K_ 13 4 7,V_ 11 13]))) (cd 11 (rr [o_ 14 (aI xy 5 [(0,1,kI 1),(3,1,(aQ (.bool true))),(2,1,kI 3)]),S_ 5 2 14,T_ 3]) (sq (sr [K_ 16 4 8,V_ 15 16] (cd 15 .skip (sr [K_ 17 4 9,V_ 15 17] (cd 15 .skip (sr [K_ 18 4 10,V_ 15 18] (cd 15 .skip (sr [K_ 19 4 11,V_ 15 19] (cd 15 .skip (R_ [K_ 20 4 12,V_ 15 20]))))))))) (cd 15 (rr [o_ 21 (aI xy 5 [(0,1,kI 2),(1,1,kI 1),(2,1,kI 1)]),S_ 5 2 21,T_ 3]) (sr [K_ 23 4 13,V_ 22 23] (cd 22 (rr [o_ 24 (aI xy 5 [(0,1,kI 2),(1,1,kI 2),(2,1,kI 2)]),S_ 5 2 24,T_ 3]) (sq (sr [K_ 26 4 20,V_ 25 26] (cd 25 .skip (R_ [K_ 27 4 21,V_ 25 27]))) (cd 25 (rr [o_ 28 (aI xy 5 [(0,1,kI 2),(1,1,kI 3),(2,1,kI 3)]),S_ 5 2 28,T_ 3]) (sq (sr [K_ 30 4 14,V_ 29 30] (cd 29 .skip (sr [K_ 31 4 15,V_ 29 31] (cd 29 .skip (sr [K_ 32 4 16,V_ 29 32] (cd 29 .skip (sr [K_ 33 4 17,V_ 29 33] (cd 29 .skip (sr [K_ 34 4 18,V_ 29 34] (cd 29 .skip (R_ [K_ 35 4 19,V_ 29 35]))))))))))) (cd 29 (rr [o_ 36 (aI xy 5 [(0,1,kI 2),(3,1,(aQ (.bool true))),(4,1,(aQ (.bool true))),(2,1,kI 3)]),S_ 5 2 36,T_ 3]) .skip)))))))))))))))) (rr [o_ 37 (aI xy 5 []),S_ 5 2 37,F_ 3])),38⟩
theorem c199:cF 199=some A199:=bH
def A200:CF:=⟨[aG 4],sr [X_ 2 0,F_ 4] (ir [A_ 5 3 2,L_ 6 5,ru 7 6] 7 (rr [V_ 8 1,o_ 9 (jr (.func 264) [] [z_ 2]),y_ 10 263 [z_ 8,z_ 9],ru 11 10,V_ 4 11]) (rt (.dO [12,13,14,15,16,17,18,19,20,21,22,23,24,25,26,27,28,29,30,31,32,33,34,35] [dV 12 4 2,cY 13 12,e1_ un 14 13,aS 15 14,q1_ 15 16 1,hI [15,16] 15 17 (di (cK 1) 16 0) 1,q2_ 15 18 17,q1_ 15 19 1,hI [15,19] 15 20 (di (cK 1) 19 1) 1,q2_ 15 21 20,hI [15,18,21] 15 22 (b_ dq 18 21) 1,i_ [15,22] 23 (q_ 15 22) 1,aS 24 23,q1_ 24 25 1,hI [24,25] 24 26 (di (cK 1) 25 0) 1,q2_ 24 27 26,hI [24,27] 24 28 (di dq 27 0) 1,i_ [24,28] 29 (q_ 24 28) 1,aS 30 29,q1_ 30 31 1,hI [30,31] 30 32 (di (cK 1) 31 1) 1,q2_ 30 33 32,hI [30,33] 30 34 (di dq 33 0) 1,i_ [30,34] 35 (q_ 30 34) 1,aS 4 35]))),36⟩
theorem c200:cF 200=some A200:=bH
def acr:=R_ [D_ 18 9 1,V_ 9 18]
def Gh:CT:=sr [B_ 10 9 8] (sq (cd 10 .skip (.exit 0)) (sq (.block 1 (sr [J_ 11 8 7 9,N_ 12 8 11,o_ 5 (au uB 8),S_ 8 5 12] (R_ [V_ 13 3,N_ 14 8 5,y_ 15 201 [z_ 14],o_ 16 (aO uB 1 8 [(0,8,z_ 15)]),o_ 17 (dG 8 104 (z_ 13) (z_ 16)),V_ 3 17]))) acr))
def MO:=R_ [V_ 19 3,A_ 20 7 1,S_ 1 20 19]
def MN:=R_ [N_ 21 8 1,S_ 8 2 21]
def A201:CF:=⟨[b6 2 8],sr [X_ 1 0,o_ 2 (au uB 8)] (sr [o_ 3 (c_ cC)] (sq (sr [A_ 6 7 1,L_ 7 6,E_ 8 7,I_ 9 0] (bl 0 Gh)) (sq MO (rt MN)))),22⟩
theorem c201:cF 201=some A201:=bH
def acq:=R_ [V_ 19 8,V_ 7 19]
def acp:=R_ [V_ 20 8,V_ 21 6,eT mz 22 20 21,V_ 8 22]
def NK:CT:=sq (sr [V_ 11 8,V_ 12 1,eT yW 13 11 12] (cd 13 .skip (.exit 0))) (.block 1 (sr [V_ 14 0,V_ 15 7,V_ 16 8,V_ 17 2,y_ 18 265 [z_ 14,z_ 15,z_ 16,z_ 17]] (sq acq acp)))
def aco:=R_ [V_ 23 0,V_ 24 7,V_ 25 1,V_ 26 2,y_ 27 265 [z_ 23,z_ 24,z_ 25,z_ 26]]
def RD:=R_ [V_ 44 8,V_ 7 44]
def Rz:=R_ [V_ 45 8,V_ 46 6,o_ 47 (e2 (bR .mul) (kI 2) (z_ 46)),eT mz 48 45 47,V_ 8 48]
def NJ:CT:=sq (sr [V_ 33 8,V_ 34 1,eT yW 35 33 34] (cd 35 .skip (.exit 4))) (.block 5 (sr [V_ 36 0,V_ 37 7,V_ 38 7,V_ 39 6,eT mz 40 38 39,V_ 41 8,V_ 42 2,y_ 43 266 [z_ 36,z_ 37,z_ 40,z_ 41,z_ 42]] (sq RD Rz)))
def Ry:=R_ [V_ 49 7,V_ 50 6,eT mz 51 49 50,V_ 9 51]
def Rx:=R_ [V_ 52 9,V_ 53 1,B_ 54 52 53]
def Ru:=R_ [V_ 55 0,V_ 56 7,V_ 57 9,V_ 58 1,V_ 59 2,y_ 60 266 [z_ 55,z_ 56,z_ 57,z_ 58,z_ 59]]
def Fa:=R_ [V_ 61 6,o_ 62 (di (bR .mul) 61 2),V_ 6 62]
def NI:CT:=sq (sr [V_ 28 6,V_ 29 1,B_ 30 28 29] (cd 30 .skip (.exit 2))) (.block 3 (sr [V_ 31 6,o_ 32 (e2 (bR .mul) (kI 2) (z_ 31)),I_ 7 0,V_ 8 32] (sq (bl 4 NJ) (sq (sq Ry (sq Rx (cd 54 Ru .skip))) Fa))))
def A203:CF:=⟨[],sr [I_ 6 20] (sr [V_ 10 6,I_ 7 0,V_ 8 10] (sq (bl 0 NK) (sq aco (bl 2 NI)))),63⟩
theorem c203:cF 203=some A203:=bH
def acn:=R_ [o_ 11 (aI fG 3 []),S_ 3 4 11,I_ 5 1]
def acm:=R_ [V_ 12 1,y_ 13 217 [z_ 12],ru 14 13]
def ack:=R_ [o_ 15 (aI fG 3 []),S_ 3 4 15,I_ 5 5]
def acj:=R_ [N_ 16 8 2,V_ 17 1,y_ 18 218 [z_ 16,z_ 17],W_ 19 0 18,W_ 20 1 18,S_ 3 4 19,V_ 5 20]
def A212:CF:=⟨[b6 4 3,aG 5],sr [X_ 2 0,o_ 4 (au fG 3),I_ 5 0] (ir [N_ 6 8 2,V_ 7 1,E_ 8 7,y_ 9 216 [z_ 6,z_ 8],ru 10 9] 10 (rt acn) (iq acm 14 (rt ack) (rt acj))),21⟩
theorem c212:cF 212=some A212:=bH
def A213:CF:=⟨[],(R_ [V_ 2 0,vP (bg 3) (z_ 2) [(aQ cC)]]),4⟩
theorem c213:cF 213=some A213:=bH
def A214:CF:=⟨[aG 3],sr [X_ 2 0,F_ 3] (rr [A_ 4 0 2,L_ 5 4,A_ 6 0 1,L_ 7 6,eT dq 8 5 7,V_ 3 8]),9⟩
theorem c214:cF 214=some A214:=bH
def aci:=R_ [L_ 12 1,L_ 13 2,eZ fZ 14 13 1,L_ 15 3,y_ 16 149 [z_ 12,z_ 14,z_ 15]]
def ach:=R_ [V_ 6 17]
def acg:CT:=.dO [18,19,20,21,22,23,24,25,26,27] [cY 18 1,i_ [18] 19 (aY (z_ 18)) 1,dV 20 0 19,dV 21 2 20,cY 22 21,cY 23 4,dR 24 1 22 23,cY 25 24,u1_ bm 26 25,i_ [] 27 (c_ (.int .i64 0)) 1]
def MM:=R_ [V_ 31 6,y_ 32 135 [z_ 31],V_ 33 8,o_ 34 (dG 3 32 (z_ 32) (z_ 33)),V_ 9 34]
def ML:CT:=.dO [36,37,38,39,40,41,42,43,44,45,46,35,47,48] [cY 36 1,i_ [36] 37 (aY (z_ 36)) 1,dV 38 3 37,dV 39 16 38,cY 40 39,cY 41 2,uz fZ 42 41 1,dR 43 1 40 42,cY 44 43,aS 45 9,cI [44,45] (bg 46) 150 [z_ 44,z_ 45],aS 35 46,i_ [35] 47 (u_ (kS 0) 35) 1,i_ [35] 48 (u_ (kS 1) 35) 1,aS 10 47,aS 11 48]
def MK:=R_ [L_ 49 3,V_ 50 11,vP (bg 51) (z_ 49) [z_ 50]]
def E':=R_ [V_ 52 10,V_ 53 52,fu 53 54 5,jn 53 55 9,gvP (z_ 53) true (bg 56) (z_ 54) [z_ 55],g_ 53 57 (un 56),P_ 58 53 57]
def Rt:=R_ [D_ 59 27 1,V_ 27 59]
def Gg:CT:=sr [B_ 28 27 26] (sq (cd 28 .skip (.exit 2)) (sq (.block 3 (sr [J_ 29 1 25 27,L_ 30 29,V_ 8 30] (sq MM (sq ML (sq MK (sq E' (cd 58 .ret .skip))))))) Rt))
def ei:Code×Code:=V8 pG 215 0
theorem ad9:eQ pG 60 true ei.1=ach :=bH
theorem ad8:eQ pG 60 true ei.2=(.block 1 (sq acg (.block 2 (.loop Gg)))) :=bH
def A215:CF:=⟨[],sr [X_ 5 0] (sq aci (.block 0 (.range 60 (z_ 16) [17] ei.1 ei.2))),60⟩
theorem c215:cF 215=some A215:=bH
def acf:=R_ [F_ 4]
def vv:=R_ [A_ 12 0 2,L_ 13 12,K_ 14 13 1,V_ 15 14,eJ 15 16 1 2,zV 15 17 3 16,kz (z_ 15) true (bg 18) 88 [z_ 17],g_ 15 19 (un 18),P_ 20 15 19,V_ 21 20,jW 21 22 0 2,kO 21 23 22,h_ 21 24 (di dq 23 3),pT 21 25 24,eJ 25 26 6 2,fu 25 27 26,g_ 25 28 (di jR 27 0),jn 25 29 28,jW 29 30 6 2,kO 29 31 30,kO 29 32 3,h_ 29 33 (b_ nY 31 32),g_ 25 34 (q_ 29 33),h_ 21 35 (p_ 25 34),Q_ 36 21 35]
def E9:=R_ [F_ 4]
def MJ:=R_ [A_ 37 7 2,L_ 38 37,o_ 39 (jr (.func 269) [] [z_ 3]),y_ 40 268 [z_ 38,z_ 39],ru 41 40,V_ 4 41]
def A216:CF:=⟨[aG 4],sr [X_ 2 0,X_ 3 1,F_ 4] (iq (.dO [5,6,7,8,9,10,11] [dV 5 0 2,cY 6 5,cI [6] (bg 7) 267 [z_ 6],oy 8 7 2 2,nN 9 8 2,u2_ bm 10 9 2,v7 sO 11 7 10]) 11 (rt acf) (iq vv 36 (rt E9) (rt MJ))),42⟩
theorem c216:cF 216=some A216:=bH
def A217:CF:=⟨[aG 2],sr [F_ 2] (rr [V_ 3 0,y_ 4 270 [z_ 3,kf 271],ru 5 4,V_ 2 5]),6⟩
theorem c217:cF 217=some A217:=bH
def E8:=R_ [V_ 38 10,H_ 39 38 0]
def xk:=R_ [o_ 40 (aI fG 3 []),V_ 41 10,S_ 3 4 40,V_ 5 41]
def E7:=R_ [V_ 42 7,N_ 43 3 9,o_ 44 (b_ (gJ 2 3) 6 42),S_ 3 44 43]
def E6:=R_ [D_ 45 27 1,V_ 27 45]
def NH:CT:=sr [B_ 28 27 26] (sq (cd 28 .skip (.exit 1)) (sq (.block 2 (sr [V_ 29 27,J_ 30 8 25 27,N_ 31 8 30,o_ 8 (au uB 8),V_ 7 29,S_ 8 8 31] (sr [N_ 33 8 8,V_ 34 1,y_ 35 218 [z_ 33,z_ 34],V_ 32 35,W_ 36 0 32,W_ 37 1 32,o_ 9 (au fG 3),S_ 3 9 36,V_ 10 37] (iq E8 39 (rt xk) E7)))) E6))
def qX:=R_ [A_ 46 0 2,L_ 47 46]
def qW:=R_ [K_ 49 47 4,V_ 48 49]
def Rr:=R_ [o_ 50 (di (gJ 2 3) 6 0),N_ 51 3 50,y_ 52 272 [z_ 51],W_ 53 0 52,W_ 54 1 52,S_ 3 4 53,V_ 5 54]
def uk:=R_ [K_ 56 47 5,V_ 55 56]
def Rq:=R_ [o_ 57 (di (gJ 2 3) 6 0),N_ 58 3 57,y_ 59 273 [z_ 58],W_ 60 0 59,W_ 61 1 59,S_ 3 4 60,V_ 5 61]
def xj:=R_ [K_ 63 47 6,V_ 62 63]
def Ro:=R_ [o_ 64 (di (gJ 2 3) 6 0),A_ 65 0 64,L_ 66 65,K_ 67 66 0,y_ 68 219 [z_ 67],S_ 3 4 68,I_ 5 0]
def E4:=R_ [K_ 70 47 7,V_ 69 70]
def Rn:=R_ [o_ 71 (di (gJ 2 3) 6 0),A_ 72 0 71,L_ 73 72,H_ 74 73 0,y_ 75 219 [z_ 74],S_ 3 4 75,I_ 5 0]
def Rm:CT:=.dO [76,77,78,79,80,81,82,83,84,85,86,87] [cI [] (bg 76) 274 [],oy 77 0 2 2,nN 78 77 2,i_ [78] 79 (di fZ 78 8) 2,i_ [76,79] 80 (b_ (Y6 14 1 false) 76 79) 1,i_ [6] 81 (di (gJ 2 3) 6 0) 2,mq 82 3 81 2,i_ [6] 83 (di (gJ 2 3) 6 1) 2,mq 84 3 83 2,vI [80,82,84] (bg 85) (z_ 80) [z_ 82,z_ 84],i_ [85] 86 (u_ (kS 0) 85) 1,i_ [85] 87 (u_ (kS 1) 85) 1,eU 3 4 86,aS 5 87]
def A218:CF:=⟨[b6 4 3,aG 5],sr [X_ 2 0,o_ 4 (au fG 3),I_ 5 0] (sq (sr [A_ 11 0 2,L_ 12 11] (.block 0 (sr [K_ 14 12 1,V_ 13 14] (cd 13 (rr [A_ 15 1 2,N_ 16 3 15,S_ 3 4 16,I_ 5 0]) (sr [K_ 18 12 3,V_ 17 18] (cd 17 (rr [V_ 19 1,A_ 20 6 2,L_ 21 20,J_ 22 3 19 21,N_ 23 3 22,S_ 3 4 23,I_ 5 0]) .skip)))))) (sr [o_ 6 (au [.int .i64 0,.int .i64 0,.str [],.int .i64 0,.int .i64 0,.str []] 6)] (sq (sr [A_ 24 7 2,L_ 25 24,E_ 26 25,I_ 27 0] (bl 1 NH)) (sq (sq qX (.block 3 (sq qW (cd 48 (rt Rr) (sq uk (cd 55 (rt Rq) (sq xj (cd 62 (rt Ro) (sq E4 (cd 69 (rt Rn) .skip)))))))))) (rt Rm))))),88⟩
theorem c218:cF 218=some A218:=bH
def A219:CF:=⟨[b6 2 3],sr [o_ 2 (au fG 3)] (sr [o_ 4 (aI fG 3 [(0,1,kI 3)]),o_ 3 (au fG 3),S_ 3 3 4] (ir [V_ 5 0] 5 (R_ [A_ 6 1 3,oP ri (dz 1 (z_ 6) (kI 1))]) (rr [N_ 7 3 3,S_ 3 2 7]))),8⟩
theorem c219:cF 219=some A219:=bH
def vu:=R_ [V_ 21 2,V_ 22 1,eT fZ 23 21 22,V_ 12 23]
def vq:=R_ [V_ 24 12,eZ yW 25 24 12]
def EH:=R_ [V_ 26 0,V_ 27 1,V_ 28 2,V_ 29 4,y_ 30 265 [z_ 26,z_ 27,z_ 28,z_ 29]]
def EG:=R_ [V_ 31 3,K_ 32 31 0]
def MI:=R_ [V_ 33 0,V_ 34 1,V_ 35 2,V_ 36 4,y_ 37 275 [z_ 33,z_ 34,z_ 35,z_ 36]]
def EF:=R_ [V_ 38 10,ru 39 38]
def MH:=R_ [V_ 40 0,V_ 41 1,V_ 42 2,V_ 43 4,y_ 44 276 [z_ 40,z_ 41,z_ 42,z_ 43]]
def MG:=R_ [V_ 45 3,eZ fZ 46 45 1,V_ 3 46]
def E3:=R_ [V_ 48 0,V_ 49 1,V_ 50 2,V_ 51 4,y_ 52 277 [z_ 48,z_ 49,z_ 50,z_ 51],V_ 47 52,W_ 53 0 47,W_ 54 1 47,V_ 13 53,V_ 14 54]
def xh:=R_ [V_ 55 14,K_ 56 55 2]
def EZ:=R_ [V_ 57 0,V_ 58 1,V_ 59 2,V_ 60 4,y_ 61 278 [z_ 57,z_ 58,z_ 59,z_ 60]]
def EY:=R_ [V_ 62 2,eZ fZ 63 62 1,V_ 64 13,V_ 65 1,eT fZ 66 64 65,eT fZ 67 63 66,V_ 13 67]
def EX:=R_ [I_ 14 1]
def qV:=R_ [V_ 68 10,V_ 69 68,jn 69 70 11,P_ 71 69 70,V_ 72 71,jn 72 73 14,g_ 72 74 (di dq 73 1),P_ 75 72 74]
def EW:=R_ [V_ 76 0,V_ 77 1,V_ 78 2,V_ 79 4,y_ 80 279 [z_ 76,z_ 77,z_ 78,z_ 79]]
def xg:CT:=.dO [81,82,83,84,85,86,87,88,89,90,91,92,93,94,95,96,97] [aS 81 1,uz nu 82 81 0,aS 83 82,gK 83 84 4,gK 83 85 0,gK 83 86 1,gI [83,86] 83 87 (di fZ 86 1) 1,gI [83,85,87] 83 88 (b_ (cK 1) 85 87) 1,s8 83 89 88,gK 83 90 0,gK 83 91 13,gI [83,90,91] 83 92 (b_ (cK 1) 90 91) 1,s8 83 93 92,Yr [83,84,89,93] (z_ 83) true (bg 94) (z_ 84) [z_ 89,z_ 93],gI [83,94] 83 95 (di jR 94 0) 1,gI [83,95] 83 96 (un 95) 1,i_ [83,96] 97 (p_ 83 96) 1]
def EV:=R_ [V_ 98 0,V_ 99 1,V_ 100 2,V_ 101 13,V_ 102 4,y_ 103 280 [z_ 98,z_ 99,z_ 100,z_ 101,z_ 102],V_ 15 103]
def EU:=R_ [V_ 104 15,V_ 1 104]
def ET:=R_ [V_ 106 0,V_ 107 1,V_ 108 2,V_ 109 13,V_ 110 4,y_ 111 281 [z_ 106,z_ 107,z_ 108,z_ 109,z_ 110],V_ 105 111,W_ 112 0 105,W_ 113 1 105,V_ 16 112,V_ 17 113]
def ES:=R_ [V_ 114 17,V_ 11 114]
def ER:=R_ [V_ 115 16,V_ 116 1,eT fZ 117 115 116,V_ 118 2,V_ 119 16,eT fZ 120 118 119,V_ 18 117,V_ 19 120]
def EP:=R_ [V_ 121 12,o_ 122 (di (bR .quo) 121 8),V_ 20 122]
def EO:=R_ [V_ 123 18,V_ 124 19,B_ 125 123 124]
def EN:=R_ [V_ 126 18,V_ 127 20,eT nY 128 126 127,V_ 10 128]
def EM:=R_ [V_ 129 0,V_ 130 1,V_ 131 16,V_ 132 3,V_ 133 4,y_ 134 220 [z_ 129,z_ 130,z_ 131,z_ 132,z_ 133]]
def EL:=R_ [V_ 135 16,D_ 136 135 1,V_ 1 136]
def EK:=R_ [V_ 137 19,V_ 138 20,eT nY 139 137 138,V_ 10 139]
def EJ:=R_ [V_ 140 0,V_ 141 16,D_ 142 141 1,V_ 143 2,V_ 144 3,V_ 145 4,y_ 146 220 [z_ 140,z_ 142,z_ 143,z_ 144,z_ 145]]
def EI:=R_ [V_ 147 16,V_ 2 147]
def NG:CT:=.block 1 (sq vu (iq vq 25 (rt EH) (iq EG 32 (rt MI) (iq EF 39 (sq MH MG) (sq E3 (iq xh 56 (sq EZ (sq EY EX)) (iq qV 75 (sq EW (cd 80 .ret .skip)) (iq xg 97 (sq EV (sq EU (.exit 1))) (sq ET (sq ES (sq ER (sq EP (sq EO (cd 125 (sq EN (sq EM EL)) (sq EK (sq EJ EI))))))))))))))))
def A220:CF:=⟨[],sr [T_ 10] (sr [T_ 11] (bl 0 NG)),148⟩
theorem c220:cF 220=some A220:=bH
def A221:CF:=⟨[aG 2],sr [I_ 2 0] (sq (.cond (aQ (.bool false)) (rr [V_ 3 0,o_ 4 (u_ (bV .u32) 3),y_ 5 282 [z_ 4],V_ 2 5]) .skip) (rr [V_ 6 0,y_ 7 283 [z_ 6],V_ 2 7])),8⟩
theorem c221:cF 221=some A221:=bH
def amL:CT:=sr [B_ 9 8 7] (sq (cd 9 .skip (.exit 0)) (sq (.block 1 (sr [V_ 10 8,V_ 5 10] (sr [V_ 11 1,V_ 12 0,V_ 13 5,J_ 14 1 12 13,L_ 15 14,eT dq 16 11 15] (cd 16 (rr [V_ 17 5,V_ 4 17]) .skip)))) (R_ [D_ 18 8 1,V_ 8 18])))
def A226:CF:=⟨[aG 4],sr [I_ 4 0] (sq (sr [V_ 6 0,E_ 7 6,I_ 8 0] (bl 0 amL)) (rr [o_ 4 (c_ (.int .i64 (-1)))])),19⟩
theorem c226:cF 226=some A226:=bH
def A227:CF:=⟨[aG 2],sr [I_ 2 0] (sr [I_ 3 0] (sq (sr [V_ 4 0] (.block 0 (sq (.block 3 (sq (.block 2 (sq (.block 1 (sq (ir [K_ 6 4 2,V_ 5 6] 5 (.exit 1) (ir [K_ 8 4 1,V_ 7 8] 7 (.exit 2) (sr [K_ 10 4 3,V_ 9 10] (cd 9 (.exit 3) .skip)))) (.exit 0))) (R_ [V_ 11 3,D_ 12 11 1,V_ 3 12]))) (R_ [V_ 13 3,D_ 14 13 1,V_ 3 14]))) (sr [V_ 15 3,D_ 16 15 1,V_ 3 16] (.exit 0))))) (rr [V_ 17 3,V_ 2 17]))),18⟩
theorem c227:cF 227=some A227:=bH
def A228:CF:=⟨[aG 4],sr [I_ 4 0] (rr [V_ 5 0,V_ 6 1,y_ 7 285 [z_ 5,z_ 6],V_ 4 7]),8⟩
theorem c228:cF 228=some A228:=bH
def MF:=R_ [D_ 38 18 1,V_ 18 38]
def adH:CT:=sr [B_ 19 18 17] (sq (cd 19 .skip (.exit 0)) (sq (.block 1 (sr [V_ 20 18,V_ 6 20] (.dO [21,22,23,24,25,26,27,28,29,30,31,32,33,34,35,36,37] [aS 22 0,i_ [22] 23 (aY (z_ 22)) 1,dV 24 0 23,dV 25 1 24,cY 26 25,aS 27 1,i_ [27] 28 (u_ (bV .u64) 27) 1,aS 29 6,i_ [29] 30 (e2 (bR .mul) (kI 8) (z_ 29)) 1,i_ [28,30] 31 (b_ (bR .shr) 28 30) 1,i_ [31] 32 (u_ (bV .u8) 31) 1,i_ [32] 33 (aO zW 1 1 [(0,1,z_ 32)]) 1,mI [26,33] (bg 34) (dG 1 1 (z_ 26) (z_ 33)),iF 21 0 2,i_ [21] 35 (aY (z_ 21)) 1,dV 36 0 35,dV 37 1 36,eU 1 37 34]))) MF))
def A229:CF:=⟨[],ir [V_ 7 0,o_ 8 (d_ (kT false .ptr) 7 (.aV (.pointer none))),V_ 9 8,pT 9 10 0,h_ 9 11 (aY (z_ 10)),jW 9 12 0 11,jW 9 13 0 12,kO 9 14 13,h_ 9 15 (un 14),Q_ 16 9 15] 16 .ret (sr [V_ 17 2,I_ 18 0] (bl 0 adH)),39⟩
theorem c229:cF 229=some A229:=bH
def A230:CF:=⟨[],sr [X_ 3 1] (R_ [V_ 4 0,A_ 5 1 3,L_ 6 5,y_ 7 231 [z_ 4,z_ 6]]),8⟩
theorem c230:cF 230=some A230:=bH
def A231:CF:=⟨[],(R_ [V_ 4 0,V_ 5 1,o_ 6 (u_ (bV .u64) 5),o_ 7 (d_ (bR .shl) 6 (.int .u64 1)),V_ 8 1,o_ 9 (d_ (bR .shr) 8 (.int .u64 63)),o_ 10 (u_ (bV .u64) 9),o_ 11 (b_ (bR .xor) 7 10),y_ 12 286 [z_ 4,z_ 11]]),13⟩
theorem c231:cF 231=some A231:=bH
def A234:CF:=⟨[],sr [X_ 3 1] (R_ [V_ 4 0,A_ 5 2 3,L_ 6 5,y_ 7 235 [z_ 4,z_ 6]]),8⟩
theorem c234:cF 234=some A234:=bH
def ace:=R_ [V_ 9 0,V_ 10 1,o_ 11 (UO (z_ 10)),y_ 12 288 [z_ 9,z_ 11]]
def A235:CF:=⟨[],sr [V_ 4 0,V_ 5 1,u3_ js 6 5,o_ 7 (u_ (bV .u64) 6),y_ 8 286 [z_ 4,z_ 7]] ace,13⟩
theorem c235:cF 235=some A235:=bH
def A238:CF:=⟨[],sr [X_ 3 1] (R_ [V_ 4 0,A_ 5 1 3,L_ 6 5,o_ 7 (u_ (bV .u8) 6),y_ 8 167 [z_ 4,z_ 7]]),9⟩
theorem c238:cF 238=some A238:=bH
def abZ:=R_ [A_ 24 1 3,L_ 25 24,o_ 26 (u_ (bV .u64) 25),o_ 27 (d_ (bR .xor) 26 (.int .u64 9223372036854775808)),V_ 5 27]
def abY:=R_ [I_ 6 56]
def Rk:=R_ [V_ 30 6,eZ fZ 31 30 8,V_ 6 31]
def Gf:CT:=lr [V_ 28 6,eZ nY 29 28 0] 29 1 2 (R_ [V_ 32 0,V_ 33 5,V_ 34 6,o_ 35 (b_ (bR .shr) 33 34),o_ 36 (u_ (bV .u8) 35),o_ 37 (aO zW 1 1 [(0,1,z_ 36)]),o_ 38 (dG 1 1 (z_ 32) (z_ 37)),V_ 0 38]) Rk
def Rj:=R_ [V_ 39 0,V_ 4 39]
def Q9:=R_ [A_ 45 2 3,L_ 46 45,u3_ js 47 46,I_ 48 0]
def Q8:=R_ [A_ 58 2 3,L_ 59 58,V_ 60 7,eT oZ 61 59 60,o_ 62 (d_ dq 61 (.int .u8 0))]
def Q7:=R_ [V_ 63 0,o_ 64 (aO zW 1 1 [(0,1,(aQ (.int .u8 255)))]),o_ 65 (dG 1 1 (z_ 63) (z_ 64)),V_ 0 65]
def ED:=R_ [D_ 66 48 1,V_ 48 66]
def Ge:CT:=sr [B_ 49 48 47] (sq (cd 49 .skip (.exit 3)) (sq (.block 4 (sr [V_ 50 48,V_ 7 50] (sr [V_ 51 0,A_ 52 2 3,L_ 53 52,V_ 54 7,eT oZ 55 53 54,o_ 56 (aO zW 1 1 [(0,1,z_ 55)]),o_ 57 (dG 1 1 (z_ 51) (z_ 56)),V_ 0 57] (sq Q8 (cd 62 Q7 .skip))))) ED))
def Q6:=R_ [V_ 67 0,o_ 68 (aO zW 2 1 [(0,1,(aQ (.int .u8 0))),(1,1,(aQ (.int .u8 1)))]),o_ 69 (dG 1 1 (z_ 67) (z_ 68)),V_ 4 69]
def A241:CF:=⟨[aG 4],sr [X_ 3 1,o_ 4 (c_ cC)] (sq (sr [A_ 8 0 3,L_ 9 8] (.block 0 (sr [K_ 11 9 3,V_ 10 11] (cd 10 (rr [V_ 12 0,A_ 13 1 3,L_ 14 13,o_ 15 (e2 mz (kI 2) (z_ 14)),o_ 16 (u_ (bV .u8) 15),o_ 17 (aO zW 1 1 [(0,1,z_ 16)]),o_ 18 (dG 1 1 (z_ 12) (z_ 17)),V_ 4 18]) (sr [K_ 20 9 1,V_ 19 20] (cd 19 (sr [V_ 21 0,o_ 22 (aO zW 1 1 [(0,1,(aQ (.int .u8 4)))]),o_ 23 (dG 1 1 (z_ 21) (z_ 22)),V_ 0 23] (sq abZ (sq (sq abY (bl 1 Gf)) (rt Rj)))) (sr [K_ 41 9 2,V_ 40 41] (cd 40 (sr [V_ 42 0,o_ 43 (aO zW 1 1 [(0,1,(aQ (.int .u8 5)))]),o_ 44 (dG 1 1 (z_ 42) (z_ 43)),V_ 0 44] (sq (sq Q9 (bl 3 Ge)) (rt Q6))) .skip)))))))) (rr [V_ 70 0,o_ 71 (aO zW 1 1 [(0,1,(aQ (.int .u8 1)))]),o_ 72 (dG 1 1 (z_ 70) (z_ 71)),V_ 4 72])),73⟩
theorem c241:cF 241=some A241:=bH
def A262:CF:=⟨[aG 3],sr [X_ 2 0,F_ 3] (rr [A_ 4 0 2,L_ 5 4,L_ 6 1,eT dq 7 5 6,V_ 3 7]),8⟩
theorem c262:cF 262=some A262:=bH
def A263:CF:=⟨[aG 4],sr [F_ 4] (rr [V_ 5 0,V_ 6 1,y_ 7 301 [z_ 5,z_ 6],eZ nY 8 7 0,V_ 4 8]),9⟩
theorem c263:cF 263=some A263:=bH
def A264:CF:=⟨[aG 3],sr [F_ 3] (rr [V_ 4 0,H_ 5 4 0,V_ 6 5,jn 6 7 0,eJ 6 8 1 1,fu 6 9 8,g_ 6 10 (b_ sO 7 9),P_ 11 6 10,V_ 3 11]),12⟩
theorem c264:cF 264=some A264:=bH
def abT:CT:=.dO [37,38,39,40,41,42,43,44,45,46,47,48,49,50,51,52] [aS 37 0,aS 38 9,aS 42 0,aS 43 9,uz fZ 44 43 1,dR 45 1 42 44,cY 46 45,aS 47 0,aS 48 9,dR 49 1 47 48,cY 50 49,dR 51 1 37 38,eU 1 51 46,iF 39 0 2,iF 40 9 2,i_ [40] 41 (di fZ 40 1) 2,dR 52 1 39 41,eU 1 52 50]
def abS:=R_ [V_ 35 9,eZ fZ 36 35 1,V_ 9 36]
def zM:CT:=lp (.dO [18,19,20,21,22,23,24,25,26,27,28,29,30,31,32,33,34] [aS 18 9,aS 19 1,v7 nu 20 18 19,aS 21 20,gK 21 22 3,gK 21 23 0,gK 21 24 9,gI [21,23,24] 21 25 (b_ (cK 1) 23 24) 1,s8 21 26 25,gK 21 27 0,gK 21 28 9,gI [21,28] 21 29 (di fZ 28 1) 1,gI [21,27,29] 21 30 (b_ (cK 1) 27 29) 1,s8 21 31 30,Yr [21,22,26,31] (z_ 21) true (bg 32) (z_ 22) [z_ 26,z_ 31],gI [21,32] 21 33 (di jR 32 0) 1,i_ [21,33] 34 (p_ 21 33) 1]) 34 2 3 abT abS
def EC:=R_ [V_ 15 8,D_ 16 15 1,V_ 8 16]
def vz:CT:=lr [V_ 12 8,V_ 13 2,B_ 14 12 13] 14 0 1 (sr [V_ 17 8,V_ 9 17] (bl 2 zM)) EC
def A265:CF:=⟨[],sr [V_ 10 1,D_ 11 10 1,V_ 8 11] (bl 0 vz),53⟩
theorem c265:cF 265=some A265:=bH
def abR:=R_ [V_ 53 12,V_ 11 53]
def NF:CT:=sq (sr [V_ 31 10,V_ 32 11,B_ 33 31 32] (cd 33 .skip (.exit 0))) (.block 1 (sr [V_ 34 10,V_ 35 11,eT mz 36 34 35,o_ 37 (u_ (bV .u64) 36),o_ 38 (d_ (bR .shr) 37 (.int .u64 1)),o_ 39 (u_ (bV .i64) 38),V_ 12 39] (sq (.dO [40,41,42,43,44,45,46,47,48,49,50] [aS 40 4,aS 41 0,aS 42 12,dR 43 1 41 42,cY 44 43,aS 45 0,aS 46 1,dR 47 1 45 46,cY 48 47,vI [40,44,48] (bg 49) (z_ 40) [z_ 44,z_ 48],uz jR 50 49 0]) (cd 50 (R_ [V_ 51 12,D_ 52 51 1,V_ 10 52]) abR))))
def abQ:=R_ [V_ 54 1,V_ 13 54]
def adG:CT:=lr [V_ 55 13,V_ 56 10,eZ fZ 57 56 1,B_ 58 55 57] 58 2 3 (.dO [61,62,63,64,65,66,67,68,69,70,71,72,73,74,75,76] [aS 61 0,aS 62 13,aS 66 0,aS 67 13,uz mz 68 67 1,dR 69 1 66 68,cY 70 69,aS 71 0,aS 72 13,dR 73 1 71 72,cY 74 73,dR 75 1 61 62,eU 1 75 70,iF 63 0 2,iF 64 13 2,i_ [64] 65 (di mz 64 1) 2,dR 76 1 63 65,eU 1 76 74]) (R_ [V_ 59 13,D_ 60 59 1,V_ 13 60])
def Q5:=R_ [V_ 104 16,D_ 105 104 1,V_ 14 105]
def ND:CT:=sq (sr [V_ 83 14,V_ 84 15,B_ 85 83 84] (cd 85 .skip (.exit 4))) (.block 5 (sr [V_ 86 14,V_ 87 15,eT mz 88 86 87,o_ 89 (u_ (bV .u64) 88),o_ 90 (d_ (bR .shr) 89 (.int .u64 1)),o_ 91 (u_ (bV .i64) 90),V_ 16 91] (sq (.dO [92,93,94,95,96,97,98,99,100,101,102,103] [aS 92 4,aS 93 0,aS 94 2,dR 95 1 93 94,cY 96 95,aS 97 0,aS 98 16,dR 99 1 97 98,cY 100 99,vI [92,96,100] (bg 101) (z_ 92) [z_ 96,z_ 100],uz jR 102 101 0,e1_ un 103 102]) (cd 103 Q5 (R_ [V_ 106 16,V_ 15 106])))))
def Q4:=R_ [V_ 107 2,V_ 17 107]
def adF:CT:=lr [V_ 108 17,V_ 109 14,eT nu 110 108 109] 110 6 7 (.dO [113,114,115,116,117,118,119,120,121,122,123,124,125,126,127,128] [aS 113 0,aS 114 17,aS 118 0,aS 119 17,uz fZ 120 119 1,dR 121 1 118 120,cY 122 121,aS 123 0,aS 124 17,dR 125 1 123 124,cY 126 125,dR 127 1 113 114,eU 1 127 122,iF 115 0 2,iF 116 17 2,i_ [116] 117 (di fZ 116 1) 2,dR 128 1 115 117,eU 1 128 126]) (R_ [V_ 111 17,eZ fZ 112 111 1,V_ 17 112])
def EB:=R_ [V_ 147 19,eZ fZ 148 147 1,V_ 22 148]
def Q2:=R_ [V_ 172 23,D_ 173 172 1,V_ 20 173]
def F9:CT:=sq (sr [V_ 149 20,V_ 150 21,B_ 151 149 150] (cd 151 .skip (.exit 8))) (.block 9 (sr [V_ 152 20,V_ 153 21,eT mz 154 152 153,o_ 155 (u_ (bV .u64) 154),o_ 156 (d_ (bR .shr) 155 (.int .u64 1)),o_ 157 (u_ (bV .i64) 156),V_ 23 157] (sq (.dO [158,159,160,161,162,163,164,165,166,167,168,169,170,171] [aS 158 4,aS 159 0,aS 160 22,aS 161 23,v7 fZ 162 160 161,dR 163 1 159 162,cY 164 163,aS 165 0,aS 166 23,dR 167 1 165 166,cY 168 167,vI [158,164,168] (bg 169) (z_ 158) [z_ 164,z_ 168],uz jR 170 169 0,e1_ un 171 170]) (cd 171 Q2 (R_ [V_ 174 23,V_ 21 174])))))
def uj:=R_ [V_ 175 19,V_ 176 20,eT fZ 177 175 176,V_ 24 177]
def ui:=R_ [V_ 178 20,V_ 179 2,B_ 180 178 179,V_ 181 180,jn 181 182 2,jn 181 183 24,g_ 181 184 (b_ jR 182 183),P_ 185 181 184]
def Q1:=R_ [V_ 186 0,V_ 187 20,V_ 188 2,V_ 189 24,V_ 190 4,y_ 191 302 [z_ 186,z_ 187,z_ 188,z_ 189,z_ 190]]
def uh:=R_ [V_ 192 1,V_ 193 20,B_ 194 192 193,V_ 195 194,jn 195 196 20,jn 195 197 18,g_ 195 198 (b_ jR 196 197),P_ 199 195 198]
def EA:=R_ [V_ 200 0,V_ 201 1,V_ 202 20,V_ 203 18,V_ 204 4,y_ 205 266 [z_ 200,z_ 201,z_ 202,z_ 203,z_ 204]]
def ug:=R_ [V_ 206 18,V_ 207 24,B_ 208 206 207,V_ 209 208,jn 209 210 24,jn 209 211 3,g_ 209 212 (b_ jR 210 211),P_ 213 209 212]
def Ez:=R_ [V_ 214 0,V_ 215 18,V_ 216 24,V_ 217 3,V_ 218 4,y_ 219 266 [z_ 214,z_ 215,z_ 216,z_ 217,z_ 218]]
def A266:CF:=⟨[],ir [V_ 25 2,V_ 26 1,eT fZ 27 25 26,K_ 28 27 1] 28 (sr [V_ 29 2,V_ 10 29] (sr [V_ 30 3,V_ 11 30] (sq (bl 0 NF) (rt (sq abQ (bl 2 adG)))))) (ir [V_ 77 3,V_ 78 2,eT fZ 79 77 78,K_ 80 79 1] 80 (sr [V_ 81 1,V_ 14 81] (sr [V_ 82 2,V_ 15 82] (sq (bl 4 ND) (rt (sq Q4 (bl 6 adF)))))) (sr [V_ 129 1,V_ 130 3,eT mz 131 129 130,o_ 132 (u_ (bV .u64) 131),o_ 133 (d_ (bR .shr) 132 (.int .u64 1)),o_ 134 (u_ (bV .i64) 133),V_ 18 134] (sr [V_ 135 18,V_ 136 2,eT mz 137 135 136,V_ 19 137] (sr [I_ 20 0,I_ 21 0] (sq (sr [V_ 138 2,V_ 139 18,eT nu 140 138 139] (cd 140 (sr [V_ 141 19,V_ 142 3,eT fZ 143 141 142,V_ 20 143] (R_ [V_ 144 18,V_ 21 144])) (sr [V_ 145 1,V_ 20 145] (R_ [V_ 146 2,V_ 21 146])))) (sq EB (sq (bl 8 F9) (sq uj (iq ui 185 Q1 (iq uh 199 EA (sq ug (cd 213 Ez .skip)))))))))))),220⟩
theorem c266:cF 266=some A266:=bH
def A267:CF:=⟨[aG 2],sr [I_ 2 0] (sq (.block 0 (sr [V_ 4 0,K_ 5 4 1,V_ 6 5,pT 6 7 0,h_ 6 8 (di dq 7 3),Q_ 9 6 8,V_ 3 9] (cd 3 (rr [I_ 2 0]) (sr [V_ 11 0,eZ nY 12 11 4,V_ 13 12,jn 13 14 0,g_ 13 15 (di yW 14 7),P_ 16 13 15,V_ 10 16] (cd 10 (rr [I_ 2 1]) (sr [V_ 18 0,eZ nY 19 18 8,V_ 20 19,jn 20 21 0,g_ 20 22 (di yW 21 21),P_ 23 20 22,V_ 17 23] (cd 17 (rr [I_ 2 2]) .skip))))))) (rr [o_ 2 (c_ (.int .i64 (-1)))])),24⟩
theorem c267:cF 267=some A267:=bH
def A268:CF:=⟨[aG 4],sr [F_ 4] (rr [V_ 5 0,V_ 6 1,y_ 7 303 [z_ 5,z_ 6],eZ nY 8 7 0,V_ 4 8]),9⟩
theorem c268:cF 268=some A268:=bH
def A269:CF:=⟨[aG 3],sr [X_ 2 0,F_ 3] (rr [N_ 4 8 2,L_ 5 1,y_ 6 216 [z_ 4,z_ 5],ru 7 6,V_ 3 7]),8⟩
theorem c269:cF 269=some A269:=bH
def A270:CF:=⟨[aG 4],sr [F_ 4] (rr [V_ 5 0,V_ 6 1,y_ 7 304 [z_ 5,z_ 6],eZ nY 8 7 0,V_ 4 8]),9⟩
theorem c270:cF 270=some A270:=bH
def A271:CF:=⟨[aG 2],sr [X_ 1 0,F_ 2] (rr [N_ 3 3 1,y_ 4 88 [z_ 3],ru 5 4,V_ 2 5]),6⟩
theorem c271:cF 271=some A271:=bH
def A272:CF:=⟨[b6 2 3,aG 3],sr [X_ 1 0,o_ 2 (au fG 3),I_ 3 0] (rr [o_ 4 (aI fG 3 [(0,1,kI 1)]),N_ 5 3 1,y_ 6 305 [z_ 4,z_ 5,kf 306],W_ 7 0 6,W_ 8 1 6,S_ 3 2 7,V_ 3 8]),9⟩
theorem c272:cF 272=some A272:=bH
def Ey:=R_ [V_ 8 4,H_ 9 8 0,V_ 10 9,jW 10 11 0 1,kO 10 12 11,h_ 10 13 (di dq 12 0),Q_ 14 10 13]
def LY:=R_ [o_ 15 (aI fG 3 []),V_ 16 4,S_ 3 2 15,V_ 3 16]
def abP:=R_ [A_ 17 1 1,L_ 18 17,K_ 19 18 0,y_ 20 308 [z_ 19],S_ 3 2 20,I_ 3 0]
def A273:CF:=⟨[b6 2 3,aG 3],sr [X_ 1 0,o_ 2 (au fG 3),I_ 3 0] (sq (sr [N_ 5 3 1,o_ 6 (aO fG 1 3 [(0,3,z_ 5)]),y_ 7 307 [kI 3,z_ 6],V_ 4 7] (sq Ey (cd 14 (rt LY) .skip))) (rt abP)),21⟩
theorem c273:cF 273=some A273:=bH
def A274:CF:=⟨[b6 0 14],sr [o_ 0 (au ajl 14)] (rr [o_ 1 (aI ajl 14 [(0,1,kf 309),(1,1,kf 310),(2,1,kf 311),(3,1,kf 312),(4,1,kf 313),(5,1,kf 314),(6,1,kf 315),(7,1,kf 316),(8,1,kf 317),(9,1,kf 318),(10,1,kf 319),(11,1,kf 320),(12,1,kf 321),(13,1,kf 322)]),S_ 14 0 1]),2⟩
theorem c274:cF 274=some A274:=bH
def abO:=R_ [V_ 22 11,eZ fZ 23 22 1,V_ 11 23]
def NC:CT:=lr [V_ 20 11,eZ nY 21 20 0] 21 0 1 (R_ [V_ 24 0,V_ 25 11,V_ 26 10,V_ 27 8,V_ 28 3,y_ 29 323 [z_ 24,z_ 25,z_ 26,z_ 27,z_ 28]]) abO
def abN:=R_ [V_ 30 10,eZ fZ 31 30 1,V_ 12 31]
def Q0:=R_ [V_ 54 0,V_ 55 9,V_ 56 12,V_ 57 8,V_ 58 3,y_ 59 323 [z_ 54,z_ 55,z_ 56,z_ 57,z_ 58]]
def QZ:=R_ [V_ 34 12,eZ fZ 35 34 1,V_ 12 35]
def NB:CT:=lr [V_ 32 12,eZ nY 33 32 0] 33 2 3 (sq (.dO [36,37,38,39,40,41,42,43,44,45,46,47,48,49,50,51,52,53] [aS 36 0,aS 37 8,aS 42 0,aS 43 8,aS 44 12,v7 mz 45 43 44,dR 46 1 42 45,cY 47 46,aS 48 0,aS 49 8,dR 50 1 48 49,cY 51 50,dR 52 1 36 37,eU 1 52 47,iF 38 0 2,iF 39 8 2,iF 40 12 2,i_ [39,40] 41 (b_ mz 39 40) 2,dR 53 1 38 41,eU 1 53 51]) Q0) QZ
def A275:CF:=⟨[],sr [V_ 13 1,V_ 8 13] (sr [I_ 9 0] (sr [V_ 14 2,V_ 15 1,eT fZ 16 14 15,V_ 10 16] (sq (sr [V_ 17 10,eZ fZ 18 17 1,o_ 19 (di (bR .quo) 18 2),V_ 11 19] (bl 0 NC)) (sq abN (bl 2 NB))))),60⟩
theorem c275:cF 275=some A275:=bH
def abM:=R_ [V_ 22 1,V_ 23 8,o_ 24 (di (bR .quo) 23 4),o_ 25 (di (bR .mul) 24 2),eT mz 26 22 25,eZ fZ 27 26 1,V_ 11 27]
def LX:=R_ [V_ 43 12,V_ 44 8,eT nY 45 43 44]
def abL:=R_ [V_ 46 12,V_ 47 8,eT fZ 48 46 47,V_ 12 48]
def LW:CT:=.dO [49,50,51,52,53,54,55,56,57,58,59,60,61,62,63,64,65,66] [aS 49 0,aS 50 11,aS 55 0,aS 56 1,aS 57 12,v7 mz 58 56 57,dR 59 1 55 58,cY 60 59,aS 61 0,aS 62 11,dR 63 1 61 62,cY 64 63,dR 65 1 49 50,eU 1 65 60,iF 51 0 2,iF 52 1 2,iF 53 12 2,i_ [52,53] 54 (b_ mz 52 53) 2,dR 66 1 51 54,eU 1 66 64]
def Ew:=R_ [V_ 36 11,D_ 37 36 1,V_ 11 37]
def NA:CT:=lr [V_ 28 11,V_ 29 1,V_ 30 8,o_ 31 (di (bR .quo) 30 4),o_ 32 (di (bR .mul) 31 2),eT mz 33 29 32,D_ 34 33 1,eT yW 35 28 34] 35 0 1 (sr [y_ 38 325 [z_ 9],V_ 39 10,o_ 40 (d_ fZ 39 (.int .u64 1)),o_ 41 (b_ (bR .and) 38 40),o_ 42 (u_ (bV .i64) 41),V_ 12 42] (iq LX 45 abL LW)) Ew
def A276:CF:=⟨[],sr [V_ 13 2,V_ 14 1,eT fZ 15 13 14,V_ 8 15] (sr [V_ 16 8,eZ nY 17 16 8] (cd 17 (sr [V_ 18 8,o_ 19 (u_ (bV .u64) 18),o_ 9 (au [.int .u64 0] 1),S_ 1 9 19] (sr [V_ 20 8,y_ 21 324 [z_ 20],V_ 10 21] (sq abM (bl 0 NA)))) .skip)),67⟩
theorem c276:cF 276=some A276:=bH
def LV:=R_ [V_ 35 10,eZ nY 36 35 50]
def abK:=R_ [V_ 37 0,V_ 38 12,V_ 39 3,y_ 40 326 [z_ 37,z_ 38,z_ 11,z_ 39],V_ 12 40]
def abJ:=R_ [V_ 41 0,V_ 42 13,V_ 43 3,y_ 44 326 [z_ 41,z_ 42,z_ 11,z_ 43],V_ 13 44]
def QY:=R_ [V_ 45 0,V_ 46 14,V_ 47 3,y_ 48 326 [z_ 45,z_ 46,z_ 11,z_ 47],V_ 14 48]
def Eu:=R_ [V_ 49 0,V_ 50 12,V_ 51 13,V_ 52 14,V_ 53 3,y_ 54 327 [z_ 49,z_ 50,z_ 51,z_ 52,z_ 11,z_ 53],V_ 13 54]
def Et:=R_ [L_ 55 11]
def oC:=R_ [K_ 58 55 0,V_ 57 58]
def Es:=R_ [V_ 59 13,V_ 8 59,I_ 9 1]
def uf:=R_ [K_ 61 55 12,V_ 60 61]
def Ep:=R_ [V_ 62 13,V_ 8 62,I_ 9 2]
def Eo:=R_ [V_ 56 13,V_ 8 56,I_ 9 0]
def A277:CF:=⟨[aG 8,aG 9],sr [I_ 8 0,I_ 9 0] (sr [V_ 15 2,V_ 16 1,eT fZ 17 15 16,V_ 10 17] (sr [o_ 11 (au zX 1)] (sr [V_ 18 1,V_ 19 10,o_ 20 (di (bR .quo) 19 4),o_ 21 (di (bR .mul) 20 1),eT mz 22 18 21,V_ 12 22] (sr [V_ 23 1,V_ 24 10,o_ 25 (di (bR .quo) 24 4),o_ 26 (di (bR .mul) 25 2),eT mz 27 23 26,V_ 13 27] (sr [V_ 28 1,V_ 29 10,o_ 30 (di (bR .quo) 29 4),o_ 31 (di (bR .mul) 30 3),eT mz 32 28 31,V_ 14 32] (ir [V_ 33 10,eZ nY 34 33 8] 34 (iq LV 36 (sq abK (sq abJ QY)) Eu) (sq Et (.block 0 (sq oC (cd 57 (rt Es) (sq uf (cd 60 (rt Ep) (rt Eo))))))))))))),63⟩
theorem c277:cF 277=some A277:=bH
def abI:=R_ [V_ 30 8,D_ 31 30 1,V_ 8 31]
def abH:=R_ [V_ 32 9,eZ fZ 33 32 1,V_ 9 33]
def M_:CT:=sq (sr [V_ 13 8,V_ 14 9,B_ 15 13 14] (cd 15 .skip (.exit 0))) (.block 1 (sq (.dO [16,17,18,19,20,21,22,23,24,25,26,27,28,29] [aS 16 0,aS 17 8,aS 20 0,aS 21 9,dR 22 1 20 21,cY 23 22,aS 24 0,aS 25 8,dR 26 1 24 25,cY 27 26,dR 28 1 16 17,eU 1 28 23,iF 18 0 2,iF 19 9 2,dR 29 1 18 19,eU 1 29 27]) (sq abI abH)))
def A278:CF:=⟨[],sr [V_ 10 1,V_ 8 10] (sr [V_ 11 2,eZ fZ 12 11 1,V_ 9 12] (bl 0 M_)),34⟩
theorem c278:cF 278=some A278:=bH
def abG:=R_ [V_ 37 9,D_ 38 37 1,V_ 9 38]
def F8:CT:=sq (sq (.dO [19,20,21,22,23,24,25,26,27,28,29,30,31,32,33,34,35,36] [aS 19 9,aS 20 2,v7 jR 21 19 20,aS 22 21,gK 22 23 3,gK 22 24 0,gK 22 25 9,gI [22,24,25] 22 26 (b_ (cK 1) 24 25) 1,s8 22 27 26,gK 22 28 0,gK 22 29 9,gI [22,29] 22 30 (di fZ 29 1) 1,gI [22,28,30] 22 31 (b_ (cK 1) 28 30) 1,s8 22 32 31,Yr [22,23,27,32] (z_ 22) true (bg 33) (z_ 23) [z_ 27,z_ 32],gI [22,33] 22 34 (di jR 33 0) 1,gI [22,34] 22 35 (un 34) 1,i_ [22,35] 36 (p_ 22 35) 1]) (cd 36 .skip (.exit 2))) (.block 3 abG)
def Em:=R_ [V_ 39 9,V_ 40 2,eT dq 41 39 40]
def abE:=R_ [T_ 8]
def LU:=R_ [V_ 42 2,V_ 43 1,eT fZ 44 42 43,eZ jR 45 44 50]
def abD:=R_ [F_ 8]
def QX:CT:=.dO [46,47,48,49,50,51,52,53,54,55,56,57,58,59,60,61] [aS 46 0,aS 47 9,aS 51 0,aS 52 9,uz fZ 53 52 1,dR 54 1 51 53,cY 55 54,aS 56 0,aS 57 9,dR 58 1 56 57,cY 59 58,dR 60 1 46 47,eU 1 60 55,iF 48 0 2,iF 49 9 2,i_ [49] 50 (di fZ 49 1) 2,dR 61 1 48 50,eU 1 61 59]
def QW:=R_ [V_ 62 9,V_ 63 1,eT fZ 64 62 63,eZ nY 65 64 2]
def QV:=R_ [V_ 66 9,eZ fZ 67 66 1,V_ 11 67]
def QU:CT:=.dO [85,86,87,88,89,90,91,92,93,94,95,96,97,98,99,100] [aS 85 0,aS 86 11,aS 90 0,aS 91 11,uz fZ 92 91 1,dR 93 1 90 92,cY 94 93,aS 95 0,aS 96 11,dR 97 1 95 96,cY 98 97,dR 99 1 85 86,eU 1 99 94,iF 87 0 2,iF 88 11 2,i_ [88] 89 (di fZ 88 1) 2,dR 100 1 87 89,eU 1 100 98]
def QS:=R_ [V_ 70 11,eZ fZ 71 70 1,V_ 11 71]
def FZ:CT:=lr [V_ 68 11,eZ nY 69 68 1] 69 4 5 (iq (.dO [72,73,74,75,76,77,78,79,80,81,82,83,84] [aS 72 3,aS 73 0,aS 74 11,dR 75 1 73 74,cY 76 75,aS 77 0,aS 78 11,uz fZ 79 78 1,dR 80 1 77 79,cY 81 80,vI [72,76,81] (bg 82) (z_ 72) [z_ 76,z_ 81],uz jR 83 82 0,e1_ un 84 83]) 84 (.exit 4) QU) QS
def ue:=R_ [V_ 101 2,V_ 102 9,eT fZ 103 101 102,eZ nY 104 103 2]
def En:=R_ [V_ 105 9,D_ 106 105 1,V_ 12 106]
def QR:CT:=.dO [125,126,127,128,129,130,131,132,133,134,135,136,137,138,139,140] [aS 125 0,aS 126 12,aS 130 0,aS 131 12,uz fZ 132 131 1,dR 133 1 130 132,cY 134 133,aS 135 0,aS 136 12,dR 137 1 135 136,cY 138 137,dR 139 1 125 126,eU 1 139 134,iF 127 0 2,iF 128 12 2,i_ [128] 129 (di fZ 128 1) 2,dR 140 1 127 129,eU 1 140 138]
def QP:=R_ [V_ 110 12,D_ 111 110 1,V_ 12 111]
def FY:CT:=lr [V_ 107 12,V_ 108 2,B_ 109 107 108] 109 6 7 (iq (.dO [112,113,114,115,116,117,118,119,120,121,122,123,124] [aS 112 3,aS 113 0,aS 114 12,dR 115 1 113 114,cY 116 115,aS 117 0,aS 118 12,uz fZ 119 118 1,dR 120 1 117 119,cY 121 120,vI [112,116,121] (bg 122) (z_ 112) [z_ 116,z_ 121],uz jR 123 122 0,e1_ un 124 123]) 124 (.exit 6) QR) QP
def ud:=R_ [V_ 17 10,D_ 18 17 1,V_ 10 18]
def M9:CT:=lr [V_ 15 10,eZ jR 16 15 5] 16 0 1 (sq (bl 2 F8) (iq Em 41 (rt abE) (iq LU 45 (rt abD) (sq QX (iq QW 65 (sq QV (bl 4 FZ)) (sq ue (cd 104 (sq En (bl 6 FY)) .skip))))))) ud
def QO:=R_ [F_ 8]
def A279:CF:=⟨[aG 8],sr [F_ 8] (sr [V_ 13 1,D_ 14 13 1,V_ 9 14] (sq (sr [I_ 10 0] (bl 0 M9)) (rt QO))),141⟩
theorem c279:cF 279=some A279:=bH
def abC:=R_ [V_ 27 1,D_ 28 27 1,V_ 29 2,eZ fZ 30 29 1,V_ 11 28,V_ 12 30]
def abB:=R_ [V_ 48 11,D_ 49 48 1,V_ 11 49]
def FX:CT:=sq (sq (.dO [31,32,33,34,35,36,37,38,39,40,41,42,43,44,45,46,47] [aS 31 11,aS 32 12,v7 yW 33 31 32,aS 34 33,gK 34 35 4,gK 34 36 0,gK 34 37 1,gI [34,36,37] 34 38 (b_ (cK 1) 36 37) 1,s8 34 39 38,gK 34 40 0,gK 34 41 11,gI [34,40,41] 34 42 (b_ (cK 1) 40 41) 1,s8 34 43 42,Yr [34,35,39,43] (z_ 34) true (bg 44) (z_ 35) [z_ 39,z_ 43],gI [34,44] 34 45 (di jR 44 0) 1,gI [34,45] 34 46 (un 45) 1,i_ [34,46] 47 (p_ 34 46) 1]) (cd 47 .skip (.exit 2))) (.block 3 abB)
def abA:=R_ [V_ 66 12,eZ fZ 67 66 1,V_ 12 67]
def FV:CT:=sq (sq (.dO [50,51,52,53,54,55,56,57,58,59,60,61,62,63,64,65] [aS 50 11,aS 51 12,v7 yW 52 50 51,aS 53 52,gK 53 54 4,gK 53 55 0,gK 53 56 1,gI [53,55,56] 53 57 (b_ (cK 1) 55 56) 1,s8 53 58 57,gK 53 59 0,gK 53 60 12,gI [53,59,60] 53 61 (b_ (cK 1) 59 60) 1,s8 53 62 61,Yr [53,54,58,62] (z_ 53) true (bg 63) (z_ 54) [z_ 58,z_ 62],gI [53,63] 53 64 (di jR 63 0) 1,i_ [53,64] 65 (p_ 53 64) 1]) (cd 65 .skip (.exit 4))) (.block 5 abA)
def LS:=R_ [V_ 68 11,V_ 69 12,eT nu 70 68 69]
def abz:CT:=.dO [71,72,73,74,75,76,77,78,79,80,81,82,83,84] [aS 71 0,aS 72 11,aS 75 0,aS 76 12,dR 77 1 75 76,cY 78 77,aS 79 0,aS 80 11,dR 81 1 79 80,cY 82 81,dR 83 1 71 72,eU 1 83 78,iF 73 0 2,iF 74 12 2,dR 84 1 73 74,eU 1 84 82]
def aby:=R_ [V_ 85 11,D_ 86 85 1,V_ 11 86]
def QN:=R_ [V_ 87 12,eZ fZ 88 87 1,V_ 12 88]
def adE:CT:=.block 1 (sq (bl 2 FX) (sq (bl 4 FV) (iq LS 70 (.exit 0) (sq abz (sq aby QN)))))
def QM:=R_ [V_ 89 11,V_ 10 89]
def A280:CF:=⟨[aG 10],sr [I_ 10 0] (sq (.dO [13,14,15,16,17,18,19,20,21,22,23,24,25,26] [aS 13 0,aS 14 1,aS 17 0,aS 18 3,dR 19 1 17 18,cY 20 19,aS 21 0,aS 22 1,dR 23 1 21 22,cY 24 23,dR 25 1 13 14,eU 1 25 20,iF 15 0 2,iF 16 3 2,dR 26 1 15 16,eU 1 26 24]) (sq abC (sq (bl 0 adE) (rt QM)))),90⟩
theorem c280:cF 280=some A280:=bH
def abx:=R_ [V_ 28 1,D_ 29 28 1,V_ 30 2,eZ fZ 31 30 1,V_ 12 29,V_ 13 31]
def abw:=R_ [V_ 48 12,D_ 49 48 1,V_ 12 49]
def FU:CT:=sq (sq (.dO [32,33,34,35,36,37,38,39,40,41,42,43,44,45,46,47] [aS 32 12,aS 33 13,v7 yW 34 32 33,aS 35 34,gK 35 36 4,gK 35 37 0,gK 35 38 12,gI [35,37,38] 35 39 (b_ (cK 1) 37 38) 1,s8 35 40 39,gK 35 41 0,gK 35 42 1,gI [35,41,42] 35 43 (b_ (cK 1) 41 42) 1,s8 35 44 43,Yr [35,36,40,44] (z_ 35) true (bg 45) (z_ 36) [z_ 40,z_ 44],gI [35,45] 35 46 (di jR 45 0) 1,i_ [35,46] 47 (p_ 35 46) 1]) (cd 47 .skip (.exit 0))) (.block 1 abw)
def abv:=R_ [V_ 67 13,eZ fZ 68 67 1,V_ 13 68]
def FT:CT:=sq (sq (.dO [50,51,52,53,54,55,56,57,58,59,60,61,62,63,64,65,66] [aS 50 12,aS 51 13,v7 yW 52 50 51,aS 53 52,gK 53 54 4,gK 53 55 0,gK 53 56 13,gI [53,55,56] 53 57 (b_ (cK 1) 55 56) 1,s8 53 58 57,gK 53 59 0,gK 53 60 1,gI [53,59,60] 53 61 (b_ (cK 1) 59 60) 1,s8 53 62 61,Yr [53,54,58,62] (z_ 53) true (bg 63) (z_ 54) [z_ 58,z_ 62],gI [53,63] 53 64 (di jR 63 0) 1,gI [53,64] 53 65 (un 64) 1,i_ [53,65] 66 (p_ 53 65) 1]) (cd 66 .skip (.exit 2))) (.block 3 abv)
def LR:=R_ [V_ 69 12,V_ 70 13,eT nu 71 69 70]
def abu:CT:=.dO [72,73,74,75,76,77,78,79,80,81,82,83,84,85] [aS 72 0,aS 73 13,aS 76 0,aS 77 1,dR 78 1 76 77,cY 79 78,aS 80 0,aS 81 13,dR 82 1 80 81,cY 83 82,dR 84 1 72 73,eU 1 84 79,iF 74 0 2,iF 75 1 2,dR 85 1 74 75,eU 1 85 83]
def abt:=R_ [V_ 86 13,V_ 10 86,T_ 11]
def QL:CT:=.dO [87,88,89,90,91,92,93,94,95,96,97,98,99,100] [aS 87 0,aS 88 12,aS 91 0,aS 92 13,dR 93 1 91 92,cY 94 93,aS 95 0,aS 96 12,dR 97 1 95 96,cY 98 97,dR 99 1 87 88,eU 1 99 94,iF 89 0 2,iF 90 13 2,dR 100 1 89 90,eU 1 100 98]
def QK:=R_ [V_ 101 12,D_ 102 101 1,V_ 12 102]
def QJ:=R_ [V_ 103 13,eZ fZ 104 103 1,V_ 13 104]
def QI:=R_ [V_ 121 12,D_ 122 121 1,V_ 12 122]
def FQ:CT:=sq (sq (.dO [105,106,107,108,109,110,111,112,113,114,115,116,117,118,119,120] [aS 105 12,aS 106 13,v7 yW 107 105 106,aS 108 107,gK 108 109 4,gK 108 110 0,gK 108 111 12,gI [108,110,111] 108 112 (b_ (cK 1) 110 111) 1,s8 108 113 112,gK 108 114 0,gK 108 115 1,gI [108,114,115] 108 116 (b_ (cK 1) 114 115) 1,s8 108 117 116,Yr [108,109,113,117] (z_ 108) true (bg 118) (z_ 109) [z_ 113,z_ 117],gI [108,118] 108 119 (di jR 118 0) 1,i_ [108,119] 120 (p_ 108 119) 1]) (cd 120 .skip (.exit 6))) (.block 7 QI)
def QH:=R_ [V_ 140 13,eZ fZ 141 140 1,V_ 13 141]
def FP:CT:=sq (sq (.dO [123,124,125,126,127,128,129,130,131,132,133,134,135,136,137,138,139] [aS 123 12,aS 124 13,v7 yW 125 123 124,aS 126 125,gK 126 127 4,gK 126 128 0,gK 126 129 13,gI [126,128,129] 126 130 (b_ (cK 1) 128 129) 1,s8 126 131 130,gK 126 132 0,gK 126 133 1,gI [126,132,133] 126 134 (b_ (cK 1) 132 133) 1,s8 126 135 134,Yr [126,127,131,135] (z_ 126) true (bg 136) (z_ 127) [z_ 131,z_ 135],gI [126,136] 126 137 (di jR 136 0) 1,gI [126,137] 126 138 (un 137) 1,i_ [126,138] 139 (p_ 126 138) 1]) (cd 139 .skip (.exit 8))) (.block 9 QH)
def Ek:=R_ [V_ 142 12,V_ 143 13,eT nu 144 142 143]
def QG:CT:=.dO [145,146,147,148,149,150,151,152,153,154,155,156,157,158] [aS 145 0,aS 146 12,aS 149 0,aS 150 13,dR 151 1 149 150,cY 152 151,aS 153 0,aS 154 12,dR 155 1 153 154,cY 156 155,dR 157 1 145 146,eU 1 157 152,iF 147 0 2,iF 148 13 2,dR 158 1 147 148,eU 1 158 156]
def QF:=R_ [V_ 159 12,D_ 160 159 1,V_ 12 160]
def QE:=R_ [V_ 161 13,eZ fZ 162 161 1,V_ 13 162]
def adD:CT:=.block 5 (sq (bl 6 FQ) (sq (bl 8 FP) (iq Ek 144 (.exit 4) (sq QG (sq QF QE)))))
def QB:CT:=.dO [163,164,165,166,167,168,169,170,171,172,173,174,175,176] [aS 163 0,aS 164 13,aS 167 0,aS 168 1,dR 169 1 167 168,cY 170 169,aS 171 0,aS 172 13,dR 173 1 171 172,cY 174 173,dR 175 1 163 164,eU 1 175 170,iF 165 0 2,iF 166 1 2,dR 176 1 165 166,eU 1 176 174]
def Qz:=R_ [V_ 177 13,V_ 10 177,F_ 11]
def A281:CF:=⟨[aG 10,aG 11],sr [I_ 10 0,F_ 11] (sq (.dO [14,15,16,17,18,19,20,21,22,23,24,25,26,27] [aS 14 0,aS 15 1,aS 18 0,aS 19 3,dR 20 1 18 19,cY 21 20,aS 22 0,aS 23 1,dR 24 1 22 23,cY 25 24,dR 26 1 14 15,eU 1 26 21,iF 16 0 2,iF 17 3 2,dR 27 1 16 17,eU 1 27 25]) (sq abx (sq (bl 0 FU) (sq (bl 2 FT) (iq LR 71 (sq abu (rt abt)) (sq QL (sq QK (sq QJ (sq (bl 4 adD) (sq QB (rt Qz))))))))))),178⟩
theorem c281:cF 281=some A281:=bH
def A283:CF:=⟨[aG 2],sr [I_ 2 0] (ir [V_ 3 0,o_ 4 (d_ nY 3 (.int .u64 4294967296))] 4 (sr [V_ 5 0,o_ 6 (d_ (bR .shr) 5 (.int .u64 32)),V_ 0 6] (R_ [I_ 2 32])) (ir [V_ 7 0,o_ 8 (d_ nY 7 (.int .u64 65536))] 8 (sr [V_ 9 0,o_ 10 (d_ (bR .shr) 9 (.int .u64 16)),V_ 0 10] (R_ [V_ 11 2,D_ 12 11 16,V_ 2 12])) (ir [V_ 13 0,o_ 14 (d_ nY 13 (.int .u64 256))] 14 (sr [V_ 15 0,o_ 16 (d_ (bR .shr) 15 (.int .u64 8)),V_ 0 16] (R_ [V_ 17 2,D_ 18 17 8,V_ 2 18])) (rr [V_ 19 2,V_ 20 0,o_ 21 (u_ (bV .u8) 20),o_ 22 (e2 oZ (aQ (.str [0,1,2,2,3,3,3,3,4,4,4,4,4,4,4,4,5,5,5,5,5,5,5,5,5,5,5,5,5,5,5,5,6,6,6,6,6,6,6,6,6,6,6,6,6,6,6,6,6,6,6,6,6,6,6,6,6,6,6,6,6,6,6,6,7,7,7,7,7,7,7,7,7,7,7,7,7,7,7,7,7,7,7,7,7,7,7,7,7,7,7,7,7,7,7,7,7,7,7,7,7,7,7,7,7,7,7,7,7,7,7,7,7,7,7,7,7,7,7,7,7,7,7,7,7,7,7,7,8,8,8,8,8,8,8,8,8,8,8,8,8,8,8,8,8,8,8,8,8,8,8,8,8,8,8,8,8,8,8,8,8,8,8,8,8,8,8,8,8,8,8,8,8,8,8,8,8,8,8,8,8,8,8,8,8,8,8,8,8,8,8,8,8,8,8,8,8,8,8,8,8,8,8,8,8,8,8,8,8,8,8,8,8,8,8,8,8,8,8,8,8,8,8,8,8,8,8,8,8,8,8,8,8,8,8,8,8,8,8,8,8,8,8,8,8,8,8,8,8,8,8,8,8,8,8,8])) (z_ 21)),o_ 23 (u_ (bV .i64) 22),eT mz 24 19 23,V_ 2 24])))),25⟩
theorem c283:cF 283=some A283:=bH
def A285:CF:=⟨[aG 4],sr [I_ 4 0] (rr [V_ 5 0,V_ 6 1,eT Ig 7 5 6,V_ 4 7]),8⟩
theorem c285:cF 285=some A285:=bH
def abr:=R_ [V_ 8 0,V_ 9 1,o_ 10 (u_ (bV .u8) 9),o_ 11 (d_ (bR .or) 10 (.int .u8 128)),y_ 12 167 [z_ 8,z_ 11]]
def abq:=R_ [V_ 6 1,o_ 7 (d_ (bR .shr) 6 (.int .u64 7)),V_ 1 7]
def M8:CT:=lr [V_ 4 1,o_ 5 (d_ nu 4 (.int .u64 127))] 5 0 1 abr abq
def abp:=R_ [V_ 13 0,V_ 14 1,o_ 15 (u_ (bV .u8) 14),y_ 16 167 [z_ 13,z_ 15]]
def A286:CF:=⟨[],sq (bl 0 M8) abp,17⟩
theorem c286:cF 286=some A286:=bH
def A288:CF:=⟨[],sr [V_ 4 0,o_ 5 (d_ (kT true .ptr) 4 (.aV (.pointer none))),V_ 6 5,jn 6 7 0,g_ 6 8 (aY (z_ 7)),eJ 6 9 0 8,eJ 6 10 0 9,fu 6 11 10,P_ 12 6 11] (cd 12 (R_ [V_ 13 0,V_ 14 0,o_ 15 (aY (z_ 14)),A_ 16 0 15,A_ 17 1 16,L_ 18 17,V_ 19 1,o_ 20 (dG 1 1 (z_ 18) (z_ 19)),o_ 21 (aY (z_ 13)),A_ 22 0 21,A_ 23 1 22,S_ 1 23 20]) .skip),24⟩
theorem c288:cF 288=some A288:=bH
def amK:CT:=sr [B_ 9 8 7] (sq (cd 9 .skip (.exit 0)) (sq (.block 1 (sr [V_ 10 8,V_ 5 10] (sr [V_ 11 1,V_ 12 0,V_ 13 5,J_ 14 1 12 13,L_ 15 14,vP (bg 16) (z_ 11) [z_ 15]] (cd 16 (rr [V_ 17 5,V_ 4 17]) .skip)))) (R_ [D_ 18 8 1,V_ 8 18])))
def A301:CF:=⟨[aG 4],sr [I_ 4 0] (sq (sr [V_ 6 0,E_ 7 6,I_ 8 0] (bl 0 amK)) (rr [o_ 4 (c_ (.int .i64 (-1)))])),19⟩
theorem c301:cF 301=some A301:=bH
def amJ:CT:=sr [B_ 9 8 7] (sq (cd 9 .skip (.exit 0)) (sq (.block 1 (sr [V_ 10 8,V_ 5 10] (sr [V_ 11 1,V_ 12 0,V_ 13 5,J_ 14 8 12 13,N_ 15 8 14,vP (bg 16) (z_ 11) [z_ 15]] (cd 16 (rr [V_ 17 5,V_ 4 17]) .skip)))) (R_ [D_ 18 8 1,V_ 8 18])))
def A303:CF:=⟨[aG 4],sr [I_ 4 0] (sq (sr [V_ 6 0,E_ 7 6,I_ 8 0] (bl 0 amJ)) (rr [o_ 4 (c_ (.int .i64 (-1)))])),19⟩
theorem c303:cF 303=some A303:=bH
def amI:CT:=sr [B_ 9 8 7] (sq (cd 9 .skip (.exit 0)) (sq (.block 1 (sr [V_ 10 8,V_ 5 10] (sr [V_ 11 1,V_ 12 0,V_ 13 5,J_ 14 3 12 13,N_ 15 3 14,vP (bg 16) (z_ 11) [z_ 15]] (cd 16 (rr [V_ 17 5,V_ 4 17]) .skip)))) (R_ [D_ 18 8 1,V_ 8 18])))
def A304:CF:=⟨[aG 4],sr [I_ 4 0] (sq (sr [V_ 6 0,E_ 7 6,I_ 8 0] (bl 0 amI)) (rr [o_ 4 (c_ (.int .i64 (-1)))])),19⟩
theorem c304:cF 304=some A304:=bH
def zH:=R_ [V_ 15 8,H_ 16 15 0,V_ 17 16,jW 17 18 0 3,kO 17 19 18,h_ 17 20 (di dq 19 0),Q_ 21 17 20,V_ 22 21,jW 22 23 0 4,kO 22 24 23,h_ 22 25 (di dq 24 0),Q_ 26 22 25]
def Ej:=R_ [o_ 27 (aI fG 3 []),V_ 28 8,S_ 3 6 27,V_ 7 28]
def abo:=R_ [V_ 30 2,A_ 31 1 3,L_ 32 31,A_ 33 1 4,L_ 34 33,vP (bg 35) (z_ 30) [z_ 32,z_ 34],V_ 29 35,W_ 36 0 29,W_ 37 1 29,V_ 9 36,V_ 10 37]
def LQ:=R_ [V_ 38 10,ru 39 38]
def abn:=R_ [o_ 40 (aI fG 3 []),S_ 3 6 40,I_ 7 31]
def abm:=R_ [V_ 41 9,o_ 42 (aI fG 3 [(0,1,kI 1),(1,1,z_ 41)]),S_ 3 6 42,I_ 7 0]
def A305:CF:=⟨[b6 6 3,aG 7],sr [X_ 3 0,X_ 4 1,o_ 6 (au fG 3),I_ 7 0] (sq (sr [N_ 11 3 3,N_ 12 3 4,o_ 13 (aO fG 2 3 [(0,3,z_ 11),(3,3,z_ 12)]),y_ 14 307 [kI 1,z_ 13],V_ 8 14] (sq zH (cd 26 (rt Ej) .skip))) (sq abo (iq LQ 39 (rt abn) (rt abm)))),43⟩
theorem c305:cF 305=some A305:=bH
def A306:CF:=⟨[aG 4,aG 5],sr [I_ 4 0,F_ 5] (rr [V_ 6 1,o_ 7 (u_ (cUn .neg) 6),V_ 8 1,eZ sO 9 8 (-9223372036854775808),V_ 4 7,V_ 5 9]),10⟩
theorem c306:cF 306=some A306:=bH
def abl:=R_ [I_ 4 5]
def abk:=R_ [D_ 18 11 1,V_ 11 18]
def MZ:CT:=sr [B_ 12 11 10] (sq (cd 12 .skip (.exit 0)) (sq (.block 1 (sr [J_ 13 3 9 11,N_ 14 3 13,o_ 6 (au fG 3),S_ 3 6 14] (sr [N_ 15 3 6,y_ 16 88 [z_ 15],ru 17 16] (cd 17 (rt abl) .skip)))) abk))
def abj:=R_ [V_ 19 1,E_ 20 19,I_ 21 0]
def zL:CT:=sr [B_ 22 21 20] (sq (cd 22 .skip (.exit 2)) (sq (.block 3 (sr [J_ 23 3 19 21,N_ 24 3 23,o_ 8 (au fG 3),S_ 3 8 24] (sr [A_ 25 0 8,L_ 26 25,H_ 27 26 0,V_ 28 27,eJ 28 29 0 8,fu 28 30 29,jn 28 31 0,g_ 28 32 (b_ sO 30 31),P_ 33 28 32] (cd 33 (rr [I_ 4 30]) .skip)))) (R_ [D_ 34 21 1,V_ 21 34])))
def Qy:=R_ [I_ 4 0]
def A307:CF:=⟨[aG 4],sr [I_ 4 0] (sq (sr [V_ 9 1,E_ 10 9,I_ 11 0] (bl 0 MZ)) (sq (sq abj (bl 2 zL)) (rt Qy))),35⟩
theorem c307:cF 307=some A307:=bH
def A308:CF:=⟨[b6 2 3],sr [o_ 2 (au fG 3)] (ir [V_ 3 0] 3 (rr [o_ 4 (aI fG 3 [(0,1,kI 3),(1,1,kI 1)]),S_ 3 2 4]) (rr [o_ 5 (aI fG 3 [(0,1,kI 3)]),S_ 3 2 5])),6⟩
theorem c308:cF 308=some A308:=bH
def A309:CF:=⟨[b6 4 3,aG 5],sr [X_ 2 0,X_ 3 1,o_ 4 (au fG 3),I_ 5 0] (rr [N_ 6 3 2,N_ 7 3 3,y_ 8 305 [z_ 6,z_ 7,kf 335],W_ 9 0 8,W_ 10 1 8,S_ 3 4 9,V_ 5 10]),11⟩
theorem c309:cF 309=some A309:=bH
def A310:CF:=⟨[b6 4 3,aG 5],sr [X_ 2 0,X_ 3 1,o_ 4 (au fG 3),I_ 5 0] (rr [N_ 6 3 2,N_ 7 3 3,y_ 8 305 [z_ 6,z_ 7,kf 336],W_ 9 0 8,W_ 10 1 8,S_ 3 4 9,V_ 5 10]),11⟩
theorem c310:cF 310=some A310:=bH
def A311:CF:=⟨[b6 4 3,aG 5],sr [X_ 2 0,X_ 3 1,o_ 4 (au fG 3),I_ 5 0] (rr [N_ 6 3 2,N_ 7 3 3,y_ 8 305 [z_ 6,z_ 7,kf 337],W_ 9 0 8,W_ 10 1 8,S_ 3 4 9,V_ 5 10]),11⟩
theorem c311:cF 311=some A311:=bH
def LP:=R_ [X_ 2 0,X_ 3 1,o_ 4 (au fG 3),I_ 5 0]
def LO:=R_ [N_ 6 3 2,N_ 7 3 3,o_ 8 (aO fG 2 3 [(0,3,z_ 6),(3,3,z_ 7)]),y_ 9 307 [kI 1,z_ 8],K_ 10 9 0,V_ 11 10,eJ 11 12 0 2,fu 11 13 12,g_ 11 14 (di sO 13 0),P_ 15 11 14,V_ 16 15,eJ 16 17 0 3,fu 16 18 17,g_ 16 19 (di sO 18 0),P_ 20 16 19,V_ 21 20,eJ 21 22 1 3,fu 21 23 22,g_ 21 24 (di dq 23 0),P_ 25 21 24]
def LN:=R_ [o_ 26 (aI fG 3 []),S_ 3 4 26,I_ 5 32]
def A312:CF:=⟨[b6 4 3,aG 5],sq LP (iq LO 25 (rt LN) (rr [N_ 27 3 2,N_ 28 3 3,y_ 29 305 [z_ 27,z_ 28,kf 338],W_ 30 0 29,W_ 31 1 29,S_ 3 4 30,V_ 5 31])),32⟩
theorem c312:cF 312=some A312:=bH
def A313:CF:=⟨[b6 4 3,aG 5],sr [X_ 2 0,X_ 3 1,o_ 4 (au fG 3),I_ 5 0] (ir [N_ 6 3 2,N_ 7 3 3,o_ 8 (aO fG 2 3 [(0,3,z_ 6),(3,3,z_ 7)]),y_ 9 307 [kI 1,z_ 8],K_ 10 9 0,V_ 11 10,eJ 11 12 0 2,fu 11 13 12,g_ 11 14 (di sO 13 0),P_ 15 11 14,V_ 16 15,eJ 16 17 0 3,fu 16 18 17,g_ 16 19 (di sO 18 0),P_ 20 16 19,V_ 21 20,eJ 21 22 1 3,fu 21 23 22,g_ 21 24 (di dq 23 0),P_ 25 21 24] 25 (rr [o_ 26 (aI fG 3 []),S_ 3 4 26,I_ 5 32]) (rr [N_ 27 3 2,N_ 28 3 3,y_ 29 305 [z_ 27,z_ 28,kf 339],W_ 30 0 29,W_ 31 1 29,S_ 3 4 30,V_ 5 31])),32⟩
theorem c313:cF 313=some A313:=bH
def vp:=R_ [V_ 11 6,H_ 12 11 0,V_ 13 12,jW 13 14 0 2,kO 13 15 14,h_ 13 16 (di dq 15 0),Q_ 17 13 16,V_ 18 17,jW 18 19 0 3,kO 18 20 19,h_ 18 21 (di dq 20 0),Q_ 22 18 21]
def Ei:=R_ [o_ 23 (aI fG 3 []),V_ 24 6,S_ 3 4 23,V_ 5 24]
def LM:=R_ [A_ 25 2 2,L_ 26 25,u3_ js 27 26,A_ 28 2 3,L_ 29 28,u3_ js 30 29,eT mz 31 27 30,eZ nu 32 31 64]
def abe:=R_ [o_ 33 (aI fG 3 []),S_ 3 4 33,I_ 5 3]
def abd:=R_ [A_ 34 2 2,L_ 35 34,A_ 36 2 3,L_ 37 36,eT mz 38 35 37,o_ 39 (aI fG 3 [(0,1,kI 2),(2,1,z_ 38)]),S_ 3 4 39,I_ 5 0]
def A314:CF:=⟨[b6 4 3,aG 5],sr [X_ 2 0,X_ 3 1,o_ 4 (au fG 3),I_ 5 0] (sq (sr [N_ 7 3 2,N_ 8 3 3,o_ 9 (aO fG 2 3 [(0,3,z_ 7),(3,3,z_ 8)]),y_ 10 307 [kI 2,z_ 9],V_ 6 10] (sq vp (cd 22 (rt Ei) .skip))) (iq LM 32 (rt abe) (rt abd))),40⟩
theorem c314:cF 314=some A314:=bH
def A315:CF:=⟨[b6 4 3,aG 5],sr [X_ 2 0,X_ 3 1,o_ 4 (au fG 3),I_ 5 0] (rr [N_ 6 3 2,N_ 7 3 3,y_ 8 340 [z_ 6,z_ 7,kf 341],W_ 9 0 8,W_ 10 1 8,S_ 3 4 9,V_ 5 10]),11⟩
theorem c315:cF 315=some A315:=bH
def A316:CF:=⟨[b6 4 3,aG 5],sr [X_ 2 0,X_ 3 1,o_ 4 (au fG 3),I_ 5 0] (rr [N_ 6 3 2,N_ 7 3 3,y_ 8 340 [z_ 6,z_ 7,kf 342],W_ 9 0 8,W_ 10 1 8,S_ 3 4 9,V_ 5 10]),11⟩
theorem c316:cF 316=some A316:=bH
def A317:CF:=⟨[b6 4 3,aG 5],sr [X_ 2 0,X_ 3 1,o_ 4 (au fG 3),I_ 5 0] (rr [N_ 6 3 2,N_ 7 3 3,y_ 8 340 [z_ 6,z_ 7,kf 343],W_ 9 0 8,W_ 10 1 8,S_ 3 4 9,V_ 5 10]),11⟩
theorem c317:cF 317=some A317:=bH
def A318:CF:=⟨[b6 4 3,aG 5],sr [X_ 2 0,X_ 3 1,o_ 4 (au fG 3),I_ 5 0] (rr [N_ 6 3 2,N_ 7 3 3,y_ 8 340 [z_ 6,z_ 7,kf 344],W_ 9 0 8,W_ 10 1 8,S_ 3 4 9,V_ 5 10]),11⟩
theorem c318:cF 318=some A318:=bH
def A319:CF:=⟨[b6 4 3,aG 5],sr [X_ 2 0,X_ 3 1,o_ 4 (au fG 3),I_ 5 0] (rr [N_ 6 3 2,N_ 7 3 3,y_ 8 340 [z_ 6,z_ 7,kf 345],W_ 9 0 8,W_ 10 1 8,S_ 3 4 9,V_ 5 10]),11⟩
theorem c319:cF 319=some A319:=bH
def A320:CF:=⟨[b6 4 3,aG 5],sr [X_ 2 0,X_ 3 1,o_ 4 (au fG 3),I_ 5 0] (rr [N_ 6 3 2,N_ 7 3 3,y_ 8 340 [z_ 6,z_ 7,kf 346],W_ 9 0 8,W_ 10 1 8,S_ 3 4 9,V_ 5 10]),11⟩
theorem c320:cF 320=some A320:=bH
def LL:=R_ [X_ 2 0,X_ 3 1,o_ 4 (au fG 3),I_ 5 0]
def LJ:=R_ [N_ 8 3 2,N_ 9 3 3,o_ 10 (aO fG 2 3 [(0,3,z_ 8),(3,3,z_ 9)]),y_ 11 307 [kI 3,z_ 10],V_ 6 11]
def Eh:=R_ [V_ 12 6,H_ 13 12 0]
def LI:=R_ [o_ 14 (aI fG 3 []),V_ 15 6,S_ 3 4 14,V_ 5 15]
def zG:=R_ [N_ 18 3 2,N_ 19 3 7,o_ 20 (b_ (og false [.i,.i,.s]) 18 19),V_ 21 20,O_ 21 22 3 3,O_ 21 23 3 7,h_ 21 24 (b_ (og false [.i,.i,.s]) 22 23),Q_ 25 21 24,V_ 17 25]
def Eg:=R_ [N_ 26 3 7,S_ 3 4 26,I_ 5 0]
def zF:=R_ [A_ 28 0 2,L_ 29 28,K_ 30 29 0,V_ 31 30,jW 31 32 0 3,kO 31 33 32,h_ 31 34 (di dq 33 0),Q_ 35 31 34,V_ 27 35]
def Ef:=R_ [o_ 36 (aI fG 3 []),S_ 3 4 36,I_ 5 0]
def A321:CF:=⟨[b6 4 3,aG 5],sq LL (sq (sq LJ (sq Eh (cd 13 (rt LI) .skip))) (sr [y_ 16 308 [(aQ (.bool false))],o_ 7 (au fG 3),S_ 3 7 16] (sq (.block 0 (sq zG (cd 17 (rt Eg) (sq zF (cd 27 (rt Ef) .skip))))) (rr [y_ 37 308 [(aQ (.bool true))],S_ 3 4 37,I_ 5 0])))),38⟩
theorem c321:cF 321=some A321:=bH
def A322:CF:=⟨[b6 4 3,aG 5],sr [X_ 2 0,X_ 3 1,o_ 4 (au fG 3),I_ 5 0] (sq (sr [N_ 8 3 2,N_ 9 3 3,o_ 10 (aO fG 2 3 [(0,3,z_ 8),(3,3,z_ 9)]),y_ 11 307 [kI 3,z_ 10],V_ 6 11] (sr [V_ 12 6,H_ 13 12 0] (cd 13 (rr [o_ 14 (aI fG 3 []),V_ 15 6,S_ 3 4 14,V_ 5 15]) .skip))) (sr [y_ 16 308 [(aQ (.bool true))],o_ 7 (au fG 3),S_ 3 7 16] (sq (.block 0 (sr [N_ 18 3 2,N_ 19 3 7,o_ 20 (b_ (og false [.i,.i,.s]) 18 19),V_ 21 20,O_ 21 22 3 3,O_ 21 23 3 7,h_ 21 24 (b_ (og false [.i,.i,.s]) 22 23),Q_ 25 21 24,V_ 17 25] (cd 17 (rr [N_ 26 3 7,S_ 3 4 26,I_ 5 0]) (sr [A_ 28 0 2,L_ 29 28,K_ 30 29 0,V_ 31 30,jW 31 32 0 3,kO 31 33 32,h_ 31 34 (di dq 33 0),Q_ 35 31 34,V_ 27 35] (cd 27 (rr [o_ 36 (aI fG 3 []),S_ 3 4 36,I_ 5 0]) .skip))))) (rr [y_ 37 308 [(aQ (.bool false))],S_ 3 4 37,I_ 5 0])))),38⟩
theorem c322:cF 322=some A322:=bH
def zE:=R_ [V_ 13 10,o_ 14 (e2 (bR .mul) (kI 2) (z_ 13)),D_ 15 14 1,V_ 11 15]
def zD:=R_ [V_ 16 11,V_ 17 2,eT nY 18 16 17]
def Ee:CT:=.dO [19,20,21,22,23,24,25,26,27,28,29,30,31,32,33,34,35,36,37,38,39,40] [aS 19 11,uz mz 20 19 1,aS 21 2,v7 jR 22 20 21,aS 23 22,gK 23 24 4,gK 23 25 0,gK 23 26 3,gK 23 27 11,gI [23,26,27] 23 28 (b_ mz 26 27) 1,gI [23,25,28] 23 29 (b_ (cK 1) 25 28) 1,s8 23 30 29,gK 23 31 0,gK 23 32 3,gK 23 33 11,gI [23,32,33] 23 34 (b_ mz 32 33) 1,gI [23,34] 23 35 (di mz 34 1) 1,gI [23,31,35] 23 36 (b_ (cK 1) 31 35) 1,s8 23 37 36,Yr [23,24,30,37] (z_ 23) true (bg 38) (z_ 24) [z_ 30,z_ 37],gI [23,38] 23 39 (di jR 38 0) 1,i_ [23,39] 40 (p_ 23 39) 1]
def LH:=R_ [V_ 41 11,D_ 42 41 1,V_ 11 42]
def LG:CT:=.dO [43,44,45,46,47,48,49,50,51,52,53,54,55,56,57,58] [aS 43 4,aS 44 0,aS 45 3,aS 46 10,v7 mz 47 45 46,dR 48 1 44 47,cY 49 48,aS 50 0,aS 51 3,aS 52 11,v7 mz 53 51 52,dR 54 1 50 53,cY 55 54,vI [43,49,55] (bg 56) (z_ 43) [z_ 49,z_ 55],uz jR 57 56 0,e1_ un 58 57]
def LF:CT:=.dO [59,60,61,62,63,64,65,66,67,68,69,70,71,72,73,74,75,76,77,78,79,80] [aS 59 0,aS 60 3,aS 61 10,v7 mz 62 60 61,aS 67 0,aS 68 3,aS 69 11,v7 mz 70 68 69,dR 71 1 67 70,cY 72 71,aS 73 0,aS 74 3,aS 75 10,v7 mz 76 74 75,dR 77 1 73 76,cY 78 77,dR 79 1 59 62,eU 1 79 72,iF 63 0 2,iF 64 3 2,iF 65 11 2,i_ [64,65] 66 (b_ mz 64 65) 2,dR 80 1 63 66,eU 1 80 78]
def LD:=R_ [V_ 81 11,V_ 10 81]
def adC:CT:=.block 1 (sq zE (iq zD 18 (.exit 0) (iq Ee 40 LH (iq LG 58 .ret (sq LF LD)))))
def A323:CF:=⟨[],sr [V_ 12 1,V_ 10 12] (bl 0 adC),82⟩
theorem c323:cF 323=some A323:=bH
def A324:CF:=⟨[aG 2],sr [o_ 2 (c_ (.int .u64 0))] (rr [V_ 3 0,o_ 4 (u_ (bV .u64) 3),y_ 5 221 [z_ 4],o_ 6 (e2 (bR .shl) (aQ (.int .u64 1)) (z_ 5)),V_ 2 6]),7⟩
theorem c324:cF 324=some A324:=bH
def abc:CT:=.dO [12,13,14,15,16,17,18,19,20] [aS 12 0,i_ [12] 13 (aY (z_ 12)) 1,cY 14 13,aS 15 0,i_ [15] 16 (aY (z_ 15)) 1,cY 17 16,i_ [17] 18 (d_ (bR .shr) 17 (.int .u64 7)) 1,i_ [14,18] 19 (b_ (bR .xor) 14 18) 1,i_ [12] 20 (aY (z_ 12)) 1,eU 1 20 19]
def abb:CT:=.dO [21,22,23,24,25,26,27,28,29] [aS 21 0,i_ [21] 22 (aY (z_ 21)) 1,cY 23 22,aS 24 0,i_ [24] 25 (aY (z_ 24)) 1,cY 26 25,i_ [26] 27 (d_ (bR .shl) 26 (.int .u64 17)) 1,i_ [23,27] 28 (b_ (bR .xor) 23 27) 1,i_ [21] 29 (aY (z_ 21)) 1,eU 1 29 28]
def aba:=R_ [V_ 30 0,o_ 31 (aY (z_ 30)),L_ 32 31,V_ 2 32]
def A325:CF:=⟨[aG 2],sr [o_ 2 (c_ (.int .u64 0))] (sq (.dO [3,4,5,6,7,8,9,10,11] [aS 3 0,i_ [3] 4 (aY (z_ 3)) 1,cY 5 4,aS 6 0,i_ [6] 7 (aY (z_ 6)) 1,cY 8 7,i_ [8] 9 (d_ (bR .shl) 8 (.int .u64 13)) 1,i_ [5,9] 10 (b_ (bR .xor) 5 9) 1,i_ [3] 11 (aY (z_ 3)) 1,eU 1 11 10]) (sq abc (sq abb (rt aba)))),33⟩
theorem c325:cF 325=some A325:=bH
def A326:CF:=⟨[aG 8],sr [I_ 8 0] (rr [V_ 9 0,V_ 10 1,eZ fZ 11 10 1,V_ 12 1,V_ 13 1,D_ 14 13 1,V_ 15 2,V_ 16 3,y_ 17 327 [z_ 9,z_ 11,z_ 12,z_ 14,z_ 15,z_ 16],V_ 8 17]),18⟩
theorem c326:cF 326=some A326:=bH
def aa':=R_ [V_ 23 0,V_ 24 2,V_ 25 3,V_ 26 4,V_ 27 5,y_ 28 347 [z_ 23,z_ 24,z_ 25,z_ 26,z_ 27],V_ 22 28,W_ 29 0 22,W_ 30 1 22,V_ 2 29,V_ 3 30]
def aa_:=R_ [V_ 32 0,V_ 33 1,V_ 34 2,V_ 35 4,V_ 36 5,y_ 37 347 [z_ 32,z_ 33,z_ 34,z_ 35,z_ 36],V_ 31 37,W_ 38 0 31,W_ 39 1 31,V_ 1 38,V_ 2 39]
def aa9:=R_ [V_ 40 2,V_ 12 40]
def A327:CF:=⟨[aG 12],sr [I_ 12 0] (sr [V_ 14 0,V_ 15 1,V_ 16 2,V_ 17 4,V_ 18 5,y_ 19 347 [z_ 14,z_ 15,z_ 16,z_ 17,z_ 18],V_ 13 19,W_ 20 0 13,W_ 21 1 13,V_ 1 20,V_ 2 21] (sq aa' (sq aa_ (rt aa9)))),41⟩
theorem c327:cF 327=some A327:=bH
def A335:CF:=⟨[aG 4,aG 5],sr [I_ 4 0,F_ 5] (sr [V_ 7 0,V_ 8 1,eT mz 9 7 8,V_ 6 9] (rr [V_ 10 6,V_ 11 0,eZ jR 12 11 0,V_ 13 1,eZ jR 14 13 0,o_ 15 (b_ (kT true .bool) 12 14),V_ 16 15,pT 16 17 6,h_ 16 18 (di jR 17 0),pT 16 19 0,h_ 16 20 (di jR 19 0),h_ 16 21 (b_ (kT false .bool) 18 20),Q_ 22 16 21,V_ 4 10,V_ 5 22])),23⟩
theorem c335:cF 335=some A335:=bH
def A336:CF:=⟨[aG 4,aG 5],sr [I_ 4 0,F_ 5] (sr [V_ 7 0,V_ 8 1,eT fZ 9 7 8,V_ 6 9] (rr [V_ 10 6,V_ 11 0,eZ jR 12 11 0,V_ 13 1,eZ jR 14 13 0,o_ 15 (b_ (kT false .bool) 12 14),V_ 16 15,pT 16 17 6,h_ 16 18 (di jR 17 0),pT 16 19 0,h_ 16 20 (di jR 19 0),h_ 16 21 (b_ (kT false .bool) 18 20),Q_ 22 16 21,V_ 4 10,V_ 5 22])),23⟩
theorem c336:cF 336=some A336:=bH
def A337:CF:=⟨[aG 4,aG 5],sr [I_ 4 0,F_ 5] (ir [V_ 7 0,K_ 8 7 0,V_ 9 8,pT 9 10 1,h_ 9 11 (di dq 10 0),Q_ 12 9 11] 12 (rr [I_ 4 0,T_ 5]) (sr [V_ 13 0,V_ 14 1,o_ 15 (b_ (bR .mul) 13 14),V_ 6 15] (rt (.dO [16,17,18,19,20,21,22,23,24,25,26,27,28,29,30,31,32,33,34,35,36,37,38] [aS 16 6,aS 17 0,uz dq 18 17 (-1),aS 19 18,gK 19 20 1,gI [19,20] 19 21 (di dq 20 (-9223372036854775808)) 1,i_ [19,21] 22 (p_ 19 21) 1,aS 23 22,q1_ 23 24 1,hI [23,24] 23 25 (di dq 24 (-1)) 1,q1_ 23 26 25,gK 26 27 0,gI [26,27] 26 28 (di dq 27 (-9223372036854775808)) 1,hI [23,26,28] 23 29 (p_ 26 28) 1,i_ [23,29] 30 (q_ 23 29) 1,e1_ un 31 30,aS 32 31,gK 32 33 6,gK 32 34 1,gI [32,33,34] 32 35 (b_ (bR .quo) 33 34) 1,gK 32 36 0,gI [32,35,36] 32 37 (b_ dq 35 36) 1,i_ [32,37] 38 (p_ 32 37) 1,aS 4 16,aS 5 38])))),39⟩
theorem c337:cF 337=some A337:=bH
def A338:CF:=⟨[aG 4,aG 5],sr [I_ 4 0,F_ 5] (ir [V_ 6 0,eZ dq 7 6 (-9223372036854775808),V_ 8 7,jn 8 9 1,g_ 8 10 (di dq 9 (-1)),P_ 11 8 10] 11 (rr [I_ 4 0,F_ 5]) (rr [V_ 12 0,V_ 13 1,o_ 14 (b_ (bR .quo) 12 13),V_ 4 14,T_ 5])),15⟩
theorem c338:cF 338=some A338:=bH
def A339:CF:=⟨[aG 4,aG 5],sr [I_ 4 0,F_ 5] (ir [V_ 6 1,eZ dq 7 6 (-1)] 7 (rr [I_ 4 0,T_ 5]) (rr [V_ 8 0,V_ 9 1,o_ 10 (b_ (bR .rem) 8 9),V_ 4 10,T_ 5])),11⟩
theorem c339:cF 339=some A339:=bH
def LC:=R_ [o_ 16 (aI fG 3 []),S_ 3 6 16,I_ 7 5]
def zC:=R_ [A_ 17 0 3,L_ 18 17,K_ 19 18 0,V_ 20 19,jW 20 21 0 4,kO 20 22 21,h_ 20 23 (di dq 22 0),Q_ 24 20 23]
def LA:=R_ [o_ 25 (aI fG 3 []),S_ 3 6 25,I_ 7 0]
def Ly:=R_ [A_ 26 0 3,L_ 27 26,A_ 28 0 4,L_ 29 28,eT sO 30 27 29]
def aa8:=R_ [o_ 31 (aI fG 3 []),S_ 3 6 31,I_ 7 30]
def aa7:=R_ [V_ 32 2,N_ 33 3 3,N_ 34 3 4,y_ 35 164 [z_ 33,z_ 34],vP (bg 36) (z_ 32) [z_ 35],y_ 37 308 [z_ 36],S_ 3 6 37,I_ 7 0]
def A340:CF:=⟨[b6 6 3,aG 7],sr [X_ 3 0,X_ 4 1,o_ 6 (au fG 3),I_ 7 0] (ir [N_ 8 3 3,y_ 9 88 [z_ 8],ru 10 9,V_ 11 10,O_ 11 12 3 4,kz (z_ 11) false (bg 13) 88 [z_ 12],h_ 11 14 (un 13),Q_ 15 11 14] 15 (rt LC) (iq zC 24 (rt LA) (iq Ly 30 (rt aa8) (rt aa7)))),38⟩
theorem c340:cF 340=some A340:=bH
def A341:CF:=⟨[aG 2],sr [F_ 2] (rr [V_ 3 0,K_ 4 3 0,V_ 2 4]),5⟩
theorem c341:cF 341=some A341:=bH
def A342:CF:=⟨[aG 2],sr [F_ 2] (rr [V_ 3 0,H_ 4 3 0,V_ 2 4]),5⟩
theorem c342:cF 342=some A342:=bH
def A343:CF:=⟨[aG 2],sr [F_ 2] (rr [V_ 3 0,eZ jR 4 3 0,V_ 2 4]),5⟩
theorem c343:cF 343=some A343:=bH
def A344:CF:=⟨[aG 2],sr [F_ 2] (rr [V_ 3 0,eZ yW 4 3 0,V_ 2 4]),5⟩
theorem c344:cF 344=some A344:=bH
def A345:CF:=⟨[aG 2],sr [F_ 2] (rr [V_ 3 0,eZ nu 4 3 0,V_ 2 4]),5⟩
theorem c345:cF 345=some A345:=bH
def A346:CF:=⟨[aG 2],sr [F_ 2] (rr [V_ 3 0,eZ nY 4 3 0,V_ 2 4]),5⟩
theorem c346:cF 346=some A346:=bH
def aa6:=R_ [V_ 23 3,o_ 24 (aY (z_ 23)),L_ 25 24,D_ 26 25 1,o_ 27 (aY (z_ 23)),S_ 1 27 26]
def aa5:=R_ [V_ 28 2,V_ 29 1,V_ 10 28,V_ 11 29]
def aa4:=R_ [V_ 30 1,V_ 31 2,V_ 10 30,V_ 11 31]
def A347:CF:=⟨[aG 10,aG 11],sr [I_ 10 0,I_ 11 0] (iq (.dO [12,13,14,15,16,17,18,19,20,21,22] [aS 12 4,aS 13 0,aS 14 2,dR 15 1 13 14,cY 16 15,aS 17 0,aS 18 1,dR 19 1 17 18,cY 20 19,vI [12,16,20] (bg 21) (z_ 12) [z_ 16,z_ 20],uz jR 22 21 0]) 22 (sq aa6 (rt aa5)) (rt aa4)),32⟩
theorem c347:cF 347=some A347:=bH
end Go.Abs
