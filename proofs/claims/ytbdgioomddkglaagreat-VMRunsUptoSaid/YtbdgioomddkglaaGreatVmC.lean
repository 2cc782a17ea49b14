/- A part. -/
import Derived.Test.YtbdgioomddkglaaGreatProg
import Derived.KernelRfl
import Derived.Test.YtbdgioomddkglaaGreatAbs6
noncomputable section
namespace Go.Abs
open Go.Proofs
set_option maxRecDepth 100000
noncomputable  abbrev pG:=Tryz.prog
abbrev z_ (a:Nat):G:=ao a
abbrev v_ (a:Nat):Eff:=eD (ao a)
abbrev c_ (x:AV):Eff:=eD (aK x)
abbrev a_ (k a:Nat):Eff:=e1 (xw k) (ao a)
abbrev l_ (a:Nat):Eff:=sY (ao a)
abbrev n_ (n a:Nat):Eff:=jg n (ao a)
abbrev u_ (f:AV->bg)(a:Nat):Eff:=e1 f (ao a)
abbrev b_ (f:AV->AV->bg)(a b:Nat):Eff:=e2 f (ao a) (ao b)
abbrev d_ (f:AV->AV->bg)(a:Nat)(x:AV):Eff:=e2 f (ao a) (aK x)
abbrev s_ (n a b:Nat):Eff:=cH n (ao a) (ao b)
abbrev p_ (a b:Nat):Eff:=xb (ao a) (ao b) (aK (.bool false))
abbrev q_ (a b:Nat):Eff:=xb (ao a) (aK (.bool true)) (ao b)
abbrev x_ (a:Nat):Eff:=E' (ao a)
abbrev o_ (d:Nat)(e:Eff):Option GO:=oP (bF d) e
abbrev g_ (a d:Nat)(e:Eff):Option GO:=gP (ao a) true (bF d) e
abbrev h_ (a d:Nat)(e:Eff):Option GO:=gP (ao a) false (bF d) e
abbrev i_ (l:List Nat)(d:Nat)(e:Eff)(c:Nat):Option RO:=oI l (bF d) e c
abbrev j_ (l:List Nat)(e:Eff):Option RO:=mI l rF e
abbrev y_ (d:Nat)(f:FuncId)(l:List G):Option GO:=cP (bF d) f l
abbrev dy:List AV:=[(.int .i64 0),(.int .i64 0),(.str [])]
@[simp] theorem z1_e:dy=[(.int .i64 0),(.int .i64 0),(.str [])]:=Eq.trans rfl rfl
abbrev Kx:List AV:=[(.int .i64 0),(.int .i64 0),(.int .i64 0),(.str []),(.str []),(.str []),(.int .i64 0),(.aI (.slice none 0 0))]
@[simp] theorem z2_e:Kx=[(.int .i64 0),(.int .i64 0),(.int .i64 0),(.str []),(.str []),(.str []),(.int .i64 0),(.aI (.slice none 0 0))]:=Eq.trans rfl rfl
abbrev Kw:List AV:=[(.bool false),(.int .i64 0),(.int .i64 0),(.aI (.slice none 0 0)),(.aI (.slice none 0 0))]
@[simp] theorem z3_e:Kw=[(.bool false),(.int .i64 0),(.int .i64 0),(.aI (.slice none 0 0)),(.aI (.slice none 0 0))]:=Eq.trans rfl rfl
abbrev Oi:List AV:=[(.int .u32 0),(.int .u32 0),(.str []),(.aI (.slice none 0 0)),(.bool false),(.int .u32 0)]
@[simp] theorem z4_e:Oi=[(.int .u32 0),(.int .u32 0),(.str []),(.aI (.slice none 0 0)),(.bool false),(.int .u32 0)]:=Eq.trans rfl rfl
abbrev DU:List AV:=[(.int .u32 0),(.str []),(.aI (.slice none 0 0)),(.int .u32 0)]
@[simp] theorem z5_e:DU=[(.int .u32 0),(.str []),(.aI (.slice none 0 0)),(.int .u32 0)]:=Eq.trans rfl rfl
abbrev z6_:List AV:=[(.int .i64 0),(.int .i64 0),(.int .i64 0),(.int .i64 0),(.int .i64 0),(.int .i64 0),(.int .i64 0),(.int .u32 0),(.int .i64 0),(.int .i64 0),(.bool false),(.bool false),(.int .i64 0),(.int .i64 0),(.str [])]
@[simp] theorem z6_e:z6_=[(.int .i64 0),(.int .i64 0),(.int .i64 0),(.int .i64 0),(.int .i64 0),(.int .i64 0),(.int .i64 0),(.int .u32 0),(.int .i64 0),(.int .i64 0),(.bool false),(.bool false),(.int .i64 0),(.int .i64 0),(.str [])]:=Eq.trans rfl rfl
abbrev z7_:List AV:=[(.int .i64 0),(.aI (.slice none 0 0)),(.aI (.slice none 0 0)),(.aI (.slice none 0 0)),(.int .i64 0),(.aI (.slice none 0 0)),(.aI (.slice none 0 0)),(.bool false),(.bool false)]
@[simp] theorem z7_e:z7_=[(.int .i64 0),(.aI (.slice none 0 0)),(.aI (.slice none 0 0)),(.aI (.slice none 0 0)),(.int .i64 0),(.aI (.slice none 0 0)),(.aI (.slice none 0 0)),(.bool false),(.bool false)]:=Eq.trans rfl rfl
abbrev z8_:List AV:=[(.aI (.slice none 0 0)),(.bool false),(.int .i64 0),(.int .i64 0),(.str []),(.bool false),(.bool false),(.int .i64 0),(.int .i64 0),(.str []),(.bool false)]
@[simp] theorem z8_e:z8_=[(.aI (.slice none 0 0)),(.bool false),(.int .i64 0),(.int .i64 0),(.str []),(.bool false),(.bool false),(.int .i64 0),(.int .i64 0),(.str []),(.bool false)]:=Eq.trans rfl rfl
abbrev z9_:List AV:=[(.aI .nilIface),(.aI (.slice none 0 0)),(.int .u32 0),(.int .i64 0),(.bool false)]
@[simp] theorem z9_e:z9_=[(.aI .nilIface),(.aI (.slice none 0 0)),(.int .u32 0),(.int .i64 0),(.bool false)]:=Eq.trans rfl rfl
abbrev DV:List AV:=[(.int .u32 0),(.int .i64 0),(.aI (.slice none 0 0))]
@[simp] theorem atS:DV=[(.int .u32 0),(.int .i64 0),(.aI (.slice none 0 0))]:=Eq.trans rfl rfl
abbrev Ol:List AV:=[(.aI (.slice none 0 0)),(.aI (.slice none 0 0)),(.aI (.slice none 0 0))]
@[simp] theorem atQ:Ol=[(.aI (.slice none 0 0)),(.aI (.slice none 0 0)),(.aI (.slice none 0 0))]:=Eq.trans rfl rfl
abbrev aak:List AV:=[(.int .i64 0),(.aI .nilFunc),(.aI .nilFunc),(.int .i64 0),(.aI .nilFunc),(.aI .nilFunc),(.int .i64 0),(.aI .nilFunc),(.aI .nilFunc)]
@[simp] theorem atP:aak=[(.int .i64 0),(.aI .nilFunc),(.aI .nilFunc),(.int .i64 0),(.aI .nilFunc),(.aI .nilFunc),(.int .i64 0),(.aI .nilFunc),(.aI .nilFunc)]:=Eq.trans rfl rfl
abbrev vB:List AV:=[(.int .i64 0),(.int .i64 0)]
@[simp] theorem atO:vB=[(.int .i64 0),(.int .i64 0)]:=Eq.trans rfl rfl
abbrev agx:List AV:=[(.aI .nilFunc),(.aI .nilFunc),(.aI .nilFunc),(.aI .nilFunc),(.aI .nilFunc),(.aI .nilFunc),(.aI .nilFunc),(.aI .nilFunc),(.aI .nilFunc),(.aI .nilFunc),(.aI .nilFunc),(.aI .nilFunc),(.aI .nilFunc),(.aI .nilFunc)]
@[simp] theorem atN:agx=[(.aI .nilFunc),(.aI .nilFunc),(.aI .nilFunc),(.aI .nilFunc),(.aI .nilFunc),(.aI .nilFunc),(.aI .nilFunc),(.aI .nilFunc),(.aI .nilFunc),(.aI .nilFunc),(.aI .nilFunc),(.aI .nilFunc),(.aI .nilFunc),(.aI .nilFunc)]:=Eq.trans rfl rfl
abbrev agw:List AV:=[(.aI .nilFunc),(.aI .nilFunc),(.aI .nilFunc),(.aI .nilFunc),(.aI .nilFunc),(.aI .nilFunc),(.aI .nilFunc),(.aI .nilFunc),(.aI .nilFunc),(.aI .nilFunc),(.aI .nilFunc),(.aI .nilFunc)]
@[simp] theorem atM:agw=[(.aI .nilFunc),(.aI .nilFunc),(.aI .nilFunc),(.aI .nilFunc),(.aI .nilFunc),(.aI .nilFunc),(.aI .nilFunc),(.aI .nilFunc),(.aI .nilFunc),(.aI .nilFunc),(.aI .nilFunc),(.aI .nilFunc)]:=Eq.trans rfl rfl
abbrev mX:List AV:=[(.int .u8 0)]
@[simp] theorem atL:mX=[(.int .u8 0)]:=Eq.trans rfl rfl
abbrev aaj:List AV:=[(.int .u32 0),(.aI (.slice none 0 0)),(.int .i64 0),(.aI .nilFunc)]
@[simp] theorem atK:aaj=[(.int .u32 0),(.aI (.slice none 0 0)),(.int .i64 0),(.aI .nilFunc)]:=Eq.trans rfl rfl
abbrev GU:List AV:=[(.aI (.slice none 0 0))]
@[simp] theorem atJ:GU=[(.aI (.slice none 0 0))]:=Eq.trans rfl rfl
abbrev Qg:List AV:=[(.str []),(.int .i64 0),(.bool false)]
@[simp] theorem atI:Qg=[(.str []),(.int .i64 0),(.bool false)]:=Eq.trans rfl rfl
abbrev Oj:List AV:=[(.int .u32 0),(.int .i64 0)]
@[simp] theorem atH:Oj=[(.int .u32 0),(.int .i64 0)]:=Eq.trans rfl rfl
abbrev aai:List AV:=[(.int .i64 0),(.aI .nilFunc),(.aI .nilFunc)]
@[simp] theorem atG:aai=[(.int .i64 0),(.aI .nilFunc),(.aI .nilFunc)]:=Eq.trans rfl rfl
abbrev R_(l:List (Option GO)):CT:=.eC l
@[simp] theorem R_e(l:List (Option GO)):R_ l=.eC l:=Eq.trans rfl rfl
abbrev V_(d a:Nat):Option GO:=o_ d (v_ a)
abbrev A_(d k a:Nat):Option GO:=o_ d (a_ k a)
abbrev L_(d a:Nat):Option GO:=o_ d (l_ a)
abbrev I_(d:Nat)(n:Int):Option GO:=o_ d (c_ (.int .i64 n))
abbrev S_(n a b:Nat):Option GO:=oP rF (s_ n a b)
abbrev N_(d n a:Nat):Option GO:=o_ d (n_ n a)
abbrev F_(d:Nat):Option GO:=o_ d (c_ (.bool false))
abbrev T_(d:Nat):Option GO:=o_ d (c_ (.bool true))
abbrev E_(d a:Nat):Option GO:=o_ d (u_ bu a)
abbrev D_(d a:Nat)(n:Int):Option GO:=o_ d (d_ (ct .add) a (.int .i64 n))
abbrev B_(d a b:Nat):Option GO:=o_ d (b_ (ct .lss) a b)
abbrev P_(d a b:Nat):Option GO:=o_ d (p_ a b)
abbrev Q_(d a b:Nat):Option GO:=o_ d (q_ a b)
abbrev X_(d a:Nat):Option GO:=o_ d (x_ a)
abbrev W_(d k a:Nat):Option GO:=o_ d (u_ (fG k) a)
abbrev J_(d k a b:Nat):Option GO:=o_ d (b_ (dG k) a b)
abbrev K_(d a:Nat)(n:Int):Option GO:=o_ d (d_ (j7 false .num) a (.int .i64 n))
abbrev H_(d a:Nat)(n:Int):Option GO:=o_ d (d_ (j7 true .num) a (.int .i64 n))
abbrev fe(c d k a:Nat):Option GO:=g_ c d (a_ k a)
abbrev fu(c d a:Nat):Option GO:=g_ c d (l_ a)
abbrev fR(c d a:Nat):Option GO:=g_ c d (v_ a)
abbrev Qb(c d k a:Nat):Option GO:=g_ c d (n_ k a)
abbrev dF(c d k a:Nat):Option GO:=h_ c d (a_ k a)
abbrev dQ(c d a:Nat):Option GO:=h_ c d (l_ a)
abbrev fK(c d a:Nat):Option GO:=h_ c d (v_ a)
abbrev zM(c d k a:Nat):Option GO:=h_ c d (n_ k a)
abbrev cj(l:List Nat)(d k a c:Nat):Option RO:=i_ l d (a_ k a) c
abbrev cf(l:List Nat)(d a c:Nat):Option RO:=i_ l d (l_ a) c
abbrev bc(l:List Nat)(d a c:Nat):Option RO:=i_ l d (v_ a) c
abbrev gf(l:List Nat)(d k a c:Nat):Option RO:=i_ l d (n_ k a) c
abbrev fC(l:List Nat)(d k a b c:Nat):Option RO:=i_ l d (b_ (dG k) a b) c
abbrev sq(a b:CT):CT:=.seq a b
@[simp] theorem sqe(a b:CT):sq a b=.seq a b:=Eq.trans rfl rfl
abbrev cd(a:Nat)(b c:CT):CT:=.cond (z_ a) b c
@[simp] theorem cde(a:Nat)(b c:CT):cd a b c=.cond (z_ a) b c:=Eq.trans rfl rfl
abbrev rt(a:CT):CT:=.seq a .ret
@[simp] theorem rte(a:CT):rt a=.seq a .ret:=Eq.trans rfl rfl
abbrev iq(a:CT)(n:Nat)(b c:CT):CT:=.seq (.seq a (.cond (z_ n) b .skip)) c
@[simp] theorem iqe(a:CT)(n:Nat)(b c:CT):iq a n b c=.seq (.seq a (.cond (z_ n) b .skip)) c:=Eq.trans rfl rfl
abbrev lp(a:CT)(n i j:Nat)(b c:CT):CT:=.seq (.seq a (.cond (z_ n) .skip (.exit i))) (.seq (.block j b) c)
@[simp] theorem lpe(a:CT)(n i j:Nat)(b c:CT):lp a n i j b c=.seq (.seq a (.cond (z_ n) .skip (.exit i))) (.seq (.block j b) c):=Eq.trans rfl rfl
abbrev sr(l:List (Option GO))(b:CT):CT:=.seq (.eC l) b
abbrev rr(l:List (Option GO)):CT:=.seq (.eC l) .ret
abbrev ir(l:List (Option GO))(n:Nat)(b c:CT):CT:=.seq (.seq (.eC l) (.cond (z_ n) b .skip)) c
abbrev lr(l:List (Option GO))(n i j:Nat)(b c:CT):CT:=.seq (.seq (.eC l) (.cond (z_ n) .skip (.exit i))) (.seq (.block j b) c)
abbrev bl(n:Nat)(a:CT):CT:=.block n (.loop a)
@[simp] theorem ble(n:Nat)(a:CT):bl n a=.block n (.loop a):=Eq.trans rfl rfl
abbrev cF(n:FuncId):=PI pG n
abbrev di(f:AV->AV->bg)(a:Nat)(n:Int):Eff:=e2 f (ao a) (aK (.int .i64 n))
abbrev eP:AV->AV->bg:=j7 false .num
abbrev kL:AV->AV->bg:=j7 true .num
abbrev ia:AV->AV->bg:=ct .lss
abbrev jc:AV->AV->bg:=ct .gtr
abbrev kP:AV->AV->bg:=ct .geq
abbrev vc:AV->AV->bg:=ct .leq
abbrev sD:AV->AV->bg:=ct .add
abbrev yG:AV->AV->bg:=ct .sub
abbrev un(a:Nat):Eff:=e1 (GP .not) (ao a)
abbrev kf(n:FuncId):G:=aK (.fn (.func n) [] [])
abbrev kI(n:Int):G:=aK (.int .i64 n)
abbrev gI(l:List Nat)(a d:Nat)(e:Eff)(c:Nat):Option RO:=goI l (ao a) true (bF d) e c
abbrev hI(l:List Nat)(a d:Nat)(e:Eff)(c:Nat):Option RO:=goI l (ao a) false (bF d) e c
def ajL:CT:=lr [V_ 5 4,A_ 6 2 1,L_ 7 6,E_ 8 7,B_ 9 5 8] 9 0 1 (R_ [V_ 12 3,A_ 13 2 1,L_ 14 13,V_ 15 4,J_ 16 1 14 15,L_ 17 16,E_ 18 17,o_ 19 (b_ sD 12 18),V_ 3 19]) (R_ [V_ 10 4,D_ 11 10 1,V_ 4 11])
def ao0:=R_ [V_ 20 3,o_ 21 (di jc 20 300),V_ 2 21]
def A5:CF:=⟨[aB 2],sr [X_ 1 0,F_ 2] (sr [I_ 3 0] (sq (sr [I_ 4 0] (bl 0 ajL)) (rt ao0))),22⟩
theorem c5:cF 5=some A5:=by kernel_rfl
def ajA:=R_ [F_ 2]
def aoZ:=R_ [I_ 3 0]
def acC:=R_ [F_ 2]
def aoY:=R_ [I_ 5 1]
def aeD:=R_ [F_ 2]
def aeC:=R_ [V_ 72 5,D_ 73 72 1,V_ 5 73]
def acM:CT:=lr [V_ 64 5,A_ 65 2 1,L_ 66 65,V_ 67 3,J_ 68 1 66 67,L_ 69 68,E_ 70 69,B_ 71 64 70] 71 2 3 (sq (.eM [74,75,76,77,78,79,80,81,82,83,84,85,86,87,88,89,90,91,92] [cj [1] 74 2 1 1,cf [74] 75 74 1,bc [3] 76 3 1,fC [75,76] 77 1 75 76 1,cf [77] 78 77 1,bc [5] 79 5 1,i_ [79] 80 (di yG 79 1) 1,fC [78,80] 81 1 78 80 1,cf [81] 82 81 1,cj [1] 83 2 1 1,cf [83] 84 83 1,bc [3] 85 3 1,fC [84,85] 86 1 84 85 1,cf [86] 87 86 1,bc [5] 88 5 1,fC [87,88] 89 1 87 88 1,cf [89] 90 89 1,cI [82,90] (bF 91) 21 [z_ 82,z_ 90],i_ [91] 92 (di jc 91 0) 1]) (cd 92 (rt aeD) .skip)) aeC
def aeB:=R_ [V_ 25 3,D_ 26 25 1,V_ 3 26]
def ajK:CT:=lr [V_ 20 3,A_ 21 2 1,L_ 22 21,E_ 23 22,B_ 24 20 23] 24 0 1 (sr [A_ 27 0 1,A_ 28 0 27,L_ 29 28,V_ 30 3,J_ 31 4 29 30,N_ 32 4 31,o_ 4 (ay DU 4),S_ 4 4 32] (iq (.eM [33,34,35,36,37,38,39,40,41,42,43,44,45,46,47,48,49,50,51,52,53,54,55,56,57,58,59,60,61,62,63] [cj [1] 33 2 1 1,cf [33] 34 33 1,bc [3] 35 3 1,fC [34,35] 36 1 34 35 1,cf [36] 37 36 1,i_ [37] 38 (u_ bu 37) 1,i_ [38] 39 (di jc 38 4096) 1,bc [39] 40 39 1,hI [40,1] 40 41 (a_ 0 1) 1,hI [40,41] 40 42 (n_ 2 41) 1,hI [40,4] 40 43 (n_ 4 4) 1,hI [40,1] 40 44 (a_ 2 1) 1,hI [40,44] 40 45 (l_ 44) 1,hI [40,3] 40 46 (v_ 3) 1,hI [40,45,46] 40 47 (b_ (dG 1) 45 46) 1,hI [40,47] 40 48 (l_ 47) 1,gcI [40,42,43,48] (z_ 40) false (bF 49) 19 [z_ 42,z_ 43,z_ 48],hI [40,49] 40 50 (di kL 49 0) 1,i_ [40,50] 51 (q_ 40 50) 1,bc [51] 52 51 1,hI [52,1] 52 53 (a_ 0 1) 1,hI [52,53] 52 54 (n_ 2 53) 1,hI [52,4] 52 55 (n_ 4 4) 1,hI [52,1] 52 56 (a_ 2 1) 1,hI [52,56] 52 57 (l_ 56) 1,hI [52,3] 52 58 (v_ 3) 1,hI [52,57,58] 52 59 (b_ (dG 1) 57 58) 1,hI [52,59] 52 60 (l_ 59) 1,gcI [52,54,55,60] (z_ 52) false (bF 61) 20 [z_ 54,z_ 55,z_ 60],hI [52,61] 52 62 (un 61) 1,i_ [52,62] 63 (q_ 52 62) 1]) 63 (rt acC) (sq aoY (bl 2 acM)))) aeB
def aeA:=R_ [T_ 2]
def A6:CF:=⟨[aB 2],sr [X_ 1 0,F_ 2] (ir [A_ 6 0 1,N_ 7 2 6,y_ 8 18 [z_ 7],o_ 9 (un 8),V_ 10 9,dF 10 11 2 1,dQ 10 12 11,h_ 10 13 (u_ bu 12),dF 10 14 0 1,dF 10 15 0 14,dQ 10 16 15,h_ 10 17 (u_ bu 16),h_ 10 18 (b_ kL 13 17),Q_ 19 10 18] 19 (rt ajA) (sq (sq aoZ (bl 0 ajK)) (rt aeA))),93⟩
theorem c6:cF 6=some A6:=by kernel_rfl
def A8:CF:=⟨[aB 2],sr [X_ 1 0,o_ 2 (c_ (.aI .nilIface))] (rr [N_ 3 3 1,o_ 4 (aH Ol 3 [(0,3,z_ 3)]),o_ 5 (u_ (oR 71) 4),V_ 2 5]),6⟩
theorem c8:cF 8=some A8:=by kernel_rfl
def aoX:=R_ [I_ 4 0]
def aoW:=R_ [V_ 26 6,D_ 27 26 1,V_ 6 27]
def acL:CT:=lr [V_ 18 6,A_ 19 2 1,L_ 20 19,V_ 21 4,J_ 22 1 20 21,L_ 23 22,E_ 24 23,B_ 25 18 24] 25 2 3 (R_ [V_ 28 5,o_ 29 (aL dy 0 3 []),A_ 30 2 1,L_ 31 30,V_ 32 4,J_ 33 1 31 32,L_ 34 33,V_ 35 6,J_ 36 1 34 35,L_ 37 36,o_ 38 (dj 3 32 (z_ 29) (z_ 37)),o_ 39 (aL GU 1 1 [(0,1,z_ 38)]),o_ 40 (dj 1 24 (z_ 28) (z_ 39)),V_ 5 40]) aoW
def aoV:=R_ [A_ 41 2 3,L_ 42 41,V_ 43 5,o_ 44 (aL GU 1 1 [(0,1,z_ 43)]),o_ 45 (dj 1 24 (z_ 42) (z_ 44)),A_ 46 2 3,S_ 1 46 45]
def ad2:=R_ [V_ 16 4,D_ 17 16 1,V_ 4 17]
def ajJ:CT:=lr [V_ 11 4,A_ 12 2 1,L_ 13 12,E_ 14 13,B_ 15 11 14] 15 0 1 (sr [o_ 5 (c_ (.aI (.slice none 0 0)))] (sq (sr [I_ 6 0] (bl 2 acL)) aoV)) ad2
def ad1:=R_ [N_ 47 3 3,S_ 3 2 47]
def A9:CF:=⟨[bS 2 3],sr [X_ 1 0,o_ 2 (ay Ol 3)] (sr [A_ 7 0 1,N_ 8 2 7,y_ 9 24 [z_ 8],o_ 10 (aH Ol 3 [(0,2,z_ 9)]),o_ 3 (ay Ol 3),S_ 3 3 10] (sq (sq aoX (bl 0 ajJ)) (rt ad1))),48⟩
theorem c9:cF 9=some A9:=by kernel_rfl
def agp:=R_ [o_ 4 (c_ (.aI (.pointer none))),I_ 5 1]
def agn:=R_ [A_ 14 2 2,L_ 15 14,y_ 16 25 [z_ 15],A_ 17 2 2,S_ 1 17 16]
def agm:CT:=.eM [18,19,20,21,22,23,24,25,26,27] [gf [2] 18 3 2 1,bc [1] 19 1 1,cj [2] 20 0 2 1,cf [20] 21 20 1,i_ [21,21] 22 (uo dy 3 32 (z_ 21) (z_ 21)) 1,cj [2] 23 1 2 1,cf [23] 24 23 1,i_ [24,24] 25 (uo z9_ 5 64 (z_ 24) (z_ 24)) 1,i_ [18,19,22,25] 26 (aH [.int .i64 0,.int .i64 0,(.aI (.slice none 0 0)),(.aI .nilIface),.int .i64 0,(.aI (.slice none 0 0)),(.aI (.slice none 0 0)),.int .i64 0,.bool false,.bool false,.int .i64 0,(.aI (.slice none 0 0)),(.aI (.slice none 0 0))] 13 [(0,3,z_ 18),(3,1,z_ 19),(5,1,z_ 22),(6,1,z_ 25)]) 1,i_ [26] 27 (x_ 26) 1,bc [27] 6 27 1]
def agl:=R_ [V_ 28 6,A_ 29 2 2,L_ 30 29,E_ 31 30,K_ 32 31 0,o_ 33 (aV (z_ 28)),A_ 34 8 33,S_ 1 34 32]
def agk:=R_ [V_ 35 6,V_ 4 35,I_ 5 0]
def A10:CF:=⟨[aB 4,aB 5],sr [X_ 2 0,o_ 4 (c_ (.aI (.pointer none))),I_ 5 0] (ir [N_ 7 3 2,y_ 8 11 [z_ 7],H_ 9 8 0,V_ 10 9,fK 10 11 1,h_ 10 12 (d_ (j7 false .k7) 11 (.aI .nilIface)),Q_ 13 10 12] 13 (rt agp) (sq agn (sq agm (sq agl (rt agk))))),36⟩
theorem c10:cF 10=some A10:=by kernel_rfl
def agj:=R_ [I_ 2 1]
def agi:=R_ [D_ 40 32 1,V_ 32 40]
def Z8:CT:=sr [B_ 33 32 31] (sq (cd 33 .skip (.exit 0)) (sq (.block 1 (sr [J_ 34 15 30 32,N_ 35 15 34,o_ 4 (ay z6_ 15),S_ 15 4 35] (sr [N_ 36 3 1,N_ 37 15 4,y_ 38 26 [z_ 36,z_ 37],o_ 39 (un 38)] (cd 39 (rt agj) .skip)))) agi))
def agh:=R_ [I_ 2 0]
def A11:CF:=⟨[aB 2],sr [X_ 1 0,I_ 2 0] (ir [A_ 5 0 1,L_ 6 5,o_ 7 (di ia 6 0),V_ 8 7,dF 8 9 0 1,dQ 8 10 9,h_ 8 11 (di jc 10 256),Q_ 12 8 11,V_ 13 12,dF 13 14 1 1,dQ 13 15 14,h_ 13 16 (di ia 15 0),Q_ 17 13 16,V_ 18 17,dF 18 19 1 1,dQ 18 20 19,h_ 18 21 (di jc 20 4),Q_ 22 18 21,V_ 23 22,dF 23 24 2 1,dQ 23 25 24,h_ 23 26 (u_ bu 25),h_ 23 27 (di jc 26 8192),Q_ 28 23 27] 28 (rr [I_ 2 1]) (sq (sr [A_ 29 2 1,L_ 30 29,E_ 31 30,I_ 32 0] (bl 0 Z8)) (rt agh))),41⟩
theorem c11:cF 11=some A11:=by kernel_rfl
def agf:CT:=.eM [25,26,27,28,29,30,31,24,32,33] [cI [] (bF 25) 27 [],cj [4] 26 0 4 2,cf [26] 27 26 2,i_ [25,27] 28 (b_ (Ib 12 1 false) 25 27) 1,bc [0] 29 0 2,gf [4] 30 15 4 2,vI [28,29,30] (bF 31) (z_ 28) [z_ 29,z_ 30],bc [31] 24 31 1,i_ [24] 32 (u_ (fG 0) 24) 1,i_ [24] 33 (u_ (fG 1) 24) 1,bc [32] 5 32 1,bc [33] 6 33 1]
def age:=R_ [V_ 34 6,H_ 35 34 0]
def agd:=R_ [V_ 37 0,o_ 38 (aV (z_ 37)),A_ 39 7 38,L_ 40 39,D_ 41 40 1,o_ 42 (aV (z_ 37)),A_ 43 7 42,S_ 1 43 41]
def YR:=R_ [V_ 44 5,o_ 45 (di ia 44 0)]
def YQ:=R_ [V_ 46 0,o_ 47 (aV (z_ 46)),A_ 48 4 47,L_ 49 48,D_ 50 49 1,V_ 5 50]
def J0:=R_ [V_ 51 0,V_ 52 5,o_ 53 (aV (z_ 51)),A_ 54 4 53,S_ 1 54 52]
def JZ:CT:=.eM [55,56,57,58,59,60,61,62,63,64,65,66,67,68,69,70,71,72,73,74] [bc [0] 55 0 1,bc [0] 56 0 1,i_ [56] 57 (aV (z_ 56)) 1,cj [57] 58 8 57 1,cf [58] 59 58 1,bc [59] 60 59 1,hI [60,0] 60 61 (v_ 0) 1,hI [60,61] 60 62 (aV (z_ 61)) 1,hI [60,62] 60 63 (a_ 4 62) 1,hI [60,63] 60 64 (l_ 63) 1,hI [60,0] 60 65 (v_ 0) 1,hI [60,65] 60 66 (aV (z_ 65)) 1,hI [60,66] 60 67 (a_ 0 66) 1,hI [60,67] 60 68 (a_ 2 67) 1,hI [60,68] 60 69 (l_ 68) 1,hI [60,69] 60 70 (u_ bu 69) 1,hI [60,64,70] 60 71 (b_ eP 64 70) 1,i_ [60,71] 72 (q_ 60 71) 1,i_ [55] 73 (aV (z_ 55)) 1,cj [73] 74 8 73 1,j_ [74,72] (s_ 1 74 72)]
def C5:=R_ [V_ 75 0,o_ 76 (aV (z_ 75)),A_ 77 8 76,L_ 78 77,V_ 2 78,I_ 3 0]
def A12:CF:=⟨[aB 2,aB 3],sr [F_ 2,I_ 3 0] (ir [V_ 7 0,o_ 8 (d_ (j7 false .ptr) 7 (.aI (.pointer none)))] 8 (rr [T_ 2,I_ 3 1]) (ir [V_ 9 0,o_ 10 (aV (z_ 9)),A_ 11 8 10,L_ 12 11] 12 (rr [T_ 2,I_ 3 0]) (sq (.eM [13,14,15,16,17,18,19,20,21,22,23,4] [bc [0] 13 0 1,i_ [13] 14 (aV (z_ 13)) 1,cj [14] 15 0 14 1,cj [15] 16 2 15 1,cf [16] 17 16 1,bc [0] 18 0 1,i_ [18] 19 (aV (z_ 18)) 1,cj [19] 20 4 19 1,cf [20] 21 20 1,fC [17,21] 22 15 17 21 1,gf [22] 23 15 22 1,i_ [] 4 (ay z6_ 15) 1,j_ [4,23] (s_ 15 4 23)]) (sq agf (iq age 35 (rr [V_ 36 6,F_ 2,V_ 3 36]) (sq agd (iq YR 45 YQ (sq J0 (sq JZ (rt C5)))))))))),79⟩
theorem c12:cF 12=some A12:=by kernel_rfl
def agc:=R_ [V_ 59 0,o_ 60 (aV (z_ 59)),A_ 61 8 60,L_ 62 61,o_ 63 (un 62),V_ 58 63]
def M9:=R_ [V_ 65 0,o_ 66 (aV (z_ 65)),A_ 67 9 66,L_ 68 67,V_ 64 68]
def agb:=R_ [A_ 69 2 3,oP rF (cH 1 (z_ 69) (kI 4))]
def YD:=R_ [V_ 71 0,o_ 72 (aV (z_ 71)),A_ 73 10 72,L_ 74 73,H_ 75 74 0,V_ 70 75]
def aga:=R_ [V_ 76 0,o_ 77 (aV (z_ 76)),A_ 78 10 77,L_ 79 78,A_ 80 2 3,S_ 1 80 79]
def af':=R_ [V_ 20 0,o_ 21 (aV (z_ 20)),A_ 22 11 21,L_ 23 22,E_ 24 23,I_ 25 0]
def YG:=R_ [D_ 36 25 1,V_ 25 36]
def Oe:CT:=sr [B_ 26 25 24] (sq (cd 26 .skip (.exit 1)) (sq (.block 2 (sr [J_ 27 1 23 25,L_ 28 27,V_ 5 28] (.eM [29,30,31,32,33,34,35] [bc [5] 31 5 1,cI [31] (bF 32) 28 [z_ 31],cj [3] 29 3 3 2,cf [29] 30 29 2,i_ [32] 33 (aL GU 1 1 [(0,1,z_ 32)]) 1,mI [30,33] (bF 34) (dj 1 24 (z_ 30) (z_ 33)),cj [3] 35 3 3 1,j_ [35,34] (s_ 1 35 34)]))) YG))
def YF:=R_ [V_ 37 0,o_ 38 (aV (z_ 37)),A_ 39 12 38,L_ 40 39,E_ 41 40,I_ 42 0]
def YE:=R_ [D_ 57 42 1,V_ 42 57]
def Oc:CT:=sr [B_ 43 42 41] (sq (cd 43 .skip (.exit 3)) (sq (.block 4 (sr [J_ 44 3 40 42,N_ 45 3 44,o_ 7 (ay DV 3),S_ 3 7 45] (.eM [46,47,48,49,50,51,52,53,54,55,56] [cj [7] 50 2 7 1,cf [50] 51 50 1,cI [51] (bF 52) 28 [z_ 51],cj [3] 46 4 3 2,cf [46] 47 46 2,cj [7] 48 0 7 2,gf [48] 49 2 48 2,i_ [49,52] 53 (aH DV 3 [(0,2,z_ 49),(2,1,z_ 52)]) 1,i_ [53] 54 (aL DV 1 3 [(0,3,z_ 53)]) 1,mI [47,54] (bF 55) (dj 3 40 (z_ 47) (z_ 54)),cj [3] 56 4 3 1,j_ [56,55] (s_ 1 56 55)]))) YE))
def yp:=R_ [N_ 81 5 3,S_ 5 2 81]
def A13:CF:=⟨[bS 2 5],sr [o_ 2 (ay Kw 5)] (ir [V_ 8 0,o_ 9 (d_ (j7 false .ptr) 8 (.aI (.pointer none)))] 9 (rr [o_ 10 (aH Kw 5 []),S_ 5 2 10]) (sq (.eM [11,12,13,14,15,16,17,18,19,3] [bc [0] 11 0 1,i_ [11] 12 (aV (z_ 11)) 1,cj [12] 13 8 12 1,cf [13] 14 13 1,bc [0] 15 0 1,i_ [15] 16 (aV (z_ 15)) 1,cj [16] 17 7 16 1,cf [17] 18 17 1,i_ [14,18] 19 (aH Kw 5 [(0,1,z_ 14),(1,1,z_ 18)]) 1,i_ [] 3 (ay Kw 5) 1,j_ [3,19] (s_ 5 3 19)]) (sq (.block 0 (sq agc (cd 58 .skip (sq M9 (cd 64 agb (sq YD (cd 70 aga (sq (sq af' (bl 1 Oe)) (sq YF (bl 3 Oc)))))))))) (rt yp)))),82⟩
theorem c13:cF 13=some A13:=by kernel_rfl
def Yy:=R_ [o_ 17 (aH Kw 5 []),S_ 5 6 17,I_ 7 1]
def Yx:CT:=.eM [19,20,21,22,18,23,24] [gf [4] 20 3 4 1,cI [20] (bF 21) 8 [z_ 20],gf [3] 19 3 3 2,cI [19,21] (bF 22) 10 [z_ 19,z_ 21],bc [22] 18 22 1,i_ [18] 23 (u_ (fG 0) 18) 1,i_ [18] 24 (u_ (fG 1) 18) 1,bc [23] 8 23 1,bc [24] 9 24 1]
def Yw:=R_ [V_ 25 9,H_ 26 25 0]
def af_:=R_ [o_ 27 (aH Kw 5 []),V_ 28 9,S_ 5 6 27,V_ 7 28]
def Ob:CT:=sq (sr [V_ 29 8,o_ 30 (aV (z_ 29)),A_ 31 7 30,L_ 32 31,V_ 33 2,B_ 34 32 33,V_ 35 34,fR 35 36 8,g_ 35 37 (aV (z_ 36)),fe 35 38 8 37,fu 35 39 38,g_ 35 40 (un 39),P_ 41 35 40] (cd 41 .skip (.exit 0))) (.block 1 (R_ [V_ 42 8,y_ 43 12 [z_ 42]]))
def Yv:=R_ [V_ 44 8,y_ 45 13 [z_ 44],S_ 5 6 45,I_ 7 0]
def A14:CF:=⟨[bS 6 5,aB 7],sr [X_ 3 0,X_ 4 1,o_ 6 (ay Kw 5),I_ 7 0] (ir [V_ 10 2,o_ 11 (di ia 10 0),V_ 12 11,zM 12 13 3 4,nO (z_ 12) false (bF 14) 29 [z_ 13],h_ 12 15 (un 14),Q_ 16 12 15] 16 (rt Yy) (sq Yx (iq Yw 26 (rt af_) (sq (bl 0 Ob) (rt Yv))))),46⟩
theorem c14:cF 14=some A14:=by kernel_rfl
def af9:=R_ [I_ 5 0]
def af8:=R_ [V_ 47 5,D_ 48 47 1,V_ 5 48]
def Z7:CT:=lr [V_ 42 5,A_ 43 4 2,L_ 44 43,E_ 45 44,B_ 46 42 45] 46 0 1 (sq (.eM [49,50,51,52,53,54,55,56,57,58,59,60,61,62,63,64,65,66,67,68,69,70,71,72,73,74,75,76,77] [cj [2] 49 4 2 1,cf [49] 50 49 1,bc [5] 51 5 1,fC [50,51] 52 3 50 51 1,cj [52] 53 0 52 1,gf [53] 54 2 53 1,cj [3] 55 4 3 1,cf [55] 56 55 1,bc [5] 57 5 1,fC [56,57] 58 3 56 57 1,cj [58] 59 0 58 1,gf [59] 60 2 59 1,i_ [54,60] 61 (b_ (kA true [.i,.i]) 54 60) 1,bc [61] 62 61 1,hI [62,2] 62 63 (a_ 4 2) 1,hI [62,63] 62 64 (l_ 63) 1,hI [62,5] 62 65 (v_ 5) 1,hI [62,64,65] 62 66 (b_ (dG 3) 64 65) 1,hI [62,66] 62 67 (a_ 2 66) 1,hI [62,67] 62 68 (l_ 67) 1,hI [62,3] 62 69 (a_ 4 3) 1,hI [62,69] 62 70 (l_ 69) 1,hI [62,5] 62 71 (v_ 5) 1,hI [62,70,71] 62 72 (b_ (dG 3) 70 71) 1,hI [62,72] 62 73 (a_ 2 72) 1,hI [62,73] 62 74 (l_ 73) 1,gcI [62,68,74] (z_ 62) false (bF 75) 31 [z_ 68,z_ 74],hI [62,75] 62 76 (un 75) 1,i_ [62,76] 77 (q_ 62 76) 1]) (cd 77 (rr [F_ 4]) .skip)) af8
def af7:=R_ [T_ 4]
def A15:CF:=⟨[aB 4],sr [X_ 2 0,X_ 3 1,F_ 4] (ir [A_ 6 0 2,L_ 7 6,A_ 8 0 3,L_ 9 8,o_ 10 (b_ (j7 true .bool) 7 9),V_ 11 10,dF 11 12 1 2,dQ 11 13 12,dF 11 14 1 3,dQ 11 15 14,h_ 11 16 (b_ kL 13 15),Q_ 17 11 16,V_ 18 17,dF 18 19 2 2,dQ 18 20 19,dF 18 21 2 3,dQ 18 22 21,h_ 18 23 (b_ kL 20 22),Q_ 24 18 23,V_ 25 24,dF 25 26 3 2,dQ 25 27 26,dF 25 28 3 3,dQ 25 29 28,nO (z_ 25) false (bF 30) 30 [z_ 27,z_ 29],h_ 25 31 (un 30),Q_ 32 25 31,V_ 33 32,dF 33 34 4 2,dQ 33 35 34,h_ 33 36 (u_ bu 35),dF 33 37 4 3,dQ 33 38 37,h_ 33 39 (u_ bu 38),h_ 33 40 (b_ kL 36 39),Q_ 41 33 40] 41 (rr [F_ 4]) (sq (sq af9 (bl 0 Z7)) (rt af7))),78⟩
theorem c15:cF 15=some A15:=by kernel_rfl
def af0:=R_ [I_ 4 0]
def afZ:=R_ [F_ 2]
def XS:=R_ [V_ 35 5,D_ 36 35 1,V_ 5 36]
def N9:CT:=lr [V_ 32 5,V_ 33 4,B_ 34 32 33] 34 2 3 (sq (.eM [37,38,39,40,41,42,43,44,45] [bc [3] 37 3 1,bc [5] 38 5 1,fC [37,38] 39 1 37 38 1,cf [39] 40 39 1,bc [3] 41 3 1,bc [4] 42 4 1,fC [41,42] 43 1 41 42 1,cf [43] 44 43 1,i_ [40,44] 45 (b_ eP 40 44) 1]) (cd 45 (rt afZ) .skip)) XS
def Jy:=R_ [V_ 46 3,V_ 47 4,J_ 48 1 46 47,L_ 49 48,o_ 50 (d_ eP 49 (.int .u32 0))]
def XR:=R_ [F_ 2]
def XQ:=R_ [V_ 30 4,D_ 31 30 1,V_ 4 31]
def N8:CT:=lr [V_ 26 4,V_ 27 3,E_ 28 27,B_ 29 26 28] 29 0 1 (sq (sr [I_ 5 0] (bl 2 N9)) (sq Jy (cd 50 (rt XR) .skip))) XQ
def XP:=R_ [I_ 6 0]
def Jx:=R_ [A_ 63 0 7,L_ 64 63,o_ 65 (d_ eP 64 (.int .u32 0)),V_ 66 65,dF 66 67 1 7,dQ 66 68 67,nO (z_ 66) false (bF 69) 36 [z_ 68],h_ 66 70 (un 69),Q_ 71 66 70,V_ 72 71,dF 72 73 2 7,dQ 72 74 73,nO (z_ 72) false (bF 75) 37 [z_ 74],h_ 72 76 (un 75),Q_ 77 72 76]
def CQ:=R_ [F_ 2]
def XO:=R_ [I_ 8 0]
def Jw:=R_ [F_ 2]
def XN:=R_ [V_ 81 8,D_ 82 81 1,V_ 8 82]
def N7:CT:=lr [V_ 78 8,V_ 79 6,B_ 80 78 79] 80 6 7 (sq (.eM [83,84,85,86,87,88,89,90,91,92,93,94,95,96,97,98,99,100,101,102] [cj [1] 83 0 1 1,cf [83] 84 83 1,bc [8] 85 8 1,fC [84,85] 86 4 84 85 1,cj [86] 87 0 86 1,cf [87] 88 87 1,cj [7] 89 0 7 1,cf [89] 90 89 1,i_ [88,90] 91 (b_ kP 88 90) 1,bc [91] 92 91 1,hI [92,1] 92 93 (a_ 0 1) 1,hI [92,93] 92 94 (l_ 93) 1,hI [92,8] 92 95 (v_ 8) 1,hI [92,94,95] 92 96 (b_ (dG 4) 94 95) 1,hI [92,96] 92 97 (a_ 1 96) 1,hI [92,97] 92 98 (l_ 97) 1,hI [92,7] 92 99 (a_ 1 7) 1,hI [92,99] 92 100 (l_ 99) 1,hI [92,98,100] 92 101 (b_ eP 98 100) 1,i_ [92,101] 102 (q_ 92 101) 1]) (cd 102 (rt Jw) .skip)) XN
def XM:=R_ [V_ 56 6,D_ 57 56 1,V_ 6 57]
def N6:CT:=lr [V_ 51 6,A_ 52 0 1,L_ 53 52,E_ 54 53,B_ 55 51 54] 55 4 5 (sr [A_ 58 0 1,L_ 59 58,V_ 60 6,J_ 61 4 59 60,N_ 62 4 61,o_ 7 (ay DU 4),S_ 4 7 62] (iq Jx 77 (rt CQ) (sq XO (bl 6 N7)))) XM
def XL:=R_ [I_ 9 0]
def XK:=R_ [N_ 116 2 1,A_ 117 1 10,L_ 118 117,y_ 119 38 [z_ 116,z_ 118],V_ 115 119,W_ 120 0 115,W_ 121 1 115,o_ 11 (ay DU 4),S_ 4 11 120,V_ 12 121]
def Jv:=R_ [A_ 122 0 10,L_ 123 122,o_ 124 (d_ eP 123 (.int .u32 0)),V_ 125 124,dF 125 126 2 10,dQ 125 127 126,nO (z_ 125) false (bF 128) 36 [z_ 127],h_ 125 129 (un 128),Q_ 130 125 129,V_ 131 130,fK 131 132 12,h_ 131 133 (un 132),Q_ 134 131 133,V_ 135 134,dF 135 136 2 11,dQ 135 137 136,h_ 135 138 (u_ bu 137),dF 135 139 3 10,dQ 135 140 139,nO (z_ 135) false (bF 141) 39 [z_ 138,z_ 140],h_ 135 142 (un 141),Q_ 143 135 142]
def ya:=R_ [F_ 2]
def XJ:=R_ [I_ 13 0]
def Ju:=R_ [F_ 2]
def XI:=R_ [V_ 147 13,D_ 148 147 1,V_ 13 148]
def N5:CT:=lr [V_ 144 13,V_ 145 9,B_ 146 144 145] 146 10 11 (sq (.eM [149,150,151,152,153,154,155,156,157,158,159,160,161,162,163,164,165,166,167,168] [cj [1] 149 1 1 1,cf [149] 150 149 1,bc [13] 151 13 1,fC [150,151] 152 6 150 151 1,cj [152] 153 0 152 1,cf [153] 154 153 1,cj [10] 155 0 10 1,cf [155] 156 155 1,i_ [154,156] 157 (b_ kP 154 156) 1,bc [157] 158 157 1,hI [158,1] 158 159 (a_ 1 1) 1,hI [158,159] 158 160 (l_ 159) 1,hI [158,13] 158 161 (v_ 13) 1,hI [158,160,161] 158 162 (b_ (dG 6) 160 161) 1,hI [158,162] 158 163 (a_ 2 162) 1,hI [158,163] 158 164 (l_ 163) 1,hI [158,10] 158 165 (a_ 2 10) 1,hI [158,165] 158 166 (l_ 165) 1,hI [158,164,166] 158 167 (b_ eP 164 166) 1,i_ [158,167] 168 (q_ 158 167) 1]) (cd 168 (rt Ju) .skip)) XI
def XH:=R_ [V_ 108 9,D_ 109 108 1,V_ 9 109]
def N4:CT:=lr [V_ 103 9,A_ 104 1 1,L_ 105 104,E_ 106 105,B_ 107 103 106] 107 8 9 (sr [A_ 110 1 1,L_ 111 110,V_ 112 9,J_ 113 6 111 112,N_ 114 6 113,o_ 10 (ay Oi 6),S_ 6 10 114] (sq XK (iq Jv 143 (rt ya) (sq XJ (bl 10 N5))))) XH
def XG:=R_ [T_ 2]
def A18:CF:=⟨[aB 2],sr [X_ 1 0,F_ 2] (ir [A_ 14 0 1,L_ 15 14,E_ 16 15,o_ 17 (di jc 16 32),V_ 18 17,dF 18 19 1 1,dQ 18 20 19,h_ 18 21 (u_ bu 20),h_ 18 22 (di jc 21 64),Q_ 23 18 22] 23 (rr [F_ 2]) (sr [N_ 24 2 1,y_ 25 35 [z_ 24],V_ 3 25] (sq (sq af0 (bl 0 N8)) (sq (sq XP (bl 4 N6)) (sq (sq XL (bl 8 N4)) (rt XG)))))),169⟩
theorem c18:cF 18=some A18:=by kernel_rfl
def afY:=R_ [V_ 13 8,D_ 14 13 1,V_ 8 14]
def Z4:CT:=lr [V_ 9 8,V_ 10 2,E_ 11 10,B_ 12 9 11] 12 0 1 (.eM [15,16,17,18,19,20,21,22,23] [gf [3] 16 2 3 1,gf [4] 17 4 4 1,bc [2] 18 2 1,bc [8] 19 8 1,fC [18,19] 20 1 18 19 1,cf [20] 21 20 1,cI [16,17,21] (bF 22) 41 [z_ 16,z_ 17,z_ 21],bc [7] 15 7 2,cI [15,22] (bF 23) 40 [z_ 15,z_ 22],bc [23] 7 23 1]) afY
def afX:=R_ [V_ 24 7,V_ 6 24]
def A19:CF:=⟨[aB 6],sr [X_ 3 0,X_ 4 1,I_ 6 0] (sr [I_ 7 0] (sq (sr [I_ 8 0] (bl 0 Z4)) (rt afX))),25⟩
theorem c19:cF 19=some A19:=by kernel_rfl
def afW:=R_ [I_ 8 0]
def MQ:=R_ [V_ 50 12,o_ 51 (un 50)]
def Jq:=R_ [V_ 52 9,V_ 53 11,V_ 54 9,V_ 55 11,o_ 56 (jf .s (.int .i64 0) false (z_ 54) (z_ 55)),D_ 57 56 1,oP rF (um .s (z_ 52) (z_ 53) (z_ 57))]
def Jp:=R_ [V_ 58 9,V_ 59 11,o_ 60 (jf .s (.int .i64 0) false (z_ 58) (z_ 59)),o_ 61 (di jc 60 1)]
def XD:=R_ [F_ 6]
def Jo:=R_ [V_ 35 10,D_ 36 35 1,V_ 10 36]
def N3:CT:=lr [V_ 31 10,V_ 32 2,E_ 33 32,B_ 34 31 33] 34 2 3 (sq (.eM [38,39,40,41,42,43,44,45,46,37,47,48,49] [bc [7] 38 7 1,bc [8] 39 8 1,fC [38,39] 40 6 38 39 1,gf [40] 41 6 40 1,bc [2] 42 2 1,bc [10] 43 10 1,fC [42,43] 44 1 42 43 1,cf [44] 45 44 1,cI [41,45] (bF 46) 43 [z_ 41,z_ 45],bc [46] 37 46 1,i_ [37] 47 (u_ (fG 0) 37) 1,i_ [37] 48 (u_ (fG 1) 37) 1,i_ [37] 49 (u_ (fG 2) 37) 1,bc [47] 11 47 1,bc [48] 12 48 1,bc [49] 13 49 1]) (sq MQ (cd 51 (sq Jq (sq Jp (cd 61 (rt XD) .skip))) .skip))) Jo
def Jn:=R_ [V_ 22 8,D_ 23 22 1,V_ 8 23]
def N2:CT:=lr [V_ 18 8,V_ 19 7,E_ 20 19,B_ 21 18 20] 21 0 1 (ir [V_ 24 7,V_ 25 8,J_ 26 6 24 25,A_ 27 4 26,L_ 28 27,o_ 29 (un 28)] 29 (.exit 1) (sr [o_ 30 (lh),V_ 9 30] (sr [I_ 10 0] (bl 2 N3)))) Jn
def XC:=R_ [T_ 6]
def A20:CF:=⟨[aB 6],sr [X_ 3 0,X_ 4 1,F_ 6] (sr [N_ 14 2 3,A_ 15 0 4,L_ 16 15,y_ 17 42 [z_ 14,z_ 16],V_ 7 17] (sq (sq afW (bl 0 N2)) (rt XC))),62⟩
theorem c20:cF 20=some A20:=by kernel_rfl
def afV:=R_ [V_ 28 6,H_ 29 28 0]
def afU:=R_ [V_ 30 6,V_ 4 30]
def afT:=R_ [V_ 17 5,D_ 18 17 1,V_ 5 18]
def Gx:CT:=lr [V_ 7 5,V_ 8 0,E_ 9 8,B_ 10 7 9,V_ 11 10,fR 11 12 5,fR 11 13 1,g_ 11 14 (u_ bu 13),g_ 11 15 (b_ ia 12 14),P_ 16 11 15] 16 0 1 (sq (.eM [19,20,21,22,23,24,25,26,27] [bc [0] 19 0 1,bc [5] 20 5 1,fC [19,20] 21 3 19 20 1,gf [21] 22 3 21 1,bc [1] 23 1 1,bc [5] 24 5 1,fC [23,24] 25 3 23 24 1,gf [25] 26 3 25 1,cI [22,26] (bF 27) 44 [z_ 22,z_ 26],bc [27] 6 27 1]) (sq afV (cd 29 (rt afU) .skip))) afT
def MP:=R_ [V_ 31 0,E_ 32 31,V_ 33 1,E_ 34 33,B_ 35 32 34]
def afS:=R_ [o_ 4 (c_ (.int .i64 (-1)))]
def W9:=R_ [V_ 36 0,E_ 37 36,V_ 38 1,E_ 39 38,o_ 40 (b_ jc 37 39)]
def XB:=R_ [I_ 4 1]
def XA:=R_ [I_ 4 0]
def A21:CF:=⟨[aB 4],sr [I_ 4 0] (sq (sr [I_ 5 0] (bl 0 Gx)) (iq MP 35 (rt afS) (iq W9 40 (rt XB) (rt XA)))),41⟩
theorem c21:cF 21=some A21:=by kernel_rfl
def afR:=R_ [o_ 20 (aL Qg 0 3 []),A_ 21 2 5,L_ 22 21,o_ 23 (dj 3 32 (z_ 20) (z_ 22)),A_ 24 2 5,S_ 1 24 23]
def afQ:=R_ [A_ 25 0 3,L_ 26 25,N_ 27 4 5,o_ 28 (aL DU 1 4 [(0,4,z_ 27)]),o_ 29 (dj 4 56 (z_ 26) (z_ 28)),A_ 30 0 3,S_ 1 30 29]
def afP:=R_ [V_ 13 4,D_ 14 13 1,V_ 4 14]
def N1:CT:=lr [V_ 8 4,A_ 9 0 1,L_ 10 9,E_ 11 10,B_ 12 8 11] 12 0 1 (sr [A_ 15 0 1,L_ 16 15,V_ 17 4,J_ 18 4 16 17,N_ 19 4 18,o_ 5 (ay DU 4),S_ 4 5 19] (sq afR afQ)) afP
def afO:=R_ [I_ 6 0]
def WX:=R_ [o_ 43 (aL [.int .i64 0] 0 1 []),A_ 44 3 7,L_ 45 44,o_ 46 (dj 1 8 (z_ 43) (z_ 45)),A_ 47 3 7,S_ 1 47 46]
def WW:=R_ [A_ 48 1 3,L_ 49 48,N_ 50 6 7,o_ 51 (aL Oi 1 6 [(0,6,z_ 50)]),o_ 52 (dj 6 56 (z_ 49) (z_ 51)),A_ 53 1 3,S_ 1 53 52]
def WV:=R_ [V_ 36 6,D_ 37 36 1,V_ 6 37]
def NZ:CT:=lr [V_ 31 6,A_ 32 1 1,L_ 33 32,E_ 34 33,B_ 35 31 34] 35 2 3 (sr [A_ 38 1 1,L_ 39 38,V_ 40 6,J_ 41 6 39 40,N_ 42 6 41,o_ 7 (ay Oi 6),S_ 6 7 42] (sq WX WW)) WV
def WU:=R_ [N_ 54 2 3,S_ 2 2 54]
def A24:CF:=⟨[bS 2 2],sr [X_ 1 0,o_ 2 (ay [(.aI (.slice none 0 0)),(.aI (.slice none 0 0))] 2)] (sr [o_ 3 (ay [(.aI (.slice none 0 0)),(.aI (.slice none 0 0))] 2)] (sq (sr [I_ 4 0] (bl 0 N1)) (sq (sq afO (bl 2 NZ)) (rt WU)))),55⟩
theorem c24:cF 24=some A24:=by kernel_rfl
def A25:CF:=⟨[aB 2],sr [o_ 2 (c_ (.aI (.slice none 0 0)))] (ir [V_ 3 0,o_ 4 (d_ (j7 false .slice) 3 (.aI (.slice none 0 0)))] 4 (rr [o_ 2 (c_ (.aI (.slice none 0 0)))]) (rr [o_ 5 (aL z6_ 0 15 []),V_ 6 0,o_ 7 (dj 15 120 (z_ 5) (z_ 6)),V_ 2 7])),8⟩
theorem c25:cF 25=some A25:=by kernel_rfl
def j5:=R_ [A_ 32 0 3,L_ 33 32]
def j4:=R_ [K_ 35 33 1,V_ 34 35]
def MO:=R_ [V_ 36 7,V_ 4 36]
def kH:=R_ [K_ 38 33 2,V_ 37 38]
def Gm:=R_ [V_ 39 7,V_ 40 39,fR 40 41 6,fe 40 42 2 3,fu 40 43 42,fe 40 44 4 3,fu 40 45 44,gvP (z_ 40) true (bF 46) (z_ 41) [z_ 43,z_ 45],P_ 47 40 46,V_ 48 47,fe 48 49 8 3,fu 48 50 49,g_ 48 51 (di eP 50 (-1)),fR 48 52 51,fK 52 53 5,dF 52 54 8 3,dQ 52 55 54,gvP (z_ 52) false (bF 56) (z_ 53) [z_ 55],g_ 48 57 (q_ 52 56),P_ 58 48 57,V_ 59 58,fe 59 60 9 3,fu 59 61 60,g_ 59 62 (di eP 61 (-1)),fR 59 63 62,fK 63 64 5,dF 63 65 9 3,dQ 63 66 65,gvP (z_ 63) false (bF 67) (z_ 64) [z_ 66],g_ 59 68 (q_ 63 67),P_ 69 59 68,V_ 4 69]
def jn:=R_ [K_ 71 33 3,V_ 70 71]
def xY:=R_ [V_ 72 7,V_ 73 72,fR 73 74 8,P_ 75 73 74,V_ 4 75]
def kB:=R_ [K_ 77 33 4,V_ 76 77]
def CM:=R_ [V_ 78 5,A_ 79 1 3,L_ 80 79,vP (bF 81) (z_ 78) [z_ 80],V_ 82 81,fe 82 83 2 3,fu 82 84 83,g_ 82 85 (di kP 84 0),P_ 86 82 85,V_ 87 86,fe 87 88 2 3,fu 87 89 88,fe 87 90 1 2,fu 87 91 90,g_ 87 92 (b_ ia 89 91),P_ 93 87 92,V_ 94 93,fe 94 95 3 3,fu 94 96 95,g_ 94 97 (di kP 96 0),P_ 98 94 97,V_ 99 98,fe 99 100 3 3,fu 99 101 100,g_ 99 102 (di ia 101 16),P_ 103 99 102,V_ 4 103]
def ly:=R_ [K_ 105 33 5,V_ 104 105]
def CL:=R_ [V_ 106 5,A_ 107 1 3,L_ 108 107,vP (bF 109) (z_ 106) [z_ 108],V_ 110 109,fe 110 111 12 3,Qb 110 112 3 111,nO (z_ 110) true (bF 113) 47 [z_ 112],P_ 114 110 113,V_ 4 114]
def mn:=R_ [K_ 116 33 6,V_ 115 116]
def CJ:=R_ [V_ 117 5,A_ 118 1 3,L_ 119 118,vP (bF 120) (z_ 117) [z_ 119],V_ 121 120,fR 121 122 5,fe 121 123 2 3,fu 121 124 123,gvP (z_ 121) true (bF 125) (z_ 122) [z_ 124],P_ 126 121 125,V_ 127 126,fe 127 128 6 3,fu 127 129 128,g_ 127 130 (di kP 129 4),P_ 131 127 130,V_ 132 131,fe 132 133 6 3,fu 132 134 133,g_ 132 135 (di vc 134 21),P_ 136 132 135,V_ 137 136,fe 137 138 6 3,fu 137 139 138,g_ 137 140 (di ia 139 8),fR 137 141 140,fK 141 142 5,dF 141 143 3 3,dQ 141 144 143,gvP (z_ 141) false (bF 145) (z_ 142) [z_ 144],g_ 137 146 (q_ 141 145),P_ 147 137 146,V_ 148 147,fR 148 149 8,P_ 150 148 149,V_ 4 150]
def nG:=R_ [K_ 152 33 7,V_ 151 152]
def CH:=R_ [V_ 153 5,A_ 154 1 3,L_ 155 154,vP (bF 156) (z_ 153) [z_ 155],V_ 157 156,fR 157 158 8,P_ 159 157 158,V_ 4 159]
def oZ:=R_ [K_ 161 33 8,V_ 160 161]
def CG:=R_ [V_ 162 6,A_ 163 1 3,L_ 164 163,A_ 165 4 3,L_ 166 165,vP (bF 167) (z_ 162) [z_ 164,z_ 166],V_ 4 167]
def ra:=R_ [K_ 169 33 9,V_ 168 169]
def xX:=R_ [V_ 170 7,V_ 171 170,fR 171 172 6,fe 171 173 2 3,fu 171 174 173,fe 171 175 4 3,fu 171 176 175,gvP (z_ 171) true (bF 177) (z_ 172) [z_ 174,z_ 176],P_ 178 171 177,V_ 4 178]
def xW:=R_ [K_ 180 33 10,V_ 179 180]
def CE:=R_ [V_ 181 8,V_ 4 181]
def CC:=R_ [A_ 182 0 3,L_ 183 182,K_ 184 183 11,V_ 4 184]
def A26:CF:=⟨[aB 4],sr [X_ 2 0,X_ 3 1,F_ 4] (sr [o_ 9 (kG (.func 45) [] [z_ 2]),V_ 5 9] (sr [o_ 10 (kG (.func 46) [] [z_ 2]),V_ 6 10] (sr [A_ 11 1 3,L_ 12 11,o_ 13 (di kP 12 0),V_ 14 13,fe 14 15 1 3,fu 14 16 15,fe 14 17 1 2,fu 14 18 17,g_ 14 19 (b_ ia 16 18),P_ 20 14 19,V_ 7 20] (sr [A_ 21 5 3,L_ 22 21,o_ 23 (di kP 22 0),V_ 24 23,fe 24 25 5 3,fu 24 26 25,fe 24 27 2 2,fu 24 28 27,g_ 24 29 (u_ bu 28),g_ 24 30 (b_ vc 26 29),P_ 31 24 30,V_ 8 31] (sq (sq j5 (.block 0 (sq j4 (cd 34 (rt MO) (sq kH (cd 37 (rt Gm) (sq jn (cd 70 (rt xY) (sq kB (cd 76 (rt CM) (sq ly (cd 104 (rt CL) (sq mn (cd 115 (rt CJ) (sq nG (cd 151 (rt CH) (sq oZ (cd 160 (rt CG) (sq ra (cd 168 (rt xX) (sq xW (cd 179 (rt CE) .skip)))))))))))))))))))))) (rt CC)))))),185⟩
theorem c26:cF 26=some A26:=by kernel_rfl
def A27:CF:=⟨[bS 0 12],sr [o_ 0 (ay agw 12)] (rr [o_ 1 (aH agw 12 [(1,1,kf 48),(2,1,kf 49),(3,1,kf 50),(4,1,kf 51),(5,1,kf 52),(6,1,kf 53),(7,1,kf 54),(8,1,kf 55),(9,1,kf 56),(10,1,kf 57),(11,1,kf 58)]),S_ 12 0 1]),2⟩
theorem c27:cF 27=some A27:=by kernel_rfl
def A28:CF:=⟨[aB 2],sr [o_ 2 (c_ (.aI (.slice none 0 0)))] (ir [V_ 3 0,o_ 4 (d_ (j7 false .slice) 3 (.aI (.slice none 0 0)))] 4 (rr [o_ 2 (c_ (.aI (.slice none 0 0)))]) (rr [o_ 5 (aL dy 0 3 []),V_ 6 0,o_ 7 (dj 3 32 (z_ 5) (z_ 6)),V_ 2 7])),8⟩
theorem c28:cF 28=some A28:=by kernel_rfl
def WM:=R_ [F_ 2]
def afN:=R_ [A_ 22 0 1,A_ 23 0 22,L_ 24 23,E_ 25 24,I_ 26 0]
def afM:=R_ [F_ 2]
def afL:=R_ [V_ 39 5,E_ 40 39,I_ 41 0]
def WT:=R_ [F_ 2]
def WR:=R_ [D_ 50 41 1,V_ 41 50]
def NY:CT:=sr [B_ 42 41 40] (sq (cd 42 .skip (.exit 2)) (sq (.block 3 (sr [J_ 43 1 39 41,L_ 44 43,V_ 7 44] (sr [A_ 45 2 4,L_ 46 45,V_ 47 7,y_ 48 60 [z_ 46,z_ 47],H_ 49 48 0] (cd 49 (rt WT) .skip)))) WR))
def WQ:=R_ [V_ 51 5,y_ 52 61 [z_ 51,kf 62],o_ 53 (un 52),V_ 54 53,dF 54 55 0 1,zM 54 56 2 55,zM 54 57 4 4,fK 54 58 5,nO (z_ 54) false (bF 59) 63 [z_ 56,z_ 57,z_ 58],h_ 54 60 (di kL 59 0),Q_ 61 54 60]
def Jj:=R_ [F_ 2]
def WO:=R_ [D_ 62 26 1,V_ 26 62]
def Z2:CT:=sr [B_ 27 26 25] (sq (cd 27 .skip (.exit 0)) (sq (.block 1 (sr [V_ 28 26,J_ 29 4 24 26,N_ 30 4 29,o_ 4 (ay DU 4),V_ 3 28,S_ 4 4 30] (sr [A_ 31 2 1,L_ 32 31,V_ 33 3,J_ 34 1 32 33,L_ 35 34,V_ 5 35] (ir [V_ 36 5,E_ 37 36,o_ 38 (di jc 37 4096)] 38 (rt afM) (sq (sq afL (bl 2 NY)) (sq WQ (cd 61 (rt Jj) .skip))))))) WO))
def WN:=R_ [T_ 2]
def A29:CF:=⟨[aB 2],sr [X_ 1 0,F_ 2] (ir [A_ 8 0 1,N_ 9 2 8,y_ 10 59 [z_ 9],o_ 11 (un 10),V_ 12 11,dF 12 13 2 1,dQ 12 14 13,h_ 12 15 (u_ bu 14),dF 12 16 0 1,dF 12 17 0 16,dQ 12 18 17,h_ 12 19 (u_ bu 18),h_ 12 20 (b_ kL 15 19),Q_ 21 12 20] 21 (rt WM) (sq (sq afN (bl 0 Z2)) (rt WN))),63⟩
theorem c29:cF 29=some A29:=by kernel_rfl
def afK:=R_ [F_ 4]
def afJ:=R_ [I_ 5 0]
def afI:=R_ [F_ 4]
def afH:=R_ [V_ 15 5,D_ 16 15 1,V_ 5 16]
def Z1:CT:=lr [V_ 11 5,V_ 12 0,E_ 13 12,B_ 14 11 13] 14 0 1 (sq (.eM [17,18,19,20,21,22,23,24,25,26] [bc [0] 17 0 1,bc [5] 18 5 1,fC [17,18] 19 1 17 18 1,cf [19] 20 19 1,bc [1] 21 1 1,bc [5] 22 5 1,fC [21,22] 23 1 21 22 1,cf [23] 24 23 1,cI [20,24] (bF 25) 31 [z_ 20,z_ 24],i_ [25] 26 (un 25) 1]) (cd 26 (rt afI) .skip)) afH
def afG:=R_ [T_ 4]
def A30:CF:=⟨[aB 4],sr [F_ 4] (ir [V_ 6 0,E_ 7 6,V_ 8 1,E_ 9 8,o_ 10 (b_ kL 7 9)] 10 (rt afK) (sq (sq afJ (bl 0 Z1)) (rt afG))),27⟩
theorem c30:cF 30=some A30:=by kernel_rfl
def afF:=R_ [F_ 4]
def afE:=R_ [I_ 5 0]
def afD:=R_ [F_ 4]
def afC:=R_ [V_ 15 5,D_ 16 15 1,V_ 5 16]
def Z0:CT:=lr [V_ 11 5,V_ 12 0,E_ 13 12,B_ 14 11 13] 14 0 1 (sq (.eM [17,18,19,20,21,22,23,24,25] [bc [0] 17 0 1,bc [5] 18 5 1,fC [17,18] 19 3 17 18 1,gf [19] 20 3 19 1,bc [1] 21 1 1,bc [5] 22 5 1,fC [21,22] 23 3 21 22 1,gf [23] 24 3 23 1,i_ [20,24] 25 (b_ (kA true [.i,.i,.s]) 20 24) 1]) (cd 25 (rt afD) .skip)) afC
def afB:=R_ [T_ 4]
def A31:CF:=⟨[aB 4],sr [F_ 4] (ir [V_ 6 0,E_ 7 6,V_ 8 1,E_ 9 8,o_ 10 (b_ kL 7 9)] 10 (rt afF) (sq (sq afE (bl 0 Z0)) (rt afB))),26⟩
theorem c31:cF 31=some A31:=by kernel_rfl
def afA:=R_ [I_ 2 1]
def afz:=R_ [V_ 33 3,D_ 34 33 1,V_ 3 34]
def ZZ:CT:=lr [V_ 28 3,A_ 29 2 1,L_ 30 29,E_ 31 30,B_ 32 28 31] 32 0 1 (sq (.eM [35,36,37,38,39,40,41,42] [gf [1] 35 3 1 1,cj [1] 36 2 1 1,cf [36] 37 36 1,bc [3] 38 3 1,fC [37,38] 39 15 37 38 1,gf [39] 40 15 39 1,cI [35,40] (bF 41) 64 [z_ 35,z_ 40],i_ [41] 42 (un 41) 1]) (cd 42 (rt afA) .skip)) afz
def afy:=R_ [I_ 2 0]
def A32:CF:=⟨[aB 2],sr [X_ 1 0,I_ 2 0] (ir [A_ 4 0 1,L_ 5 4,o_ 6 (di ia 5 0),V_ 7 6,dF 7 8 0 1,dQ 7 9 8,h_ 7 10 (di jc 9 256),Q_ 11 7 10,V_ 12 11,dF 12 13 1 1,dQ 12 14 13,h_ 12 15 (di ia 14 0),Q_ 16 12 15,V_ 17 16,dF 17 18 1 1,dQ 17 19 18,h_ 17 20 (di jc 19 4),Q_ 21 17 20,V_ 22 21,dF 22 23 2 1,dQ 22 24 23,h_ 22 25 (u_ bu 24),h_ 22 26 (di jc 25 8192),Q_ 27 22 26] 27 (rr [I_ 2 1]) (sq (sr [I_ 3 0] (bl 0 ZZ)) (rt afy))),43⟩
theorem c32:cF 32=some A32:=by kernel_rfl
def afu:=R_ [V_ 11 4,D_ 12 11 1,V_ 4 12]
def ZX:CT:=lr [V_ 6 4,A_ 7 0 1,L_ 8 7,E_ 9 8,B_ 10 6 9] 10 0 1 (R_ [V_ 13 3,A_ 14 0 1,L_ 15 14,V_ 16 4,J_ 17 4 15 16,A_ 18 3 17,L_ 19 18,o_ 20 (aL [.int .u32 0] 1 1 [(0,1,z_ 19)]),o_ 21 (dj 1 4 (z_ 13) (z_ 20)),V_ 3 21]) afu
def afs:=R_ [I_ 5 0]
def afr:=R_ [V_ 27 5,D_ 28 27 1,V_ 5 28]
def ZW:CT:=lr [V_ 22 5,A_ 23 1 1,L_ 24 23,E_ 25 24,B_ 26 22 25] 26 2 3 (R_ [V_ 29 3,A_ 30 1 1,L_ 31 30,V_ 32 5,J_ 33 6 31 32,A_ 34 5 33,L_ 35 34,o_ 36 (aL [.int .u32 0] 1 1 [(0,1,z_ 35)]),o_ 37 (dj 1 4 (z_ 29) (z_ 36)),V_ 3 37]) afr
def WH:=R_ [V_ 38 3,V_ 2 38]
def A35:CF:=⟨[aB 2],sr [X_ 1 0,o_ 2 (c_ (.aI (.slice none 0 0)))] (sr [o_ 3 (c_ (.aI (.slice none 0 0)))] (sq (sr [I_ 4 0] (bl 0 ZX)) (sq (sq afs (bl 2 ZW)) (rt WH)))),39⟩
theorem c35:cF 35=some A35:=by kernel_rfl
def afq:=R_ [F_ 2]
def afp:=R_ [V_ 28 3,D_ 29 28 1,V_ 3 29]
def ZV:CT:=lr [V_ 24 3,V_ 25 0,o_ 26 (u_ fb 25),B_ 27 24 26] 27 0 1 (sr [V_ 30 0,V_ 31 3,o_ 32 (b_ lK 30 31),o_ 33 (d_ kP 32 (.int .u8 97)),V_ 34 33,fR 34 35 0,fR 34 36 3,g_ 34 37 (b_ lK 35 36),g_ 34 38 (d_ vc 37 (.int .u8 122)),P_ 39 34 38,V_ 4 39] (sr [V_ 40 0,V_ 41 3,o_ 42 (b_ lK 40 41),o_ 43 (d_ kP 42 (.int .u8 48)),V_ 44 43,fR 44 45 0,fR 44 46 3,g_ 44 47 (b_ lK 45 46),g_ 44 48 (d_ vc 47 (.int .u8 57)),P_ 49 44 48,V_ 5 49] (sr [V_ 50 4,o_ 51 (un 50),V_ 52 51,fR 52 53 5,g_ 52 54 (un 53),P_ 55 52 54,V_ 56 55,fR 56 57 0,fR 56 58 3,g_ 56 59 (b_ lK 57 58),g_ 56 60 (d_ kL 59 (.int .u8 95)),P_ 61 56 60] (cd 61 (rt afq) .skip)))) afp
def WG:=R_ [T_ 2]
def A36:CF:=⟨[aB 2],sr [F_ 2] (ir [V_ 6 0,o_ 7 (u_ fb 6),o_ 8 (di ia 7 1),V_ 9 8,fK 9 10 0,h_ 9 11 (u_ fb 10),h_ 9 12 (di jc 11 24),Q_ 13 9 12,V_ 14 13,fK 14 15 0,h_ 14 16 (di lK 15 0),h_ 14 17 (d_ ia 16 (.int .u8 97)),Q_ 18 14 17,V_ 19 18,fK 19 20 0,h_ 19 21 (di lK 20 0),h_ 19 22 (d_ jc 21 (.int .u8 122)),Q_ 23 19 22] 23 (rr [F_ 2]) (sq (sr [I_ 3 1] (bl 0 ZV)) (rt WG))),62⟩
theorem c36:cF 36=some A36:=by kernel_rfl
def V':=R_ [F_ 2]
def afo:=R_ [V_ 44 3,D_ 45 44 1,V_ 5 45]
def WE:=R_ [F_ 2]
def WC:=R_ [V_ 50 5,D_ 51 50 1,V_ 5 51]
def NX:CT:=lr [V_ 46 5,V_ 47 0,E_ 48 47,B_ 49 46 48] 49 2 3 (sq (.eM [52,53,54,55,56,57,58,59,60,61,62] [bc [0] 52 0 1,bc [5] 53 5 1,fC [52,53] 54 3 52 53 1,cj [54] 55 0 54 1,cf [55] 56 55 1,bc [0] 57 0 1,bc [3] 58 3 1,fC [57,58] 59 3 57 58 1,cj [59] 60 0 59 1,cf [60] 61 60 1,i_ [56,61] 62 (b_ eP 56 61) 1]) (cd 62 (rt WE) .skip)) WC
def WB:=R_ [V_ 18 3,D_ 19 18 1,V_ 3 19]
def ZU:CT:=lr [V_ 14 3,V_ 15 0,E_ 16 15,B_ 17 14 16] 17 0 1 (sr [V_ 20 0,V_ 21 3,J_ 22 3 20 21,A_ 23 1 22,L_ 24 23,V_ 4 24] (ir [V_ 25 0,V_ 26 3,J_ 27 3 25 26,A_ 28 0 27,L_ 29 28,y_ 30 36 [z_ 29],o_ 31 (un 30),V_ 32 31,fK 32 33 4,h_ 32 34 (di kL 33 1),fK 32 35 34,fR 35 36 4,g_ 35 37 (di kL 36 2),h_ 32 38 (p_ 35 37),fK 32 39 38,fR 39 40 4,g_ 39 41 (di kL 40 3),h_ 32 42 (p_ 39 41),Q_ 43 32 42] 43 (rt V') (sq afo (bl 2 NX)))) WB
def WA:=R_ [T_ 2]
def A37:CF:=⟨[aB 2],sr [F_ 2] (ir [V_ 6 0,E_ 7 6,o_ 8 (di ia 7 1),V_ 9 8,fK 9 10 0,h_ 9 11 (u_ bu 10),h_ 9 12 (di jc 11 16),Q_ 13 9 12] 13 (rr [F_ 2]) (sq (sr [I_ 3 0] (bl 0 ZU)) (rt WA))),63⟩
theorem c37:cF 37=some A37:=by kernel_rfl
def NW:CT:=lr [V_ 7 6,A_ 8 0 2,L_ 9 8,E_ 10 9,B_ 11 7 10] 11 0 1 (sr [A_ 14 0 2,L_ 15 14,V_ 16 6,J_ 17 4 15 16,A_ 18 0 17,L_ 19 18,V_ 20 1,o_ 21 (b_ eP 19 20)] (cd 21 (rr [A_ 22 0 2,L_ 23 22,V_ 24 6,J_ 25 4 23 24,N_ 26 4 25,S_ 4 4 26,T_ 5]) .skip)) (R_ [V_ 12 6,D_ 13 12 1,V_ 6 13])
def afn:=R_ [o_ 27 (aH DU 4 []),S_ 4 4 27,F_ 5]
def A38:CF:=⟨[bS 4 4,aB 5],sr [X_ 2 0,o_ 4 (ay DU 4),F_ 5] (sq (sr [I_ 6 0] (bl 0 NW)) (rt afn)),28⟩
theorem c38:cF 38=some A38:=by kernel_rfl
def afm:=R_ [F_ 4]
def afl:=R_ [V_ 29 6,D_ 30 29 1,V_ 6 30]
def NV:CT:=lr [V_ 26 6,V_ 27 5,B_ 28 26 27] 28 2 3 (sq (.eM [31,32,33,34,35,36,37,38,39] [bc [1] 31 1 1,bc [6] 32 6 1,fC [31,32] 33 1 31 32 1,cf [33] 34 33 1,bc [1] 35 1 1,bc [5] 36 5 1,fC [35,36] 37 1 35 36 1,cf [37] 38 37 1,i_ [34,38] 39 (b_ eP 34 38) 1]) (cd 39 (rt afm) .skip)) afl
def V9:=R_ [V_ 11 5,D_ 12 11 1,V_ 5 12]
def Aq:CT:=lr [V_ 7 5,V_ 8 1,E_ 9 8,B_ 10 7 9] 10 0 1 (ir [V_ 13 1,V_ 14 5,J_ 15 1 13 14,L_ 16 15,o_ 17 (di ia 16 0),V_ 18 17,fK 18 19 1,fK 18 20 5,h_ 18 21 (b_ (dG 1) 19 20),dQ 18 22 21,fK 18 23 0,h_ 18 24 (b_ kP 22 23),Q_ 25 18 24] 25 (rr [F_ 4]) (sr [I_ 6 0] (bl 2 NV))) V9
def IY:=R_ [V_ 40 1,E_ 41 40,o_ 42 (di jc 41 0),V_ 43 42,fR 43 44 1,g_ 43 45 (u_ bu 44),g_ 43 46 (di ia 45 17),P_ 47 43 46,V_ 4 47]
def A39:CF:=⟨[aB 4],sr [F_ 4] (sq (sr [I_ 5 0] (bl 0 Aq)) (rt IY)),48⟩
theorem c39:cF 39=some A39:=by kernel_rfl
def A40:CF:=⟨[aB 4],sr [I_ 4 0] (ir [V_ 5 0,K_ 6 5 0] 6 (rr [V_ 7 1,V_ 4 7]) (ir [V_ 8 1,K_ 9 8 0] 9 (rr [V_ 10 0,V_ 4 10]) (rr [V_ 11 0,V_ 12 1,o_ 13 (qU uL [z_ 11,z_ 12]),V_ 4 13]))),14⟩
theorem c40:cF 40=some A40:=by kernel_rfl
def V6:=R_ [V_ 21 8,H_ 22 21 0]
def afk:=R_ [V_ 23 8,V_ 6 23]
def afj:=R_ [N_ 24 2 3,A_ 25 0 4,L_ 26 25,y_ 27 42 [z_ 24,z_ 26],V_ 9 27]
def afi:=R_ [I_ 10 0]
def V5:=R_ [V_ 44 13,H_ 45 44 0]
def afh:=R_ [V_ 46 13,V_ 6 46]
def V8:=R_ [V_ 32 10,D_ 33 32 1,V_ 10 33]
def ZT:CT:=lr [V_ 28 10,V_ 29 9,E_ 30 29,B_ 31 28 30] 31 0 1 (sr [V_ 35 9,V_ 36 10,J_ 37 6 35 36,N_ 38 6 37,V_ 39 2,y_ 40 43 [z_ 38,z_ 39],V_ 34 40,W_ 41 0 34,W_ 42 1 34,W_ 43 2 34,V_ 11 41,V_ 12 42,V_ 13 43] (sq V5 (cd 45 (rt afh) .skip))) V8
def V7:=R_ [I_ 6 0]
def A41:CF:=⟨[aB 6],sr [X_ 3 0,X_ 4 1,I_ 6 0] (sr [A_ 15 2 4,L_ 16 15,V_ 17 2,y_ 18 71 [z_ 16,z_ 17],V_ 14 18,W_ 19 0 14,W_ 20 1 14,V_ 7 19,V_ 8 20] (iq V6 22 (rt afk) (sq afj (sq (sq afi (bl 0 ZT)) (rt V7))))),47⟩
theorem c41:cF 41=some A41:=by kernel_rfl
def V4:=R_ [V_ 12 6,D_ 13 12 1,V_ 6 13]
def NU:CT:=lr [V_ 7 6,A_ 8 1 2,L_ 9 8,E_ 10 9,B_ 11 7 10] 11 0 1 (sr [A_ 14 1 2,L_ 15 14,V_ 16 6,J_ 17 6 15 16,A_ 18 1 17,L_ 19 18,V_ 20 1,o_ 21 (b_ eP 19 20)] (cd 21 (R_ [V_ 22 5,A_ 23 1 2,L_ 24 23,V_ 25 6,J_ 26 6 24 25,N_ 27 6 26,o_ 28 (aL Oi 1 6 [(0,6,z_ 27)]),o_ 29 (dj 6 56 (z_ 22) (z_ 28)),V_ 5 29]) .skip)) V4
def afg:=R_ [V_ 30 5,V_ 4 30]
def A42:CF:=⟨[aB 4],sr [X_ 2 0,o_ 4 (c_ (.aI (.slice none 0 0)))] (sr [o_ 5 (c_ (.aI (.slice none 0 0)))] (sq (sr [I_ 6 0] (bl 0 NU)) (rt afg))),31⟩
theorem c42:cF 42=some A42:=by kernel_rfl
def V2:=R_ [V_ 32 8,V_ 33 32,dF 33 34 0 10,dQ 33 35 34,h_ 33 36 (di eP 35 0),Q_ 37 33 36,V_ 8 37]
def V1:=R_ [V_ 18 9,D_ 19 18 1,V_ 9 19]
def ZS:CT:=lr [V_ 13 9,A_ 14 3 2,L_ 15 14,E_ 16 15,B_ 17 13 16] 17 0 1 (sr [V_ 20 1,A_ 21 3 2,L_ 22 21,V_ 23 9,J_ 24 1 22 23,L_ 25 24,J_ 26 3 20 25,N_ 27 3 26,o_ 10 (ay dy 3),S_ 3 10 27] (sr [V_ 28 7,N_ 29 3 10,o_ 30 (aL dy 1 3 [(0,3,z_ 29)]),o_ 31 (dj 3 32 (z_ 28) (z_ 30)),V_ 7 31] V2)) V1
def aff:=R_ [V_ 39 7,y_ 40 72 [z_ 39],V_ 38 40,W_ 41 0 38,W_ 42 1 38,V_ 11 41,V_ 12 42]
def V3:=R_ [V_ 43 11,V_ 44 8,V_ 45 12,V_ 4 43,V_ 5 44,V_ 6 45]
def A43:CF:=⟨[aB 4,aB 5,aB 6],sr [X_ 2 0,o_ 4 (c_ (.str [])),F_ 5,I_ 6 0] (sr [o_ 7 (c_ (.aI (.slice none 0 0)))] (sr [F_ 8] (sq (sr [I_ 9 0] (bl 0 ZS)) (sq aff (rt V3))))),46⟩
theorem c43:cF 43=some A43:=by kernel_rfl
def uC:=R_ [V_ 13 5,V_ 14 6,B_ 15 13 14]
def V0:=R_ [o_ 4 (c_ (.int .i64 (-1)))]
def xP:=R_ [V_ 16 5,V_ 17 6,o_ 18 (b_ jc 16 17)]
def VZ:=R_ [I_ 4 1]
def Ao:=R_ [A_ 19 0 2,L_ 20 19,K_ 21 20 2]
def VY:=R_ [A_ 22 2 2,L_ 23 22,A_ 24 2 3,L_ 25 24,y_ 26 74 [z_ 23,z_ 25],V_ 4 26]
def Gl:=R_ [A_ 27 1 2,L_ 28 27,A_ 29 1 3,L_ 30 29,B_ 31 28 30]
def VX:=R_ [o_ 4 (c_ (.int .i64 (-1)))]
def Cc:=R_ [A_ 32 1 2,L_ 33 32,A_ 34 1 3,L_ 35 34,o_ 36 (b_ jc 33 35)]
def IX:=R_ [I_ 4 1]
def IW:=R_ [I_ 4 0]
def A44:CF:=⟨[aB 4],sr [X_ 2 0,X_ 3 1,I_ 4 0] (sq (.eM [7,8,9,10,11,12] [cj [2] 7 0 2 1,cf [7] 8 7 1,cI [8] (bF 9) 73 [z_ 8],cj [3] 10 0 3 2,cf [10] 11 10 2,cI [11] (bF 12) 73 [z_ 11],bc [9] 5 9 1,bc [12] 6 12 1]) (iq uC 15 (rt V0) (iq xP 18 (rt VZ) (iq Ao 21 (rt VY) (iq Gl 31 (rt VX) (iq Cc 36 (rt IX) (rt IW))))))),37⟩
theorem c44:cF 44=some A44:=by kernel_rfl
def A45:CF:=⟨[aB 3],sr [F_ 3] (rr [V_ 4 0,o_ 5 (di kP 4 0),V_ 6 5,fR 6 7 0,fe 6 8 0 1,fu 6 9 8,g_ 6 10 (b_ ia 7 9),P_ 11 6 10,V_ 3 11]),12⟩
theorem c45:cF 45=some A45:=by kernel_rfl
def A46:CF:=⟨[aB 5],sr [F_ 5] (rr [V_ 6 1,o_ 7 (di kP 6 0),V_ 8 7,fR 8 9 1,g_ 8 10 (di vc 9 16),P_ 11 8 10,V_ 12 11,fR 12 13 0,g_ 12 14 (di kP 13 0),P_ 15 12 14,V_ 16 15,fR 16 17 0,fe 16 18 0 2,fu 16 19 18,fR 16 20 1,g_ 16 21 (b_ yG 19 20),g_ 16 22 (b_ vc 17 21),P_ 23 16 22,V_ 5 23]),24⟩
theorem c46:cF 46=some A46:=by kernel_rfl
def A47:CF:=⟨[aB 2],sr [X_ 1 0,F_ 2] (sq (sr [A_ 3 0 1,L_ 4 3] (.block 0 (sr [K_ 6 4 0,V_ 5 6] (cd 5 (rr [N_ 7 3 1,o_ 8 (aH dy 3 []),o_ 9 (b_ (kA false [.i,.i,.s]) 7 8),V_ 2 9]) (sr [K_ 11 4 1,V_ 10 11] (cd 10 (rr [A_ 12 2 1,L_ 13 12,o_ 14 (d_ eP 13 (.str [])),V_ 2 14]) (sr [K_ 16 4 2,V_ 15 16] (cd 15 (rr [A_ 17 1 1,L_ 18 17,K_ 19 18 0,V_ 20 19,fe 20 21 2 1,fu 20 22 21,g_ 20 23 (u_ fb 22),g_ 20 24 (di vc 23 64),P_ 25 20 24,V_ 2 25]) (sr [K_ 27 4 3,V_ 26 27] (cd 26 (rr [A_ 28 2 1,L_ 29 28,o_ 30 (d_ eP 29 (.str [])),V_ 31 30,fe 31 32 1 1,fu 31 33 32,g_ 31 34 (di eP 33 0),fR 31 35 34,dF 35 36 1 1,dQ 35 37 36,h_ 35 38 (di eP 37 1),g_ 31 39 (q_ 35 38),P_ 40 31 39,V_ 2 40]) .skip)))))))))) (rr [F_ 2])),41⟩
theorem c47:cF 47=some A47:=by kernel_rfl
def afe:=R_ [V_ 18 7,K_ 19 18 0]
def afd:CT:=.eM [20,21,22,23,24,25,26,27,28] [bc [0] 20 0 1,i_ [20] 21 (aV (z_ 20)) 1,cj [21] 22 6 21 1,cf [22] 23 22 1,cj [3] 24 1 3 1,cf [24] 25 24 1,bc [6] 26 6 1,i_ [26] 27 (aH z9_ 5 [(0,1,z_ 26)]) 1,fC [23,25] 28 5 23 25 1,j_ [28,27] (s_ 5 28 27)]
def afc:=R_ [V_ 29 7,o_ 4 (c_ (.int .i64 (-1))),V_ 5 29]
def A48:CF:=⟨[aB 4,aB 5],sr [X_ 3 1,I_ 4 0,I_ 5 0] (sq (.eM [9,10,11,12,13,14,15,8,16,17] [bc [0] 9 0 1,i_ [9] 10 (aV (z_ 9)) 1,cj [10] 11 3 10 1,cf [11] 12 11 1,cj [3] 13 7 3 1,cf [13] 14 13 1,vI [12,14] (bF 15) (wG pG "Scan" (z_ 12)) [z_ 14],bc [15] 8 15 1,i_ [8] 16 (u_ (fG 0) 8) 1,i_ [8] 17 (u_ (fG 1) 8) 1,bc [16] 6 16 1,bc [17] 7 17 1]) (iq afe 19 afd (rt afc))),30⟩
theorem c48:cF 48=some A48:=by kernel_rfl
def MI:=R_ [A_ 27 8 3,L_ 28 27,o_ 29 (di kP 28 0)]
def VW:CT:=.eM [30,31,32,33,34,35,36,37,38,39] [cj [6] 38 1 6 1,j_ [38] (cH 1 (z_ 38) (aK (.bool true))),bc [0] 30 0 2,i_ [30] 31 (aV (z_ 30)) 2,cj [31] 32 5 31 2,cf [32] 33 32 2,cj [3] 34 8 3 2,cf [34] 35 34 2,fC [33,35] 36 3 33 35 2,gf [36] 37 3 36 2,cj [6] 39 2 6 1,j_ [39,37] (s_ 3 39 37)]
def Gk:=R_ [A_ 40 9 3,L_ 41 40,o_ 42 (di kP 41 0)]
def MH:CT:=.eM [43,44,45,46,47,48,49,50,51,52] [cj [6] 51 6 6 1,j_ [51] (cH 1 (z_ 51) (aK (.bool true))),bc [0] 43 0 2,i_ [43] 44 (aV (z_ 43)) 2,cj [44] 45 5 44 2,cf [45] 46 45 2,cj [3] 47 9 3 2,cf [47] 48 47 2,fC [46,48] 49 3 46 48 2,gf [49] 50 3 49 2,cj [6] 52 7 6 1,j_ [52,50] (s_ 3 52 50)]
def Gj:CT:=.eM [54,55,56,57,58,59,60,61,53,62,63] [bc [0] 54 0 1,i_ [54] 55 (aV (z_ 54)) 1,cj [55] 56 3 55 1,cf [56] 57 56 1,cj [3] 58 7 3 1,cf [58] 59 58 1,gf [6] 60 11 6 1,vI [57,59,60] (bF 61) (wG pG "Seek" (z_ 57)) [z_ 59,z_ 60],bc [61] 53 61 1,i_ [53] 62 (u_ (fG 0) 53) 1,i_ [53] 63 (u_ (fG 1) 53) 1,bc [62] 7 62 1,bc [63] 8 63 1]
def Gi:=R_ [V_ 64 8,K_ 65 64 0]
def Gh:CT:=.eM [66,67,68,69,70,71,72,73,74] [bc [0] 66 0 1,i_ [66] 67 (aV (z_ 66)) 1,cj [67] 68 6 67 1,cf [68] 69 68 1,cj [3] 70 1 3 1,cf [70] 71 70 1,bc [7] 72 7 1,i_ [72] 73 (aH z9_ 5 [(0,1,z_ 72)]) 1,fC [69,71] 74 5 69 71 1,j_ [74,73] (s_ 5 74 73)]
def Gg:=R_ [V_ 75 8,o_ 4 (c_ (.int .i64 (-1))),V_ 5 75]
def A49:CF:=⟨[aB 4,aB 5],sr [X_ 3 1,I_ 4 0,I_ 5 0] (sq (.eM [9,10,11,12,13,14,15,16,17,18,19,20,21,22,23,24,25,26,6] [bc [0] 9 0 1,i_ [9] 10 (aV (z_ 9)) 1,cj [10] 11 5 10 1,cf [11] 12 11 1,cj [3] 13 2 3 1,cf [13] 14 13 1,cj [3] 15 2 3 1,cf [15] 16 15 1,cj [3] 17 4 3 1,cf [17] 18 17 1,i_ [16,18] 19 (b_ sD 16 18) 1,i_ [12,14,19] 20 (Bz (mf 3) (z_ 12) (some (z_ 14)) (some (z_ 19)) none) 1,cI [20] (bF 21) 28 [z_ 20],cj [3] 22 10 3 2,cf [22] 23 22 2,cj [3] 24 11 3 2,cf [24] 25 24 2,i_ [21,23,25] 26 (aH z8_ 11 [(0,1,z_ 21),(5,1,z_ 23),(10,1,z_ 25)]) 1,i_ [] 6 (ay z8_ 11) 2,j_ [6,26] (s_ 11 6 26)]) (iq MI 29 VW (iq Gk 42 MH (sq Gj (iq Gi 65 Gh (rt Gg)))))),76⟩
theorem c49:cF 49=some A49:=by kernel_rfl
def VP:=R_ [V_ 18 6,o_ 19 (aV (z_ 18)),A_ 20 0 19,L_ 21 20,o_ 22 (d_ (j7 false .k7) 21 (.aI .nilIface))]
def ae':=R_ [A_ 23 5 3,L_ 24 23,V_ 4 24,I_ 5 0]
def ae_:=R_ [V_ 26 6,o_ 27 (aV (z_ 26)),A_ 28 0 27,L_ 29 28,vP (bF 30) (wG pG "Next" (z_ 29)) [],V_ 25 30,W_ 31 0 25,W_ 32 1 25,W_ 33 2 25,W_ 34 3 25,o_ 8 (ay Oj 2),V_ 7 31,S_ 2 8 32,V_ 9 33,V_ 10 34]
def VO:=R_ [V_ 35 10,H_ 36 35 0]
def VN:CT:=.eM [38,39,40,41,42,43,44,45,46,47,48,49] [bc [6] 38 6 1,bc [7] 41 7 1,i_ [38] 44 (aV (z_ 38)) 1,cj [44] 45 1 44 1,j_ [45,41] (s_ 1 45 41),bc [6] 39 6 2,gf [8] 42 2 8 2,i_ [39] 46 (aV (z_ 39)) 1,cj [46] 47 2 46 1,j_ [47,42] (s_ 2 47 42),bc [6] 40 6 3,bc [9] 43 9 3,i_ [40] 48 (aV (z_ 40)) 1,cj [48] 49 4 48 1,j_ [49,43] (s_ 1 49 43)]
def VM:=R_ [V_ 50 9,o_ 51 (un 50)]
def ae9:=R_ [V_ 52 6,o_ 53 (aV (z_ 52)),A_ 54 1 53,oP rF (cH 1 (z_ 54) (aK (.aI (.slice none 0 0))))]
def VS:=R_ [A_ 55 5 3,L_ 56 55,V_ 4 56,I_ 5 0]
def VQ:=R_ [o_ 4 (c_ (.int .i64 (-1))),I_ 5 0]
def A50:CF:=⟨[aB 4,aB 5],sr [X_ 3 1,I_ 4 0,I_ 5 0] (sq (.eM [11,12,13,14,15,16,17] [bc [0] 11 0 1,i_ [11] 12 (aV (z_ 11)) 1,cj [12] 13 6 12 1,cf [13] 14 13 1,cj [3] 15 1 3 1,cf [15] 16 15 1,fC [14,16] 17 5 14 16 1,bc [17] 6 17 1]) (iq VP 22 (rt ae') (sq ae_ (iq VO 36 (rr [V_ 37 10,o_ 4 (c_ (.int .i64 (-1))),V_ 5 37]) (sq VN (iq VM 51 (sq ae9 (rt VS)) (rt VQ))))))),57⟩
theorem c50:cF 50=some A50:=by kernel_rfl
def MG:=R_ [A_ 16 3 3,L_ 17 16,A_ 18 1 7,L_ 19 18,E_ 20 19,B_ 21 17 20]
def ae8:=R_ [A_ 22 1 7,L_ 23 22,A_ 24 3 3,L_ 25 24,J_ 26 3 23 25,N_ 27 3 26,S_ 3 6 27]
def MF:CT:=.eM [28,29,30,31,32,33,34,35] [bc [0] 28 0 1,i_ [28] 29 (aV (z_ 28)) 1,cj [29] 30 5 29 1,cf [30] 31 30 1,cj [3] 32 1 3 1,cf [32] 33 32 1,gf [6] 34 3 6 1,fC [31,33] 35 3 31 33 1,j_ [35,34] (s_ 3 35 34)]
def ME:=R_ [o_ 4 (c_ (.int .i64 (-1))),I_ 5 0]
def A51:CF:=⟨[aB 4,aB 5],sr [X_ 3 1,I_ 4 0,I_ 5 0] (sr [o_ 6 (ay dy 3)] (sq (sq (.eM [8,9,10,11,12,13,14,15,7] [bc [0] 8 0 1,i_ [8] 9 (aV (z_ 8)) 1,cj [9] 10 6 9 1,cf [10] 11 10 1,cj [3] 12 2 3 1,cf [12] 13 12 1,fC [11,13] 14 5 11 13 1,gf [14] 15 5 14 1,i_ [] 7 (ay z9_ 5) 1,j_ [7,15] (s_ 5 7 15)]) (sq MG (cd 21 ae8 .skip))) (sq MF (rt ME)))),36⟩
theorem c51:cF 51=some A51:=by kernel_rfl
def ae7:=R_ [o_ 4 (c_ (.int .i64 (-1))),I_ 5 0]
def A52:CF:=⟨[aB 4,aB 5],sr [X_ 3 1,I_ 4 0,I_ 5 0] (sq (.eM [6,7,8,9,10,11,12,13,14] [bc [0] 6 0 1,i_ [6] 7 (aV (z_ 6)) 1,cj [7] 8 5 7 1,cf [8] 9 8 1,cj [3] 10 1 3 1,cf [10] 11 10 1,cj [3] 12 12 3 1,gf [12] 13 3 12 1,fC [9,11] 14 3 9 11 1,j_ [14,13] (s_ 3 14 13)]) (rt ae7)),15⟩
theorem c52:cF 52=some A52:=by kernel_rfl
def VL:=R_ [A_ 22 6 3,L_ 23 22,o_ 24 (di kP 23 8)]
def ae6:CT:=.eM [25,26,27,28,29,30,31,32,33,34,35,36,37,38] [cj [6] 25 7 6 1,cf [25] 26 25 1,bc [0] 27 0 1,i_ [27] 28 (aV (z_ 27)) 1,cj [28] 29 5 28 1,cf [29] 30 29 1,cj [3] 31 3 3 1,cf [31] 32 31 1,fC [30,32] 33 3 30 32 1,gf [33] 34 3 33 1,i_ [34] 35 (aH Kx 8 [(0,1,kI 1),(1,3,z_ 34)]) 1,i_ [35] 36 (aL Kx 1 8 [(0,8,z_ 35)]) 1,mI [26,36] (bF 37) (dj 8 104 (z_ 26) (z_ 36)),cj [6] 38 7 6 1,j_ [38,37] (s_ 1 38 37)]
def VK:=R_ [N_ 40 8 6,y_ 41 75 [z_ 40,(aK (.aI (.slice none 0 0)))],V_ 39 41,W_ 42 0 39,W_ 43 1 39,o_ 7 (ay dy 3),S_ 3 7 42,V_ 8 43]
def VJ:=R_ [V_ 44 8,H_ 45 44 0]
def VI:=R_ [V_ 46 0,V_ 47 8,y_ 48 76 [z_ 46,z_ 47]]
def VH:=R_ [A_ 49 5 3,L_ 50 49,V_ 4 50,I_ 5 0]
def VG:CT:=.eM [51,52,53,54,55,56,57,58] [bc [0] 51 0 1,i_ [51] 52 (aV (z_ 51)) 1,cj [52] 53 5 52 1,cf [53] 54 53 1,cj [3] 55 1 3 1,cf [55] 56 55 1,gf [7] 57 3 7 1,fC [54,56] 58 3 54 56 1,j_ [58,57] (s_ 3 58 57)]
def VF:=R_ [o_ 4 (c_ (.int .i64 (-1))),I_ 5 0]
def A53:CF:=⟨[aB 4,aB 5],sr [X_ 3 1,I_ 4 0,I_ 5 0] (sq (.eM [9,10,11,12,13,14,15,16,17,18,19,20,21,6] [cj [3] 9 6 3 1,cf [9] 10 9 1,bc [0] 11 0 1,i_ [11] 12 (aV (z_ 11)) 1,cj [12] 13 5 12 1,cf [13] 14 13 1,cj [3] 15 2 3 1,cf [15] 16 15 1,fC [14,16] 17 3 14 16 1,gf [17] 18 3 17 1,i_ [18] 19 (aH Kx 8 [(0,1,kI 1),(1,3,z_ 18)]) 1,i_ [19] 20 (aL Kx 1 8 [(0,8,z_ 19)]) 1,i_ [10,20] 21 (aH Kx 8 [(0,1,z_ 10),(7,1,z_ 20)]) 1,i_ [] 6 (ay Kx 8) 1,j_ [6,21] (s_ 8 6 21)]) (iq VL 24 ae6 (sq VK (iq VJ 45 (sq VI (rt VH)) (sq VG (rt VF)))))),59⟩
theorem c53:cF 53=some A53:=by kernel_rfl
def ae5:=R_ [A_ 15 0 6,L_ 16 15]
def ae4:=R_ [K_ 18 16 3,V_ 17 18]
def VE:=R_ [A_ 19 1 6,L_ 20 19,K_ 21 20 1]
def ae3:=R_ [o_ 4 (c_ (.int .i64 (-1))),I_ 5 0]
def MD:=R_ [K_ 23 16 1,V_ 22 23]
def VD:=R_ [K_ 24 16 2,V_ 22 24]
def VB:=R_ [V_ 25 0,y_ 26 76 [z_ 25,kI 30]]
def F9:=R_ [A_ 27 5 3,L_ 28 27,V_ 4 28,I_ 5 0]
def A54:CF:=⟨[aB 4,aB 5],sr [X_ 3 1,I_ 4 0,I_ 5 0] (sq (sq (.eM [7,8,9,10,11,12,13,14,6] [bc [0] 7 0 1,i_ [7] 8 (aV (z_ 7)) 1,cj [8] 9 5 8 1,cf [9] 10 9 1,cj [3] 11 1 3 1,cf [11] 12 11 1,fC [10,12] 13 3 10 12 1,gf [13] 14 3 13 1,i_ [] 6 (ay dy 3) 1,j_ [6,14] (s_ 3 6 14)]) (sq ae5 (.block 0 (sq ae4 (cd 17 (sq VE (cd 21 (rt ae3) .skip)) (sq (sq MD (cd 22 .skip VD)) (cd 22 VB .skip))))))) (rt F9)),29⟩
theorem c54:cF 54=some A54:=by kernel_rfl
def ae2:CT:=.eM [8,9,10,11,12,13,14,15,16,17,18,19,20,21,22,23,24,25,26,27,28,29] [bc [0] 13 0 1,i_ [13] 14 (aV (z_ 13)) 1,cj [14] 15 5 14 1,cf [15] 16 15 1,cj [3] 17 1 3 1,cf [17] 18 17 1,cj [3] 19 1 3 1,cf [19] 20 19 1,cj [3] 21 4 3 1,cf [21] 22 21 1,i_ [20,22] 23 (b_ sD 20 22) 1,i_ [16,18,23] 24 (Bz (mf 3) (z_ 16) (some (z_ 18)) (some (z_ 23)) none) 1,cI [24] (bF 25) 28 [z_ 24],bc [0] 9 0 2,i_ [9] 10 (aV (z_ 9)) 2,cj [10] 11 11 10 2,cf [11] 12 11 2,i_ [25] 26 (aL GU 1 1 [(0,1,z_ 25)]) 1,mI [12,26] (bF 27) (dj 1 24 (z_ 12) (z_ 26)),bc [0] 8 0 3,i_ [8] 28 (aV (z_ 8)) 1,cj [28] 29 11 28 1,j_ [29,27] (s_ 1 29 27)]
def VA:=R_ [o_ 4 (c_ (.int .i64 (-1))),I_ 5 0]
def A55:CF:=⟨[aB 4,aB 5],sr [X_ 3 1,I_ 4 0,I_ 5 0] (ir [V_ 6 0,y_ 7 77 [z_ 6]] 7 ae2 (rt VA)),30⟩
theorem c55:cF 55=some A55:=by kernel_rfl
def Vz:=R_ [A_ 15 4 6,L_ 16 15,V_ 17 16,fR 17 18 0,nO (z_ 17) true (bF 19) 77 [z_ 18],P_ 20 17 19]
def ae1:CT:=.eM [21,22,23,24,25,26,27,28,29,30,31,32,33,34,35,36,37,38,39,40,41,42,43,44,45] [bc [0] 28 0 1,i_ [28] 29 (aV (z_ 28)) 1,cj [29] 30 5 29 1,cf [30] 31 30 1,cj [3] 32 2 3 1,cf [32] 33 32 1,cj [3] 34 2 3 1,cf [34] 35 34 1,cj [3] 36 4 3 1,cf [36] 37 36 1,i_ [35,37] 38 (b_ sD 35 37) 1,i_ [31,33,38] 39 (Bz (mf 3) (z_ 31) (some (z_ 33)) (some (z_ 38)) none) 1,cI [39] (bF 40) 28 [z_ 39],bc [0] 22 0 2,i_ [22] 23 (aV (z_ 22)) 2,cj [23] 24 12 23 2,cf [24] 25 24 2,cj [6] 26 2 6 2,gf [26] 27 2 26 2,i_ [27,40] 41 (aH DV 3 [(0,2,z_ 27),(2,1,z_ 40)]) 1,i_ [41] 42 (aL DV 1 3 [(0,3,z_ 41)]) 1,mI [25,42] (bF 43) (dj 3 40 (z_ 25) (z_ 42)),bc [0] 21 0 3,i_ [21] 44 (aV (z_ 21)) 1,cj [44] 45 12 44 1,j_ [45,43] (s_ 1 45 43)]
def MC:=R_ [o_ 4 (c_ (.int .i64 (-1))),I_ 5 0]
def A56:CF:=⟨[aB 4,aB 5],sr [X_ 3 1,I_ 4 0,I_ 5 0] (sq (sq (.eM [7,8,9,10,11,12,13,14,6] [bc [0] 7 0 1,i_ [7] 8 (aV (z_ 7)) 1,cj [8] 9 6 8 1,cf [9] 10 9 1,cj [3] 11 1 3 1,cf [11] 12 11 1,fC [10,12] 13 5 10 12 1,gf [13] 14 5 13 1,i_ [] 6 (ay z9_ 5) 1,j_ [6,14] (s_ 5 6 14)]) (sq Vz (cd 20 ae1 .skip))) (rt MC)),46⟩
theorem c56:cF 56=some A56:=by kernel_rfl
def A57:CF:=⟨[aB 4,aB 5],sr [X_ 3 1,I_ 4 0,I_ 5 0] (rr [A_ 6 5 3,L_ 7 6,V_ 4 7,I_ 5 0]),8⟩
theorem c57:cF 57=some A57:=by kernel_rfl
def A58:CF:=⟨[aB 4,aB 5],sr [X_ 3 1,I_ 4 0,I_ 5 0] (sr [V_ 6 0,o_ 7 (aV (z_ 6)),A_ 8 8 7,oP rF (cH 1 (z_ 8) (aK (.bool true)))] (rr [o_ 4 (c_ (.int .i64 (-1))),I_ 5 0])),9⟩
theorem c58:cF 58=some A58:=by kernel_rfl
def ae0:=R_ [V_ 4 25]
def F8:=R_ [L_ 26 3,V_ 27 4,o_ 28 (jf .i (.int .i64 0) false (z_ 26) (z_ 27)),D_ 29 28 1,oP rF (um .i (z_ 26) (z_ 27) (z_ 29))]
def F7:=R_ [V_ 30 4,o_ 31 (d_ eP 30 (.int .u32 0)),V_ 32 31,dQ 32 33 3,fK 32 34 4,h_ 32 35 (jf .i (.int .i64 0) false (z_ 33) (z_ 34)),h_ 32 36 (di jc 35 1),Q_ 37 32 36]
def F6:=R_ [oP rF (cH 1 (z_ 2) (aK (.bool false)))]
def Ak:Code×Code:=aly pG 59 0
theorem agz:fF pG 120 true Ak.1=ae0:=by kernel_rfl
theorem agy:fF pG 120 true Ak.2=(.block 1 (sq F8 (sq F7 (cd 37 (sq F6 .ret) .skip)))):=by kernel_rfl
def aeZ:=R_ [o_ 5 (c_ (.int .u32 0))]
def Vy:=R_ [A_ 38 0 1,L_ 39 38,E_ 40 39,I_ 41 0]
def IV:=R_ [A_ 46 0 7,L_ 47 46,V_ 48 5,o_ 49 (b_ vc 47 48),V_ 50 49,dF 50 51 1 7,dQ 50 52 51,nO (z_ 50) false (bF 53) 79 [z_ 52],h_ 50 54 (un 53),Q_ 55 50 54,V_ 56 55,dF 56 57 2 7,dQ 56 58 57,nO (z_ 56) false (bF 59) 80 [z_ 58],h_ 56 60 (un 59),Q_ 61 56 60,V_ 62 61,dF 62 63 0 1,dQ 62 64 63,fK 62 65 6,h_ 62 66 (Bz (mf 4) (z_ 64) none (some (z_ 65)) none),h_ 62 67 (kG (.func 82) [] [z_ 7]),nO (z_ 62) false (bF 68) 81 [z_ 66,z_ 67],Q_ 69 62 68]
def xO:=R_ [oP rF (cH 1 (z_ 2) (aK (.bool false)))]
def Vx:=R_ [A_ 70 0 7,L_ 71 70,V_ 5 71]
def Vw:=R_ [D_ 72 41 1,V_ 41 72]
def NT:CT:=sr [B_ 42 41 40] (sq (cd 42 .skip (.exit 2)) (sq (.block 3 (sr [V_ 43 41,J_ 44 4 39 41,N_ 45 4 44,o_ 7 (ay DU 4),V_ 6 43,S_ 4 7 45] (iq IV 69 (rt xO) Vx))) Vw))
def Vv:=R_ [o_ 5 (c_ (.int .u32 0))]
def Vu:=R_ [A_ 73 1 1,L_ 74 73,E_ 75 74,I_ 76 0]
def Vt:=R_ [N_ 82 2 1,A_ 83 1 9,L_ 84 83,y_ 85 83 [z_ 82,z_ 84],V_ 81 85,W_ 86 0 81,W_ 87 1 81,o_ 10 (ay DU 4),S_ 4 10 86,V_ 11 87]
def IU:=R_ [A_ 88 0 9,L_ 89 88,V_ 90 5,o_ 91 (b_ vc 89 90),V_ 92 91,dF 92 93 2 9,dQ 92 94 93,nO (z_ 92) false (bF 95) 79 [z_ 94],h_ 92 96 (un 95),Q_ 97 92 96,V_ 98 97,fK 98 99 11,h_ 98 100 (un 99),Q_ 101 98 100,V_ 102 101,zM 102 103 4 10,dF 102 104 3 9,dQ 102 105 104,nO (z_ 102) false (bF 106) 84 [z_ 103,z_ 105],h_ 102 107 (un 106),Q_ 108 102 107,V_ 109 108,dF 109 110 1 1,dQ 109 111 110,fK 109 112 8,h_ 109 113 (Bz (mf 6) (z_ 111) none (some (z_ 112)) none),h_ 109 114 (kG (.func 86) [] [z_ 9]),nO (z_ 109) false (bF 115) 85 [z_ 113,z_ 114],Q_ 116 109 115]
def tI:=R_ [oP rF (cH 1 (z_ 2) (aK (.bool false)))]
def Vs:=R_ [A_ 117 0 9,L_ 118 117,V_ 5 118]
def Vr:=R_ [D_ 119 76 1,V_ 76 119]
def NS:CT:=sr [B_ 77 76 75] (sq (cd 77 .skip (.exit 4)) (sq (.block 5 (sr [V_ 78 76,J_ 79 6 74 76,N_ 80 6 79,o_ 9 (ay Oi 6),V_ 8 78,S_ 6 9 80] (sq Vt (iq IU 116 (rt tI) Vs)))) Vr))
def Vq:=R_ [oP rF (cH 1 (z_ 2) (aK (.bool true)))]
def A59:CF:=⟨[Q3 2],sr [X_ 1 0,o_ 2 (ay [.bool false] 1)] (ir [A_ 12 0 1,L_ 13 12,E_ 14 13,o_ 15 (di jc 14 32),V_ 16 15,dF 16 17 1 1,dQ 16 18 17,h_ 16 19 (u_ bu 18),h_ 16 20 (di jc 19 64),Q_ 21 16 20] 21 (rr [oP rF (cH 1 (z_ 2) (aK (.bool false)))]) (sr [o_ 22 (lh),o_ 3 (ay [(.aI (.map none))] 1),S_ 1 3 22] (sq (sr [N_ 23 2 1,y_ 24 78 [z_ 23]] (.block 0 (.range 120 (z_ 24) [25] Ak.1 Ak.2))) (sq aeZ (sq (sq Vy (bl 2 NT)) (sq Vv (sq (sq Vu (bl 4 NS)) (rt Vq)))))))),120⟩
theorem c59:cF 59=some A59:=by kernel_rfl
def Vn:=R_ [I_ 4 1]
def aeY:=R_ [V_ 17 1,E_ 18 17,I_ 19 0]
def aeX:=R_ [I_ 4 5]
def aeW:CT:=.eM [29,30,31,32,33,34,35,36,37,38,39,40,41] [cj [6] 29 0 6 1,cf [29] 30 29 1,i_ [30] 31 (di kL 30 0) 1,bc [31] 32 31 1,gI [32,6] 32 33 (a_ 0 6) 1,gI [32,33] 32 34 (l_ 33) 1,gI [32,0] 32 35 (v_ 0) 1,gI [32,5] 32 36 (v_ 5) 1,gI [32,35,36] 32 37 (b_ (dG 3) 35 36) 1,gI [32,37] 32 38 (a_ 1 37) 1,gI [32,38] 32 39 (l_ 38) 1,gI [32,34,39] 32 40 (b_ kL 34 39) 1,i_ [32,40] 41 (p_ 32 40) 1,bc [41] 28 41 1]
def aeV:=R_ [I_ 4 30]
def Cb:=R_ [A_ 43 0 6,L_ 44 43,K_ 45 44 0,V_ 46 45,fR 46 47 0,fR 46 48 5,g_ 46 49 (b_ (dG 3) 47 48),fe 46 50 2 49,fu 46 51 50,P_ 52 46 51,V_ 42 52]
def Vp:=R_ [I_ 4 50]
def IQ:=R_ [D_ 53 19 1,V_ 19 53]
def ZR:CT:=sr [B_ 20 19 18] (sq (cd 20 .skip (.exit 0)) (sq (.block 1 (sr [V_ 21 19,J_ 22 3 17 19,N_ 23 3 22,o_ 6 (ay dy 3),V_ 5 21,S_ 3 6 23] (.block 2 (sr [N_ 25 3 6,y_ 26 47 [z_ 25],o_ 27 (un 26),V_ 24 27] (cd 24 (rt aeX) (sq aeW (cd 28 (rt aeV) (sq Cb (cd 42 (rt Vp) .skip))))))))) IQ))
def Vo:=R_ [I_ 4 0]
def A60:CF:=⟨[aB 4],sr [I_ 4 0] (ir [V_ 7 0,y_ 8 80 [z_ 7],o_ 9 (un 8),V_ 10 9,fK 10 11 1,h_ 10 12 (u_ bu 11),fK 10 13 0,h_ 10 14 (u_ bu 13),h_ 10 15 (b_ kL 12 14),Q_ 16 10 15] 16 (rt Vn) (sq (sq aeY (bl 0 ZR)) (rt Vo))),54⟩
theorem c60:cF 60=some A60:=by kernel_rfl
def aeU:=R_ [F_ 4]
def aeT:=R_ [V_ 11 5,o_ 12 (di yG 11 1),V_ 5 12]
def ZQ:CT:=lr [V_ 9 5,o_ 10 (di jc 9 0)] 10 0 1 (sq (.eM [13,14,15,16,17,18,19,20,21,22,23,24] [bc [1] 13 1 1,bc [0] 14 0 1,bc [5] 15 5 1,fC [14,15] 16 1 14 15 1,cf [16] 17 16 1,bc [0] 18 0 1,bc [5] 19 5 1,i_ [19] 20 (di yG 19 1) 1,fC [18,20] 21 1 18 20 1,cf [21] 22 21 1,vI [13,17,22] (bF 23) (z_ 13) [z_ 17,z_ 22],i_ [23] 24 (di ia 23 0) 1]) (cd 24 (rt aeU) .skip)) aeT
def aeS:=R_ [T_ 4]
def A61:CF:=⟨[aB 4],sr [F_ 4] (sq (sr [V_ 6 0,E_ 7 6,o_ 8 (di yG 7 1),V_ 5 8] (bl 0 ZQ)) (rt aeS)),25⟩
theorem c61:cF 61=some A61:=by kernel_rfl
def F5:=R_ [V_ 28 7,H_ 29 28 0]
def Vk:=R_ [I_ 6 0]
def Vj:=R_ [V_ 30 0,V_ 31 5,J_ 32 3 30 31,N_ 33 3 32,y_ 34 47 [z_ 33]]
def aeR:=R_ [o_ 6 (c_ (.int .i64 (-1)))]
def aeQ:=R_ [V_ 35 1,V_ 36 5,J_ 37 3 35 36,N_ 38 3 37,y_ 39 47 [z_ 38]]
def Vm:=R_ [I_ 6 1]
def tH:=R_ [V_ 40 6,H_ 41 40 0]
def BX:=R_ [V_ 42 6,V_ 4 42]
def IP:=R_ [D_ 43 13 1,V_ 13 43]
def ZP:CT:=sr [B_ 14 13 12] (sq (cd 14 .skip (.exit 0)) (sq (.block 1 (sr [V_ 15 13,V_ 5 15] (sq (.eM [17,18,19,20,21,22,23,24,25,16,26,27] [bc [0] 17 0 1,bc [5] 18 5 1,fC [17,18] 19 3 17 18 1,gf [19] 20 3 19 1,bc [1] 21 1 1,bc [5] 22 5 1,fC [21,22] 23 3 21 22 1,gf [23] 24 3 23 1,cI [20,24] (bF 25) 87 [z_ 20,z_ 24],bc [25] 16 25 1,i_ [16] 26 (u_ (fG 0) 16) 1,i_ [16] 27 (u_ (fG 1) 16) 1,bc [26] 6 26 1,bc [27] 7 27 1]) (iq F5 29 (sq Vk (sq Vj (cd 34 aeR (sq aeQ (cd 39 Vm .skip))))) (sq tH (cd 41 (rt BX) .skip)))))) IP))
def Vl:=R_ [V_ 44 0,E_ 45 44,V_ 46 1,E_ 47 46,o_ 48 (b_ yG 45 47),V_ 4 48]
def A62:CF:=⟨[aB 4],sr [I_ 4 0] (sq (sr [V_ 8 0,E_ 9 8,V_ 10 1,E_ 11 10,o_ 12 (qU uL [z_ 9,z_ 11]),I_ 13 0] (bl 0 ZP)) (rt Vl)),49⟩
theorem c62:cF 62=some A62:=by kernel_rfl
def aeP:=R_ [V_ 21 2,E_ 22 21,I_ 23 0]
def aeO:=R_ [V_ 34 7,V_ 35 11,vP (bF 36) (z_ 34) [z_ 35]]
def aeN:=R_ [N_ 37 2 3,A_ 38 0 4,L_ 39 38,y_ 40 90 [z_ 37,z_ 39],E_ 41 40,I_ 42 0]
def Vi:=R_ [V_ 55 7,V_ 56 16,vP (bF 57) (z_ 55) [z_ 56]]
def IM:=R_ [D_ 58 42 1,V_ 42 58]
def Gw:CT:=sr [B_ 43 42 41] (sq (cd 43 .skip (.exit 2)) (sq (.block 3 (sr [J_ 44 6 40 42,N_ 45 6 44,o_ 13 (ay Oi 6),S_ 6 13 45] (sr [V_ 46 11,K_ 47 46 0] (cd 47 (sr [N_ 49 6 13,V_ 50 9,y_ 51 91 [z_ 49,z_ 50],V_ 48 51,W_ 52 0 48,W_ 53 1 48,W_ 54 2 48,V_ 14 52,V_ 15 53,V_ 16 54] Vi) .skip)))) IM))
def Vh:=R_ [D_ 59 23 1,V_ 23 59]
def ZO:CT:=sr [B_ 24 23 22] (sq (cd 24 .skip (.exit 0)) (sq (.block 1 (sr [J_ 25 1 21 23,L_ 26 25,V_ 9 26] (sr [A_ 28 2 4,L_ 29 28,V_ 30 9,y_ 31 89 [z_ 29,z_ 30],V_ 27 31,W_ 32 0 27,W_ 33 1 27,V_ 10 32,V_ 11 33] (sq aeO (sq aeN (bl 2 Gw)))))) Vh))
def Vg:=R_ [V_ 60 7,vP (bF 61) (z_ 60) [kI 0],V_ 17 61]
def IL:=R_ [V_ 62 17,H_ 63 62 0]
def Vf:=R_ [V_ 64 17,V_ 6 64]
def Ve:=R_ [N_ 65 2 3,A_ 66 0 4,L_ 67 66,y_ 68 90 [z_ 65,z_ 67],E_ 69 68,I_ 70 0]
def Vd:=R_ [I_ 6 160]
def IK:=R_ [D_ 81 70 1,V_ 70 81]
def NR:CT:=sr [B_ 71 70 69] (sq (cd 71 .skip (.exit 4)) (sq (.block 5 (sr [J_ 72 6 68 70,N_ 73 6 72,o_ 19 (ay Oi 6),S_ 6 19 73] (sr [A_ 74 4 19,L_ 75 74,V_ 76 75,Qb 76 77 6 19,fR 76 78 2,nO (z_ 76) true (bF 79) 92 [z_ 77,z_ 78],P_ 80 76 79] (cd 80 (rt Vd) .skip)))) IK))
def Vb:=R_ [I_ 6 0]
def A63:CF:=⟨[aB 6],sr [X_ 3 0,X_ 4 1,I_ 6 0] (sr [y_ 20 88 [],V_ 7 20] (sq (sq aeP (bl 0 ZO)) (sq (sq Vg (sq IL (cd 63 (rt Vf) .skip))) (sq (sq Ve (bl 4 NR)) (rt Vb))))),82⟩
theorem c63:cF 63=some A63:=by kernel_rfl
def IJ:=R_ [N_ 128 3 2,A_ 129 1 3,L_ 130 129,y_ 131 95 [z_ 128,z_ 130],V_ 132 131,Qb 132 133 3 2,fe 132 134 2 3,fu 132 135 134,nO (z_ 132) true (bF 136) 95 [z_ 133,z_ 135],P_ 137 132 136,V_ 138 137,fR 138 139 6,fR 138 140 139,fK 140 141 5,fK 140 142 141,Qb 142 143 3 2,fe 142 144 3 3,fu 142 145 144,nO (z_ 142) true (bF 146) 95 [z_ 143,z_ 145],h_ 140 147 (p_ 142 146),g_ 138 148 (q_ 140 147),P_ 149 138 148,V_ 150 149,Qb 150 151 3 2,fe 150 152 5 3,fu 150 153 152,nO (z_ 150) true (bF 154) 96 [z_ 151,z_ 153],P_ 155 150 154,V_ 4 155]
def A64:CF:=⟨[aB 4],sr [X_ 2 0,X_ 3 1,F_ 4] (ir [A_ 7 0 3,L_ 8 7,K_ 9 8 1] 9 (rr [N_ 10 3 2,A_ 11 1 3,L_ 12 11,y_ 13 93 [z_ 10,z_ 12],V_ 4 13]) (ir [A_ 14 0 3,L_ 15 14,K_ 16 15 2] 16 (rr [N_ 17 3 2,A_ 18 1 3,L_ 19 18,y_ 20 93 [z_ 17,z_ 19],V_ 21 20,Qb 21 22 3 2,fe 21 23 2 3,fu 21 24 23,fe 21 25 4 3,fu 21 26 25,nO (z_ 21) true (bF 27) 94 [z_ 22,z_ 24,z_ 26],P_ 28 21 27,V_ 29 28,fe 29 30 8 3,fu 29 31 30,g_ 29 32 (di eP 31 (-1)),fR 29 33 32,zM 33 34 3 2,dF 33 35 8 3,dQ 33 36 35,nO (z_ 33) false (bF 37) 95 [z_ 34,z_ 36],g_ 29 38 (q_ 33 37),P_ 39 29 38,V_ 40 39,fe 40 41 9 3,fu 40 42 41,g_ 40 43 (di eP 42 (-1)),fR 40 44 43,zM 44 45 3 2,dF 44 46 9 3,dQ 44 47 46,nO (z_ 44) false (bF 48) 95 [z_ 45,z_ 47],g_ 40 49 (q_ 44 48),P_ 50 40 49,V_ 4 50]) (ir [A_ 51 0 3,L_ 52 51,K_ 53 52 3] 53 (rr [N_ 54 3 2,A_ 55 1 3,L_ 56 55,y_ 57 93 [z_ 54,z_ 56],V_ 58 57,Qb 58 59 3 2,fe 58 60 5 3,fu 58 61 60,nO (z_ 58) true (bF 62) 96 [z_ 59,z_ 61],P_ 63 58 62,V_ 4 63]) (ir [A_ 64 0 3,L_ 65 64,K_ 66 65 4] 66 (rr [N_ 67 3 2,A_ 68 1 3,L_ 69 68,y_ 70 95 [z_ 67,z_ 69],V_ 71 70,Qb 71 72 3 2,fe 71 73 2 3,fu 71 74 73,nO (z_ 71) true (bF 75) 93 [z_ 72,z_ 74],P_ 76 71 75,V_ 77 76,fe 77 78 3 3,fu 77 79 78,g_ 77 80 (di kP 79 0),P_ 81 77 80,V_ 82 81,fe 82 83 3 3,fu 82 84 83,g_ 82 85 (di ia 84 16),P_ 86 82 85,V_ 4 86]) (ir [A_ 87 0 3,L_ 88 87,K_ 89 88 5] 89 (rr [N_ 90 3 2,A_ 91 1 3,L_ 92 91,y_ 93 95 [z_ 90,z_ 92],V_ 94 93,fe 94 95 12 3,Qb 94 96 3 95,nO (z_ 94) true (bF 97) 97 [z_ 96],P_ 98 94 97,V_ 4 98]) (ir [A_ 99 0 3,L_ 100 99,K_ 101 100 6] 101 (sr [A_ 102 6 3,L_ 103 102,o_ 104 (di kP 103 8),V_ 105 104,fe 105 106 6 3,fu 105 107 106,g_ 105 108 (di vc 107 21),P_ 109 105 108,V_ 5 109] (sr [A_ 110 6 3,L_ 111 110,K_ 112 111 4,V_ 113 112,dF 113 114 6 3,dQ 113 115 114,h_ 113 116 (di eP 115 5),Q_ 117 113 116,V_ 118 117,dF 118 119 6 3,dQ 118 120 119,h_ 118 121 (di eP 120 6),Q_ 122 118 121,V_ 123 122,dF 123 124 6 3,dQ 123 125 124,h_ 123 126 (di eP 125 7),Q_ 127 123 126,V_ 6 127] (rt IJ))) (ir [A_ 156 0 3,L_ 157 156,K_ 158 157 7] 158 (rr [N_ 159 3 2,A_ 160 1 3,L_ 161 160,y_ 162 95 [z_ 159,z_ 161],V_ 163 162,Qb 163 164 3 2,fe 163 165 5 3,fu 163 166 165,nO (z_ 163) true (bF 167) 96 [z_ 164,z_ 166],P_ 168 163 167,V_ 4 168]) (ir [A_ 169 0 3,L_ 170 169,K_ 171 170 8] 171 (rr [N_ 172 3 2,A_ 173 1 3,L_ 174 173,A_ 175 4 3,L_ 176 175,y_ 177 94 [z_ 172,z_ 174,z_ 176],V_ 4 177]) (ir [A_ 178 0 3,L_ 179 178,K_ 180 179 9] 180 (rr [N_ 181 3 2,A_ 182 1 3,L_ 183 182,y_ 184 93 [z_ 181,z_ 183],V_ 185 184,Qb 185 186 3 2,fe 185 187 2 3,fu 185 188 187,fe 185 189 4 3,fu 185 190 189,nO (z_ 185) true (bF 191) 94 [z_ 186,z_ 188,z_ 190],P_ 192 185 191,V_ 4 192]) (ir [A_ 193 0 3,L_ 194 193,K_ 195 194 10] 195 (rr [N_ 196 3 2,A_ 197 5 3,L_ 198 197,y_ 199 96 [z_ 196,z_ 198],V_ 4 199]) (rr [A_ 200 0 3,L_ 201 200,K_ 202 201 11,V_ 4 202]))))))))))),203⟩
theorem c64:cF 64=some A64:=by kernel_rfl
def US:=R_ [V_ 13 6,H_ 14 13 0]
def aew:=R_ [V_ 15 6,o_ 4 (c_ (.str [])),V_ 5 15]
def aev:=R_ [V_ 16 1,E_ 17 16,D_ 18 17 7,o_ 19 (di (ct .quo) 18 8),o_ 20 (uo mX 1 1 (z_ 19) (z_ 19)),V_ 7 20]
def aeu:=R_ [I_ 8 0]
def UR:=R_ [V_ 25 8,D_ 26 25 1,V_ 8 26]
def Gv:CT:=lr [V_ 21 8,V_ 22 1,E_ 23 22,B_ 24 21 23] 24 0 1 (sr [V_ 27 1,V_ 28 8,J_ 29 3 27 28,A_ 30 0 29,L_ 31 30,K_ 32 31 0] (cd 32 (.eM [33,34,35,36,37,38,39,40,41,42,43,44,45] [bc [7] 33 7 1,bc [8] 34 8 1,i_ [34] 35 (di (ct .quo) 34 8) 1,bc [7] 36 7 1,bc [8] 37 8 1,i_ [37] 38 (di (ct .quo) 37 8) 1,fC [36,38] 39 1 36 38 1,cf [39] 40 39 1,bc [8] 41 8 1,i_ [41] 42 (di (ct .rem) 41 8) 1,i_ [42] 43 (e2 (ct .shl) (aK (.int .u8 1)) (z_ 42)) 1,i_ [40,43] 44 (b_ sD 40 43) 1,fC [33,35] 45 1 33 35 1,j_ [45,44] (s_ 1 45 44)]) .skip)) UR
def UW:=R_ [I_ 9 0]
def ID:=R_ [V_ 50 9,D_ 51 50 1,V_ 9 51]
def Gu:CT:=lr [V_ 46 9,V_ 47 1,E_ 48 47,B_ 49 46 48] 49 2 3 (sr [V_ 52 1,V_ 53 9,J_ 54 3 52 53,A_ 55 0 54,L_ 56 55,H_ 57 56 0] (cd 57 (R_ [V_ 58 7,V_ 59 1,V_ 60 9,J_ 61 3 59 60,N_ 62 3 61,y_ 63 104 [z_ 62],o_ 64 (dj 1 1 (z_ 58) (z_ 63)),V_ 7 64]) .skip)) ID
def IC:=R_ [V_ 65 7,E_ 66 65,o_ 67 (di jc 66 160)]
def UU:=R_ [o_ 4 (c_ (.str [])),I_ 5 51]
def UT:=R_ [V_ 68 7,o_ 69 (s6 (z_ 68)),V_ 4 69,I_ 5 0]
def A71:CF:=⟨[aB 4,aB 5],sr [o_ 4 (c_ (.str [])),I_ 5 0] (sr [V_ 10 0,V_ 11 1,y_ 12 103 [z_ 10,z_ 11],V_ 6 12] (iq US 14 (rt aew) (sq aev (sq (sq aeu (bl 0 Gv)) (sq (sq UW (bl 2 Gu)) (iq IC 67 (rt UU) (rt UT))))))),70⟩
theorem c71:cF 71=some A71:=by kernel_rfl
def aet:=R_ [o_ 2 (c_ (.str [])),I_ 3 5]
def aes:=R_ [V_ 21 4,V_ 22 0,V_ 23 5,J_ 24 3 22 23,N_ 25 3 24,y_ 26 105 [z_ 25],o_ 27 (b_ sD 21 26),V_ 4 27]
def aer:=R_ [V_ 13 5,D_ 14 13 1,V_ 5 14]
def NP:CT:=lr [V_ 9 5,V_ 10 0,E_ 11 10,B_ 12 9 11] 12 0 1 (ir [V_ 15 0,V_ 16 5,J_ 17 3 15 16,N_ 18 3 17,y_ 19 97 [z_ 18],o_ 20 (un 19)] 20 (rt aet) aes) aer
def IB:=R_ [V_ 28 4,o_ 29 (u_ fb 28),o_ 30 (di jc 29 140)]
def UQ:=R_ [o_ 2 (c_ (.str [])),I_ 3 51]
def UO:=R_ [V_ 31 4,V_ 2 31,I_ 3 0]
def A72:CF:=⟨[aB 2,aB 3],sr [o_ 2 (c_ (.str [])),I_ 3 0] (ir [V_ 6 0,E_ 7 6,o_ 8 (di jc 7 16)] 8 (rr [o_ 2 (c_ (.str [])),I_ 3 1]) (sr [o_ 4 (c_ (.str []))] (sq (sr [I_ 5 0] (bl 0 NP)) (iq IB 30 (rt UQ) (rt UO))))),32⟩
theorem c72:cF 72=some A72:=by kernel_rfl
def A73:CF:=⟨[aB 2],sr [I_ 2 0] (ir [V_ 3 0,K_ 4 3 0] 4 (rr [I_ 2 0]) (ir [V_ 5 0,K_ 6 5 3] 6 (rr [I_ 2 1]) (ir [V_ 7 0,K_ 8 7 1] 8 (rr [I_ 2 2]) (rr [I_ 2 3])))),9⟩
theorem c73:cF 73=some A73:=by kernel_rfl
def aeq:=R_ [o_ 4 (c_ (.int .i64 (-1)))]
def aep:CT:=.eM [25,26,27,28,29,30,31] [bc [0] 25 0 1,bc [5] 26 5 1,i_ [25,26] 27 (b_ lK 25 26) 1,bc [1] 28 1 1,bc [5] 29 5 1,i_ [28,29] 30 (b_ lK 28 29) 1,i_ [27,30] 31 (b_ jc 27 30) 1]
def aeo:=R_ [I_ 4 1]
def aen:=R_ [V_ 16 5,D_ 17 16 1,V_ 5 17]
def Gs:CT:=lr [V_ 6 5,V_ 7 0,o_ 8 (u_ fb 7),B_ 9 6 8,V_ 10 9,fR 10 11 5,fR 10 12 1,g_ 10 13 (u_ fb 12),g_ 10 14 (b_ ia 11 13),P_ 15 10 14] 15 0 1 (iq (.eM [18,19,20,21,22,23,24] [bc [0] 18 0 1,bc [5] 19 5 1,i_ [18,19] 20 (b_ lK 18 19) 1,bc [1] 21 1 1,bc [5] 22 5 1,i_ [21,22] 23 (b_ lK 21 22) 1,i_ [20,23] 24 (b_ ia 20 23) 1]) 24 (rt aeq) (sq aep (cd 31 (rt aeo) .skip))) aen
def MA:=R_ [V_ 32 0,o_ 33 (u_ fb 32),V_ 34 1,o_ 35 (u_ fb 34),B_ 36 33 35]
def aem:=R_ [o_ 4 (c_ (.int .i64 (-1)))]
def IA:=R_ [V_ 37 0,o_ 38 (u_ fb 37),V_ 39 1,o_ 40 (u_ fb 39),o_ 41 (b_ jc 38 40)]
def UN:=R_ [I_ 4 1]
def UL:=R_ [I_ 4 0]
def A74:CF:=⟨[aB 4],sr [I_ 4 0] (sq (sr [I_ 5 0] (bl 0 Gs)) (iq MA 36 (rt aem) (iq IA 41 (rt UN) (rt UL)))),42⟩
theorem c74:cF 74=some A74:=by kernel_rfl
def ael:=R_ [o_ 11 (aH dy 3 []),S_ 3 4 11,I_ 5 1]
def aek:=R_ [V_ 12 1,y_ 13 107 [z_ 12],o_ 14 (un 13)]
def aej:=R_ [N_ 16 8 2,V_ 17 1,y_ 18 108 [z_ 16,z_ 17],W_ 19 0 18,W_ 20 1 18,S_ 3 4 19,V_ 5 20]
def A75:CF:=⟨[bS 4 3,aB 5],sr [X_ 2 0,o_ 4 (ay dy 3),I_ 5 0] (ir [N_ 6 8 2,V_ 7 1,E_ 8 7,y_ 9 106 [z_ 6,z_ 8],o_ 10 (un 9)] 10 (rt ael) (iq aek 14 (rr [o_ 15 (aH dy 3 []),S_ 3 4 15,I_ 5 5]) (rt aej))),21⟩
theorem c75:cF 75=some A75:=by kernel_rfl
def A76:CF:=⟨[],sr [V_ 4 0,o_ 5 (aV (z_ 4)),A_ 6 10 5,L_ 7 6,K_ 8 7 0,V_ 9 8,fK 9 10 1,fK 9 11 0,h_ 9 12 (aV (z_ 11)),dF 9 13 10 12,dQ 9 14 13,h_ 9 15 (b_ ia 10 14),Q_ 16 9 15] (cd 16 (R_ [V_ 17 0,V_ 18 1,o_ 19 (aV (z_ 17)),A_ 20 10 19,S_ 1 20 18]) .skip),21⟩
theorem c76:cF 76=some A76:=by kernel_rfl
def aei:=R_ [T_ 2]
def aeh:=R_ [V_ 15 0,V_ 16 0,o_ 17 (aV (z_ 15)),A_ 18 9 17,oP rF (cH 1 (z_ 18) (aK (.bool true))),o_ 19 (aV (z_ 16)),A_ 20 8 19,oP rF (cH 1 (z_ 20) (aK (.bool true)))]
def aeg:=R_ [F_ 2]
def A77:CF:=⟨[aB 2],sr [F_ 2] (iq (.eM [3,4,5,6,7,8,9,10,11,12,13,14] [bc [0] 3 0 1,i_ [3] 4 (aV (z_ 3)) 1,cj [4] 5 11 4 1,cf [5] 6 5 1,i_ [6] 7 (u_ bu 6) 1,bc [0] 8 0 1,i_ [8] 9 (aV (z_ 8)) 1,cj [9] 10 12 9 1,cf [10] 11 10 1,i_ [11] 12 (u_ bu 11) 1,i_ [7,12] 13 (b_ sD 7 12) 1,i_ [13] 14 (di ia 13 4096) 1]) 14 (rt aei) (sq aeh (rt aeg))),21⟩
theorem c77:cF 77=some A77:=by kernel_rfl
def A78:CF:=⟨[aB 2],sr [X_ 1 0,o_ 2 (c_ (.aI .nilFunc))] (rr [o_ 3 (kG (.func 109) [] [z_ 1]),V_ 2 3]),4⟩
theorem c78:cF 78=some A78:=by kernel_rfl
def UK:=R_ [F_ 2]
def aef:=R_ [V_ 12 0,o_ 13 (u_ fb 12),I_ 14 0]
def aee:=R_ [V_ 28 3,o_ 29 (di jc 28 0),V_ 30 29,fR 30 31 4,g_ 30 32 (d_ kP 31 (.int .u8 48)),fR 30 33 32,fR 33 34 4,g_ 33 35 (d_ vc 34 (.int .u8 57)),g_ 30 36 (p_ 33 35),fR 30 37 36,fK 37 38 4,h_ 37 39 (d_ eP 38 (.int .u8 95)),g_ 30 40 (q_ 37 39),P_ 41 30 40,V_ 27 41]
def aed:=R_ [F_ 2]
def Iz:=R_ [D_ 42 14 1,V_ 14 42]
def ZJ:CT:=sr [B_ 15 14 13] (sq (cd 15 .skip (.exit 0)) (sq (.block 1 (sr [V_ 16 14,V_ 3 16] (sr [V_ 17 0,V_ 18 3,o_ 19 (b_ lK 17 18),V_ 4 19] (.block 2 (sr [V_ 21 4,o_ 22 (d_ kP 21 (.int .u8 97)),V_ 23 22,fR 23 24 4,g_ 23 25 (d_ vc 24 (.int .u8 122)),P_ 26 23 25,V_ 20 26] (cd 20 .skip (sq aee (cd 27 .skip (rt aed))))))))) Iz))
def Iy:=R_ [T_ 2]
def A79:CF:=⟨[aB 2],sr [F_ 2] (ir [V_ 5 0,o_ 6 (d_ eP 5 (.str [])),V_ 7 6,fK 7 8 0,h_ 7 9 (u_ fb 8),h_ 7 10 (di jc 9 24),Q_ 11 7 10] 11 (rt UK) (sq (sq aef (bl 0 ZJ)) (rt Iy))),43⟩
theorem c79:cF 79=some A79:=by kernel_rfl
def Me:=R_ [F_ 2]
def aec:=R_ [V_ 36 0,V_ 37 3,o_ 38 (Bz (mf 3) (z_ 36) none (some (z_ 37)) none),E_ 39 38,I_ 40 0]
def UJ:=R_ [F_ 2]
def UI:=R_ [D_ 49 40 1,V_ 40 49]
def ZI:CT:=sr [B_ 41 40 39] (sq (cd 41 .skip (.exit 2)) (sq (.block 3 (sr [J_ 42 3 38 40,N_ 43 3 42,o_ 6 (ay Qg 3),S_ 3 6 43] (sr [A_ 44 0 6,L_ 45 44,A_ 46 0 4,L_ 47 46,o_ 48 (b_ eP 45 47)] (cd 48 (rt UJ) .skip)))) UI))
def UH:=R_ [D_ 50 17 1,V_ 17 50]
def ZH:CT:=sr [B_ 18 17 16] (sq (cd 18 .skip (.exit 0)) (sq (.block 1 (sr [V_ 19 17,J_ 20 3 15 17,N_ 21 3 20,o_ 4 (ay Qg 3),V_ 3 19,S_ 3 4 21] (ir [A_ 22 0 4,L_ 23 22,y_ 24 79 [z_ 23],o_ 25 (un 24),V_ 26 25,dF 26 27 1 4,dQ 26 28 27,h_ 26 29 (di ia 28 1),Q_ 30 26 29,V_ 31 30,dF 31 32 1 4,dQ 31 33 32,h_ 31 34 (di jc 33 3),Q_ 35 31 34] 35 (rt Me) (sq aec (bl 2 ZI))))) UH))
def UG:=R_ [T_ 2]
def A80:CF:=⟨[aB 2],sr [F_ 2] (ir [V_ 7 0,E_ 8 7,K_ 9 8 0,V_ 10 9,fK 10 11 0,h_ 10 12 (u_ bu 11),h_ 10 13 (di jc 12 16),Q_ 14 10 13] 14 (rr [F_ 2]) (sq (sr [V_ 15 0,E_ 16 15,I_ 17 0] (bl 0 ZH)) (rt UG))),51⟩
theorem c80:cF 80=some A80:=by kernel_rfl
def A81:CF:=⟨[aB 4],sr [F_ 4] (rr [V_ 5 0,V_ 6 1,y_ 7 110 [z_ 5,z_ 6],o_ 8 (di kP 7 0),V_ 4 8]),9⟩
theorem c81:cF 81=some A81:=by kernel_rfl
def A82:CF:=⟨[aB 3],sr [X_ 2 0,F_ 3] (rr [A_ 4 1 2,L_ 5 4,A_ 6 1 1,L_ 7 6,o_ 8 (b_ eP 5 7),V_ 3 8]),9⟩
theorem c82:cF 82=some A82:=by kernel_rfl
def A83:CF:=⟨[bS 4 4,aB 5],sr [X_ 2 0,X_ 3 1,o_ 4 (ay DU 4),F_ 5] (rr [A_ 6 0 2,L_ 7 6,o_ 8 (kG (.func 113) [] [z_ 3]),y_ 9 112 [z_ 7,z_ 8],W_ 10 0 9,W_ 11 1 9,y_ 12 111 [z_ 10,z_ 11],W_ 13 0 12,W_ 14 1 12,S_ 4 4 13,V_ 5 14]),15⟩
theorem c83:cF 83=some A83:=by kernel_rfl
def Md:=R_ [F_ 4]
def aeb:=R_ [D_ 38 17 1,V_ 17 38]
def ZG:CT:=sr [B_ 18 17 16] (sq (cd 18 .skip (.exit 0)) (sq (.block 1 (sr [V_ 19 17,J_ 20 1 15 17,L_ 21 20,V_ 5 19,V_ 6 21] (sr [V_ 22 6,o_ 23 (di ia 22 0),V_ 24 23,fK 24 25 6,dF 24 26 2 2,dQ 24 27 26,h_ 24 28 (u_ bu 27),h_ 24 29 (b_ kP 25 28),Q_ 30 24 29,V_ 31 30,fK 31 32 1,fK 31 33 5,h_ 31 34 (Bz (mf 1) (z_ 32) none (some (z_ 33)) none),fK 31 35 6,nO (z_ 31) false (bF 36) 114 [z_ 34,z_ 35],Q_ 37 31 36] (cd 37 (rt Md) .skip)))) aeb))
def aea:=R_ [T_ 4]
def A84:CF:=⟨[aB 4],sr [X_ 2 0,F_ 4] (ir [V_ 7 1,E_ 8 7,K_ 9 8 0,V_ 10 9,fK 10 11 1,h_ 10 12 (u_ bu 11),h_ 10 13 (di jc 12 16),Q_ 14 10 13] 14 (rr [F_ 4]) (sq (sr [V_ 15 1,E_ 16 15,I_ 17 0] (bl 0 ZG)) (rt aea))),39⟩
theorem c84:cF 84=some A84:=by kernel_rfl
def A85:CF:=⟨[aB 4],sr [F_ 4] (rr [V_ 5 0,V_ 6 1,y_ 7 115 [z_ 5,z_ 6],o_ 8 (di kP 7 0),V_ 4 8]),9⟩
theorem c85:cF 85=some A85:=by kernel_rfl
def A86:CF:=⟨[aB 3],sr [X_ 2 0,F_ 3] (rr [A_ 4 2 2,L_ 5 4,A_ 6 2 1,L_ 7 6,o_ 8 (b_ eP 5 7),V_ 3 8]),9⟩
theorem c86:cF 86=some A86:=by kernel_rfl
def UF:=R_ [I_ 4 0,I_ 5 5]
def ad':=R_ [N_ 14 3 2,N_ 15 3 3,y_ 16 116 [z_ 14,z_ 15],V_ 4 16,I_ 5 0]
def A87:CF:=⟨[aB 4,aB 5],sr [X_ 2 0,X_ 3 1,I_ 4 0,I_ 5 0] (ir [N_ 6 3 2,y_ 7 47 [z_ 6],o_ 8 (un 7),V_ 9 8,zM 9 10 3 3,nO (z_ 9) false (bF 11) 47 [z_ 10],h_ 9 12 (un 11),Q_ 13 9 12] 13 (rt UF) (rt ad')),17⟩
theorem c87:cF 87=some A87:=by kernel_rfl
def A88:CF:=⟨[aB 0],sr [o_ 0 (c_ (.aI .nilFunc))] (sr [o_ 1 (ay [.int .i64 0] 1),oP rF (cH 1 (z_ 1) (kI 0))] (rr [o_ 2 (kG (.func 117) [] [z_ 1]),V_ 0 2])),3⟩
theorem c88:cF 88=some A88:=by kernel_rfl
def Uz:=R_ [V_ 17 6,H_ 18 17 0]
def ad_:=R_ [V_ 19 6,o_ 4 (c_ (.str [])),V_ 5 19]
def ad9:=R_ [y_ 20 118 [],V_ 7 20]
def ad8:=R_ [I_ 8 0]
def UE:=R_ [V_ 46 9,V_ 47 10,V_ 48 8,o_ 49 (b_ yG 47 48),o_ 50 (e2 (ct .shl) (aK (.int .u8 1)) (z_ 49)),o_ 51 (b_ (ct .or) 46 50),V_ 9 51]
def Ix:=R_ [V_ 38 10,D_ 39 38 1,V_ 10 39]
def Gq:CT:=lr [V_ 28 10,V_ 29 1,E_ 30 29,B_ 31 28 30,V_ 32 31,fR 32 33 10,fR 32 34 8,g_ 32 35 (di sD 34 8),g_ 32 36 (b_ ia 33 35),P_ 37 32 36] 37 2 3 (sr [V_ 40 1,V_ 41 10,J_ 42 3 40 41,A_ 43 0 42,L_ 44 43,K_ 45 44 0] (cd 45 UE .skip)) Ix
def UD:=R_ [V_ 52 7,V_ 53 9,y_ 54 119 [z_ 52,z_ 53]]
def UC:=R_ [V_ 25 8,D_ 26 25 8,V_ 8 26]
def NN:CT:=lr [V_ 21 8,V_ 22 1,E_ 23 22,B_ 24 21 23] 24 0 1 (sr [o_ 9 (c_ (.int .u8 0))] (sq (sr [V_ 27 8,V_ 10 27] (bl 2 Gq)) UD)) UC
def UB:=R_ [y_ 55 120 [],o_ 11 (ay aak 9),S_ 9 11 55]
def UA:=R_ [V_ 56 1,E_ 57 56,I_ 58 0]
def Uy:CT:=.eM [65,66,67,68,69,70,71,72,73] [cj [13] 65 0 13 1,cf [65] 66 65 1,i_ [66] 67 (di yG 66 1) 1,i_ [11,67] 68 (b_ (gC 3 3) 11 67) 1,cj [68] 69 1 68 1,cf [69] 70 69 1,bc [7] 71 7 1,gf [13] 72 3 13 1,vI [70,71,72] (bF 73) (z_ 70) [z_ 71,z_ 72]]
def xJ:=R_ [D_ 74 58 1,V_ 58 74]
def NM:CT:=sr [B_ 59 58 57] (sq (cd 59 .skip (.exit 4)) (sq (.block 5 (sr [J_ 60 3 56 58,N_ 61 3 60,o_ 13 (ay dy 3),S_ 3 13 61] (sr [A_ 62 0 13,L_ 63 62,H_ 64 63 0] (cd 64 Uy .skip)))) xJ))
def Ux:=R_ [V_ 75 7,y_ 76 121 [z_ 75],o_ 77 (di jc 76 160)]
def Uw:=R_ [o_ 4 (c_ (.str [])),I_ 5 51]
def Uu:=R_ [V_ 78 7,y_ 79 122 [z_ 78],o_ 80 (s6 (z_ 79)),V_ 4 80,I_ 5 0]
def A89:CF:=⟨[aB 4,aB 5],sr [o_ 4 (c_ (.str [])),I_ 5 0] (sq (sr [V_ 14 0,V_ 15 1,y_ 16 60 [z_ 14,z_ 15],V_ 6 16] (sq Uz (cd 18 (rt ad_) .skip))) (sq ad9 (sq (sq ad8 (bl 0 NN)) (sq UB (sq (sq UA (bl 4 NM)) (iq Ux 77 (rt Uw) (rt Uu))))))),81⟩
theorem c89:cF 89=some A89:=by kernel_rfl
def ad7:=R_ [V_ 23 5,N_ 24 6 7,o_ 25 (aL Oi 1 6 [(0,6,z_ 24)]),o_ 26 (dj 6 56 (z_ 23) (z_ 25)),V_ 5 26]
def Ut:=R_ [D_ 27 11 1,V_ 11 27]
def NL:CT:=sr [B_ 12 11 10] (sq (cd 12 .skip (.exit 0)) (sq (.block 1 (sr [J_ 13 6 9 11,N_ 14 6 13,o_ 7 (ay Oi 6),S_ 6 7 14] (sr [A_ 15 1 7,L_ 16 15,V_ 17 1,o_ 18 (b_ eP 16 17)] (cd 18 (sr [A_ 19 3 7,L_ 20 19,y_ 21 123 [z_ 20],A_ 22 3 7,S_ 1 22 21] ad7) .skip)))) Ut))
def ad6:=R_ [V_ 28 5,V_ 4 28]
def A90:CF:=⟨[aB 4],sr [X_ 2 0,o_ 4 (c_ (.aI (.slice none 0 0)))] (sr [o_ 5 (c_ (.aI (.slice none 0 0)))] (sq (sr [A_ 8 1 2,L_ 9 8,E_ 10 9,I_ 11 0] (bl 0 NL)) (rt ad6))),29⟩
theorem c90:cF 90=some A90:=by kernel_rfl
def Ur:=R_ [V_ 27 8,V_ 28 27,fK 28 29 1,fK 28 30 10,h_ 28 31 (b_ (dG 3) 29 30),dF 28 32 0 31,dQ 28 33 32,h_ 28 34 (di eP 33 0),Q_ 35 28 34,V_ 8 35]
def Up:=R_ [D_ 36 16 1,V_ 16 36]
def ZF:CT:=sr [B_ 17 16 15] (sq (cd 17 .skip (.exit 0)) (sq (.block 1 (sr [J_ 18 1 14 16,L_ 19 18,V_ 10 19] (sr [V_ 20 7,V_ 21 1,V_ 22 10,J_ 23 3 21 22,N_ 24 3 23,o_ 25 (aL dy 1 3 [(0,3,z_ 24)]),o_ 26 (dj 3 32 (z_ 20) (z_ 25)),V_ 7 26] Ur))) Up))
def ad5:=R_ [V_ 38 7,y_ 39 124 [z_ 38],V_ 37 39,W_ 40 0 37,W_ 41 1 37,V_ 11 40,V_ 12 41]
def Us:=R_ [V_ 42 11,V_ 43 8,V_ 44 12,V_ 4 42,V_ 5 43,V_ 6 44]
def A91:CF:=⟨[aB 4,aB 5,aB 6],sr [X_ 2 0,o_ 4 (c_ (.str [])),F_ 5,I_ 6 0] (sr [o_ 7 (c_ (.aI (.slice none 0 0)))] (sr [F_ 8] (sq (sr [A_ 13 3 2,L_ 14 13,E_ 15 14,I_ 16 0] (bl 0 ZF)) (sq ad5 (rt Us))))),45⟩
theorem c91:cF 91=some A91:=by kernel_rfl
def Mc:=R_ [V_ 25 9,o_ 26 (un 25)]
def Un:=R_ [V_ 27 5,V_ 28 8,o_ 29 (jf .s (.int .i64 0) false (z_ 27) (z_ 28)),D_ 30 29 1,oP rF (um .s (z_ 27) (z_ 28) (z_ 30))]
def Um:=R_ [V_ 31 5,V_ 32 8,o_ 33 (jf .s (.int .i64 0) false (z_ 31) (z_ 32)),o_ 34 (di jc 33 1)]
def ad4:=R_ [T_ 4]
def Iw:=R_ [D_ 35 14 1,V_ 14 35]
def ZE:CT:=sr [B_ 15 14 13] (sq (cd 15 .skip (.exit 0)) (sq (.block 1 (sr [J_ 16 1 12 14,L_ 17 16,V_ 7 17] (sr [N_ 19 6 2,V_ 20 7,y_ 21 91 [z_ 19,z_ 20],V_ 18 21,W_ 22 0 18,W_ 23 1 18,W_ 24 2 18,V_ 8 22,V_ 9 23,V_ 10 24] (sq Mc (cd 26 (sq Un (sq Um (cd 34 (rt ad4) .skip))) .skip))))) Iw))
def Uo:=R_ [F_ 4]
def A92:CF:=⟨[aB 4],sr [X_ 2 0,F_ 4] (sr [o_ 11 (lh),V_ 5 11] (sq (sr [V_ 12 1,E_ 13 12,I_ 14 0] (bl 0 ZE)) (rt Uo))),36⟩
theorem c92:cF 92=some A92:=by kernel_rfl
def A93:CF:=⟨[aB 4],sr [X_ 2 0,F_ 4] (rr [V_ 5 1,o_ 6 (di kP 5 0),V_ 7 6,fR 7 8 1,fe 7 9 1 2,fu 7 10 9,g_ 7 11 (b_ ia 8 10),P_ 12 7 11,V_ 4 12]),13⟩
theorem c93:cF 93=some A93:=by kernel_rfl
def A94:CF:=⟨[aB 6],sr [X_ 3 0,F_ 6] (rr [V_ 7 2,o_ 8 (di kP 7 0),V_ 9 8,fR 9 10 2,g_ 9 11 (di vc 10 16),P_ 12 9 11,V_ 13 12,fR 13 14 1,g_ 13 15 (di kP 14 0),P_ 16 13 15,V_ 17 16,fR 17 18 1,fe 17 19 0 3,fu 17 20 19,g_ 17 21 (b_ vc 18 20),P_ 22 17 21,V_ 23 22,fR 23 24 2,fe 23 25 0 3,fu 23 26 25,fR 23 27 1,g_ 23 28 (b_ yG 26 27),g_ 23 29 (b_ vc 24 28),P_ 30 23 29,V_ 6 30]),31⟩
theorem c94:cF 94=some A94:=by kernel_rfl
def A95:CF:=⟨[aB 4],sr [X_ 2 0,F_ 4] (rr [V_ 5 1,o_ 6 (di kP 5 0),V_ 7 6,fR 7 8 1,fe 7 9 0 2,fu 7 10 9,g_ 7 11 (b_ ia 8 10),P_ 12 7 11,V_ 4 12]),13⟩
theorem c95:cF 95=some A95:=by kernel_rfl
def A96:CF:=⟨[aB 4],sr [X_ 2 0,F_ 4] (rr [V_ 5 1,o_ 6 (di kP 5 0),V_ 7 6,fR 7 8 1,fe 7 9 2 2,fu 7 10 9,g_ 7 11 (u_ bu 10),g_ 7 12 (b_ vc 8 11),P_ 13 7 12,V_ 4 13]),14⟩
theorem c96:cF 96=some A96:=by kernel_rfl
def A97:CF:=⟨[aB 2],sr [X_ 1 0,F_ 2] (ir [A_ 3 0 1,L_ 4 3,K_ 5 4 0] 5 (rr [A_ 6 1 1,L_ 7 6,K_ 8 7 0,V_ 9 8,fe 9 10 2 1,fu 9 11 10,g_ 9 12 (d_ eP 11 (.str [])),P_ 13 9 12,V_ 2 13]) (ir [A_ 14 0 1,L_ 15 14,K_ 16 15 1] 16 (rr [A_ 17 2 1,L_ 18 17,o_ 19 (d_ eP 18 (.str [])),V_ 2 19]) (ir [A_ 20 0 1,L_ 21 20,K_ 22 21 2] 22 (rr [A_ 23 1 1,L_ 24 23,K_ 25 24 0,V_ 26 25,fe 26 27 2 1,fu 26 28 27,g_ 26 29 (u_ fb 28),g_ 26 30 (di vc 29 64),P_ 31 26 30,V_ 2 31]) (rr [A_ 32 0 1,L_ 33 32,K_ 34 33 3,V_ 35 34,fe 35 36 2 1,fu 35 37 36,g_ 35 38 (d_ eP 37 (.str [])),P_ 39 35 38,V_ 40 39,fe 40 41 1 1,fu 40 42 41,g_ 40 43 (di kP 42 0),P_ 44 40 43,V_ 45 44,fe 45 46 1 1,fu 45 47 46,g_ 45 48 (di vc 47 1),P_ 49 45 48,V_ 2 49])))),50⟩
theorem c97:cF 97=some A97:=by kernel_rfl
def Uk:=R_ [I_ 9 0]
def F4:=R_ [F_ 6]
def Ul:=R_ [V_ 44 9,D_ 45 44 1,V_ 9 45]
def NJ:CT:=lr [V_ 41 9,V_ 42 7,B_ 43 41 42] 43 0 1 (sr [A_ 46 3 3,L_ 47 46,V_ 48 9,J_ 49 1 47 48,L_ 50 49,V_ 10 50] (sq (.eM [51,52,53,54,55,56,57,58,59,60,61,62,63,64,65,66,67,68,69,70,71,72,73,74,75,76,77,78,79] [bc [10] 51 10 1,i_ [51] 52 (di ia 51 0) 1,bc [52] 53 52 1,hI [53,10] 53 54 (v_ 10) 1,hI [53,2] 53 55 (v_ 2) 1,hI [53,55] 53 56 (u_ bu 55) 1,hI [53,54,56] 53 57 (b_ kP 54 56) 1,i_ [53,57] 58 (q_ 53 57) 1,bc [58] 59 58 1,hI [59,4] 59 60 (a_ 0 4) 1,hI [59,60] 59 61 (l_ 60) 1,hI [59,9] 59 62 (v_ 9) 1,hI [59,61,62] 59 63 (b_ (dG 3) 61 62) 1,hI [59,63] 59 64 (a_ 0 63) 1,hI [59,64] 59 65 (l_ 64) 1,hI [59,65] 59 66 (di eP 65 0) 1,i_ [59,66] 67 (q_ 59 66) 1,bc [67] 68 67 1,hI [68,2] 68 69 (v_ 2) 1,hI [68,10] 68 70 (v_ 10) 1,hI [68,69,70] 68 71 (b_ (dG 3) 69 70) 1,hI [68,71] 68 72 (n_ 3 71) 1,hI [68,4] 68 73 (a_ 0 4) 1,hI [68,73] 68 74 (l_ 73) 1,hI [68,9] 68 75 (v_ 9) 1,hI [68,74,75] 68 76 (b_ (dG 3) 74 75) 1,hI [68,76] 68 77 (n_ 3 76) 1,hI [68,72,77] 68 78 (b_ (kA true [.i,.i,.s]) 72 77) 1,i_ [68,78] 79 (q_ 68 78) 1]) (cd 79 (rt F4) .skip))) Ul
def Iu:=R_ [V_ 80 8,o_ 81 (un 80)]
def Ir:=R_ [T_ 6]
def q8:=R_ [A_ 82 3 3,L_ 83 82,V_ 84 7,J_ 85 1 83 84,L_ 86 85,V_ 11 86]
def q7:=R_ [V_ 87 11,o_ 88 (di ia 87 0),V_ 89 88,fK 89 90 11,fK 89 91 2,h_ 89 92 (u_ bu 91),h_ 89 93 (b_ kP 90 92),Q_ 94 89 93,V_ 95 94,fK 95 96 2,fK 95 97 11,h_ 95 98 (b_ (dG 3) 96 97),dF 95 99 0 98,dQ 95 100 99,h_ 95 101 (di eP 100 0),Q_ 102 95 101]
def xI:=R_ [F_ 6]
def BU:=R_ [A_ 103 1 4,L_ 104 103]
def Iq:CT:=.eM [106,107,108,109,110,111,112,105,113,114] [bc [2] 106 2 1,bc [11] 107 11 1,fC [106,107] 108 3 106 107 1,gf [108] 109 3 108 1,cj [4] 110 2 4 1,gf [110] 111 3 110 1,cI [109,111] (bF 112) 125 [z_ 109,z_ 111],bc [112] 105 112 1,i_ [105] 113 (u_ (fG 0) 105) 1,i_ [105] 114 (u_ (fG 1) 105) 1,bc [113] 12 113 1,bc [114] 13 114 1]
def oW:=R_ [V_ 115 13,H_ 116 115 0,V_ 117 116,dF 117 118 2 4,dF 117 119 0 118,dQ 117 120 119,h_ 117 121 (di eP 120 0),Q_ 122 117 121,V_ 123 122,fK 123 124 12,h_ 123 125 (di ia 124 0),Q_ 126 123 125,V_ 127 126,fK 127 128 12,h_ 127 129 (di eP 128 0),fK 127 130 129,fe 130 131 5 4,fu 130 132 131,g_ 130 133 (un 132),h_ 127 134 (p_ 130 133),Q_ 135 127 134]
def tG:=R_ [F_ 6]
def xH:=R_ [A_ 136 6 4,L_ 137 136]
def BS:CT:=.eM [139,140,141,142,143,144,145,138,146,147] [bc [2] 139 2 1,bc [11] 140 11 1,fC [139,140] 141 3 139 140 1,gf [141] 142 3 141 1,cj [4] 143 7 4 1,gf [143] 144 3 143 1,cI [142,144] (bF 145) 125 [z_ 142,z_ 144],bc [145] 138 145 1,i_ [138] 146 (u_ (fG 0) 138) 1,i_ [138] 147 (u_ (fG 1) 138) 1,bc [146] 14 146 1,bc [147] 15 147 1]
def nD:=R_ [V_ 148 15,H_ 149 148 0,V_ 150 149,dF 150 151 7 4,dF 150 152 0 151,dQ 150 153 152,h_ 150 154 (di eP 153 0),Q_ 155 150 154,V_ 156 155,fK 156 157 14,h_ 156 158 (di jc 157 0),Q_ 159 156 158,V_ 160 159,fK 160 161 14,h_ 160 162 (di eP 161 0),fK 160 163 162,fe 163 164 10 4,fu 163 165 164,g_ 163 166 (un 165),h_ 160 167 (p_ 163 166),Q_ 168 160 167]
def qZ:=R_ [F_ 6]
def tD:=R_ [T_ 6]
def A99:CF:=⟨[aB 6],sr [X_ 3 0,X_ 4 1,F_ 6] (sr [A_ 16 0 4,L_ 17 16,E_ 18 17,V_ 7 18] (sr [A_ 19 1 4,L_ 20 19,V_ 21 20,dF 21 22 6 4,dQ 21 23 22,Q_ 24 21 23,V_ 8 24] (ir [V_ 25 7,A_ 26 3 3,L_ 27 26,E_ 28 27,o_ 29 (b_ jc 25 28),V_ 30 29,fK 30 31 8,fK 30 32 31,fR 32 33 7,g_ 32 34 (di sD 33 1),fe 32 35 3 3,fu 32 36 35,g_ 32 37 (u_ bu 36),g_ 32 38 (b_ jc 34 37),h_ 30 39 (p_ 32 38),Q_ 40 30 39] 40 (rr [F_ 6]) (sq (sq Uk (bl 0 NJ)) (iq Iu 81 (rt Ir) (sq q8 (iq q7 102 (rt xI) (iq BU 104 (sq Iq (sq oW (cd 135 (rt tG) .skip))) (iq xH 137 (sq BS (sq nD (cd 168 (rt qZ) .skip))) (rt tD)))))))))),169⟩
theorem c99:cF 99=some A99:=by kernel_rfl
def J8:=R_ [I_ 4 1]
def Y_:=R_ [I_ 5 0]
def Y9:=R_ [I_ 4 5]
def Y8:CT:=.eM [28,29,30,31,32,33,34,35,36,37,38,39,40,41,42,43,44,45,46] [bc [1] 28 1 1,bc [5] 29 5 1,fC [28,29] 30 3 28 29 1,cj [30] 31 0 30 1,cf [31] 32 31 1,i_ [32] 33 (di kL 32 0) 1,bc [33] 34 33 1,gI [34,1] 34 35 (v_ 1) 1,gI [34,5] 34 36 (v_ 5) 1,gI [34,35,36] 34 37 (b_ (dG 3) 35 36) 1,gI [34,37] 34 38 (a_ 0 37) 1,gI [34,38] 34 39 (l_ 38) 1,gI [34,0] 34 40 (v_ 0) 1,gI [34,5] 34 41 (v_ 5) 1,gI [34,40,41] 34 42 (b_ (dG 3) 40 41) 1,gI [34,42] 34 43 (a_ 1 42) 1,gI [34,43] 34 44 (l_ 43) 1,gI [34,39,44] 34 45 (b_ kL 39 44) 1,i_ [34,45] 46 (p_ 34 45) 1]
def Y7:=R_ [I_ 4 30]
def Dk:=R_ [V_ 47 1,V_ 48 5,J_ 49 3 47 48,A_ 50 0 49,L_ 51 50,K_ 52 51 0,V_ 53 52,fR 53 54 0,fR 53 55 5,g_ 53 56 (b_ (dG 3) 54 55),fe 53 57 2 56,fu 53 58 57,P_ 59 53 58]
def Ny:=R_ [I_ 4 50]
def Dl:=R_ [V_ 20 5,D_ 21 20 1,V_ 5 21]
def Kt:CT:=lr [V_ 16 5,V_ 17 1,E_ 18 17,B_ 19 16 18] 19 0 1 (ir [V_ 22 1,V_ 23 5,J_ 24 3 22 23,N_ 25 3 24,y_ 26 97 [z_ 25],o_ 27 (un 26)] 27 (rt Y9) (iq Y8 46 (rt Y7) (sq Dk (cd 59 (rt Ny) .skip)))) Dl
def Nx:=R_ [I_ 4 0]
def A103:CF:=⟨[aB 4],sr [I_ 4 0] (ir [V_ 6 0,y_ 7 37 [z_ 6],o_ 8 (un 7),V_ 9 8,fK 9 10 1,h_ 9 11 (u_ bu 10),fK 9 12 0,h_ 9 13 (u_ bu 12),h_ 9 14 (b_ kL 11 13),Q_ 15 9 14] 15 (rt J8) (sq (sq Y_ (bl 0 Kt)) (rt Nx))),60⟩
theorem c103:cF 103=some A103:=by kernel_rfl
def A104:CF:=⟨[aB 2],sr [X_ 1 0,o_ 2 (c_ (.aI (.slice none 0 0)))] (ir [A_ 4 0 1,L_ 5 4,K_ 6 5 3] 6 (rr [A_ 7 1 1,L_ 8 7,o_ 9 (u_ (cO .u8) 8),o_ 10 (aL mX 1 1 [(0,1,z_ 9)]),V_ 2 10]) (ir [A_ 11 0 1,L_ 12 11,K_ 13 12 2] 13 (sr [A_ 14 2 1,L_ 15 14,o_ 16 (u_ fb 15),o_ 17 (u_ (cO .u64) 16),y_ 18 133 [z_ 17],V_ 3 18] (rr [V_ 19 3,A_ 20 2 1,L_ 21 20,o_ 22 (dj 1 1 (z_ 19) (z_ 21)),V_ 2 22])) (ir [A_ 23 1 1,L_ 24 23,o_ 25 (di ia 24 0)] 25 (rr [A_ 26 1 1,L_ 27 26,D_ 28 27 1,o_ 29 (u_ (GP .neg) 28),o_ 30 (u_ (cO .u64) 29),o_ 31 (e2 (ct .mul) (aK (.int .u64 2)) (z_ 30)),o_ 32 (d_ sD 31 (.int .u64 1)),y_ 33 133 [z_ 32],V_ 2 33]) (rr [A_ 34 1 1,L_ 35 34,o_ 36 (u_ (cO .u64) 35),o_ 37 (e2 (ct .mul) (aK (.int .u64 2)) (z_ 36)),y_ 38 133 [z_ 37],V_ 2 38])))),39⟩
theorem c104:cF 104=some A104:=by kernel_rfl
def DG:CT:=lr [V_ 30 5,o_ 31 (di jc 30 0)] 31 0 1 (sr [V_ 34 4,V_ 35 5,V_ 36 3,o_ 37 (d_ (ct .rem) 36 (.int .u64 256)),o_ 38 (u_ (cO .u8) 37),J_ 39 1 34 35,S_ 1 39 38] (R_ [V_ 40 3,o_ 41 (d_ (ct .quo) 40 (.int .u64 256)),V_ 3 41])) (R_ [V_ 32 5,o_ 33 (di yG 32 1),V_ 5 33])
def Nw:=R_ [V_ 42 4,o_ 43 (s6 (z_ 42)),V_ 2 43]
def Nv:=R_ [A_ 59 2 1,L_ 60 59,V_ 61 7,o_ 62 (b_ lK 60 61),o_ 63 (d_ eP 62 (.int .u8 0))]
def Nu:=R_ [V_ 64 6,o_ 65 (aL mX 1 1 [(0,1,(aK (.int .u8 255)))]),o_ 66 (dj 1 1 (z_ 64) (z_ 65)),V_ 6 66]
def Dj:=R_ [V_ 50 7,D_ 51 50 1,V_ 7 51]
def DF:CT:=lr [V_ 45 7,A_ 46 2 1,L_ 47 46,o_ 48 (u_ fb 47),B_ 49 45 48] 49 2 3 (sr [V_ 52 6,A_ 53 2 1,L_ 54 53,V_ 55 7,o_ 56 (b_ lK 54 55),o_ 57 (aL mX 1 1 [(0,1,z_ 56)]),o_ 58 (dj 1 1 (z_ 52) (z_ 57)),V_ 6 58] (sq Nv (cd 63 Nu .skip))) Dj
def Ns:=R_ [V_ 67 6,o_ 68 (aL mX 2 1 [(0,1,(aK (.int .u8 0))),(1,1,(aK (.int .u8 1)))]),o_ 69 (dj 1 1 (z_ 67) (z_ 68)),o_ 70 (s6 (z_ 69)),V_ 2 70]
def A105:CF:=⟨[aB 2],sr [X_ 1 0,o_ 2 (c_ (.str []))] (ir [A_ 8 0 1,L_ 9 8,K_ 10 9 0] 10 (rr [o_ 2 (c_ (.str [1]))]) (ir [A_ 11 0 1,L_ 12 11,K_ 13 12 3,V_ 14 13,fe 14 15 1 1,fu 14 16 15,g_ 14 17 (di eP 16 0),P_ 18 14 17] 18 (rr [o_ 2 (c_ (.str [2]))]) (ir [A_ 19 0 1,L_ 20 19,K_ 21 20 3] 21 (rr [o_ 2 (c_ (.str [3]))]) (ir [A_ 22 0 1,L_ 23 22,K_ 24 23 1] 24 (sr [A_ 25 1 1,L_ 26 25,o_ 27 (u_ (cO .u64) 26),o_ 28 (d_ sD 27 (.int .u64 9223372036854775808)),V_ 3 28] (sr [o_ 29 (aL mX 9 1 [(0,1,(aK (.int .u8 4))),(1,1,(aK (.int .u8 0))),(2,1,(aK (.int .u8 0))),(3,1,(aK (.int .u8 0))),(4,1,(aK (.int .u8 0))),(5,1,(aK (.int .u8 0))),(6,1,(aK (.int .u8 0))),(7,1,(aK (.int .u8 0))),(8,1,(aK (.int .u8 0)))]),V_ 4 29] (sq (sr [I_ 5 8] (bl 0 DG)) (rt Nw)))) (sr [o_ 44 (aL mX 1 1 [(0,1,(aK (.int .u8 5)))]),V_ 6 44] (sq (sr [I_ 7 0] (bl 2 DF)) (rt Ns))))))),71⟩
theorem c105:cF 105=some A105:=by kernel_rfl
def J7:=R_ [A_ 12 0 2,L_ 13 12,K_ 14 13 1,V_ 15 14,fe 15 16 1 2,Qb 15 17 3 16,nO (z_ 15) true (bF 18) 47 [z_ 17],g_ 15 19 (un 18),P_ 20 15 19,V_ 21 20,dF 21 22 0 2,dQ 21 23 22,h_ 21 24 (di eP 23 3),fK 21 25 24,fe 25 26 6 2,fu 25 27 26,g_ 25 28 (di ia 27 0),fR 25 29 28,dF 29 30 6 2,dQ 29 31 30,dQ 29 32 3,h_ 29 33 (b_ kP 31 32),g_ 25 34 (q_ 29 33),h_ 21 35 (p_ 25 34),Q_ 36 21 35]
def Y6:=R_ [F_ 4]
def J6:=R_ [A_ 37 7 2,L_ 38 37,o_ 39 (kG (.func 136) [] [z_ 3]),y_ 40 135 [z_ 38,z_ 39],o_ 41 (un 40),V_ 4 41]
def A106:CF:=⟨[aB 4],sr [X_ 2 0,X_ 3 1,F_ 4] (iq (.eM [5,6,7,8,9,10,11] [cj [2] 5 0 2 1,cf [5] 6 5 1,cI [6] (bF 7) 134 [z_ 6],cj [2] 8 7 2 2,cf [8] 9 8 2,i_ [9] 10 (u_ bu 9) 2,i_ [7,10] 11 (b_ kL 7 10) 1]) 11 (rr [F_ 4]) (iq J7 36 (rt Y6) (rt J6))),42⟩
theorem c106:cF 106=some A106:=by kernel_rfl
def A107:CF:=⟨[aB 2],sr [F_ 2] (rr [V_ 3 0,y_ 4 137 [z_ 3,kf 138],o_ 5 (un 4),V_ 2 5]),6⟩
theorem c107:cF 107=some A107:=by kernel_rfl
def Di:=R_ [V_ 38 10,H_ 39 38 0]
def Dh:=R_ [V_ 42 7,N_ 43 3 9,o_ 44 (b_ (gC 2 3) 6 42),S_ 3 44 43]
def Df:=R_ [D_ 45 27 1,V_ 27 45]
def Ks:CT:=sr [B_ 28 27 26] (sq (cd 28 .skip (.exit 1)) (sq (.block 2 (sr [V_ 29 27,J_ 30 8 25 27,N_ 31 8 30,o_ 8 (ay Kx 8),V_ 7 29,S_ 8 8 31] (sr [N_ 33 8 8,V_ 34 1,y_ 35 108 [z_ 33,z_ 34],V_ 32 35,W_ 36 0 32,W_ 37 1 32,o_ 9 (ay dy 3),S_ 3 9 36,V_ 10 37] (iq Di 39 (rr [o_ 40 (aH dy 3 []),V_ 41 10,S_ 3 4 40,V_ 5 41]) Dh)))) Df))
def pZ:=R_ [A_ 46 0 2,L_ 47 46]
def pY:=R_ [K_ 49 47 4,V_ 48 49]
def Nr:=R_ [o_ 50 (di (gC 2 3) 6 0),N_ 51 3 50,y_ 52 139 [z_ 51],W_ 53 0 52,W_ 54 1 52,S_ 3 4 53,V_ 5 54]
def sw:=R_ [K_ 56 47 5,V_ 55 56]
def Nq:=R_ [o_ 57 (di (gC 2 3) 6 0),N_ 58 3 57,y_ 59 140 [z_ 58],W_ 60 0 59,W_ 61 1 59,S_ 3 4 60,V_ 5 61]
def vv:=R_ [K_ 63 47 6,V_ 62 63]
def Np:=R_ [o_ 64 (di (gC 2 3) 6 0),A_ 65 0 64,L_ 66 65,K_ 67 66 0,y_ 68 141 [z_ 67],S_ 3 4 68,I_ 5 0]
def Dc:=R_ [K_ 70 47 7,V_ 69 70]
def Nn:=R_ [o_ 71 (di (gC 2 3) 6 0),A_ 72 0 71,L_ 73 72,H_ 74 73 0,y_ 75 141 [z_ 74],S_ 3 4 75,I_ 5 0]
def Nl:CT:=.eM [76,77,78,79,80,81,82,83,84,85,86,87] [cI [] (bF 76) 142 [],cj [2] 77 0 2 2,cf [77] 78 77 2,i_ [78] 79 (di yG 78 8) 2,i_ [76,79] 80 (b_ (Ib 14 1 false) 76 79) 1,i_ [6] 81 (di (gC 2 3) 6 0) 2,gf [81] 82 3 81 2,i_ [6] 83 (di (gC 2 3) 6 1) 2,gf [83] 84 3 83 2,vI [80,82,84] (bF 85) (z_ 80) [z_ 82,z_ 84],i_ [85] 86 (u_ (fG 0) 85) 1,i_ [85] 87 (u_ (fG 1) 85) 1,j_ [4,86] (s_ 3 4 86),bc [87] 5 87 1]
def A108:CF:=⟨[bS 4 3,aB 5],sr [X_ 2 0,o_ 4 (ay dy 3),I_ 5 0] (sq (sr [A_ 11 0 2,L_ 12 11] (.block 0 (sr [K_ 14 12 1,V_ 13 14] (cd 13 (rr [A_ 15 1 2,N_ 16 3 15,S_ 3 4 16,I_ 5 0]) (sr [K_ 18 12 3,V_ 17 18] (cd 17 (rr [V_ 19 1,A_ 20 6 2,L_ 21 20,J_ 22 3 19 21,N_ 23 3 22,S_ 3 4 23,I_ 5 0]) .skip)))))) (sr [o_ 6 (ay [.int .i64 0,.int .i64 0,.str [],.int .i64 0,.int .i64 0,.str []] 6)] (sq (sr [A_ 24 7 2,L_ 25 24,E_ 26 25,I_ 27 0] (bl 1 Ks)) (sq (sq pZ (.block 3 (sq pY (cd 48 (rt Nr) (sq sw (cd 55 (rt Nq) (sq vv (cd 62 (rt Np) (sq Dc (cd 69 (rt Nn) .skip)))))))))) (rt Nl))))),88⟩
theorem c108:cF 108=some A108:=by kernel_rfl
def Y5:=R_ [V_ 14 0,A_ 15 3 4,L_ 16 15,vP (bF 17) (z_ 14) [z_ 16],o_ 18 (un 17)]
def Y4:=R_ [D_ 19 10 1,V_ 10 19]
def Kr:CT:=sr [B_ 11 10 9] (sq (cd 11 .skip (.exit 0)) (sq (.block 1 (sr [J_ 12 4 8 10,N_ 13 4 12,o_ 4 (ay DU 4),S_ 4 4 13] (sq Y5 (cd 18 .ret .skip)))) Y4))
def Y3:=R_ [A_ 20 1 1,L_ 21 20,E_ 22 21,I_ 23 0]
def Y2:=R_ [V_ 27 0,A_ 28 5 6,L_ 29 28,vP (bF 30) (z_ 27) [z_ 29],o_ 31 (un 30)]
def Y1:=R_ [D_ 32 23 1,V_ 23 32]
def Kq:CT:=sr [B_ 24 23 22] (sq (cd 24 .skip (.exit 2)) (sq (.block 3 (sr [J_ 25 6 21 23,N_ 26 6 25,o_ 6 (ay Oi 6),S_ 6 6 26] (sq Y2 (cd 31 .ret .skip)))) Y1))
def A109:CF:=⟨[],sq (sr [A_ 7 0 1,L_ 8 7,E_ 9 8,I_ 10 0] (bl 0 Kr)) (sq Y3 (bl 2 Kq)),33⟩
theorem c109:cF 109=some A109:=by kernel_rfl
def ajP:CT:=sr [B_ 9 8 7] (sq (cd 9 .skip (.exit 0)) (sq (.block 1 (sr [V_ 10 8,V_ 5 10] (sr [V_ 11 1,V_ 12 0,V_ 13 5,J_ 14 4 12 13,N_ 15 4 14,vP (bF 16) (z_ 11) [z_ 15]] (cd 16 (rr [V_ 17 5,V_ 4 17]) .skip)))) (R_ [D_ 18 8 1,V_ 8 18])))
def A110:CF:=⟨[aB 4],sr [I_ 4 0] (sq (sr [V_ 6 0,E_ 7 6,I_ 8 0] (bl 0 ajP)) (rr [o_ 4 (c_ (.int .i64 (-1)))])),19⟩
theorem c110:cF 110=some A110:=by kernel_rfl
def A111:CF:=⟨[bS 4 4,aB 5],sr [X_ 2 0,o_ 4 (ay DU 4),F_ 5] (sr [A_ 6 2 2,L_ 7 6,y_ 8 143 [z_ 7],A_ 9 2 2,S_ 1 9 8] (rr [N_ 10 4 2,V_ 11 1,S_ 4 4 10,V_ 5 11])),12⟩
theorem c111:cF 111=some A111:=by kernel_rfl
def ajO:CT:=sr [B_ 12 11 10] (sq (cd 12 .skip (.exit 0)) (sq (.block 1 (sr [J_ 13 4 9 11,N_ 14 4 13,o_ 7 (ay DU 4),S_ 4 7 14] (sr [V_ 15 1,N_ 16 4 7,vP (bF 17) (z_ 15) [z_ 16]] (cd 17 (rr [N_ 18 4 7,S_ 4 4 18,T_ 5]) .skip)))) (R_ [D_ 19 11 1,V_ 11 19])))
def A112:CF:=⟨[bS 4 4,aB 5],sr [o_ 4 (ay DU 4),F_ 5] (sq (sr [V_ 9 0,E_ 10 9,I_ 11 0] (bl 0 ajO)) (sr [o_ 8 (ay DU 4)] (rr [N_ 20 4 8,S_ 4 4 20,F_ 5]))),21⟩
theorem c112:cF 112=some A112:=by kernel_rfl
def A113:CF:=⟨[aB 3],sr [X_ 2 0,F_ 3] (rr [A_ 4 0 2,L_ 5 4,L_ 6 1,o_ 7 (b_ eP 5 6),V_ 3 7]),8⟩
theorem c113:cF 113=some A113:=by kernel_rfl
def A114:CF:=⟨[aB 4],sr [F_ 4] (rr [V_ 5 0,V_ 6 1,y_ 7 144 [z_ 5,z_ 6],o_ 8 (di kP 7 0),V_ 4 8]),9⟩
theorem c114:cF 114=some A114:=by kernel_rfl
def ajN:CT:=sr [B_ 9 8 7] (sq (cd 9 .skip (.exit 0)) (sq (.block 1 (sr [V_ 10 8,V_ 5 10] (sr [V_ 11 1,V_ 12 0,V_ 13 5,J_ 14 6 12 13,N_ 15 6 14,vP (bF 16) (z_ 11) [z_ 15]] (cd 16 (rr [V_ 17 5,V_ 4 17]) .skip)))) (R_ [D_ 18 8 1,V_ 8 18])))
def A115:CF:=⟨[aB 4],sr [I_ 4 0] (sq (sr [V_ 6 0,E_ 7 6,I_ 8 0] (bl 0 ajN)) (rr [o_ 4 (c_ (.int .i64 (-1)))])),19⟩
theorem c115:cF 115=some A115:=by kernel_rfl
def Y0:=R_ [o_ 4 (c_ (.int .i64 (-1)))]
def YZ:=R_ [I_ 4 1]
def A116:CF:=⟨[aB 4],sr [X_ 2 0,X_ 3 1,I_ 4 0] (ir [A_ 5 0 2,L_ 6 5,A_ 7 0 3,L_ 8 7,o_ 9 (b_ kL 6 8)] 9 (iq (.eM [10,11,12,13,14,15,16] [cj [2] 10 0 2 1,cf [10] 11 10 1,cI [11] (bF 12) 145 [z_ 11],cj [3] 13 0 3 2,cf [13] 14 13 2,cI [14] (bF 15) 145 [z_ 14],i_ [12,15] 16 (b_ ia 12 15) 1]) 16 (rt Y0) (rt YZ)) (ir [A_ 17 0 2,L_ 18 17,K_ 19 18 2] 19 (rr [A_ 20 2 2,L_ 21 20,A_ 22 2 3,L_ 23 22,y_ 24 146 [z_ 21,z_ 23],V_ 4 24]) (ir [A_ 25 1 2,L_ 26 25,A_ 27 1 3,L_ 28 27,B_ 29 26 28] 29 (rr [o_ 4 (c_ (.int .i64 (-1)))]) (ir [A_ 30 1 2,L_ 31 30,A_ 32 1 3,L_ 33 32,o_ 34 (b_ jc 31 33)] 34 (rr [I_ 4 1]) (rr [I_ 4 0]))))),35⟩
theorem c116:cF 116=some A116:=by kernel_rfl
def A117:CF:=⟨[aB 3],sr [I_ 3 0] (ir [V_ 4 0,H_ 5 4 0,V_ 6 5,fu 6 7 1,g_ 6 8 (di eP 7 0),fR 6 9 8,fK 9 10 0,dQ 9 11 1,h_ 9 12 (b_ ia 10 11),g_ 6 13 (q_ 9 12),P_ 14 6 13] 14 (R_ [V_ 15 0,S_ 1 1 15]) (rr [L_ 16 1,V_ 3 16])),17⟩
theorem c117:cF 117=some A117:=by kernel_rfl
def A118:CF:=⟨[aB 0],sr [o_ 0 (c_ (.aI (.pointer none)))] (rr [o_ 1 (aH [.bool false,(.aI (.slice none 0 0))] 2 [(0,1,(aK (.bool true)))]),o_ 2 (aH [.bool false,(.aI (.slice none 0 0))] 2 [(0,2,z_ 1)]),X_ 3 2,V_ 0 3]),4⟩
theorem c118:cF 118=some A118:=by kernel_rfl
def A119:CF:=⟨[],(R_ [V_ 4 0,V_ 5 1,y_ 6 147 [z_ 4,z_ 5,kI 1]]),7⟩
theorem c119:cF 119=some A119:=by kernel_rfl
def A120:CF:=⟨[bS 0 9],sr [o_ 0 (ay aak 9)] (rr [o_ 1 (aH aai 3 [(0,1,kI 1),(1,1,kf 148),(2,1,kf 150)]),o_ 2 (aH aai 3 [(0,1,kI 2),(1,1,kf 152),(2,1,kf 154)]),o_ 3 (aH aai 3 [(0,1,kI 3),(1,1,kf 156),(2,1,kf 157)]),o_ 4 (aH aak 9 [(0,3,z_ 1),(3,3,z_ 2),(6,3,z_ 3)]),S_ 9 0 4]),5⟩
theorem c120:cF 120=some A120:=by kernel_rfl
def A121:CF:=⟨[aB 2],sr [I_ 2 0] (ir [V_ 3 0,o_ 4 (d_ (j7 false .ptr) 3 (.aI (.pointer none)))] 4 (rr [I_ 2 0]) (rr [V_ 5 0,o_ 6 (aV (z_ 5)),A_ 7 0 6,A_ 8 1 7,L_ 9 8,E_ 10 9,V_ 2 10])),11⟩
theorem c121:cF 121=some A121:=by kernel_rfl
def A122:CF:=⟨[aB 2],sr [o_ 2 (c_ (.aI (.slice none 0 0)))] (ir [V_ 3 0,o_ 4 (d_ (j7 false .ptr) 3 (.aI (.pointer none)))] 4 (rr [o_ 2 (c_ (.aI (.slice none 0 0)))]) (rr [V_ 5 0,o_ 6 (aV (z_ 5)),A_ 7 0 6,A_ 8 1 7,L_ 9 8,o_ 10 (dj 1 1 (aK (.aI (.slice none 0 0))) (z_ 9)),V_ 2 10])),11⟩
theorem c122:cF 122=some A122:=by kernel_rfl
def A123:CF:=⟨[aB 2],sr [o_ 2 (c_ (.aI (.slice none 0 0)))] (ir [V_ 3 0,o_ 4 (d_ (j7 false .slice) 3 (.aI (.slice none 0 0)))] 4 (rr [o_ 2 (c_ (.aI (.slice none 0 0)))]) (rr [o_ 5 (aL [.int .i64 0] 0 1 []),V_ 6 0,o_ 7 (dj 1 8 (z_ 5) (z_ 6)),V_ 2 7])),8⟩
theorem c123:cF 123=some A123:=by kernel_rfl
def YY:=R_ [o_ 2 (c_ (.str [])),I_ 3 5]
def YX:=R_ [V_ 19 4,N_ 20 3 6,y_ 21 159 [z_ 19,z_ 20],V_ 4 21]
def Nk:=R_ [D_ 22 12 1,V_ 12 22]
def DD:CT:=sr [B_ 13 12 11] (sq (cd 13 .skip (.exit 0)) (sq (.block 1 (sr [J_ 14 3 10 12,N_ 15 3 14,o_ 6 (ay dy 3),S_ 3 6 15] (ir [N_ 16 3 6,y_ 17 47 [z_ 16],o_ 18 (un 17)] 18 (rt YY) YX))) Nk))
def Db:=R_ [V_ 23 4,E_ 24 23,o_ 25 (di jc 24 140)]
def Nj:=R_ [o_ 2 (c_ (.str [])),I_ 3 51]
def Ni:=R_ [V_ 26 4,o_ 27 (s6 (z_ 26)),V_ 2 27,I_ 3 0]
def A124:CF:=⟨[aB 2,aB 3],sr [o_ 2 (c_ (.str [])),I_ 3 0] (ir [V_ 7 0,E_ 8 7,o_ 9 (di jc 8 16)] 9 (rr [o_ 2 (c_ (.str [])),I_ 3 1]) (sr [o_ 4 (c_ (.aI (.slice none 0 0)))] (sq (sr [V_ 10 0,E_ 11 10,I_ 12 0] (bl 0 DD)) (iq Db 25 (rt Nj) (rt Ni))))),28⟩
theorem c124:cF 124=some A124:=by kernel_rfl
def J5:=R_ [I_ 4 0,I_ 5 5]
def YW:=R_ [N_ 14 3 2,N_ 15 3 3,y_ 16 44 [z_ 14,z_ 15],V_ 4 16,I_ 5 0]
def A125:CF:=⟨[aB 4,aB 5],sr [X_ 2 0,X_ 3 1,I_ 4 0,I_ 5 0] (ir [N_ 6 3 2,y_ 7 97 [z_ 6],o_ 8 (un 7),V_ 9 8,zM 9 10 3 3,nO (z_ 9) false (bF 11) 97 [z_ 10],h_ 9 12 (un 11),Q_ 13 9 12] 13 (rt J5) (rt YW)),17⟩
theorem c125:cF 125=some A125:=by kernel_rfl
def YI:=R_ [V_ 13 0,o_ 14 (d_ (ct .quo) 13 (.int .u64 128)),V_ 0 14]
def Kp:CT:=sq (sr [V_ 4 0,o_ 5 (d_ jc 4 (.int .u64 127))] (cd 5 .skip (.exit 0))) (.block 1 (sr [V_ 6 3,V_ 7 0,o_ 8 (d_ (ct .rem) 7 (.int .u64 128)),o_ 9 (u_ (cO .u8) 8),o_ 10 (d_ sD 9 (.int .u8 128)),o_ 11 (aL mX 1 1 [(0,1,z_ 10)]),o_ 12 (dj 1 1 (z_ 6) (z_ 11)),V_ 3 12] YI))
def YH:=R_ [V_ 15 3,V_ 16 0,o_ 17 (u_ (cO .u8) 16),o_ 18 (aL mX 1 1 [(0,1,z_ 17)]),o_ 19 (dj 1 1 (z_ 15) (z_ 18)),V_ 2 19]
def A133:CF:=⟨[aB 2],sr [o_ 2 (c_ (.aI (.slice none 0 0)))] (sr [o_ 3 (c_ (.aI (.slice none 0 0)))] (sq (bl 0 Kp) (rt YH))),20⟩
theorem c133:cF 133=some A133:=by kernel_rfl
def A134:CF:=⟨[aB 2],sr [I_ 2 0] (sq (.block 0 (sr [V_ 4 0,K_ 5 4 1,V_ 6 5,fK 6 7 0,h_ 6 8 (di eP 7 3),Q_ 9 6 8,V_ 3 9] (cd 3 (rr [I_ 2 0]) (sr [V_ 11 0,o_ 12 (di kP 11 4),V_ 13 12,fR 13 14 0,g_ 13 15 (di vc 14 7),P_ 16 13 15,V_ 10 16] (cd 10 (rr [I_ 2 1]) (sr [V_ 18 0,o_ 19 (di kP 18 8),V_ 20 19,fR 20 21 0,g_ 20 22 (di vc 21 21),P_ 23 20 22,V_ 17 23] (cd 17 (rr [I_ 2 2]) .skip))))))) (rr [o_ 2 (c_ (.int .i64 (-1)))])),24⟩
theorem c134:cF 134=some A134:=by kernel_rfl
def A135:CF:=⟨[aB 4],sr [F_ 4] (rr [V_ 5 0,V_ 6 1,y_ 7 164 [z_ 5,z_ 6],o_ 8 (di kP 7 0),V_ 4 8]),9⟩
theorem c135:cF 135=some A135:=by kernel_rfl
def A136:CF:=⟨[aB 3],sr [X_ 2 0,F_ 3] (rr [N_ 4 8 2,L_ 5 1,y_ 6 106 [z_ 4,z_ 5],o_ 7 (un 6),V_ 3 7]),8⟩
theorem c136:cF 136=some A136:=by kernel_rfl
def A137:CF:=⟨[aB 4],sr [F_ 4] (rr [V_ 5 0,V_ 6 1,y_ 7 165 [z_ 5,z_ 6],o_ 8 (di kP 7 0),V_ 4 8]),9⟩
theorem c137:cF 137=some A137:=by kernel_rfl
def A139:CF:=⟨[bS 2 3,aB 3],sr [X_ 1 0,o_ 2 (ay dy 3),I_ 3 0] (rr [o_ 4 (aH dy 3 [(0,1,kI 1)]),N_ 5 3 1,y_ 6 166 [z_ 4,z_ 5,kf 167],W_ 7 0 6,W_ 8 1 6,S_ 3 2 7,V_ 3 8]),9⟩
theorem c139:cF 139=some A139:=by kernel_rfl
def C3:=R_ [V_ 8 4,H_ 9 8 0,V_ 10 9,dF 10 11 0 1,dQ 10 12 11,h_ 10 13 (di eP 12 0),Q_ 14 10 13]
def JS:=R_ [o_ 15 (aH dy 3 []),V_ 16 4,S_ 3 2 15,V_ 3 16]
def YC:=R_ [A_ 17 1 1,L_ 18 17,K_ 19 18 0,y_ 20 169 [z_ 19],S_ 3 2 20,I_ 3 0]
def A140:CF:=⟨[bS 2 3,aB 3],sr [X_ 1 0,o_ 2 (ay dy 3),I_ 3 0] (sq (sr [N_ 5 3 1,o_ 6 (aL dy 1 3 [(0,3,z_ 5)]),y_ 7 168 [kI 3,z_ 6],V_ 4 7] (sq C3 (cd 14 (rt JS) .skip))) (rt YC)),21⟩
theorem c140:cF 140=some A140:=by kernel_rfl
def A141:CF:=⟨[bS 2 3],sr [o_ 2 (ay dy 3)] (sr [o_ 4 (aH dy 3 [(0,1,kI 3)]),o_ 3 (ay dy 3),S_ 3 3 4] (ir [V_ 5 0] 5 (R_ [A_ 6 1 3,oP rF (cH 1 (z_ 6) (kI 1))]) (rr [N_ 7 3 3,S_ 3 2 7]))),8⟩
theorem c141:cF 141=some A141:=by kernel_rfl
def A142:CF:=⟨[bS 0 14],sr [o_ 0 (ay agx 14)] (rr [o_ 1 (aH agx 14 [(0,1,kf 170),(1,1,kf 171),(2,1,kf 172),(3,1,kf 173),(4,1,kf 174),(5,1,kf 175),(6,1,kf 176),(7,1,kf 177),(8,1,kf 178),(9,1,kf 179),(10,1,kf 180),(11,1,kf 181),(12,1,kf 182),(13,1,kf 183)]),S_ 14 0 1]),2⟩
theorem c142:cF 142=some A142:=by kernel_rfl
def A143:CF:=⟨[aB 2],sr [o_ 2 (c_ (.aI (.slice none 0 0)))] (ir [V_ 3 0,o_ 4 (d_ (j7 false .slice) 3 (.aI (.slice none 0 0)))] 4 (rr [o_ 2 (c_ (.aI (.slice none 0 0)))]) (rr [o_ 5 (aL Qg 0 3 []),V_ 6 0,o_ 7 (dj 3 32 (z_ 5) (z_ 6)),V_ 2 7])),8⟩
theorem c143:cF 143=some A143:=by kernel_rfl
def YB:=R_ [V_ 17 5,V_ 4 17]
def YA:=R_ [D_ 18 8 1,V_ 8 18]
def Ko:CT:=sr [B_ 9 8 7] (sq (cd 9 .skip (.exit 0)) (sq (.block 1 (sr [V_ 10 8,V_ 5 10] (sr [V_ 11 1,V_ 12 0,V_ 13 5,J_ 14 1 12 13,L_ 15 14,o_ 16 (b_ eP 11 15)] (cd 16 (rt YB) .skip)))) YA))
def Yz:=R_ [o_ 4 (c_ (.int .i64 (-1)))]
def A144:CF:=⟨[aB 4],sr [I_ 4 0] (sq (sr [V_ 6 0,E_ 7 6,I_ 8 0] (bl 0 Ko)) (rt Yz)),19⟩
theorem c144:cF 144=some A144:=by kernel_rfl
def A145:CF:=⟨[aB 2],sr [I_ 2 0] (sr [I_ 3 0] (sq (sr [V_ 4 0] (.block 0 (sq (.block 3 (sq (.block 2 (sq (.block 1 (sq (ir [K_ 6 4 2,V_ 5 6] 5 (.exit 1) (ir [K_ 8 4 1,V_ 7 8] 7 (.exit 2) (sr [K_ 10 4 3,V_ 9 10] (cd 9 (.exit 3) .skip)))) (.exit 0))) (R_ [V_ 11 3,D_ 12 11 1,V_ 3 12]))) (R_ [V_ 13 3,D_ 14 13 1,V_ 3 14]))) (sr [V_ 15 3,D_ 16 15 1,V_ 3 16] (.exit 0))))) (rr [V_ 17 3,V_ 2 17]))),18⟩
theorem c145:cF 145=some A145:=by kernel_rfl
def A146:CF:=⟨[aB 4],sr [I_ 4 0] (rr [V_ 5 0,V_ 6 1,y_ 7 184 [z_ 5,z_ 6],V_ 4 7]),8⟩
theorem c146:cF 146=some A146:=by kernel_rfl
def JR:=R_ [D_ 38 18 1,V_ 18 38]
def DC:CT:=sr [B_ 19 18 17] (sq (cd 19 .skip (.exit 0)) (sq (.block 1 (sr [V_ 20 18,V_ 6 20] (.eM [21,22,23,24,25,26,27,28,29,30,31,32,33,34,35,36,37] [bc [0] 22 0 1,i_ [22] 23 (aV (z_ 22)) 1,cj [23] 24 0 23 1,cj [24] 25 1 24 1,cf [25] 26 25 1,bc [1] 27 1 1,i_ [27] 28 (u_ (cO .u64) 27) 1,bc [6] 29 6 1,i_ [29] 30 (e2 (ct .mul) (kI 8) (z_ 29)) 1,i_ [28,30] 31 (b_ (ct .shr) 28 30) 1,i_ [31] 32 (u_ (cO .u8) 31) 1,i_ [32] 33 (aL mX 1 1 [(0,1,z_ 32)]) 1,mI [26,33] (bF 34) (dj 1 1 (z_ 26) (z_ 33)),bc [0] 21 0 2,i_ [21] 35 (aV (z_ 21)) 1,cj [35] 36 0 35 1,cj [36] 37 1 36 1,j_ [37,34] (s_ 1 37 34)]))) JR))
def A147:CF:=⟨[],ir [V_ 7 0,o_ 8 (d_ (j7 false .ptr) 7 (.aI (.pointer none))),V_ 9 8,fK 9 10 0,h_ 9 11 (aV (z_ 10)),dF 9 12 0 11,dF 9 13 0 12,dQ 9 14 13,h_ 9 15 (un 14),Q_ 16 9 15] 16 .ret (sr [V_ 17 2,I_ 18 0] (bl 0 DC)),39⟩
theorem c147:cF 147=some A147:=by kernel_rfl
def A148:CF:=⟨[],sr [X_ 3 1] (R_ [V_ 4 0,A_ 5 1 3,L_ 6 5,y_ 7 149 [z_ 4,z_ 6]]),8⟩
theorem c148:cF 148=some A148:=by kernel_rfl
def A149:CF:=⟨[],(R_ [V_ 4 0,V_ 5 1,o_ 6 (u_ (cO .u64) 5),o_ 7 (d_ (ct .shl) 6 (.int .u64 1)),V_ 8 1,o_ 9 (d_ (ct .shr) 8 (.int .u64 63)),o_ 10 (u_ (cO .u64) 9),o_ 11 (b_ (ct .xor) 7 10),y_ 12 185 [z_ 4,z_ 11]]),13⟩
theorem c149:cF 149=some A149:=by kernel_rfl
def A152:CF:=⟨[],sr [X_ 3 1] (R_ [V_ 4 0,A_ 5 2 3,L_ 6 5,y_ 7 153 [z_ 4,z_ 6]]),8⟩
theorem c152:cF 152=some A152:=by kernel_rfl
def Yu:=R_ [V_ 9 0,V_ 10 1,o_ 11 (PE (z_ 10)),y_ 12 187 [z_ 9,z_ 11]]
def A153:CF:=⟨[],sr [V_ 4 0,V_ 5 1,o_ 6 (u_ fb 5),o_ 7 (u_ (cO .u64) 6),y_ 8 185 [z_ 4,z_ 7]] Yu,13⟩
theorem c153:cF 153=some A153:=by kernel_rfl
def A156:CF:=⟨[],sr [X_ 3 1] (R_ [V_ 4 0,A_ 5 1 3,L_ 6 5,o_ 7 (u_ (cO .u8) 6),y_ 8 119 [z_ 4,z_ 7]]),9⟩
theorem c156:cF 156=some A156:=by kernel_rfl
def Yt:=R_ [A_ 24 1 3,L_ 25 24,o_ 26 (u_ (cO .u64) 25),o_ 27 (d_ (ct .xor) 26 (.int .u64 9223372036854775808)),V_ 5 27]
def Ys:=R_ [I_ 6 56]
def M8:=R_ [V_ 30 6,o_ 31 (di yG 30 8),V_ 6 31]
def Dz:CT:=lr [V_ 28 6,o_ 29 (di kP 28 0)] 29 1 2 (R_ [V_ 32 0,V_ 33 5,V_ 34 6,o_ 35 (b_ (ct .shr) 33 34),o_ 36 (u_ (cO .u8) 35),o_ 37 (aL mX 1 1 [(0,1,z_ 36)]),o_ 38 (dj 1 1 (z_ 32) (z_ 37)),V_ 0 38]) M8
def M7:=R_ [V_ 39 0,V_ 4 39]
def M6:=R_ [A_ 45 2 3,L_ 46 45,o_ 47 (u_ fb 46),I_ 48 0]
def M5:=R_ [A_ 58 2 3,L_ 59 58,V_ 60 7,o_ 61 (b_ lK 59 60),o_ 62 (d_ eP 61 (.int .u8 0))]
def MZ:=R_ [V_ 63 0,o_ 64 (aL mX 1 1 [(0,1,(aK (.int .u8 255)))]),o_ 65 (dj 1 1 (z_ 63) (z_ 64)),V_ 0 65]
def C2:=R_ [D_ 66 48 1,V_ 48 66]
def Dy:CT:=sr [B_ 49 48 47] (sq (cd 49 .skip (.exit 3)) (sq (.block 4 (sr [V_ 50 48,V_ 7 50] (sr [V_ 51 0,A_ 52 2 3,L_ 53 52,V_ 54 7,o_ 55 (b_ lK 53 54),o_ 56 (aL mX 1 1 [(0,1,z_ 55)]),o_ 57 (dj 1 1 (z_ 51) (z_ 56)),V_ 0 57] (sq M5 (cd 62 MZ .skip))))) C2))
def MY:=R_ [V_ 67 0,o_ 68 (aL mX 2 1 [(0,1,(aK (.int .u8 0))),(1,1,(aK (.int .u8 1)))]),o_ 69 (dj 1 1 (z_ 67) (z_ 68)),V_ 4 69]
def A159:CF:=⟨[aB 4],sr [X_ 3 1,o_ 4 (c_ (.aI (.slice none 0 0)))] (sq (sr [A_ 8 0 3,L_ 9 8] (.block 0 (sr [K_ 11 9 3,V_ 10 11] (cd 10 (rr [V_ 12 0,A_ 13 1 3,L_ 14 13,o_ 15 (e2 sD (kI 2) (z_ 14)),o_ 16 (u_ (cO .u8) 15),o_ 17 (aL mX 1 1 [(0,1,z_ 16)]),o_ 18 (dj 1 1 (z_ 12) (z_ 17)),V_ 4 18]) (sr [K_ 20 9 1,V_ 19 20] (cd 19 (sr [V_ 21 0,o_ 22 (aL mX 1 1 [(0,1,(aK (.int .u8 4)))]),o_ 23 (dj 1 1 (z_ 21) (z_ 22)),V_ 0 23] (sq Yt (sq (sq Ys (bl 1 Dz)) (rt M7)))) (sr [K_ 41 9 2,V_ 40 41] (cd 40 (sr [V_ 42 0,o_ 43 (aL mX 1 1 [(0,1,(aK (.int .u8 5)))]),o_ 44 (dj 1 1 (z_ 42) (z_ 43)),V_ 0 44] (sq (sq M6 (bl 3 Dy)) (rt MY))) .skip)))))))) (rr [V_ 70 0,o_ 71 (aL mX 1 1 [(0,1,(aK (.int .u8 1)))]),o_ 72 (dj 1 1 (z_ 70) (z_ 71)),V_ 4 72])),73⟩
theorem c159:cF 159=some A159:=by kernel_rfl
def ajM:CT:=sr [B_ 9 8 7] (sq (cd 9 .skip (.exit 0)) (sq (.block 1 (sr [V_ 10 8,V_ 5 10] (sr [V_ 11 1,V_ 12 0,V_ 13 5,J_ 14 8 12 13,N_ 15 8 14,vP (bF 16) (z_ 11) [z_ 15]] (cd 16 (rr [V_ 17 5,V_ 4 17]) .skip)))) (R_ [D_ 18 8 1,V_ 8 18])))
def A164:CF:=⟨[aB 4],sr [I_ 4 0] (sq (sr [V_ 6 0,E_ 7 6,I_ 8 0] (bl 0 ajM)) (rr [o_ 4 (c_ (.int .i64 (-1)))])),19⟩
theorem c164:cF 164=some A164:=by kernel_rfl
def Z6:CT:=sr [B_ 9 8 7] (sq (cd 9 .skip (.exit 0)) (sq (.block 1 (sr [V_ 10 8,V_ 5 10] (sr [V_ 11 1,V_ 12 0,V_ 13 5,J_ 14 3 12 13,N_ 15 3 14,vP (bF 16) (z_ 11) [z_ 15]] (cd 16 (rr [V_ 17 5,V_ 4 17]) .skip)))) (R_ [D_ 18 8 1,V_ 8 18])))
def X9:=R_ [o_ 4 (c_ (.int .i64 (-1)))]
def A165:CF:=⟨[aB 4],sr [I_ 4 0] (sq (sr [V_ 6 0,E_ 7 6,I_ 8 0] (bl 0 Z6)) (rt X9)),19⟩
theorem c165:cF 165=some A165:=by kernel_rfl
def ym:=R_ [V_ 15 8,H_ 16 15 0,V_ 17 16,dF 17 18 0 3,dQ 17 19 18,h_ 17 20 (di eP 19 0),Q_ 21 17 20,V_ 22 21,dF 22 23 0 4,dQ 22 24 23,h_ 22 25 (di eP 24 0),Q_ 26 22 25]
def CY:=R_ [o_ 27 (aH dy 3 []),V_ 28 8,S_ 3 6 27,V_ 7 28]
def X8:=R_ [V_ 30 2,A_ 31 1 3,L_ 32 31,A_ 33 1 4,L_ 34 33,vP (bF 35) (z_ 30) [z_ 32,z_ 34],V_ 29 35,W_ 36 0 29,W_ 37 1 29,V_ 9 36,V_ 10 37]
def JL:=R_ [V_ 38 10,o_ 39 (un 38)]
def X7:=R_ [o_ 40 (aH dy 3 []),S_ 3 6 40,I_ 7 31]
def X6:=R_ [V_ 41 9,o_ 42 (aH dy 3 [(0,1,kI 1),(1,1,z_ 41)]),S_ 3 6 42,I_ 7 0]
def A166:CF:=⟨[bS 6 3,aB 7],sr [X_ 3 0,X_ 4 1,o_ 6 (ay dy 3),I_ 7 0] (sq (sr [N_ 11 3 3,N_ 12 3 4,o_ 13 (aL dy 2 3 [(0,3,z_ 11),(3,3,z_ 12)]),y_ 14 168 [kI 1,z_ 13],V_ 8 14] (sq ym (cd 26 (rt CY) .skip))) (sq X8 (iq JL 39 (rt X7) (rt X6)))),43⟩
theorem c166:cF 166=some A166:=by kernel_rfl
def A167:CF:=⟨[aB 4,aB 5],sr [I_ 4 0,F_ 5] (rr [V_ 6 1,o_ 7 (u_ (GP .neg) 6),V_ 8 1,o_ 9 (di kL 8 (-9223372036854775808)),V_ 4 7,V_ 5 9]),10⟩
theorem c167:cF 167=some A167:=by kernel_rfl
def X5:=R_ [I_ 4 5]
def X4:=R_ [D_ 18 11 1,V_ 11 18]
def J':CT:=sr [B_ 12 11 10] (sq (cd 12 .skip (.exit 0)) (sq (.block 1 (sr [J_ 13 3 9 11,N_ 14 3 13,o_ 6 (ay dy 3),S_ 3 6 14] (sr [N_ 15 3 6,y_ 16 47 [z_ 15],o_ 17 (un 16)] (cd 17 (rt X5) .skip)))) X4))
def X3:=R_ [V_ 19 1,E_ 20 19,I_ 21 0]
def vn:=R_ [D_ 34 21 1,V_ 21 34]
def yw:CT:=sr [B_ 22 21 20] (sq (cd 22 .skip (.exit 2)) (sq (.block 3 (sr [J_ 23 3 19 21,N_ 24 3 23,o_ 8 (ay dy 3),S_ 3 8 24] (sr [A_ 25 0 8,L_ 26 25,H_ 27 26 0,V_ 28 27,fe 28 29 0 8,fu 28 30 29,fR 28 31 0,g_ 28 32 (b_ kL 30 31),P_ 33 28 32] (cd 33 (rr [I_ 4 30]) .skip)))) vn))
def MX:=R_ [I_ 4 0]
def A168:CF:=⟨[aB 4],sr [I_ 4 0] (sq (sr [V_ 9 1,E_ 10 9,I_ 11 0] (bl 0 J')) (sq (sq X3 (bl 2 yw)) (rt MX))),35⟩
theorem c168:cF 168=some A168:=by kernel_rfl
def A169:CF:=⟨[bS 2 3],sr [o_ 2 (ay dy 3)] (ir [V_ 3 0] 3 (rr [o_ 4 (aH dy 3 [(0,1,kI 3),(1,1,kI 1)]),S_ 3 2 4]) (rr [o_ 5 (aH dy 3 [(0,1,kI 3)]),S_ 3 2 5])),6⟩
theorem c169:cF 169=some A169:=by kernel_rfl
def A170:CF:=⟨[bS 4 3,aB 5],sr [X_ 2 0,X_ 3 1,o_ 4 (ay dy 3),I_ 5 0] (rr [N_ 6 3 2,N_ 7 3 3,y_ 8 166 [z_ 6,z_ 7,kf 196],W_ 9 0 8,W_ 10 1 8,S_ 3 4 9,V_ 5 10]),11⟩
theorem c170:cF 170=some A170:=by kernel_rfl
def A171:CF:=⟨[bS 4 3,aB 5],sr [X_ 2 0,X_ 3 1,o_ 4 (ay dy 3),I_ 5 0] (rr [N_ 6 3 2,N_ 7 3 3,y_ 8 166 [z_ 6,z_ 7,kf 197],W_ 9 0 8,W_ 10 1 8,S_ 3 4 9,V_ 5 10]),11⟩
theorem c171:cF 171=some A171:=by kernel_rfl
def A172:CF:=⟨[bS 4 3,aB 5],sr [X_ 2 0,X_ 3 1,o_ 4 (ay dy 3),I_ 5 0] (rr [N_ 6 3 2,N_ 7 3 3,y_ 8 166 [z_ 6,z_ 7,kf 198],W_ 9 0 8,W_ 10 1 8,S_ 3 4 9,V_ 5 10]),11⟩
theorem c172:cF 172=some A172:=by kernel_rfl
def JF:=R_ [X_ 2 0,X_ 3 1,o_ 4 (ay dy 3),I_ 5 0]
def JE:=R_ [N_ 6 3 2,N_ 7 3 3,o_ 8 (aL dy 2 3 [(0,3,z_ 6),(3,3,z_ 7)]),y_ 9 168 [kI 1,z_ 8],K_ 10 9 0,V_ 11 10,fe 11 12 0 2,fu 11 13 12,g_ 11 14 (di kL 13 0),P_ 15 11 14,V_ 16 15,fe 16 17 0 3,fu 16 18 17,g_ 16 19 (di kL 18 0),P_ 20 16 19,V_ 21 20,fe 21 22 1 3,fu 21 23 22,g_ 21 24 (di eP 23 0),P_ 25 21 24]
def JD:=R_ [o_ 26 (aH dy 3 []),S_ 3 4 26,I_ 5 32]
def A173:CF:=⟨[bS 4 3,aB 5],sq JF (iq JE 25 (rt JD) (rr [N_ 27 3 2,N_ 28 3 3,y_ 29 166 [z_ 27,z_ 28,kf 199],W_ 30 0 29,W_ 31 1 29,S_ 3 4 30,V_ 5 31])),32⟩
theorem c173:cF 173=some A173:=by kernel_rfl
def A174:CF:=⟨[bS 4 3,aB 5],sr [X_ 2 0,X_ 3 1,o_ 4 (ay dy 3),I_ 5 0] (ir [N_ 6 3 2,N_ 7 3 3,o_ 8 (aL dy 2 3 [(0,3,z_ 6),(3,3,z_ 7)]),y_ 9 168 [kI 1,z_ 8],K_ 10 9 0,V_ 11 10,fe 11 12 0 2,fu 11 13 12,g_ 11 14 (di kL 13 0),P_ 15 11 14,V_ 16 15,fe 16 17 0 3,fu 16 18 17,g_ 16 19 (di kL 18 0),P_ 20 16 19,V_ 21 20,fe 21 22 1 3,fu 21 23 22,g_ 21 24 (di eP 23 0),P_ 25 21 24] 25 (rr [o_ 26 (aH dy 3 []),S_ 3 4 26,I_ 5 32]) (rr [N_ 27 3 2,N_ 28 3 3,y_ 29 166 [z_ 27,z_ 28,kf 200],W_ 30 0 29,W_ 31 1 29,S_ 3 4 30,V_ 5 31])),32⟩
theorem c174:cF 174=some A174:=by kernel_rfl
def tK:=R_ [V_ 11 6,H_ 12 11 0,V_ 13 12,dF 13 14 0 2,dQ 13 15 14,h_ 13 16 (di eP 15 0),Q_ 17 13 16,V_ 18 17,dF 18 19 0 3,dQ 18 20 19,h_ 18 21 (di eP 20 0),Q_ 22 18 21]
def CW:=R_ [o_ 23 (aH dy 3 []),V_ 24 6,S_ 3 4 23,V_ 5 24]
def JC:=R_ [A_ 25 2 2,L_ 26 25,o_ 27 (u_ fb 26),A_ 28 2 3,L_ 29 28,o_ 30 (u_ fb 29),o_ 31 (b_ sD 27 30),o_ 32 (di jc 31 64)]
def XX:=R_ [o_ 33 (aH dy 3 []),S_ 3 4 33,I_ 5 3]
def XW:=R_ [A_ 34 2 2,L_ 35 34,A_ 36 2 3,L_ 37 36,o_ 38 (b_ sD 35 37),o_ 39 (aH dy 3 [(0,1,kI 2),(2,1,z_ 38)]),S_ 3 4 39,I_ 5 0]
def A175:CF:=⟨[bS 4 3,aB 5],sr [X_ 2 0,X_ 3 1,o_ 4 (ay dy 3),I_ 5 0] (sq (sr [N_ 7 3 2,N_ 8 3 3,o_ 9 (aL dy 2 3 [(0,3,z_ 7),(3,3,z_ 8)]),y_ 10 168 [kI 2,z_ 9],V_ 6 10] (sq tK (cd 22 (rt CW) .skip))) (iq JC 32 (rt XX) (rt XW))),40⟩
theorem c175:cF 175=some A175:=by kernel_rfl
def A176:CF:=⟨[bS 4 3,aB 5],sr [X_ 2 0,X_ 3 1,o_ 4 (ay dy 3),I_ 5 0] (rr [N_ 6 3 2,N_ 7 3 3,y_ 8 201 [z_ 6,z_ 7,kf 202],W_ 9 0 8,W_ 10 1 8,S_ 3 4 9,V_ 5 10]),11⟩
theorem c176:cF 176=some A176:=by kernel_rfl
def A177:CF:=⟨[bS 4 3,aB 5],sr [X_ 2 0,X_ 3 1,o_ 4 (ay dy 3),I_ 5 0] (rr [N_ 6 3 2,N_ 7 3 3,y_ 8 201 [z_ 6,z_ 7,kf 203],W_ 9 0 8,W_ 10 1 8,S_ 3 4 9,V_ 5 10]),11⟩
theorem c177:cF 177=some A177:=by kernel_rfl
def A178:CF:=⟨[bS 4 3,aB 5],sr [X_ 2 0,X_ 3 1,o_ 4 (ay dy 3),I_ 5 0] (rr [N_ 6 3 2,N_ 7 3 3,y_ 8 201 [z_ 6,z_ 7,kf 204],W_ 9 0 8,W_ 10 1 8,S_ 3 4 9,V_ 5 10]),11⟩
theorem c178:cF 178=some A178:=by kernel_rfl
def A179:CF:=⟨[bS 4 3,aB 5],sr [X_ 2 0,X_ 3 1,o_ 4 (ay dy 3),I_ 5 0] (rr [N_ 6 3 2,N_ 7 3 3,y_ 8 201 [z_ 6,z_ 7,kf 205],W_ 9 0 8,W_ 10 1 8,S_ 3 4 9,V_ 5 10]),11⟩
theorem c179:cF 179=some A179:=by kernel_rfl
def A180:CF:=⟨[bS 4 3,aB 5],sr [X_ 2 0,X_ 3 1,o_ 4 (ay dy 3),I_ 5 0] (rr [N_ 6 3 2,N_ 7 3 3,y_ 8 201 [z_ 6,z_ 7,kf 206],W_ 9 0 8,W_ 10 1 8,S_ 3 4 9,V_ 5 10]),11⟩
theorem c180:cF 180=some A180:=by kernel_rfl
def A181:CF:=⟨[bS 4 3,aB 5],sr [X_ 2 0,X_ 3 1,o_ 4 (ay dy 3),I_ 5 0] (rr [N_ 6 3 2,N_ 7 3 3,y_ 8 201 [z_ 6,z_ 7,kf 207],W_ 9 0 8,W_ 10 1 8,S_ 3 4 9,V_ 5 10]),11⟩
theorem c181:cF 181=some A181:=by kernel_rfl
def JB:=R_ [X_ 2 0,X_ 3 1,o_ 4 (ay dy 3),I_ 5 0]
def JA:=R_ [N_ 8 3 2,N_ 9 3 3,o_ 10 (aL dy 2 3 [(0,3,z_ 8),(3,3,z_ 9)]),y_ 11 168 [kI 3,z_ 10],V_ 6 11]
def CV:=R_ [V_ 12 6,H_ 13 12 0]
def Jz:=R_ [o_ 14 (aH dy 3 []),V_ 15 6,S_ 3 4 14,V_ 5 15]
def ye:=R_ [N_ 18 3 2,N_ 19 3 7,o_ 20 (b_ (kA false [.i,.i,.s]) 18 19),V_ 21 20,zM 21 22 3 3,zM 21 23 3 7,h_ 21 24 (b_ (kA false [.i,.i,.s]) 22 23),Q_ 25 21 24,V_ 17 25]
def CU:=R_ [N_ 26 3 7,S_ 3 4 26,I_ 5 0]
def yd:=R_ [A_ 28 0 2,L_ 29 28,K_ 30 29 0,V_ 31 30,dF 31 32 0 3,dQ 31 33 32,h_ 31 34 (di eP 33 0),Q_ 35 31 34,V_ 27 35]
def CS:=R_ [o_ 36 (aH dy 3 []),S_ 3 4 36,I_ 5 0]
def A182:CF:=⟨[bS 4 3,aB 5],sq JB (sq (sq JA (sq CV (cd 13 (rt Jz) .skip))) (sr [y_ 16 169 [(aK (.bool false))],o_ 7 (ay dy 3),S_ 3 7 16] (sq (.block 0 (sq ye (cd 17 (rt CU) (sq yd (cd 27 (rt CS) .skip))))) (rr [y_ 37 169 [(aK (.bool true))],S_ 3 4 37,I_ 5 0])))),38⟩
theorem c182:cF 182=some A182:=by kernel_rfl
def A183:CF:=⟨[bS 4 3,aB 5],sr [X_ 2 0,X_ 3 1,o_ 4 (ay dy 3),I_ 5 0] (sq (sr [N_ 8 3 2,N_ 9 3 3,o_ 10 (aL dy 2 3 [(0,3,z_ 8),(3,3,z_ 9)]),y_ 11 168 [kI 3,z_ 10],V_ 6 11] (sr [V_ 12 6,H_ 13 12 0] (cd 13 (rr [o_ 14 (aH dy 3 []),V_ 15 6,S_ 3 4 14,V_ 5 15]) .skip))) (sr [y_ 16 169 [(aK (.bool true))],o_ 7 (ay dy 3),S_ 3 7 16] (sq (.block 0 (sr [N_ 18 3 2,N_ 19 3 7,o_ 20 (b_ (kA false [.i,.i,.s]) 18 19),V_ 21 20,zM 21 22 3 3,zM 21 23 3 7,h_ 21 24 (b_ (kA false [.i,.i,.s]) 22 23),Q_ 25 21 24,V_ 17 25] (cd 17 (rr [N_ 26 3 7,S_ 3 4 26,I_ 5 0]) (sr [A_ 28 0 2,L_ 29 28,K_ 30 29 0,V_ 31 30,dF 31 32 0 3,dQ 31 33 32,h_ 31 34 (di eP 33 0),Q_ 35 31 34,V_ 27 35] (cd 27 (rr [o_ 36 (aH dy 3 []),S_ 3 4 36,I_ 5 0]) .skip))))) (rr [y_ 37 169 [(aK (.bool false))],S_ 3 4 37,I_ 5 0])))),38⟩
theorem c183:cF 183=some A183:=by kernel_rfl
def A184:CF:=⟨[aB 4],sr [I_ 4 0] (rr [V_ 5 0,V_ 6 1,o_ 7 (b_ FD 5 6),V_ 4 7]),8⟩
theorem c184:cF 184=some A184:=by kernel_rfl
def XV:=R_ [V_ 8 0,V_ 9 1,o_ 10 (u_ (cO .u8) 9),o_ 11 (d_ (ct .or) 10 (.int .u8 128)),y_ 12 119 [z_ 8,z_ 11]]
def XU:=R_ [V_ 6 1,o_ 7 (d_ (ct .shr) 6 (.int .u64 7)),V_ 1 7]
def J9:CT:=lr [V_ 4 1,o_ 5 (d_ jc 4 (.int .u64 127))] 5 0 1 XV XU
def XT:=R_ [V_ 13 0,V_ 14 1,o_ 15 (u_ (cO .u8) 14),y_ 16 119 [z_ 13,z_ 15]]
def A185:CF:=⟨[],sq (bl 0 J9) XT,17⟩
theorem c185:cF 185=some A185:=by kernel_rfl
def A187:CF:=⟨[],sr [V_ 4 0,o_ 5 (d_ (j7 true .ptr) 4 (.aI (.pointer none))),V_ 6 5,fR 6 7 0,g_ 6 8 (aV (z_ 7)),fe 6 9 0 8,fe 6 10 0 9,fu 6 11 10,P_ 12 6 11] (cd 12 (R_ [V_ 13 0,V_ 14 0,o_ 15 (aV (z_ 14)),A_ 16 0 15,A_ 17 1 16,L_ 18 17,V_ 19 1,o_ 20 (dj 1 1 (z_ 18) (z_ 19)),o_ 21 (aV (z_ 13)),A_ 22 0 21,A_ 23 1 22,S_ 1 23 20]) .skip),24⟩
theorem c187:cF 187=some A187:=by kernel_rfl
def A196:CF:=⟨[aB 4,aB 5],sr [I_ 4 0,F_ 5] (sr [V_ 7 0,V_ 8 1,o_ 9 (b_ sD 7 8),V_ 6 9] (rr [V_ 10 6,V_ 11 0,o_ 12 (di ia 11 0),V_ 13 1,o_ 14 (di ia 13 0),o_ 15 (b_ (j7 true .bool) 12 14),V_ 16 15,fK 16 17 6,h_ 16 18 (di ia 17 0),fK 16 19 0,h_ 16 20 (di ia 19 0),h_ 16 21 (b_ (j7 false .bool) 18 20),Q_ 22 16 21,V_ 4 10,V_ 5 22])),23⟩
theorem c196:cF 196=some A196:=by kernel_rfl
def A197:CF:=⟨[aB 4,aB 5],sr [I_ 4 0,F_ 5] (sr [V_ 7 0,V_ 8 1,o_ 9 (b_ yG 7 8),V_ 6 9] (rr [V_ 10 6,V_ 11 0,o_ 12 (di ia 11 0),V_ 13 1,o_ 14 (di ia 13 0),o_ 15 (b_ (j7 false .bool) 12 14),V_ 16 15,fK 16 17 6,h_ 16 18 (di ia 17 0),fK 16 19 0,h_ 16 20 (di ia 19 0),h_ 16 21 (b_ (j7 false .bool) 18 20),Q_ 22 16 21,V_ 4 10,V_ 5 22])),23⟩
theorem c197:cF 197=some A197:=by kernel_rfl
def A198:CF:=⟨[aB 4,aB 5],sr [I_ 4 0,F_ 5] (ir [V_ 7 0,K_ 8 7 0,V_ 9 8,fK 9 10 1,h_ 9 11 (di eP 10 0),Q_ 12 9 11] 12 (rr [I_ 4 0,T_ 5]) (sr [V_ 13 0,V_ 14 1,o_ 15 (b_ (ct .mul) 13 14),V_ 6 15] (rt (.eM [16,17,18,19,20,21,22,23,24,25,26,27,28,29,30,31,32,33,34,35,36,37,38] [bc [6] 16 6 1,bc [0] 17 0 1,i_ [17] 18 (di eP 17 (-1)) 1,bc [18] 19 18 1,gI [19,1] 19 20 (v_ 1) 1,gI [19,20] 19 21 (di eP 20 (-9223372036854775808)) 1,i_ [19,21] 22 (p_ 19 21) 1,bc [22] 23 22 1,hI [23,1] 23 24 (v_ 1) 1,hI [23,24] 23 25 (di eP 24 (-1)) 1,hI [23,25] 23 26 (v_ 25) 1,gI [26,0] 26 27 (v_ 0) 1,gI [26,27] 26 28 (di eP 27 (-9223372036854775808)) 1,hI [23,26,28] 23 29 (p_ 26 28) 1,i_ [23,29] 30 (q_ 23 29) 1,i_ [30] 31 (un 30) 1,bc [31] 32 31 1,gI [32,6] 32 33 (v_ 6) 1,gI [32,1] 32 34 (v_ 1) 1,gI [32,33,34] 32 35 (b_ (ct .quo) 33 34) 1,gI [32,0] 32 36 (v_ 0) 1,gI [32,35,36] 32 37 (b_ eP 35 36) 1,i_ [32,37] 38 (p_ 32 37) 1,bc [16] 4 16 1,bc [38] 5 38 1])))),39⟩
theorem c198:cF 198=some A198:=by kernel_rfl
def A199:CF:=⟨[aB 4,aB 5],sr [I_ 4 0,F_ 5] (ir [V_ 6 0,o_ 7 (di eP 6 (-9223372036854775808)),V_ 8 7,fR 8 9 1,g_ 8 10 (di eP 9 (-1)),P_ 11 8 10] 11 (rr [I_ 4 0,F_ 5]) (rr [V_ 12 0,V_ 13 1,o_ 14 (b_ (ct .quo) 12 13),V_ 4 14,T_ 5])),15⟩
theorem c199:cF 199=some A199:=by kernel_rfl
def A200:CF:=⟨[aB 4,aB 5],sr [I_ 4 0,F_ 5] (ir [V_ 6 1,o_ 7 (di eP 6 (-1))] 7 (rr [I_ 4 0,T_ 5]) (rr [V_ 8 0,V_ 9 1,o_ 10 (b_ (ct .rem) 8 9),V_ 4 10,T_ 5])),11⟩
theorem c200:cF 200=some A200:=by kernel_rfl
def Jt:=R_ [o_ 16 (aH dy 3 []),S_ 3 6 16,I_ 7 5]
def xZ:=R_ [A_ 17 0 3,L_ 18 17,K_ 19 18 0,V_ 20 19,dF 20 21 0 4,dQ 20 22 21,h_ 20 23 (di eP 22 0),Q_ 24 20 23]
def Js:=R_ [o_ 25 (aH dy 3 []),S_ 3 6 25,I_ 7 0]
def Jr:=R_ [A_ 26 0 3,L_ 27 26,A_ 28 0 4,L_ 29 28,o_ 30 (b_ kL 27 29)]
def XF:=R_ [o_ 31 (aH dy 3 []),S_ 3 6 31,I_ 7 30]
def XE:=R_ [V_ 32 2,N_ 33 3 3,N_ 34 3 4,y_ 35 116 [z_ 33,z_ 34],vP (bF 36) (z_ 32) [z_ 35],y_ 37 169 [z_ 36],S_ 3 6 37,I_ 7 0]
def A201:CF:=⟨[bS 6 3,aB 7],sr [X_ 3 0,X_ 4 1,o_ 6 (ay dy 3),I_ 7 0] (ir [N_ 8 3 3,y_ 9 47 [z_ 8],o_ 10 (un 9),V_ 11 10,zM 11 12 3 4,nO (z_ 11) false (bF 13) 47 [z_ 12],h_ 11 14 (un 13),Q_ 15 11 14] 15 (rt Jt) (iq xZ 24 (rt Js) (iq Jr 30 (rt XF) (rt XE)))),38⟩
theorem c201:cF 201=some A201:=by kernel_rfl
def A202:CF:=⟨[aB 2],sr [F_ 2] (rr [V_ 3 0,K_ 4 3 0,V_ 2 4]),5⟩
theorem c202:cF 202=some A202:=by kernel_rfl
def A203:CF:=⟨[aB 2],sr [F_ 2] (rr [V_ 3 0,H_ 4 3 0,V_ 2 4]),5⟩
theorem c203:cF 203=some A203:=by kernel_rfl
def A204:CF:=⟨[aB 2],sr [F_ 2] (rr [V_ 3 0,o_ 4 (di ia 3 0),V_ 2 4]),5⟩
theorem c204:cF 204=some A204:=by kernel_rfl
def A205:CF:=⟨[aB 2],sr [F_ 2] (rr [V_ 3 0,o_ 4 (di vc 3 0),V_ 2 4]),5⟩
theorem c205:cF 205=some A205:=by kernel_rfl
def A206:CF:=⟨[aB 2],sr [F_ 2] (rr [V_ 3 0,o_ 4 (di jc 3 0),V_ 2 4]),5⟩
theorem c206:cF 206=some A206:=by kernel_rfl
def A207:CF:=⟨[aB 2],sr [F_ 2] (rr [V_ 3 0,o_ 4 (di kP 3 0),V_ 2 4]),5⟩
theorem c207:cF 207=some A207:=by kernel_rfl
def A226:CF:=⟨[aB 4,aB 5],sr [X_ 2 0,o_ 4 (c_ (.aI .nilIface)),I_ 5 0] (rr [N_ 6 3 2,V_ 7 1,y_ 8 228 [z_ 6,z_ 7,kf 229],W_ 9 0 8,W_ 10 1 8,V_ 4 9,V_ 5 10]),11⟩
theorem c226:cF 226=some A226:=by kernel_rfl
def Jm:=R_ [V_ 16 8,o_ 17 (di ia 16 0)]
def W8:=R_ [o_ 18 (aH aaj 4 []),X_ 19 18,o_ 20 (u_ (oR 260) 19),V_ 6 20,I_ 7 0]
def W7:=R_ [A_ 21 0 3,A_ 22 0 21,A_ 23 1 22,L_ 24 23,V_ 25 8,J_ 26 6 24 25,N_ 27 6 26,o_ 9 (ay Oi 6),S_ 6 9 27]
def W6:=R_ [N_ 28 3 3,A_ 29 1 9,L_ 30 29,o_ 31 (kG (.func 231) [] [z_ 9,z_ 5]),y_ 32 228 [z_ 28,z_ 30,z_ 31],W_ 33 0 32,W_ 34 1 32,V_ 6 33,V_ 7 34]
def A227:CF:=⟨[aB 6,aB 7],sr [X_ 3 0,X_ 4 1,X_ 5 2,o_ 6 (c_ (.aI .nilIface)),I_ 7 0] (sr [A_ 10 0 3,A_ 11 0 10,A_ 12 1 11,L_ 13 12,o_ 14 (kG (.func 230) [] [z_ 4]),y_ 15 115 [z_ 13,z_ 14],V_ 8 15] (iq Jm 17 (rt W8) (sq W7 (rt W6)))),35⟩
theorem c227:cF 227=some A227:=by kernel_rfl
def CP:=R_ [V_ 15 8,o_ 16 (di ia 15 0),V_ 17 16,fK 17 18 8,dF 17 19 0 3,dF 17 20 2 19,dQ 17 21 20,h_ 17 22 (u_ bu 21),h_ 17 23 (b_ kP 18 22),Q_ 24 17 23]
def Jl:=R_ [o_ 25 (aH aaj 4 []),X_ 26 25,o_ 27 (u_ (oR 260) 26),V_ 6 27,I_ 7 0]
def W5:=R_ [V_ 28 8,o_ 29 (u_ (cO .u32) 28),o_ 30 (d_ sD 29 (.int .u32 1)),A_ 31 0 3,A_ 32 2 31,L_ 33 32,V_ 34 8,J_ 35 1 33 34,L_ 36 35,V_ 37 2,o_ 38 (aH aaj 4 [(0,1,z_ 30),(1,1,z_ 36),(3,1,z_ 37)]),X_ 39 38,o_ 40 (u_ (oR 260) 39),V_ 6 40,I_ 7 0]
def A228:CF:=⟨[aB 6,aB 7],sr [X_ 3 0,X_ 4 1,o_ 6 (c_ (.aI .nilIface)),I_ 7 0] (sr [A_ 9 0 3,A_ 10 0 9,A_ 11 0 10,L_ 12 11,o_ 13 (kG (.func 233) [] [z_ 4]),y_ 14 110 [z_ 12,z_ 13],V_ 8 14] (iq CP 24 (rt Jl) (rt W5))),41⟩
theorem c228:cF 228=some A228:=by kernel_rfl
def A229:CF:=⟨[aB 2],sr [F_ 2] (rr [T_ 2]),3⟩
theorem c229:cF 229=some A229:=by kernel_rfl
def A230:CF:=⟨[aB 3],sr [X_ 2 0,F_ 3] (rr [A_ 4 0 2,L_ 5 4,L_ 6 1,o_ 7 (b_ eP 5 6),V_ 3 7]),8⟩
theorem c230:cF 230=some A230:=by kernel_rfl
def A231:CF:=⟨[aB 4],sr [F_ 4] (rr [N_ 5 6 1,N_ 6 11 2,V_ 7 0,y_ 8 232 [z_ 5,z_ 6,z_ 7],V_ 4 8]),9⟩
theorem c231:cF 231=some A231:=by kernel_rfl
def Jk:=R_ [A_ 45 3 3,L_ 46 45,V_ 47 7,o_ 48 (Bz (mf 1) (z_ 46) none (some (z_ 47)) none),E_ 49 48,I_ 50 0]
def sj:=R_ [F_ 6]
def CO:=R_ [D_ 90 50 1,V_ 50 90]
def Dx:CT:=sr [B_ 51 50 49] (sq (cd 51 .skip (.exit 0)) (sq (.block 1 (sr [V_ 52 50,J_ 53 1 48 50,L_ 54 53,V_ 8 52,V_ 9 54] (sq (.eM [55,56,57,58,59,60,61,62,63,64,65,66,67,68,69,70,71,72,73,74,75,76,77,78,79,80,81,82,83,84,85,86,87,88,89] [bc [9] 55 9 1,i_ [55] 56 (di ia 55 0) 1,bc [56] 57 56 1,hI [57,9] 57 58 (v_ 9) 1,hI [57,2] 57 59 (v_ 2) 1,hI [57,59] 57 60 (u_ bu 59) 1,hI [57,58,60] 57 61 (b_ kP 58 60) 1,i_ [57,61] 62 (q_ 57 61) 1,bc [62] 63 62 1,hI [63,2] 63 64 (v_ 2) 1,hI [63,9] 63 65 (v_ 9) 1,hI [63,64,65] 63 66 (b_ (dG 3) 64 65) 1,hI [63,66] 63 67 (a_ 0 66) 1,hI [63,67] 63 68 (l_ 67) 1,hI [63,68] 63 69 (di eP 68 0) 1,i_ [63,69] 70 (q_ 63 69) 1,bc [70] 71 70 1,hI [71,8] 71 72 (v_ 8) 1,hI [71,4] 71 73 (a_ 0 4) 1,hI [71,73] 71 74 (l_ 73) 1,hI [71,74] 71 75 (u_ bu 74) 1,hI [71,72,75] 71 76 (b_ ia 72 75) 1,hI [71,76] 71 77 (v_ 76) 1,gI [77,2] 77 78 (v_ 2) 1,gI [77,9] 77 79 (v_ 9) 1,gI [77,78,79] 77 80 (b_ (dG 3) 78 79) 1,gI [77,80] 77 81 (n_ 3 80) 1,gI [77,4] 77 82 (a_ 0 4) 1,gI [77,82] 77 83 (l_ 82) 1,gI [77,8] 77 84 (v_ 8) 1,gI [77,83,84] 77 85 (b_ (dG 3) 83 84) 1,gI [77,85] 77 86 (n_ 3 85) 1,gI [77,81,86] 77 87 (b_ (kA true [.i,.i,.s]) 81 86) 1,hI [71,77,87] 71 88 (p_ 77 87) 1,i_ [71,88] 89 (q_ 71 88) 1]) (cd 89 (rt sj) .skip)))) CO))
def vm:=R_ [A_ 91 1 4,L_ 92 91]
def CN:CT:=.eM [94,95,96,97,98,99,100,101,102,103,104,105,93,106,107] [bc [2] 94 2 1,cj [3] 95 3 3 1,cf [95] 96 95 1,bc [7] 97 7 1,i_ [97] 98 (di yG 97 1) 1,fC [96,98] 99 1 96 98 1,cf [99] 100 99 1,fC [94,100] 101 3 94 100 1,gf [101] 102 3 101 1,cj [4] 103 2 4 1,gf [103] 104 3 103 1,cI [102,104] (bF 105) 87 [z_ 102,z_ 104],bc [105] 93 105 1,i_ [93] 106 (u_ (fG 0) 93) 1,i_ [93] 107 (u_ (fG 1) 93) 1,bc [106] 10 106 1,bc [107] 11 107 1]
def lW:=R_ [V_ 108 11,H_ 109 108 0,V_ 110 109,dF 110 111 2 4,dF 110 112 0 111,dQ 110 113 112,h_ 110 114 (di eP 113 0),Q_ 115 110 114,V_ 116 115,fK 116 117 10,h_ 116 118 (di ia 117 0),Q_ 119 116 118,V_ 120 119,fK 120 121 10,h_ 120 122 (di eP 121 0),fK 120 123 122,fe 123 124 5 4,fu 123 125 124,g_ 123 126 (un 125),h_ 120 127 (p_ 123 126),Q_ 128 120 127]
def pT:=R_ [F_ 6]
def si:=R_ [A_ 129 6 4,L_ 130 129]
def vl:CT:=.eM [132,133,134,135,136,137,138,139,140,141,142,143,131,144,145] [bc [2] 132 2 1,cj [3] 133 3 3 1,cf [133] 134 133 1,bc [7] 135 7 1,i_ [135] 136 (di yG 135 1) 1,fC [134,136] 137 1 134 136 1,cf [137] 138 137 1,fC [132,138] 139 3 132 138 1,gf [139] 140 3 139 1,cj [4] 141 7 4 1,gf [141] 142 3 141 1,cI [140,142] (bF 143) 87 [z_ 140,z_ 142],bc [143] 131 143 1,i_ [131] 144 (u_ (fG 0) 131) 1,i_ [131] 145 (u_ (fG 1) 131) 1,bc [144] 12 144 1,bc [145] 13 145 1]
def kM:=R_ [V_ 146 13,H_ 147 146 0,V_ 148 147,dF 148 149 7 4,dF 148 150 0 149,dQ 148 151 150,h_ 148 152 (di eP 151 0),Q_ 153 148 152,V_ 154 153,fK 154 155 12,h_ 154 156 (di jc 155 0),Q_ 157 154 156,V_ 158 157,fK 158 159 12,h_ 158 160 (di eP 159 0),fK 158 161 160,fe 161 162 10 4,fu 161 163 162,g_ 161 164 (un 163),h_ 158 165 (p_ 161 164),Q_ 166 158 165]
def nH:=R_ [F_ 6]
def pS:=R_ [T_ 6]
def A232:CF:=⟨[aB 6],sr [X_ 3 0,X_ 4 1,F_ 6] (sr [A_ 14 0 4,L_ 15 14,E_ 16 15,V_ 7 16] (ir [V_ 17 7,A_ 18 3 3,L_ 19 18,E_ 20 19,o_ 21 (b_ jc 17 20),V_ 22 21,dF 22 23 1 4,dQ 22 24 23,fK 22 25 24,dF 25 26 6 4,dQ 25 27 26,h_ 22 28 (q_ 25 27),fK 22 29 28,fR 29 30 7,fe 29 31 3 3,fu 29 32 31,g_ 29 33 (u_ bu 32),g_ 29 34 (b_ eP 30 33),h_ 22 35 (p_ 29 34),Q_ 36 22 35] 36 (rr [F_ 6]) (ir [A_ 37 1 4,L_ 38 37,V_ 39 38,dF 39 40 6 4,dQ 39 41 40,Q_ 42 39 41] 42 (R_ [V_ 43 7,D_ 44 43 1,V_ 7 44]) (sq (sq Jk (bl 0 Dx)) (iq vm 92 (sq CN (sq lW (cd 128 (rt pT) .skip))) (iq si 130 (sq vl (sq kM (cd 166 (rt nH) .skip))) (rt pS))))))),167⟩
theorem c232:cF 232=some A232:=by kernel_rfl
def A233:CF:=⟨[aB 3],sr [X_ 2 0,F_ 3] (rr [A_ 4 0 2,L_ 5 4,L_ 6 1,o_ 7 (b_ eP 5 6),V_ 3 7]),8⟩
theorem c233:cF 233=some A233:=by kernel_rfl
def W4:=R_ [V_ 17 0,o_ 18 (aV (z_ 17)),A_ 19 2 18,L_ 20 19,V_ 6 20]
def W3:=R_ [V_ 21 0,o_ 22 (aV (z_ 21)),A_ 23 2 22,L_ 24 23,D_ 25 24 1,o_ 26 (aV (z_ 21)),A_ 27 2 26,S_ 1 27 25]
def W1:CT:=.eM [28,29,30,31,32,33,34,35,36,37,38,39] [bc [0] 28 0 1,i_ [28] 29 (aV (z_ 28)) 1,cj [29] 30 3 29 1,cf [30] 31 30 1,bc [0] 32 0 1,i_ [32] 33 (aV (z_ 32)) 1,cj [33] 34 1 33 1,cf [34] 35 34 1,bc [6] 36 6 1,fC [35,36] 37 1 35 36 1,cf [37] 38 37 1,vI [31,38] (bF 39) (z_ 31) [z_ 38]]
def WZ:CT:=.eM [40,41,42,43,44,45,46,47,48,49,50,51,52,53] [bc [0] 40 0 1,i_ [40] 41 (aV (z_ 40)) 1,cj [41] 42 1 41 1,cf [42] 43 42 1,bc [6] 44 6 1,fC [43,44] 45 1 43 44 1,cf [45] 46 45 1,cI [46] (bF 47) 28 [z_ 46],bc [0] 48 0 2,i_ [48] 49 (aV (z_ 48)) 2,cj [49] 50 0 49 2,cf [50] 51 50 2,bc [6] 52 6 2,i_ [51,52] 53 (aH Oj 2 [(0,1,z_ 51),(1,1,z_ 52)]) 2,bc [47] 2 47 1,j_ [3,53] (s_ 2 3 53),i_ [] 4 (c_ (.bool true)) 1,i_ [] 5 (c_ (.int .i64 0)) 1]
def Z3:CT:=sq (sq (.eM [7,8,9,10,11,12,13,14,15,16] [bc [0] 7 0 1,i_ [7] 8 (aV (z_ 7)) 1,cj [8] 9 2 8 1,cf [9] 10 9 1,bc [0] 11 0 1,i_ [11] 12 (aV (z_ 11)) 1,cj [12] 13 1 12 1,cf [13] 14 13 1,i_ [14] 15 (u_ bu 14) 1,i_ [10,15] 16 (b_ ia 10 15) 1]) (cd 16 .skip (.exit 0))) (.block 1 (sq W4 (sq W3 (sq W1 (cd 39 (rt WZ) .skip)))))
def WY:=R_ [o_ 54 (aH Oj 2 []),o_ 2 (c_ (.aI (.slice none 0 0))),S_ 2 3 54,F_ 4,I_ 5 0]
def A235:CF:=⟨[aB 2,bS 3 2,aB 4,aB 5],sr [o_ 2 (c_ (.aI (.slice none 0 0))),o_ 3 (ay Oj 2),F_ 4,I_ 5 0] (sq (bl 0 Z3) (rt WY)),55⟩
theorem c235:cF 235=some A235:=by kernel_rfl
def ajC:=R_ [X_ 3 0,X_ 4 1,F_ 6]
def ajB:=R_ [N_ 15 3 4,y_ 16 5 [z_ 15],V_ 17 16,dF 17 18 2 3,dQ 17 19 18,h_ 17 20 (u_ bu 19),h_ 17 21 (di jc 20 2000),fK 17 22 21,fe 22 23 2 3,fu 22 24 23,g_ 22 25 (u_ bu 24),g_ 22 26 (di vc 25 8192),h_ 17 27 (p_ 22 26),Q_ 28 17 27]
def acH:=R_ [y_ 29 7 [],V_ 6 29]
def acG:=R_ [V_ 30 2,o_ 31 (qU uL [z_ 30,kI 30000]),V_ 7 31]
def acF:=R_ [N_ 32 3 4,y_ 33 9 [z_ 32],o_ 8 (ay Ol 3),S_ 3 8 33]
def acE:CT:=.eM [34,35,36,37,38,39,40,41,42,9] [i_ [] 38 (aL z6_ 0 15 []) 1,cj [3] 39 2 3 1,cf [39] 40 39 1,mI [38,40] (bF 41) (dj 15 120 (z_ 38) (z_ 40)),cj [3] 34 0 3 2,cf [34] 35 34 2,cj [3] 36 1 3 2,cf [36] 37 36 2,i_ [35,37,41] 42 (aH [.int .i64 0,.int .i64 0,(.aI (.slice none 0 0))] 3 [(0,1,z_ 35),(1,1,z_ 37),(2,1,z_ 41)]) 1,i_ [] 9 (ay [.int .i64 0,.int .i64 0,(.aI (.slice none 0 0))] 3) 2,j_ [9,42] (s_ 3 9 42)]
def VV:=R_ [N_ 44 3 9,N_ 45 3 8,V_ 46 7,y_ 47 14 [z_ 44,z_ 45,z_ 46],V_ 43 47,W_ 48 0 43,W_ 49 1 43,o_ 10 (ay Kw 5),S_ 5 10 48,V_ 11 49]
def VU:=R_ [N_ 51 3 3,N_ 52 3 4,V_ 53 7,y_ 54 16 [z_ 51,z_ 52,z_ 53],V_ 50 54,W_ 55 0 50,W_ 56 1 50,o_ 12 (ay Kw 5),S_ 5 12 55,V_ 13 56]
def VT:=R_ [V_ 57 11,V_ 58 13,o_ 59 (b_ kL 57 58),V_ 60 59,zM 60 61 5 10,zM 60 62 5 12,nO (z_ 60) false (bF 63) 15 [z_ 61,z_ 62],h_ 60 64 (un 63),Q_ 65 60 64,V_ 66 65,zM 66 67 3 8,zM 66 68 3 4,nO (z_ 66) false (bF 69) 17 [z_ 67,z_ 68],h_ 66 70 (un 69),Q_ 71 66 70,V_ 72 71,dF 72 73 2 9,dQ 72 74 73,h_ 72 75 (u_ bu 74),dF 72 76 2 3,dQ 72 77 76,h_ 72 78 (u_ bu 77),h_ 72 79 (b_ kL 75 78),Q_ 80 72 79]
def acD:=R_ [F_ 6]
def Gf:=R_ [I_ 14 0]
def afb:CT:=.eM [88,89,90,91,92,93,94,95,96,97,98] [cj [9] 88 2 9 1,cf [88] 89 88 1,bc [14] 90 14 1,fC [89,90] 91 15 89 90 1,gf [91] 92 15 91 1,cj [3] 93 2 3 1,cf [93] 94 93 1,bc [14] 95 14 1,fC [94,95] 96 15 94 95 1,gf [96] 97 15 96 1,i_ [92,97] 98 (b_ (kA true [.i,.i,.i,.i,.i,.i,.i,.i,.i,.i,.b,.b,.i,.i,.s]) 92 97) 1]
def afa:=R_ [V_ 86 14,D_ 87 86 1,V_ 14 87]
def P4:CT:=lr [V_ 81 14,A_ 82 2 3,L_ 83 82,E_ 84 83,B_ 85 81 84] 85 0 1 (sq afb (cd 98 (rr [F_ 6]) .skip)) afa
def Ge:=R_ [y_ 99 7 [],V_ 6 99]
def A4:CF:=⟨[aB 6],sq ajC (iq ajB 28 (rt acH) (sq acG (sq acF (sq acE (sq VV (sq VU (iq VT 80 (rt acD) (sq (sq Gf (bl 0 P4)) (rt Ge))))))))),100⟩
theorem c4:cF 4=some A4:=by kernel_rfl
def MW:=R_ [X_ 3 0,X_ 4 1,o_ 6 (ay Kw 5),I_ 7 0]
def MV:=R_ [N_ 14 3 3,y_ 15 32 [z_ 14],H_ 16 15 0,V_ 17 16,zM 17 18 3 4,nO (z_ 17) false (bF 19) 6 [z_ 18],h_ 17 20 (un 19),Q_ 21 17 20,V_ 22 21,fK 22 23 2,h_ 22 24 (di ia 23 0),Q_ 25 22 24]
def Gn:=R_ [o_ 26 (aH Kw 5 []),S_ 5 6 26,I_ 7 1]
def XY:=R_ [A_ 27 2 3,L_ 28 27,E_ 29 28,K_ 30 29 0,o_ 31 (aH z7_ 9 [(7,1,z_ 30)]),o_ 8 (ay z7_ 9),S_ 9 8 31]
def MU:=R_ [I_ 9 0]
def af6:=R_ [V_ 36 9,D_ 37 36 1,V_ 9 37]
def Gz:CT:=lr [V_ 32 9,A_ 33 0 3,L_ 34 33,B_ 35 32 34] 35 0 1 (R_ [A_ 38 1 8,L_ 39 38,o_ 40 (aH dy 3 []),o_ 41 (aL dy 1 3 [(0,3,z_ 40)]),o_ 42 (dj 3 32 (z_ 39) (z_ 41)),A_ 43 1 8,S_ 1 43 42]) af6
def MR:=R_ [I_ 10 0]
def X2:=R_ [A_ 55 3 8,L_ 56 55,o_ 57 (aH vB 2 [(0,1,kI (-1)),(1,1,kI (-1))]),o_ 58 (aL vB 1 2 [(0,2,z_ 57)]),o_ 59 (dj 2 16 (z_ 56) (z_ 58)),A_ 60 3 8,S_ 1 60 59]
def X1:=R_ [V_ 48 10,D_ 49 48 1,V_ 10 49]
def Gy:CT:=lr [V_ 44 10,A_ 45 1 3,L_ 46 45,B_ 47 44 46] 47 2 3 (sr [A_ 50 2 8,L_ 51 50,o_ 52 (aL GU 1 1 [(0,1,(aK (.aI (.slice none 0 0))))]),o_ 53 (dj 1 24 (z_ 51) (z_ 52)),A_ 54 2 8,S_ 1 54 53] X2) X1
def CX:=R_ [I_ 11 0]
def X0:=R_ [N_ 75 3 4,N_ 76 15 12,N_ 77 9 8,y_ 78 33 [z_ 75,z_ 76,z_ 77],S_ 9 8 78]
def XZ:=R_ [V_ 79 11,D_ 80 79 1,V_ 11 80]
def JK:=R_ [A_ 81 7 8,L_ 82 81,V_ 83 82,dF 83 84 0 8,dQ 83 85 84,dF 83 86 2 3,dQ 83 87 86,h_ 83 88 (u_ bu 87),h_ 83 89 (b_ kP 85 88),Q_ 90 83 89,A_ 91 7 8,S_ 1 91 90]
def Ar:CT:=sq (sr [V_ 61 11,V_ 62 2,B_ 63 61 62,V_ 64 63,fe 64 65 7 8,fu 64 66 65,g_ 64 67 (un 66),P_ 68 64 67] (cd 68 .skip (.exit 4))) (.block 5 (sr [A_ 69 2 3,L_ 70 69,A_ 71 0 8,L_ 72 71,J_ 73 15 70 72,N_ 74 15 73,o_ 12 (ay z6_ 15),S_ 15 12 74] (sq X0 (sq XZ JK))))
def tM:=R_ [A_ 92 7 8,L_ 93 92,V_ 94 11,o_ 95 (aH Kw 5 [(0,1,z_ 93),(1,1,z_ 94)]),o_ 13 (ay Kw 5),S_ 5 13 95]
def tL:=R_ [A_ 96 7 8,L_ 97 96,o_ 98 (un 97)]
def JJ:=R_ [N_ 99 5 13,S_ 5 6 99,I_ 7 0]
def yj:=R_ [A_ 100 4 8,L_ 101 100,A_ 102 2 13,S_ 1 102 101]
def yh:=R_ [A_ 103 8 8,L_ 104 103]
def JI:=R_ [A_ 105 2 13,oP rF (cH 1 (z_ 105) (kI 4))]
def yg:=R_ [A_ 106 2 13,L_ 107 106,K_ 108 107 0]
def JH:=R_ [A_ 109 5 8,L_ 110 109,A_ 111 3 13,S_ 1 111 110]
def JG:=R_ [A_ 112 6 8,L_ 113 112,A_ 114 4 13,S_ 1 114 113]
def yf:=R_ [N_ 115 5 13,S_ 5 6 115,I_ 7 0]
def A16:CF:=⟨[bS 6 5,aB 7],sq MW (iq MV 25 (rt Gn) (sq XY (sq (sq MU (bl 0 Gz)) (sq (sq MR (bl 2 Gy)) (sq CX (sq (bl 4 Ar) (sq tM (iq tL 98 (rt JJ) (sq yj (iq yh 104 JI (iq yg 108 (sq JH JG) (rt yf)))))))))))),116⟩
theorem c16:cF 16=some A16:=by kernel_rfl
def af5:=R_ [I_ 5 0]
def af4:CT:=.eM [28,29,30,31,32,33,34,35,36,37,38,39] [cj [2] 28 2 2 1,cf [28] 29 28 1,bc [5] 30 5 1,fC [29,30] 31 1 29 30 1,cf [31] 32 31 1,cj [3] 33 2 3 1,cf [33] 34 33 1,bc [5] 35 5 1,fC [34,35] 36 1 34 35 1,cf [36] 37 36 1,cI [32,37] (bF 38) 30 [z_ 32,z_ 37],i_ [38] 39 (un 38) 1]
def af2:=R_ [V_ 26 5,D_ 27 26 1,V_ 5 27]
def Z5:CT:=lr [V_ 21 5,A_ 22 2 2,L_ 23 22,E_ 24 23,B_ 25 21 24] 25 0 1 (sq af4 (cd 39 (rr [F_ 4]) .skip)) af2
def af1:=R_ [T_ 4]
def A17:CF:=⟨[aB 4],sr [X_ 2 0,X_ 3 1,F_ 4] (ir [A_ 6 0 2,N_ 7 2 6,A_ 8 0 3,N_ 9 2 8,y_ 10 34 [z_ 7,z_ 9],o_ 11 (un 10),V_ 12 11,dF 12 13 2 2,dQ 12 14 13,h_ 12 15 (u_ bu 14),dF 12 16 2 3,dQ 12 17 16,h_ 12 18 (u_ bu 17),h_ 12 19 (b_ kL 15 18),Q_ 20 12 19] 20 (rr [F_ 4]) (sq (sq af5 (bl 0 Z5)) (rt af1))),40⟩
theorem c17:cF 17=some A17:=by kernel_rfl
def WL:=R_ [X_ 3 0,X_ 4 1,X_ 5 2,o_ 6 (ay z7_ 9)]
def WJ:=R_ [A_ 14 0 5,L_ 15 14,D_ 16 15 1,V_ 7 16]
def WI:=R_ [A_ 17 0 4,L_ 18 17]
def lV:=R_ [K_ 23 18 1,V_ 22 23]
def mV:=R_ [K_ 24 18 2,V_ 22 24]
def MN:=R_ [N_ 25 3 3,N_ 26 15 4,A_ 27 1 5,L_ 28 27,y_ 29 65 [z_ 25,z_ 26,z_ 28],V_ 8 29]
def ML:=R_ [A_ 30 2 5,L_ 31 30,A_ 32 1 4,L_ 33 32,V_ 34 8,J_ 35 1 31 33,S_ 1 35 34]
def MK:=R_ [A_ 36 3 5,L_ 37 36,A_ 38 1 4,L_ 39 38,o_ 40 (aH vB 2 [(0,1,kI (-1)),(1,1,kI (-1))]),J_ 41 2 37 39,S_ 2 41 40]
def nQ:=R_ [K_ 43 18 3,V_ 42 43]
def MJ:=R_ [A_ 44 2 5,L_ 45 44,A_ 46 1 4,L_ 47 46,J_ 48 1 45 47,L_ 49 48,E_ 50 49,K_ 51 50 0]
def Ji:=R_ [A_ 52 3 5,L_ 53 52,A_ 54 1 4,L_ 55 54,o_ 56 (aH vB 2 [(0,1,kI (-1)),(1,1,kI (-1))]),J_ 57 2 53 55,S_ 2 57 56]
def Jh:=R_ [A_ 58 5 4,L_ 59 58,V_ 7 59]
def Jg:CT:=.eM [60,61,62,63,64,65,66,67,68,69,70,71,72] [cj [5] 60 3 5 1,cf [60] 61 60 1,cj [4] 62 1 4 1,cf [62] 63 62 1,cj [5] 64 2 5 1,cf [64] 65 64 1,cj [4] 66 1 4 1,cf [66] 67 66 1,fC [65,67] 68 1 65 67 1,cf [68] 69 68 1,i_ [69] 70 (di (dG 2) 69 0) 1,gf [70] 71 2 70 1,fC [61,63] 72 2 61 63 1,j_ [72,71] (s_ 2 72 71)]
def Jf:CT:=.eM [73,74,75,76,77,78,79,80,81,82,83,84] [cj [5] 73 2 5 1,cf [73] 74 73 1,cj [4] 75 1 4 1,cf [75] 76 75 1,cj [5] 77 2 5 1,cf [77] 78 77 1,cj [4] 79 1 4 1,cf [79] 80 79 1,fC [78,80] 81 1 78 80 1,cf [81] 82 81 1,i_ [82] 83 (Bz (mf 2) (z_ 82) (some (kI 1)) none none) 1,fC [74,76] 84 1 74 76 1,j_ [84,83] (s_ 1 84 83)]
def mi:=R_ [K_ 86 18 4,V_ 85 86]
def Je:=R_ [A_ 87 3 5,L_ 88 87,A_ 89 2 4,L_ 90 89,J_ 91 2 88 90,N_ 92 2 91,o_ 9 (ay vB 2),S_ 2 9 92]
def Jd:=R_ [o_ 93 (aH dy 3 []),o_ 10 (ay dy 3),S_ 3 10 93]
def Jc:CT:=.eM [94,95,96,97,98,99,100,101,102,103,104,105,106,107,108,109,110,111,112] [cj [9] 94 0 9 1,cf [94] 95 94 1,i_ [95] 96 (di kP 95 0) 1,bc [96] 97 96 1,gI [97,4] 97 98 (a_ 3 4) 1,gI [97,98] 97 99 (l_ 98) 1,gI [97,3] 97 100 (a_ 2 3) 1,gI [97,100] 97 101 (l_ 100) 1,gI [97,9] 97 102 (a_ 0 9) 1,gI [97,102] 97 103 (l_ 102) 1,gI [97,101,103] 97 104 (b_ (dG 1) 101 103) 1,gI [97,104] 97 105 (l_ 104) 1,gI [97,9] 97 106 (a_ 1 9) 1,gI [97,106] 97 107 (l_ 106) 1,gI [97,105,107] 97 108 (b_ (dG 1) 105 107) 1,gI [97,108] 97 109 (l_ 108) 1,gI [97,109] 97 110 (u_ bu 109) 1,gI [97,99,110] 97 111 (b_ ia 99 110) 1,i_ [97,111] 112 (p_ 97 111) 1]
def Jb:CT:=.eM [113,114,115,116,117,118,119,120,121,122,123,124,125,126] [cj [3] 113 2 3 1,cf [113] 114 113 1,cj [9] 115 0 9 1,cf [115] 116 115 1,fC [114,116] 117 1 114 116 1,cf [117] 118 117 1,cj [9] 119 1 9 1,cf [119] 120 119 1,fC [118,120] 121 1 118 120 1,cf [121] 122 121 1,cj [4] 123 3 4 1,cf [123] 124 123 1,fC [122,124] 125 3 122 124 1,gf [125] 126 3 125 1,j_ [10,126] (s_ 3 10 126)]
def CB:=R_ [A_ 127 1 5,L_ 128 127,A_ 129 1 4,L_ 130 129,N_ 131 3 10,J_ 132 3 128 130,S_ 3 132 131]
def nF:=R_ [K_ 134 18 5,V_ 133 134]
def Ja:=R_ [A_ 135 1 5,L_ 136 135,A_ 137 1 4,L_ 138 137,A_ 139 12 4,N_ 140 3 139,J_ 141 3 136 138,S_ 3 141 140]
def oY:=R_ [K_ 143 18 6,V_ 142 143]
def I9:=R_ [N_ 145 15 4,A_ 146 1 5,L_ 147 146,y_ 148 66 [z_ 145,z_ 147],V_ 144 148,W_ 149 0 144,W_ 150 1 144,o_ 11 (ay dy 3),S_ 3 11 149,V_ 12 150]
def Cm:=R_ [V_ 151 12,H_ 152 151 0]
def I8:=R_ [A_ 153 4 5,L_ 154 153,V_ 155 12,y_ 156 40 [z_ 154,z_ 155],A_ 157 4 5,S_ 1 157 156]
def I7:=R_ [A_ 158 5 4,L_ 159 158,V_ 7 159]
def I6:=R_ [A_ 160 1 5,L_ 161 160,A_ 162 1 4,L_ 163 162,N_ 164 3 11,J_ 165 3 161 163,S_ 3 165 164]
def q9:=R_ [K_ 167 18 7,V_ 166 167]
def I5:=R_ [A_ 168 1 5,L_ 169 168,A_ 170 1 4,L_ 171 170,J_ 172 3 169 171,N_ 173 3 172,o_ 13 (ay dy 3),S_ 3 13 173]
def xU:=R_ [A_ 174 0 13,L_ 175 174,K_ 176 175 1,V_ 177 176,dF 177 178 0 13,dQ 177 179 178,h_ 177 180 (di eP 179 2),Q_ 181 177 180]
def Cj:=R_ [A_ 182 4 5,L_ 183 182,y_ 184 40 [z_ 183,kI 30],A_ 185 4 5,S_ 1 185 184]
def xT:CT:=.eM [186,187,188] [cI [] (bF 187) 67 [(aK (.bool true))],gf [13] 186 3 13 2,i_ [186,187] 188 (b_ (kA true [.i,.i,.s]) 186 187) 1]
def xR:=R_ [A_ 189 5 4,L_ 190 189,V_ 7 190]
def tJ:=R_ [K_ 192 18 10,V_ 191 192]
def I1:=R_ [A_ 193 5 4,L_ 194 193,V_ 7 194]
def xQ:=R_ [K_ 196 18 11,V_ 195 196]
def IZ:=R_ [A_ 197 7 5,oP rF (cH 1 (z_ 197) (aK (.bool true)))]
def Ci:=R_ [N_ 19 15 4,N_ 20 9 5,y_ 21 68 [z_ 19,z_ 20],S_ 9 5 21]
def Cf:=R_ [V_ 198 7,A_ 199 0 5,S_ 1 199 198]
def Cd:=R_ [N_ 200 9 5,S_ 9 6 200]
def A33:CF:=⟨[bS 6 9],sq WL (sq WJ (sq (sq WI (.block 0 (sq (sq lV (cd 22 .skip mV)) (cd 22 (sq MN (sq ML MK)) (sq nQ (cd 42 (sq MJ (cd 51 (sq Ji Jh) (sq Jg Jf))) (sq mi (cd 85 (sq Je (sq Jd (iq Jc 112 Jb CB))) (sq nF (cd 133 Ja (sq oY (cd 142 (sq I9 (sq Cm (cd 152 (sq I8 I7) I6))) (sq q9 (cd 166 (sq I5 (iq xU 181 Cj (sq xT (cd 188 xR .skip)))) (sq tJ (cd 191 I1 (sq xQ (cd 195 IZ Ci)))))))))))))))))) (sq Cf (rt Cd)))),201⟩
theorem c33:cF 33=some A33:=by kernel_rfl
def afx:CT:=.eM [20,21,22,23,24,25,26,27,28,29,30,31] [cj [2] 20 0 2 1,cf [20] 21 20 1,bc [5] 22 5 1,fC [21,22] 23 4 21 22 1,gf [23] 24 4 23 1,cj [3] 25 0 3 1,cf [25] 26 25 1,bc [5] 27 5 1,fC [26,27] 28 4 26 27 1,gf [28] 29 4 28 1,cI [24,29] (bF 30) 69 [z_ 24,z_ 29],i_ [30] 31 (un 30) 1]
def afw:=R_ [V_ 18 5,D_ 19 18 1,V_ 5 19]
def ZY:CT:=lr [V_ 13 5,A_ 14 0 2,L_ 15 14,E_ 16 15,B_ 17 13 16] 17 0 1 (sq afx (cd 31 (rr [F_ 4]) .skip)) afw
def afv:=R_ [A_ 32 1 2,L_ 33 32,A_ 34 1 3,L_ 35 34,y_ 36 70 [z_ 33,z_ 35],V_ 4 36]
def A34:CF:=⟨[aB 4],sr [X_ 2 0,X_ 3 1,F_ 4] (ir [A_ 6 0 2,L_ 7 6,E_ 8 7,A_ 9 0 3,L_ 10 9,E_ 11 10,o_ 12 (b_ kL 8 11)] 12 (rr [F_ 4]) (sq (sr [I_ 5 0] (bl 0 ZY)) (rt afv))),37⟩
theorem c34:cF 34=some A34:=by kernel_rfl
def aeM:=R_ [A_ 19 0 3,N_ 20 2 19,A_ 21 7 4,L_ 22 21,y_ 23 98 [z_ 20,z_ 22],V_ 8 23]
def aeL:=R_ [I_ 9 0]
def aeK:=R_ [V_ 36 9,D_ 37 36 1,V_ 9 37]
def NQ:CT:=lr [V_ 24 8,o_ 25 (di kP 24 0),V_ 26 25,fR 26 27 9,fe 26 28 2 3,fu 26 29 28,fR 26 30 8,g_ 26 31 (b_ (dG 1) 29 30),fu 26 32 31,g_ 26 33 (u_ bu 32),g_ 26 34 (b_ ia 27 33),P_ 35 26 34] 35 0 1 (R_ [V_ 38 7,V_ 39 8,V_ 40 9,o_ 41 (aH vB 2 [(0,1,z_ 39),(1,1,z_ 40)]),o_ 42 (aL vB 1 2 [(0,2,z_ 41)]),o_ 43 (dj 2 16 (z_ 38) (z_ 42)),V_ 7 43]) aeK
def U8:=R_ [V_ 44 7,V_ 6 44]
def Va:=R_ [V_ 60 11,D_ 61 60 1,V_ 11 61]
def ZN:CT:=lr [V_ 56 11,A_ 57 4 4,L_ 58 57,B_ 59 56 58] 59 2 3 (.eM [62,63,64,65,66,67,68,69,70,71,72,73] [cj [10] 62 0 10 1,cf [62] 63 62 1,bc [2] 64 2 1,cj [4] 65 2 4 1,cf [65] 66 65 1,bc [11] 67 11 1,i_ [66,67] 68 (b_ sD 66 67) 1,fC [64,68] 69 3 64 68 1,gf [69] 70 3 69 1,i_ [70] 71 (aL dy 1 3 [(0,3,z_ 70)]) 1,mI [63,71] (bF 72) (dj 3 32 (z_ 63) (z_ 71)),cj [10] 73 0 10 1,j_ [73,72] (s_ 1 73 72)]) Va
def BW:=R_ [A_ 74 1 10,L_ 75 74]
def II:=R_ [V_ 76 2,A_ 77 8 4,L_ 78 77,J_ 79 3 76 78,N_ 80 3 79,A_ 81 2 10,S_ 3 81 80]
def xN:=R_ [A_ 82 6 10,L_ 83 82]
def BV:=R_ [V_ 84 2,A_ 85 9 4,L_ 86 85,J_ 87 3 84 86,N_ 88 3 87,A_ 89 7 10,S_ 3 89 88]
def xM:=R_ [I_ 12 0]
def IH:=R_ [A_ 104 0 13,L_ 105 104,A_ 106 7 4,L_ 107 106,o_ 108 (b_ kL 105 107)]
def U':=R_ [A_ 109 0 3,N_ 110 2 109,A_ 111 1 13,L_ 112 111,y_ 113 98 [z_ 110,z_ 112],V_ 14 113]
def U_:=R_ [I_ 15 0]
def U9:=R_ [V_ 135 7,V_ 136 14,V_ 137 15,o_ 138 (aH vB 2 [(0,1,z_ 136),(1,1,z_ 137)]),o_ 139 (aL vB 1 2 [(0,2,z_ 138)]),o_ 140 (dj 2 16 (z_ 135) (z_ 139)),V_ 7 140]
def IG:=R_ [V_ 122 15,D_ 123 122 1,V_ 15 123]
def ZM:CT:=lr [V_ 114 15,A_ 115 2 3,L_ 116 115,V_ 117 14,J_ 118 1 116 117,L_ 119 118,E_ 120 119,B_ 121 114 120] 121 6 7 (sq (.eM [124,125,126,127,128,129,130,131,132,133,134] [gf [13] 124 6 13 1,gf [10] 125 11 10 1,cj [3] 126 2 3 1,cf [126] 127 126 1,bc [14] 128 14 1,fC [127,128] 129 1 127 128 1,cf [129] 130 129 1,bc [15] 131 15 1,fC [130,131] 132 1 130 131 1,cf [132] 133 132 1,cI [124,125,133] (bF 134) 99 [z_ 124,z_ 125,z_ 133]]) (cd 134 U9 .skip)) IG
def IE:=R_ [V_ 96 12,D_ 97 96 1,V_ 12 97]
def Ap:CT:=lr [V_ 90 12,A_ 91 0 3,A_ 92 1 91,L_ 93 92,E_ 94 93,B_ 95 90 94] 95 4 5 (sr [A_ 98 0 3,A_ 99 1 98,L_ 100 99,V_ 101 12,J_ 102 6 100 101,N_ 103 6 102,o_ 13 (ay Oi 6),S_ 6 13 103] (iq IH 108 (.exit 5) (sq U' (sq U_ (bl 6 ZM))))) IE
def xK:=R_ [V_ 141 7,V_ 6 141]
def A65:CF:=⟨[aB 6],sr [X_ 3 0,X_ 4 1,o_ 6 (c_ (.aI (.slice none 0 0)))] (sr [o_ 7 (c_ (.aI (.slice none 0 0)))] (ir [A_ 16 0 4,L_ 17 16,K_ 18 17 1] 18 (sq aeM (sq (sq aeL (bl 0 NQ)) (rt U8))) (sr [A_ 45 10 4,L_ 46 45,A_ 47 11 4,L_ 48 47,A_ 49 8 4,L_ 50 49,o_ 51 (di kP 50 0),A_ 52 9 4,L_ 53 52,o_ 54 (di kP 53 0),o_ 55 (aH z8_ 11 [(5,1,z_ 46),(10,1,z_ 48),(1,1,z_ 51),(6,1,z_ 54)]),o_ 10 (ay z8_ 11),S_ 11 10 55] (sq (sr [I_ 11 0] (bl 2 ZN)) (iq BW 75 II (iq xN 83 BV (sq (sq xM (bl 4 Ap)) (rt xK)))))))),142⟩
theorem c65:cF 65=some A65:=by kernel_rfl
def U7:=R_ [N_ 25 8 6,V_ 26 1,y_ 27 100 [z_ 25,z_ 26],W_ 28 0 27,W_ 29 1 27,S_ 3 4 28,V_ 5 29]
def A66:CF:=⟨[bS 4 3,aB 5],sr [X_ 2 0,o_ 4 (ay dy 3),I_ 5 0] (sr [A_ 7 6 2,L_ 8 7,A_ 9 2 2,L_ 10 9,o_ 11 (aH Kx 8 [(0,1,kI 3),(6,1,z_ 10)]),o_ 12 (aL Kx 1 8 [(0,8,z_ 11)]),o_ 13 (aH Kx 8 [(0,1,z_ 8),(7,1,z_ 12)]),o_ 6 (ay Kx 8),S_ 8 6 13] (ir [A_ 14 6 2,L_ 15 14,o_ 16 (di kP 15 8)] 16 (R_ [A_ 17 7 6,L_ 18 17,A_ 19 3 2,L_ 20 19,o_ 21 (aH Kx 8 [(0,1,kI 3),(6,1,z_ 20)]),o_ 22 (aL Kx 1 8 [(0,8,z_ 21)]),o_ 23 (dj 8 104 (z_ 18) (z_ 22)),A_ 24 7 6,S_ 1 24 23]) (rt U7))),30⟩
theorem c66:cF 66=some A66:=by kernel_rfl
def A67:CF:=⟨[bS 2 3],sr [o_ 2 (ay dy 3)] (ir [V_ 3 0] 3 (rr [o_ 4 (aH dy 3 [(0,1,kI 3),(1,1,kI 1)]),S_ 3 2 4]) (rr [o_ 5 (aH dy 3 [(0,1,kI 3),(1,1,kI 0)]),S_ 3 2 5])),6⟩
theorem c67:cF 67=some A67:=by kernel_rfl
def MB:=R_ [A_ 8 0 2,L_ 9 8,K_ 10 9 9,V_ 11 10,fe 11 12 3 3,fu 11 13 12,fe 11 14 1 2,fu 11 15 14,g_ 11 16 (b_ (dG 2) 13 15),fe 11 17 0 16,fu 11 18 17,g_ 11 19 (di ia 18 0),P_ 20 11 19]
def aeJ:=R_ [N_ 21 9 3,S_ 9 4 21]
def U1:=R_ [A_ 22 5 3,L_ 23 22,E_ 24 23,A_ 25 6 3,L_ 26 25,E_ 27 26,o_ 28 (b_ sD 24 27),o_ 29 (di kP 28 4096)]
def U0:=R_ [A_ 30 8 3,oP rF (cH 1 (z_ 30) (aK (.bool true)))]
def UZ:=R_ [A_ 31 7 3,oP rF (cH 1 (z_ 31) (aK (.bool true)))]
def UY:=R_ [N_ 32 9 3,S_ 9 4 32]
def UX:=R_ [A_ 33 0 2,L_ 34 33,K_ 35 34 8]
def aeI:=R_ [A_ 36 1 3,L_ 37 36,A_ 38 1 2,L_ 39 38,A_ 40 4 2,L_ 41 40,y_ 42 101 [z_ 37,z_ 39,z_ 41],V_ 5 42]
def aeH:=R_ [A_ 43 5 3,L_ 44 43,V_ 45 5,o_ 46 (aL GU 1 1 [(0,1,z_ 45)]),o_ 47 (dj 1 24 (z_ 44) (z_ 46)),A_ 48 5 3,S_ 1 48 47]
def U6:=R_ [N_ 49 9 3,S_ 9 4 49]
def U5:=R_ [A_ 50 1 3,L_ 51 50,A_ 52 2 2,L_ 53 52,A_ 54 4 2,L_ 55 54,y_ 56 101 [z_ 51,z_ 53,z_ 55],V_ 6 56]
def U4:=R_ [A_ 57 3 3,L_ 58 57,A_ 59 1 2,L_ 60 59,J_ 61 2 58 60,N_ 62 2 61,o_ 7 (ay vB 2),S_ 2 7 62]
def U3:=R_ [A_ 63 6 3,L_ 64 63,A_ 65 0 7,L_ 66 65,o_ 67 (u_ (cO .u32) 66),o_ 68 (d_ sD 67 (.int .u32 1)),A_ 69 1 7,L_ 70 69,o_ 71 (aH Oj 2 [(0,1,z_ 68),(1,1,z_ 70)]),V_ 72 6,o_ 73 (aH DV 3 [(0,2,z_ 71),(2,1,z_ 72)]),o_ 74 (aL DV 1 3 [(0,3,z_ 73)]),o_ 75 (dj 3 40 (z_ 64) (z_ 74)),A_ 76 6 3,S_ 1 76 75]
def U2:=R_ [N_ 77 9 3,S_ 9 4 77]
def A68:CF:=⟨[bS 4 9],sr [X_ 2 0,X_ 3 1,o_ 4 (ay z7_ 9)] (iq MB 20 (rt aeJ) (iq U1 29 (sq U0 (sq UZ (rt UY))) (iq UX 35 (sq aeI (sq aeH (rt U6))) (sq U5 (sq U4 (sq U3 (rt U2))))))),78⟩
theorem c68:cF 68=some A68:=by kernel_rfl
def aeG:CT:=.eM [41,42,43,44,45,46,47,48,49,50,51] [cj [2] 41 2 2 1,cf [41] 42 41 1,bc [5] 43 5 1,fC [42,43] 44 3 42 43 1,gf [44] 45 3 44 1,cj [3] 46 2 3 1,cf [46] 47 46 1,bc [5] 48 5 1,fC [47,48] 49 3 47 48 1,gf [49] 50 3 49 1,i_ [45,50] 51 (b_ (kA true [.s,.i,.b]) 45 50) 1]
def aeF:=R_ [V_ 39 5,D_ 40 39 1,V_ 5 40]
def ZL:CT:=lr [V_ 34 5,A_ 35 2 2,L_ 36 35,E_ 37 36,B_ 38 34 37] 38 0 1 (sq aeG (cd 51 (rr [F_ 4]) .skip)) aeF
def aeE:=R_ [T_ 4]
def A69:CF:=⟨[aB 4],sr [X_ 2 0,X_ 3 1,F_ 4] (ir [A_ 6 0 2,L_ 7 6,A_ 8 0 3,L_ 9 8,o_ 10 (b_ kL 7 9),V_ 11 10,dF 11 12 1 2,dQ 11 13 12,dF 11 14 1 3,dQ 11 15 14,h_ 11 16 (b_ kL 13 15),Q_ 17 11 16,V_ 18 17,dF 18 19 3 2,dQ 18 20 19,dF 18 21 3 3,dQ 18 22 21,h_ 18 23 (b_ kL 20 22),Q_ 24 18 23,V_ 25 24,dF 25 26 2 2,dQ 25 27 26,h_ 25 28 (u_ bu 27),dF 25 29 2 3,dQ 25 30 29,h_ 25 31 (u_ bu 30),h_ 25 32 (b_ kL 28 31),Q_ 33 25 32] 33 (rr [F_ 4]) (sq (sr [I_ 5 0] (bl 0 ZL)) (rt aeE))),52⟩
theorem c69:cF 69=some A69:=by kernel_rfl
def aez:CT:=.eM [17,18,19,20,21,22,23,24,25,26] [bc [0] 17 0 1,bc [5] 18 5 1,fC [17,18] 19 6 17 18 1,gf [19] 20 6 19 1,bc [1] 21 1 1,bc [5] 22 5 1,fC [21,22] 23 6 21 22 1,gf [23] 24 6 23 1,cI [20,24] (bF 25) 102 [z_ 20,z_ 24],i_ [25] 26 (un 25) 1]
def aey:=R_ [V_ 15 5,D_ 16 15 1,V_ 5 16]
def ZK:CT:=lr [V_ 11 5,V_ 12 0,E_ 13 12,B_ 14 11 13] 14 0 1 (sq aez (cd 26 (rr [F_ 4]) .skip)) aey
def aex:=R_ [T_ 4]
def A70:CF:=⟨[aB 4],sr [F_ 4] (ir [V_ 6 0,E_ 7 6,V_ 8 1,E_ 9 8,o_ 10 (b_ kL 7 9)] 10 (rr [F_ 4]) (sq (sr [I_ 5 0] (bl 0 ZK)) (rt aex))),27⟩
theorem c70:cF 70=some A70:=by kernel_rfl
def NK:CT:=lr [V_ 6 5,A_ 7 0 2,L_ 8 7,E_ 9 8,B_ 10 6 9] 10 0 1 (sr [A_ 13 0 2,L_ 14 13,V_ 15 5,J_ 16 4 14 15,A_ 17 0 16,L_ 18 17,V_ 19 1,o_ 20 (b_ eP 18 19)] (cd 20 (rr [V_ 21 5,V_ 4 21]) .skip)) (R_ [V_ 11 5,D_ 12 11 1,V_ 5 12])
def ad3:=R_ [o_ 4 (c_ (.int .i64 (-1)))]
def A98:CF:=⟨[aB 4],sr [X_ 2 0,I_ 4 0] (sq (sr [I_ 5 0] (bl 0 NK)) (rt ad3)),22⟩
theorem c98:cF 98=some A98:=by kernel_rfl
def tQ:=R_ [V_ 31 7,H_ 32 31 0]
def tP:=R_ [A_ 35 0 2,L_ 36 35,K_ 37 36 4]
def ZD:=R_ [N_ 38 3 6,y_ 39 126 [z_ 38],W_ 40 0 39,W_ 41 1 39,S_ 3 4 40,V_ 5 41]
def sy:=R_ [A_ 42 0 2,L_ 43 42,K_ 44 43 5]
def NI:=R_ [N_ 45 3 6,y_ 46 127 [z_ 45],W_ 47 0 46,W_ 48 1 46,S_ 3 4 47,V_ 5 48]
def vz:=R_ [A_ 49 0 2,L_ 50 49,K_ 51 50 6,V_ 52 51,dF 52 53 0 2,dQ 52 54 53,h_ 52 55 (di eP 54 7),Q_ 56 52 55]
def Dp:=R_ [A_ 57 0 6,L_ 58 57,K_ 59 58 0,A_ 60 0 2,L_ 61 60,K_ 62 61 6,o_ 63 (b_ (j7 false .bool) 59 62),y_ 64 67 [z_ 63],S_ 3 4 64,I_ 5 0]
def NH:=R_ [A_ 66 7 2,L_ 67 66,o_ 68 (di (dG 8) 67 1),N_ 69 8 68,V_ 70 1,y_ 71 100 [z_ 69,z_ 70],V_ 65 71,W_ 72 0 65,W_ 73 1 65,o_ 8 (ay dy 3),S_ 3 8 72,V_ 7 73]
def NG:=R_ [V_ 74 7,H_ 75 74 0]
def NF:=R_ [A_ 78 0 2,L_ 79 78,o_ 80 (di vc 79 12)]
def ND:=R_ [A_ 81 0 2,L_ 82 81,o_ 83 (di yG 82 8),N_ 84 3 6,N_ 85 3 8,y_ 86 128 [z_ 83,z_ 84,z_ 85],W_ 87 0 86,W_ 88 1 86,S_ 3 4 87,V_ 5 88]
def sx:=R_ [A_ 89 0 2,L_ 90 89,K_ 91 90 13]
def NC:=R_ [N_ 92 3 6,N_ 93 3 8,y_ 94 129 [z_ 92,z_ 93],W_ 95 0 94,W_ 96 1 94,S_ 3 4 95,V_ 5 96]
def vw:=R_ [A_ 97 0 2,L_ 98 97,K_ 99 98 20]
def NB:=R_ [N_ 100 3 6,N_ 101 3 8,y_ 102 130 [z_ 100,z_ 101],W_ 103 0 102,W_ 104 1 102,S_ 3 4 103,V_ 5 104]
def Dn:=R_ [A_ 105 0 2,L_ 106 105,K_ 107 106 21]
def NA:=R_ [N_ 108 3 6,N_ 109 3 8,y_ 110 131 [z_ 108,z_ 109],W_ 111 0 110,W_ 112 1 110,S_ 3 4 111,V_ 5 112]
def Nz:=R_ [A_ 113 0 2,L_ 114 113,o_ 115 (di yG 114 14),N_ 116 3 6,N_ 117 3 8,y_ 118 132 [z_ 115,z_ 116,z_ 117],W_ 119 0 118,W_ 120 1 118,S_ 3 4 119,V_ 5 120]
def A100:CF:=⟨[bS 4 3,aB 5],sr [X_ 2 0,o_ 4 (ay dy 3),I_ 5 0] (ir [A_ 9 0 2,L_ 10 9,K_ 11 10 1] 11 (rr [A_ 12 1 2,N_ 13 3 12,S_ 3 4 13,I_ 5 0]) (ir [A_ 14 0 2,L_ 15 14,K_ 16 15 3] 16 (rr [V_ 17 1,A_ 18 6 2,L_ 19 18,J_ 20 3 17 19,N_ 21 3 20,S_ 3 4 21,I_ 5 0]) (sr [A_ 23 7 2,L_ 24 23,o_ 25 (di (dG 8) 24 0),N_ 26 8 25,V_ 27 1,y_ 28 100 [z_ 26,z_ 27],V_ 22 28,W_ 29 0 22,W_ 30 1 22,o_ 6 (ay dy 3),S_ 3 6 29,V_ 7 30] (iq tQ 32 (rr [o_ 33 (aH dy 3 []),V_ 34 7,S_ 3 4 33,V_ 5 34]) (iq tP 37 (rt ZD) (iq sy 44 (rt NI) (iq vz 56 (rt Dp) (sq NH (iq NG 75 (rr [o_ 76 (aH dy 3 []),V_ 77 7,S_ 3 4 76,V_ 5 77]) (iq NF 80 (rt ND) (iq sx 91 (rt NC) (iq vw 99 (rt NB) (iq Dn 107 (rt NA) (rt Nz)))))))))))))),121⟩
theorem c100:cF 100=some A100:=by kernel_rfl
def ZC:=R_ [V_ 12 8,D_ 13 12 1,V_ 8 13]
def Kv:CT:=lr [V_ 9 8,V_ 10 2,B_ 11 9 10] 11 0 1 (R_ [V_ 14 7,V_ 15 0,V_ 16 1,V_ 17 8,o_ 18 (b_ sD 16 17),J_ 19 3 15 18,N_ 20 3 19,o_ 21 (aL dy 1 3 [(0,3,z_ 20)]),o_ 22 (dj 3 32 (z_ 14) (z_ 21)),V_ 7 22]) ZC
def ZB:=R_ [V_ 23 7,V_ 6 23]
def A101:CF:=⟨[aB 6],sr [o_ 6 (c_ (.aI (.slice none 0 0)))] (sr [o_ 7 (c_ (.aI (.slice none 0 0)))] (sq (sr [I_ 8 0] (bl 0 Kv)) (rt ZB))),24⟩
theorem c101:cF 101=some A101:=by kernel_rfl
def ZA:CT:=.eM [55,56,57,58,59,60,61,62,63,64,65] [cj [2] 55 3 2 1,cf [55] 56 55 1,bc [5] 57 5 1,fC [56,57] 58 1 56 57 1,cf [58] 59 58 1,cj [3] 60 3 3 1,cf [60] 61 60 1,bc [5] 62 5 1,fC [61,62] 63 1 61 62 1,cf [63] 64 63 1,i_ [59,64] 65 (b_ kL 59 64) 1]
def Zt:=R_ [V_ 53 5,D_ 54 53 1,V_ 5 54]
def Ku:CT:=lr [V_ 48 5,A_ 49 3 2,L_ 50 49,E_ 51 50,B_ 52 48 51] 52 0 1 (sq ZA (cd 65 (rr [F_ 4]) .skip)) Zt
def Y':=R_ [T_ 4]
def A102:CF:=⟨[aB 4],sr [X_ 2 0,X_ 3 1,F_ 4] (ir [A_ 6 0 2,L_ 7 6,A_ 8 0 3,L_ 9 8,o_ 10 (b_ kL 7 9),V_ 11 10,dF 11 12 1 2,dQ 11 13 12,dF 11 14 1 3,dQ 11 15 14,h_ 11 16 (b_ kL 13 15),Q_ 17 11 16,V_ 18 17,dF 18 19 2 2,dQ 18 20 19,dF 18 21 2 3,dQ 18 22 21,h_ 18 23 (b_ kL 20 22),Q_ 24 18 23,V_ 25 24,dF 25 26 4 2,dQ 25 27 26,dF 25 28 4 3,dQ 25 29 28,h_ 25 30 (b_ (j7 true .bool) 27 29),Q_ 31 25 30,V_ 32 31,dF 32 33 5 2,dQ 32 34 33,dF 32 35 5 3,dQ 32 36 35,h_ 32 37 (b_ kL 34 36),Q_ 38 32 37,V_ 39 38,dF 39 40 3 2,dQ 39 41 40,h_ 39 42 (u_ bu 41),dF 39 43 3 3,dQ 39 44 43,h_ 39 45 (u_ bu 44),h_ 39 46 (b_ kL 42 45),Q_ 47 39 46] 47 (rr [F_ 4]) (sq (sr [I_ 5 0] (bl 0 Ku)) (rt Y'))),66⟩
theorem c102:cF 102=some A102:=by kernel_rfl
def A126:CF:=⟨[bS 2 3,aB 3],sr [X_ 1 0,o_ 2 (ay dy 3),I_ 3 0] (rr [o_ 4 (aH dy 3 [(0,1,kI 1)]),N_ 5 3 1,y_ 6 128 [kI 1,z_ 4,z_ 5],W_ 7 0 6,W_ 8 1 6,S_ 3 2 7,V_ 3 8]),9⟩
theorem c126:cF 126=some A126:=by kernel_rfl
def yu:=R_ [V_ 8 4,H_ 9 8 0]
def YV:=R_ [o_ 10 (aH dy 3 []),V_ 11 4,S_ 3 2 10,V_ 3 11]
def C':=R_ [N_ 12 3 1,y_ 13 162 [z_ 12],o_ 14 (e2 yG (kI 2) (z_ 13)),y_ 15 161 [z_ 14],S_ 3 2 15,I_ 3 0]
def A127:CF:=⟨[bS 2 3,aB 3],sr [X_ 1 0,o_ 2 (ay dy 3),I_ 3 0] (sr [N_ 5 3 1,N_ 6 3 1,y_ 7 160 [kI 3,z_ 5,z_ 6],V_ 4 7] (iq yu 9 (rt YV) (rt C'))),16⟩
theorem c127:cF 127=some A127:=by kernel_rfl
def tO:=R_ [V_ 14 8,H_ 15 14 0,V_ 16 15,dF 16 17 0 4,dQ 16 18 17,h_ 16 19 (di eP 18 0),Q_ 20 16 19,V_ 21 20,dF 21 22 0 5,dQ 21 23 22,h_ 21 24 (di eP 23 0),Q_ 25 21 24]
def C_:=R_ [o_ 26 (aH dy 3 []),V_ 27 8,S_ 3 6 26,V_ 7 27]
def C9:=R_ [V_ 28 0,o_ 29 (di jc 28 2),V_ 30 29,fe 30 31 1 5,fu 30 32 31,g_ 30 33 (di eP 32 0),P_ 34 30 33]
def YU:=R_ [o_ 35 (aH dy 3 []),S_ 3 6 35,I_ 7 32]
def J4:=R_ [V_ 37 0,A_ 38 1 4,L_ 39 38,A_ 40 1 5,L_ 41 40,y_ 42 163 [z_ 37,z_ 39,z_ 41],V_ 36 42,W_ 43 0 36,W_ 44 1 36,V_ 9 43,V_ 10 44]
def yt:=R_ [V_ 45 10,o_ 46 (un 45)]
def J3:=R_ [o_ 47 (aH dy 3 []),S_ 3 6 47,I_ 7 31]
def J2:=R_ [V_ 48 9,o_ 49 (aH dy 3 [(0,1,kI 1),(1,1,z_ 48)]),S_ 3 6 49,I_ 7 0]
def A128:CF:=⟨[bS 6 3,aB 7],sr [X_ 4 1,X_ 5 2,o_ 6 (ay dy 3),I_ 7 0] (sr [N_ 11 3 4,N_ 12 3 5,y_ 13 160 [kI 1,z_ 11,z_ 12],V_ 8 13] (iq tO 25 (rt C_) (iq C9 34 (rt YU) (sq J4 (iq yt 46 (rt J3) (rt J2)))))),50⟩
theorem c128:cF 128=some A128:=by kernel_rfl
def tN:=R_ [V_ 10 6,H_ 11 10 0,V_ 12 11,dF 12 13 0 2,dQ 12 14 13,h_ 12 15 (di eP 14 0),Q_ 16 12 15,V_ 17 16,dF 17 18 0 3,dQ 17 19 18,h_ 17 20 (di eP 19 0),Q_ 21 17 20]
def C6:=R_ [o_ 22 (aH dy 3 []),V_ 23 6,S_ 3 4 22,V_ 5 23]
def J1:=R_ [A_ 24 2 2,L_ 25 24,o_ 26 (u_ fb 25),A_ 27 2 3,L_ 28 27,o_ 29 (u_ fb 28),o_ 30 (e2 yG (kI 64) (z_ 29)),o_ 31 (b_ jc 26 30)]
def YT:=R_ [o_ 32 (aH dy 3 []),S_ 3 4 32,I_ 5 3]
def YS:=R_ [A_ 33 2 2,L_ 34 33,A_ 35 2 3,L_ 36 35,o_ 37 (b_ sD 34 36),o_ 38 (aH dy 3 [(0,1,kI 2),(2,1,z_ 37)]),S_ 3 4 38,I_ 5 0]
def A129:CF:=⟨[bS 4 3,aB 5],sr [X_ 2 0,X_ 3 1,o_ 4 (ay dy 3),I_ 5 0] (sr [N_ 7 3 2,N_ 8 3 3,y_ 9 160 [kI 2,z_ 7,z_ 8],V_ 6 9] (iq tN 21 (rt C6) (iq J1 31 (rt YT) (rt YS)))),39⟩
theorem c129:cF 129=some A129:=by kernel_rfl
def JY:=R_ [V_ 10 6,H_ 11 10 0]
def YP:=R_ [o_ 12 (aH dy 3 []),V_ 13 6,S_ 3 4 12,V_ 5 13]
def YO:CT:=.eM [14,15,16,17,18,19] [gf [2] 14 3 2 1,cI [14] (bF 15) 162 [z_ 14],gf [3] 16 3 3 2,cI [16] (bF 17) 162 [z_ 16],i_ [15,17] 18 (qU uL [z_ 15,z_ 17]) 1,cI [18] (bF 19) 161 [z_ 18],j_ [4,19] (s_ 3 4 19),i_ [] 5 (c_ (.int .i64 0)) 1]
def A130:CF:=⟨[bS 4 3,aB 5],sr [X_ 2 0,X_ 3 1,o_ 4 (ay dy 3),I_ 5 0] (sr [N_ 7 3 2,N_ 8 3 3,y_ 9 160 [kI 3,z_ 7,z_ 8],V_ 6 9] (iq JY 11 (rt YP) (rt YO))),20⟩
theorem c130:cF 130=some A130:=by kernel_rfl
def JX:=R_ [V_ 10 6,H_ 11 10 0]
def YN:=R_ [o_ 12 (aH dy 3 []),V_ 13 6,S_ 3 4 12,V_ 5 13]
def YM:CT:=.eM [14,15,16,17,18,19] [gf [2] 14 3 2 1,cI [14] (bF 15) 162 [z_ 14],gf [3] 16 3 3 2,cI [16] (bF 17) 162 [z_ 16],i_ [15,17] 18 (qU Hv [z_ 15,z_ 17]) 1,cI [18] (bF 19) 161 [z_ 18],j_ [4,19] (s_ 3 4 19),i_ [] 5 (c_ (.int .i64 0)) 1]
def A131:CF:=⟨[bS 4 3,aB 5],sr [X_ 2 0,X_ 3 1,o_ 4 (ay dy 3),I_ 5 0] (sr [N_ 7 3 2,N_ 8 3 3,y_ 9 160 [kI 3,z_ 7,z_ 8],V_ 6 9] (iq JX 11 (rt YN) (rt YM))),20⟩
theorem c131:cF 131=some A131:=by kernel_rfl
def JW:=R_ [o_ 17 (aH dy 3 []),S_ 3 6 17,I_ 7 5]
def yq:=R_ [A_ 18 0 4,L_ 19 18,K_ 20 19 0,V_ 21 20,dF 21 22 0 5,dQ 21 23 22,h_ 21 24 (di eP 23 0),Q_ 25 21 24]
def JV:=R_ [o_ 26 (aH dy 3 []),S_ 3 6 26,I_ 7 0]
def JU:=R_ [A_ 27 0 4,L_ 28 27,A_ 29 0 5,L_ 30 29,o_ 31 (b_ kL 28 30)]
def YL:=R_ [o_ 32 (aH dy 3 []),S_ 3 6 32,I_ 7 30]
def YK:=R_ [N_ 33 3 4,N_ 34 3 5,y_ 35 44 [z_ 33,z_ 34],V_ 8 35]
def rf:=R_ [V_ 36 0,K_ 37 36 0]
def YJ:=R_ [V_ 38 8,K_ 39 38 0,y_ 40 67 [z_ 39],S_ 3 6 40,I_ 7 0]
def pX:=R_ [V_ 41 0,K_ 42 41 1]
def Nh:=R_ [V_ 43 8,H_ 44 43 0,y_ 45 67 [z_ 44],S_ 3 6 45,I_ 7 0]
def su:=R_ [V_ 46 0,K_ 47 46 2]
def Nc:=R_ [V_ 48 8,o_ 49 (di ia 48 0),y_ 50 67 [z_ 49],S_ 3 6 50,I_ 7 0]
def vu:=R_ [V_ 51 0,K_ 52 51 3]
def Nb:=R_ [V_ 53 8,o_ 54 (di ia 53 1),y_ 55 67 [z_ 54],S_ 3 6 55,I_ 7 0]
def C4:=R_ [V_ 56 0,K_ 57 56 4]
def Na:=R_ [V_ 58 8,o_ 59 (di jc 58 0),y_ 60 67 [z_ 59],S_ 3 6 60,I_ 7 0]
def M_:=R_ [V_ 61 8,o_ 62 (di jc 61 (-1)),y_ 63 67 [z_ 62],S_ 3 6 63,I_ 7 0]
def A132:CF:=⟨[bS 6 3,aB 7],sr [X_ 4 1,X_ 5 2,o_ 6 (ay dy 3),I_ 7 0] (ir [N_ 9 3 4,y_ 10 97 [z_ 9],o_ 11 (un 10),V_ 12 11,zM 12 13 3 5,nO (z_ 12) false (bF 14) 97 [z_ 13],h_ 12 15 (un 14),Q_ 16 12 15] 16 (rt JW) (iq yq 25 (rt JV) (iq JU 31 (rt YL) (sq YK (iq rf 37 (rt YJ) (iq pX 42 (rt Nh) (iq su 47 (rt Nc) (iq vu 52 (rt Nb) (iq C4 57 (rt Na) (rt M_)))))))))),64⟩
theorem c132:cF 132=some A132:=by kernel_rfl
def JQ:=R_ [I_ 6 5]
def o0:=R_ [A_ 15 0 4,L_ 16 15,V_ 17 0,o_ 18 (b_ kL 16 17),V_ 19 18,fe 19 20 0 4,fu 19 21 20,g_ 19 22 (di kL 21 0),P_ 23 19 22,V_ 24 23,dF 24 25 0 5,dQ 24 26 25,fK 24 27 0,h_ 24 28 (b_ kL 26 27),fK 24 29 28,fe 29 30 0 5,fu 29 31 30,g_ 29 32 (di kL 31 0),h_ 24 33 (p_ 29 32),Q_ 34 24 33]
def C0:=R_ [I_ 6 30]
def yn:=R_ [I_ 6 0]
def A160:CF:=⟨[aB 6],sr [X_ 4 1,X_ 5 2,I_ 6 0] (ir [N_ 7 3 4,y_ 8 97 [z_ 7],o_ 9 (un 8),V_ 10 9,zM 10 11 3 5,nO (z_ 10) false (bF 12) 97 [z_ 11],h_ 10 13 (un 12),Q_ 14 10 13] 14 (rt JQ) (iq o0 34 (rt C0) (rt yn))),35⟩
theorem c160:cF 160=some A160:=by kernel_rfl
def A161:CF:=⟨[bS 2 3],sr [o_ 2 (ay dy 3)] (ir [V_ 3 0,K_ 4 3 1] 4 (rr [o_ 5 (aH dy 3 []),S_ 3 2 5]) (rr [V_ 6 0,K_ 7 6 2,y_ 8 67 [z_ 7],S_ 3 2 8])),9⟩
theorem c161:cF 161=some A161:=by kernel_rfl
def A162:CF:=⟨[aB 2],sr [X_ 1 0,I_ 2 0] (ir [A_ 3 0 1,L_ 4 3,K_ 5 4 0] 5 (rr [I_ 2 1]) (rr [A_ 6 1 1,L_ 7 6,o_ 8 (e2 (ct .mul) (kI 2) (z_ 7)),V_ 2 8])),9⟩
theorem c162:cF 162=some A162:=by kernel_rfl
def Yr:=R_ [V_ 19 1,o_ 20 (di ia 19 0),V_ 21 2,o_ 22 (di ia 21 0),o_ 23 (b_ (j7 true .bool) 20 22),V_ 10 23]
def lA:=R_ [V_ 24 0]
def lz:=R_ [K_ 26 24 0,V_ 25 26]
def JP:=R_ [V_ 27 1,V_ 28 2,y_ 29 193 [z_ 27,z_ 28],W_ 30 0 29,W_ 31 1 29,V_ 6 30,V_ 7 31]
def mq:=R_ [K_ 33 24 1,V_ 32 33]
def CZ:=R_ [V_ 34 2,o_ 35 (di eP 34 (-9223372036854775808))]
def JO:=R_ [V_ 36 1,o_ 37 (u_ (cO .u64) 36),o_ 38 (d_ sD 37 (.int .u64 9223372036854775808)),o_ 39 (u_ (cO .i64) 38),V_ 40 1,o_ 41 (di ia 40 0),V_ 6 39,V_ 7 41]
def JM:=R_ [V_ 42 1,V_ 43 2,o_ 44 (u_ (GP .neg) 43),y_ 45 193 [z_ 42,z_ 44],W_ 46 0 45,W_ 47 1 45,V_ 6 46,V_ 7 47]
def lX:=R_ [K_ 49 24 2,V_ 48 49]
def vq:=R_ [V_ 51 8,V_ 52 9,y_ 53 194 [z_ 51,z_ 52],V_ 50 53,W_ 54 0 50,W_ 55 1 50,V_ 11 54,V_ 12 55]
def pW:=R_ [V_ 57 12,V_ 58 10,V_ 59 58,fR 59 60 12,g_ 59 61 (d_ jc 60 (.int .u64 0)),P_ 62 59 61,y_ 63 195 [z_ 57,z_ 62],V_ 56 63,W_ 64 0 56,W_ 65 1 56,V_ 13 64,V_ 14 65]
def pV:=R_ [V_ 66 13,V_ 67 14,V_ 68 67,fR 68 69 11,g_ 68 70 (d_ eP 69 (.int .u64 0)),P_ 71 68 70,V_ 6 66,V_ 7 71]
def pU:=R_ [K_ 73 24 3,V_ 72 73]
def vp:CT:=.eM [74,75,76,77,78,79,80,81,82,83,84,85,86] [bc [8] 74 8 1,bc [9] 75 9 1,i_ [74,75] 76 (b_ (ct .quo) 74 75) 1,bc [10] 77 10 1,bc [77] 78 77 1,gI [78,8] 78 79 (v_ 8) 1,gI [78,9] 78 80 (v_ 9) 1,gI [78,79,80] 78 81 (b_ (ct .quo) 79 80) 1,gI [78,81] 78 82 (d_ jc 81 (.int .u64 0)) 1,i_ [78,82] 83 (p_ 78 82) 1,cI [76,83] (bF 84) 195 [z_ 76,z_ 83],i_ [84] 85 (u_ (fG 0) 84) 1,i_ [84] 86 (u_ (fG 1) 84) 1,bc [85] 6 85 1,bc [86] 7 86 1]
def vo:CT:=.eM [87,88,89,90,91,92,93,94,95,96,97,98,99,100] [bc [8] 87 8 1,bc [9] 88 9 1,i_ [87,88] 89 (b_ (ct .rem) 87 88) 1,bc [1] 90 1 1,i_ [90] 91 (di ia 90 0) 1,bc [91] 92 91 1,gI [92,8] 92 93 (v_ 8) 1,gI [92,9] 92 94 (v_ 9) 1,gI [92,93,94] 92 95 (b_ (ct .rem) 93 94) 1,gI [92,95] 92 96 (d_ jc 95 (.int .u64 0)) 1,i_ [92,96] 97 (p_ 92 96) 1,cI [89,97] (bF 98) 195 [z_ 89,z_ 97],i_ [98] 99 (u_ (fG 0) 98) 1,i_ [98] 100 (u_ (fG 1) 98) 1,bc [99] 6 99 1,bc [100] 7 100 1]
def A163:CF:=⟨[aB 6,aB 7],sr [I_ 6 0,F_ 7] (sr [V_ 15 1,y_ 16 192 [z_ 15],V_ 17 2,y_ 18 192 [z_ 17],V_ 8 16,V_ 9 18] (sq Yr (sq (sq lA (.block 0 (sq lz (cd 25 (rt JP) (sq mq (cd 32 (iq CZ 35 (rt JO) (rt JM)) (sq lX (cd 48 (sq vq (sq pW (rt pV))) (sq pU (cd 72 (rt vp) .skip)))))))))) (rt vo)))),101⟩
theorem c163:cF 163=some A163:=by kernel_rfl
def A192:CF:=⟨[aB 2],sr [o_ 2 (c_ (.int .u64 0))] (ir [V_ 3 0,o_ 4 (di ia 3 0)] 4 (rr [V_ 5 0,o_ 6 (u_ (cO .u64) 5),o_ 7 (u_ (GP .neg) 6),V_ 2 7]) (rr [V_ 8 0,o_ 9 (u_ (cO .u64) 8),V_ 2 9])),10⟩
theorem c192:cF 192=some A192:=by kernel_rfl
def A193:CF:=⟨[aB 4,aB 5],sr [I_ 4 0,F_ 5] (ir [V_ 6 1,o_ 7 (di jc 6 0),V_ 8 7,fR 8 9 0,fR 8 10 1,g_ 8 11 (e2 yG (kI 9223372036854775807) (z_ 10)),g_ 8 12 (b_ jc 9 11),P_ 13 8 12,V_ 14 13,fK 14 15 1,h_ 14 16 (di ia 15 0),fK 14 17 16,fR 17 18 0,fR 17 19 1,g_ 17 20 (e2 yG (kI (-9223372036854775808)) (z_ 19)),g_ 17 21 (b_ ia 18 20),h_ 14 22 (p_ 17 21),Q_ 23 14 22] 23 (rr [I_ 4 0,F_ 5]) (rr [V_ 24 0,V_ 25 1,o_ 26 (b_ sD 24 25),V_ 4 26,T_ 5])),27⟩
theorem c193:cF 193=some A193:=by kernel_rfl
def A194:CF:=⟨[aB 4,aB 5],sr [o_ 4 (c_ (.int .u64 0)),o_ 5 (c_ (.int .u64 0))] (sr [V_ 14 0,o_ 15 (d_ (ct .and) 14 (.int .u64 4294967295)),V_ 6 15] (sr [V_ 16 0,o_ 17 (d_ (ct .shr) 16 (.int .u64 32)),V_ 7 17] (sr [V_ 18 1,o_ 19 (d_ (ct .and) 18 (.int .u64 4294967295)),V_ 8 19] (sr [V_ 20 1,o_ 21 (d_ (ct .shr) 20 (.int .u64 32)),V_ 9 21] (sr [V_ 22 6,V_ 23 8,o_ 24 (b_ (ct .mul) 22 23),V_ 10 24] (sr [V_ 25 7,V_ 26 8,o_ 27 (b_ (ct .mul) 25 26),V_ 28 10,o_ 29 (d_ (ct .shr) 28 (.int .u64 32)),o_ 30 (b_ sD 27 29),V_ 11 30] (sr [V_ 31 11,o_ 32 (d_ (ct .and) 31 (.int .u64 4294967295)),V_ 12 32] (sr [V_ 33 11,o_ 34 (d_ (ct .shr) 33 (.int .u64 32)),V_ 13 34] (sr [V_ 35 12,V_ 36 6,V_ 37 9,o_ 38 (b_ (ct .mul) 36 37),o_ 39 (b_ sD 35 38),V_ 12 39] (sr [V_ 40 7,V_ 41 9,o_ 42 (b_ (ct .mul) 40 41),V_ 43 13,o_ 44 (b_ sD 42 43),V_ 45 12,o_ 46 (d_ (ct .shr) 45 (.int .u64 32)),o_ 47 (b_ sD 44 46),V_ 4 47] (rr [V_ 48 0,V_ 49 1,o_ 50 (b_ (ct .mul) 48 49),V_ 5 50]))))))))))),51⟩
theorem c194:cF 194=some A194:=by kernel_rfl
def A195:CF:=⟨[aB 4,aB 5],sr [I_ 4 0,F_ 5] (ir [V_ 6 1] 6 (rr [V_ 7 0,o_ 8 (u_ (GP .neg) 7),o_ 9 (u_ (cO .i64) 8),V_ 10 0,o_ 11 (d_ vc 10 (.int .u64 9223372036854775808)),V_ 4 9,V_ 5 11]) (rr [V_ 12 0,o_ 13 (u_ (cO .i64) 12),V_ 14 0,o_ 15 (d_ ia 14 (.int .u64 9223372036854775808)),V_ 4 13,V_ 5 15])),16⟩
theorem c195:cF 195=some A195:=by kernel_rfl
end Go.Abs
