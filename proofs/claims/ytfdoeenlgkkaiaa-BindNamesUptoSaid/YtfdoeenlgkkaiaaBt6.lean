/- Rows are changed: the sets. -/
import Derived.Test.YtfdoeenlgkkaiaaBt5
namespace Go.Abs
open Go.Proofs
open Classical
set_option maxRecDepth 100000
structure UpM (H0 : Hp) (n p o : Nat) (s : Sch) (t : Tbl) (x : Stm) (N : List Ex) (e : Int) (va : AV) (R : List AV) (K : Hp) (m : Nat) : Prop where
 hN : N.length = t.cols.length
 hm : n + 2 ≤ m
 tp : Top K m
 kf : ∀ c,c < n → c ≠ p → c ≠ o → K.get c = H0.get c
 kp : K.get p = some (bdS s e)
 kn : K.get n = some (.cells 31 [] x.cells .nil)
 ks : K.get (n + 1) = some (.cells 2 [] (scC [t.name] [t]) .nil)
 ko : K.get o = some (.cells 25 [] (outU x.kind t va (.cst (.slice none 0 0))) .nil)
 oa : OwnS K m va R t.cols.length 8
 da : ∀ c,blk va = some c → n + 2 ≤ c
 fz : ∀ h,FrzL h R (eEx.l N)
structure UpB (H0 : Hp) (n p o : Nat) (s : Sch) (t : Tbl) (x : Stm) (i : Nat) (N : List Ex) (e : Int) (va : AV) (R : List AV) (F : Fr) (K : Hp) (m : Nat) : Prop where
 hi : i ≤ x.sets.length
 f0 : F.get 0 = some (.ptr p 0)
 f2 : F.get 2 = some (.ptr o 0)
 f4 : F.get 4 = some (.ptr n 0)
 f6 : F.get 6 = some (.ptr (n + 1) 0)
 f51 : F.get 51 = some (eSet.ds x.sets)
 f52 : F.get 52 = some (.int .i64 (x.sets.length : Int))
 f53 : F.get 53 = some (.int .i64 (i : Int))
 mem : UpM H0 n p o s t x N e va R K m
 he : updR t [] x.sets (colsX t.cols.length) 0 = updR t (x.sets.take i) (x.sets.drop i) N e
theorem update27b (s : Sch) (x : Stm) (p o : Nat) (n : Nat) (hpn : p < n) (hon : o < n) (hpo : p ≠ o) (H0 : Hp) (t : Tbl) (htc : t.cols.length ≤ lim) (hx : x.sets.length ≤ lim) (hr : ∀ y ∈ x.sets,y.e.sz ≤ lim ∧ y.e.may = true) (F : Fr) (K : Hp) (m : Nat) (Q : QA) (va : AV) (R : List AV) (I : UpB H0 n p o s t x 0 (colsX t.cols.length) 0 va R F K m)
  (hQ : ∀ N e va R F K m,UpB H0 n p o s t x x.sets.length N e va R F K m → Q .normal F K m [])
  (hQ2 : ∀ N e va R F K m,UpM H0 n p o s t x N e va R K m → updR t [] x.sets (colsX t.cols.length) 0 = (N,e,false) → Q .ret F K m []) : LoopV L27_1 Try.prog F K m [] (BlkQ 2 Q):=by
 have hks : (kindsS [t]).length ≤ lim:=by simpa [kindsS,Tbl.kinds] using htc
 unfold lim at htc hx
 refine LoopV.of (fun q F K m ms => ∃ (i : Nat) (N : List Ex) (e : Int) (va : AV) (R : List AV),q = x.sets.length - i ∧ UpB H0 n p o s t x i N e va R F K m ∧ ms = []) x.sets.length ⟨0,_,0,va,R,by simp,I,rfl⟩ ?_
 clear I F K m va R
 rintro q1 F K m ms ⟨i,N,e,va,R,rfl,I,rfl⟩
 have f0:=I.f0
 have f2:=I.f2
 have f4:=I.f4
 have f6:=I.f6
 have f51:=I.f51
 have f52:=I.f52
 have f53:=I.f53
 have M:=I.mem
 have hm:=M.hm
 have he:=I.he
 by_cases hlt : i < x.sets.length
 ·
  have hxx:=eSet.ix (ik:=.i64) hlt
  have hld:=fun H => eSet.ldN x.sets[i] (eSet.l (x.sets.drop (i + 1))) H
  have hsl:=eSet.slHi (show i ≤ x.sets.length by omega)
  obtain ⟨hz,hmy⟩:=hr _ (List.getElem_mem hlt)
  have ko:=M.ko
  simp only [outU] at ko
  have om:=neC (show o < m by omega)
  have nm:=neC (show n < m by omega)
  have pm:=neC (show p < m by omega)
  rw [List.drop_eq_getElem_cons hlt,updR] at he
  simp [L27_1,R27_10,R27_11,R27_12,f2,f51,f52,f53,hlt,hxx,hld,Enc.av,om,ko]
  generalize hK1 : Tr.put _ m _ = K1
  have g1 : ∀ c,c < m → K1.get c = K.get c:=fun c hc => by rw [← hK1]; simp [neC hc]
  have x1 : K1.get m = some (.cells 9 [] (eSet.cells x.sets[i]) .nil):=by rw [← hK1]; simp
  have t1 : Top K1 (m + 1):=fun c hc => by
   have e1 : ¬ c = m:=by omega
   rw [← hK1]; simp [e1,M.tp c (by omega)]
  clear hK1
  refine CalV.same (idxCol (p:=fun c => decide (c.name = x.sets[i].name)) (first:=[]) (cap:=[.ptr m 0]) t.cols (by unfold lim; omega) fun d _ => col73 d x.sets[i] m K1 (m + 1) x1 t1) ?_
  have hk : idxI (fun c : Col => decide (c.name = x.sets[i].name)) t.cols = colIx t x.sets[i].name:=rfl
  have hkl:=idxI_lt (fun c : Col => decide (c.name = x.sets[i].name)) t.cols
  rw [hk] at hkl ⊢
  generalize colIx t x.sets[i].name = k at he hkl ⊢
  simp [R27_13,f0]
  refine CalV.ok (failB p s _ 201 (decide (k < 0)) _ _ (by omega) ((g1 p (by omega)).trans M.kp)) ?_
  generalize hE1 : keep e 201 (decide (k < 0)) = e1 at he
  have j2 : ∀ c,c ≠ p → (K1.put p (some (bdS s e1))).get c = K1.get c:=fun c hc => by simp [hc]
  have jp : (K1.put p (some (bdS s e1))).get p = some (bdS s e1):=by simp
  generalize K1.put p (some (bdS s e1)) = K2 at j2 jp ⊢
  have n2:=(j2 n (by omega)).trans ((g1 n (by omega)).trans M.kn)
  have x2:=(j2 m (by omega)).trans x1
  have t2 : Top K2 (m + 1):=fun c hc => (j2 c (by omega)).trans (t1 c hc)
  simp [R27_14,f0,f4,n2,Stm.c7,hsl]
  refine CalV.same (conSet (p:=fun y => decide (y.name = x.sets[i].name)) (first:=[]) (cap:=[.ptr m 0]) (x.sets.take i) (by simp; unfold lim; omega) fun y _ => set75 y x.sets[i] m K2 (m + 1) x2 t2) ?_
  generalize (x.sets.take i).any (fun y => decide (y.name = x.sets[i].name)) = db at he ⊢
  simp
  refine CalV.ok (failB p s e1 205 db _ _ (by omega) jp) ?_
  generalize hE2 : keep e1 205 db = e2 at he
  have j3 : ∀ c,c ≠ p → (K2.put p (some (bdS s e2))).get c = K2.get c:=fun c hc => by simp [hc]
  have jp3 : (K2.put p (some (bdS s e2))).get p = some (bdS s e2):=by simp
  generalize K2.put p (some (bdS s e2)) = K3 at j3 jp3 ⊢
  have jp3' : K3.get p = some (.cells 3 [] [eTbl.ds s.tables,eIxd.ds s.indexes,.int .i64 e2] .nil):=jp3
  have bk : ∀ c,c < m → c ≠ p → K3.get c = K.get c:=fun c h1 h2 => (j3 c h2).trans ((j2 c h2).trans (g1 c h1))
  have t3 : Top K3 (m + 1):=fun c hc => (j3 c (by omega)).trans (t2 c hc)
  have oa3 : OwnS K3 (m + 1) va R t.cols.length 8:=M.oa.frame (by omega) fun c hc => bk c (M.oa.blkLt hc) (by have:=M.da c hc; omega)
  by_cases h2 : e2 = 0
  ·
   subst h2
   simp at he
   obtain ⟨he1,hdb⟩:=keep_ne (by omega) hE2
   obtain ⟨he0,hkd⟩:=keep_ne (by omega) (hE1.trans he1)
   have hk0 : 0 ≤ k:=by simpa using hkd
   obtain ⟨kk,rfl⟩ : ∃ kk : Nat,k = (kk : Int):=⟨k.toNat,by omega⟩
   have hkk : kk < t.cols.length:=by omega
   simp at he
   have hcx:=eCol.ix (ik:=.i64) hkk
   have o3:=(bk o (by omega) (by omega)).trans ko
   have s3:=(bk (n + 1) (by omega) (by omega)).trans M.ks
   have x3:=(j3 m (by omega)).trans x2
   have hft:=fit70 [t.name] [t] rfl hks (by simp [lim]) (by simp; unfold lim; omega) s x.sets[i].e hz hmy t.cols[kk].kind p 0 K3 (m + 1) (by omega) jp3
   rw [colAt_lt hkk] at he
   unfold fitS at he
   generalize x.sets[i].e.bd [t.name] [t] 0 = X at hft he
   obtain ⟨y1,kd,er⟩:=X
   simp only at hft he
   simp [R27_15,f0,jp3']
   simp only [R27_16,vc_drw]
   generalize keep er 203 (decide (kd ≠ 0) && decide (kd ≠ t.cols[kk].kind)) = er2 at hft he
   have hft : CallOk Try.prog 70 [.ptr p 0,.agg [eStr.ds [t.name],eTbl.ds [t]] 2,.agg x.sets[i].e.cells 8,.int .i64 t.cols[kk].kind] K3 (m + 1) (.agg y1.cells 8) (K3.put p (some (bdS s er2))) (m + 1):=hft
   obtain ⟨hRl,⟨_,hnil⟩ | ⟨vb,kb,rfl,hvb,hkb,hob⟩⟩:=oa3
   · omega
   have hda:=M.da vb rfl
   have hvm : vb < m:=M.oa.blkLt rfl
   refine DrwV.of (ceL_ok (l:=[⟨70,[.ptr p 0,.agg [eStr.ds [t.name],eTbl.ds [t]] 2,.agg x.sets[i].e.cells 8,.int .i64 t.cols[kk].kind],K3,m + 1,.agg y1.cells 8,K3.put p (some (bdS s er2)),m + 1⟩]) ?_) ?_
   ·
    simp only [List.mem_cons,List.not_mem_nil,or_false]
    rintro c rfl
    exact hft
   have j4 : ∀ c,c ≠ p → (K3.put p (some (bdS s er2))).get c = K3.get c:=fun c hc => by simp [hc]
   have p4 : (K3.put p (some (bdS s er2))).get p = some (bdS s er2):=by simp
   have o4:=(j4 o (by omega)).trans o3
   have b4:=(j4 vb (by omega)).trans hkb
   have hix:=cIxa_sl (b:=vb) (o:=0) (len:=t.cols.length) (sz:=8) (i:=kk) (k:=.i64) hkk
   rw [Nat.zero_add] at hix
   rw [eSet_c] at x3
   simp only [scC] at s3
   obtain ⟨y,hst,hoy⟩:=own_stE (b:=vb) (k:=8) (o:=kk * 8) (v:=.agg y1.cells 8) hob rfl (by simp [AV.cells]) (by omega) (by simp [AV.cells]) (by rw [hRl]; omega)
   have op : (o = p) = False:=by simp only [eq_iff_iff,iff_false]; omega
   have bp : (vb = p) = False:=by simp only [eq_iff_iff,iff_false]; omega
   simp [clearF_get,f0,f2,f6,o3,s3,x3,hcx,eCol_c,ceL_hd,op,bp,hix,hkb,hst]
   generalize K3.put p (some (bdS s er2)) = K4 at j4 p4 o4 b4 ⊢
   simp [R27_17,f53,clearF_get,wrap_nat i (by omega)]
   have k5 : ∀ c,c ≠ vb → (K4.put vb (some y)).get c = K4.get c:=fun c hc => by simp [hc]
   have y5 : (K4.put vb (some y)).get vb = some y:=by simp
   generalize K4.put vb (some y) = K5 at k5 y5 ⊢
   have bk5 : ∀ c,c < m → c ≠ p → c ≠ vb → K5.get c = K.get c:=fun c h1 h2 h3 => (k5 c h3).trans ((j4 c h2).trans (bk c h1 h2))
   refine ⟨_,by omega,i + 1,rfl,N.set kk y1,er2,.sl vb 0 t.cols.length 8,splice R y1.cells (kk * 8),hlt,by simp [clearF_get,f0],by simp [clearF_get,f2],by simp [clearF_get,f4],by simp [clearF_get,f6],by simp [clearF_get,f51],by simp [clearF_get,f52],by simp,⟨by simp [M.hN],by omega,fun c hc => (k5 c (by omega)).trans ((j4 c (by omega)).trans (t3 c hc)),fun c h1 h2 h3 => (bk5 c (by omega) h2 (by omega)).trans (M.kf c h1 h2 h3),(k5 p (by omega)).trans p4,(bk5 n (by omega) (by omega) (by omega)).trans M.kn,(bk5 (n + 1) (by omega) (by omega) (by omega)).trans M.ks,(bk5 o (by omega) (by omega) (by omega)).trans M.ko,⟨?_,.inr ⟨vb,y,rfl,by omega,y5,hoy⟩⟩,fun c hc => M.da c hc,fun h => ?_⟩,?_⟩
   · rw [splice_len (by rw [hRl]; simp; omega),hRl]
   ·
    have e:=Enc.l_set eEx (l:=N) (i:=kk) (by rw [M.hN]; exact hkk) y1
    rw [← e]
    exact (M.fz h).splice _ (FrzL.pure (by simp))
   · exact he
  ·
   simp [h2] at he
   simp [R27_15,f0,jp3',h2]
   exact hQ2 N e2 va R _ K3 (m + 1) ⟨M.hN,by omega,t3,fun c h1 h2 h3 => (bk c (by omega) h2).trans (M.kf c h1 h2 h3),jp3,(bk n (by omega) (by omega)).trans M.kn,(bk (n + 1) (by omega) (by omega)).trans M.ks,(bk o (by omega) (by omega)).trans M.ko,oa3,M.da,M.fz⟩ he
 ·
  have hie : i = x.sets.length:=by have:=I.hi; omega
  subst hie
  simp [L27_1,R27_10,f52,f53]
  exact hQ N e va R _ K m ⟨I.hi,by simp [f0],by simp [f2],by simp [f4],by simp [f6],by simp [f51],by simp [f52],by simp [f53],M,he⟩
theorem update27 (s : Sch) (hs : s.fine) (x : Stm) (hx : x.sets.length ≤ lim) (hr : ∀ y ∈ x.sets,y.e.sz ≤ lim ∧ y.e.may = true) (hcz : x.cond.sz ≤ lim) (hcm : x.cond.maybe = true) (p o : Nat) (H : Hp) (n : Nat) (hpn : p < n) (hon : o < n) (hpo : p ≠ o) (hp : H.get p = some (bdS s 0)) (ho : H.get o = some (.cells 25 [] (outZ x.kind) .nil)) :
  CallOk Try.prog 27 [.ptr p 0,x.av,.ptr o 0] H n (.tup []) ((H.put p (some (bdS s (updateB s x 0).2))).put o (some (.cells 25 [] (updateB s x 0).1.cells .nil))) n:=by
 refine binO (args:=[x.av]) c27 (by simp [A27]) (by simp) hpn hon hpo hp ho (PureL.rlt (by simp [outZ])) (PureL.rlt (by simp)) fun F H0 hF htop hp0 ho0 => ?_
 have hcr : updateB s x 0 = (if keep 0 200 (!(s.named x.table).2) ≠ 0 then ({ kind:=x.kind,table:=(s.named x.table).1 },keep 0 200 (!(s.named x.table).2))
 else updT x.kind (s.named x.table).1 x.cond (updR (s.named x.table).1 [] x.sets (colsX (s.named x.table).1.cols.length) (keep 0 200 (!(s.named x.table).2)))):=rfl
 rw [hcr]
 have q:=neC hpn
 have q':=neD hpn
 have r:=neC hon
 have r':=neD hon
 have po : (p = o) = False:=by simp [hpo]
 have op : (o = p) = False:=by simp [hpo,eq_comm]
 have htc : (s.named x.table).1.cols.length ≤ lim:=firstD_len (Q:=fun t : Tbl => t.cols.length ≤ lim) (by simp [Tbl.zero]) hs.tc
 simp [A27,B27,R27_0,R27_1,hF,Stm.av,Stm.c1]
 refine CalV.ok (table19 s hs x.table p 0 _ _ (by omega) (by simp [q,hp0])) ?_
 generalize s.named x.table = tt at *
 obtain ⟨t,tb⟩:=tt
 simp only at htc ⊢
 generalize keep 0 200 (!tb) = e0 at *
 have hal:=alone26 t
 have hav : eTbl.av t = .agg [.int .u32 t.id,.str t.name,eCol.ds t.cols,.int .u32 t.head] 4:=Eq.trans rfl rfl
 rw [hav] at hal
 simp only [outZ] at ho0
 by_cases h0 : e0 = 0
 ·
  subst h0
  simp [r,op,po,ho0,Enc.av,eTbl_c,R27_2,R27_3,hF,bdS,bdr]
  refine CalV.pure hal ?_
  simp [R27_4,hF,r,scC,Enc.len_ds]
  generalize hK : Tr.put _ (n + 1) (some (ABlk.cells 2 [] [eStr.ds [t.name],eTbl.ds [t]] .nil)) = K1
  have k0 : ∀ c,c < n → c ≠ p → c ≠ o → K1.get c = H0.get c:=fun c h1 h2 h3 => by rw [← hK]; simp [h2,h3,neC h1]
  have kp : K1.get p = some (bdS s 0):=by rw [← hK]; simp [po,q,bdS,bdr]
  have kn : K1.get n = some (.cells 31 [] x.cells .nil):=by rw [← hK]; simp [q',r']
  have ks : K1.get (n + 1) = some (.cells 2 [] (scC [t.name] [t]) .nil):=by rw [← hK]; simp [scC]
  have ko : K1.get o = some (.cells 25 [] (outU x.kind t (.cst (.slice none 0 0)) (.cst (.slice none 0 0))) .nil):=by rw [← hK]; simp [outU,r]
  have kt : Top K1 (n + 1 + 1):=fun c hc => by
   have e1 : ¬ c = n:=by omega
   have e2 : ¬ c = p:=by omega
   have e3 : ¬ c = o:=by omega
   have e4 : ¬ c = n + 1:=by omega
   rw [← hK]; simp [e1,e2,e3,e4,htop c (by omega)]
  clear hK
  refine update27a s hs x p o n hpn hon hpo H0 t htc _ K1 (n + 1 + 1) _ (.cst (.slice none 0 0)) [] ⟨by omega,by simp [hF],by simp [hF],by simp,by simp,by simp,by simp,by omega,kt,k0,kp,kn,ks,ko,by simpa using OwnS.nil _ _ 8,by simp,fun h => by simpa [colsX] using FrzL.nil⟩ fun va R F K m I => ?_
  clear k0 kp kn ks ko kt
  have kn:=I.kn
  have f4:=I.f4
  simp [R27_9,f4,kn,Stm.c7,Enc.len_ds]
  refine update27b s x p o n hpn hon hpo H0 t htc hx hr _ K m _ va R ⟨by omega,by simp [I.f0],by simp [I.f2],by simp [I.f4],by simp [I.f6],by simp,by simp,by simp,⟨by simp,I.hm,I.tp,I.kf,I.kp,I.kn,I.ks,I.ko,I.oa,I.da,I.fz⟩,by simp⟩ (fun N e va1 R1 F1 K1' m1 B => ?_) (fun N e va R F K m M he => ?_)
  ·
   clear I f4 kn
   have he:=B.he
   rw [List.take_length,List.drop_length,updR] at he
   rw [he]
   have M:=B.mem
   have f0:=B.f0
   have f2:=B.f2
   have f4:=B.f4
   have f6:=B.f6
   have kn:=M.kn
   have ks:=M.ks
   have ko:=M.ko
   simp only [outU] at ko
   simp only [scC] at ks
   have hm:=M.hm
   have hks : (kindsS [t]).length ≤ lim:=by simpa [kindsS,Tbl.kinds] using htc
   have hcd:=cond25 [t.name] [t] rfl hks (by simp [lim]) (by simpa using htc) s x.cond hcz hcm p e K1' m1 (by omega) M.kp
   have hav : x.cond.av = .agg x.cond.cells 8:=Eq.trans rfl rfl
   rw [hav] at hcd
   have hu : updT x.kind t x.cond (N,e,true) = ({ kind:=x.kind,table:=t,new:=N,cond:=(condB [t.name] [t] x.cond e).1 },(condB [t.name] [t] x.cond e).2):=by simp [updT]
   rw [hu]
   generalize condB [t.name] [t] x.cond e = cd at hcd ⊢
   obtain ⟨cl,ce⟩:=cd
   simp [R27_18,f0,f2,f4,f6,kn,ks,Stm.cc]
   refine CalV.ok hcd ?_
   simp [op,ko]
   have k9 : ∀ c,c ≠ p → c ≠ o → ((Tr.put K1' p (some (bdS s ce))).put o (some (.cells 25 [] (outU x.kind t va1 (eEx.ds cl)) .nil))).get c = K1'.get c:=fun c h1 h2 => by simp [h1,h2]
   have p9 : ((Tr.put K1' p (some (bdS s ce))).put o (some (.cells 25 [] (outU x.kind t va1 (eEx.ds cl)) .nil))).get p = some (bdS s ce):=by simp [po]
   have o9 : ((Tr.put K1' p (some (bdS s ce))).put o (some (.cells 25 [] (outU x.kind t va1 (eEx.ds cl)) .nil))).get o = some (.cells 25 [] (outU x.kind t va1 (eEx.ds cl)) .nil):=by simp
   have hz : Frz (above n ((Tr.put K1' p (some (bdS s ce))).put o (some (.cells 25 [] (outU x.kind t va1 (eEx.ds cl)) .nil)))) va1 (eEx.ds N):=by
    have:=(M.oa.frame (Nat.le_refl _) fun c hc => k9 c (by have:=M.da c hc; omega) (by have:=M.da c hc; omega)).frzA (n0:=n) (fun c hc => by have:=M.da c hc; omega) (M.fz _) (by omega)
    have e : eEx.ds N = .ds (eEx.l N) t.cols.length 8:=by rw [← M.hN]; rfl
    rw [e]; exact this
   have he9:=update_end (kind:=x.kind) (t:=t) (L:=N) (C:=cl) (w:=eEx.ds cl) hz (by simp)
   refine ⟨.pure _ (by simp),fun c h1 h2 h3 => ?_,?_,he9.2⟩
   · simp [h2,h3,M.kf c h1 h2 h3]
   · simp [po]; rfl
  ·
   rw [he]
   have hz : Frz (above n K) va (eEx.ds N):=by
    have:=M.oa.frzA (n0:=n) (fun c hc => by have:=M.da c hc; omega) (M.fz _) (by omega)
    rw [Enc.ds,M.hN]; exact this
   have hu : updT x.kind t x.cond (N,e,false) = ({ kind:=x.kind,table:=t,new:=N },e):=by simp [updT]
   rw [hu]
   simp
   refine ⟨.pure _ (by simp),M.kf,M.kp,_,M.ko,update_end hz ?_⟩
   simp
 ·
  simp [r,op,po,ho0,Enc.av,eTbl_c,R27_2,hF,h0,bdS,bdr]
  refine ⟨.pure _ (by simp),fun c h1 h2 h3 => ?_,?_⟩
  · simp [h2,h3,neC h1]
  · simp [Bnd.cells,Ixd.zero]
end Go.Abs
namespace Go.Abs
open Go.Proofs
open Classical
set_option maxRecDepth 100000
def outQ (kind : Int) (fr on w it nm kd od : AV) (d l : Bool) (m : Int) : List AV:=[.int .i64 kind,.str [],.int .u32 0,.str [],.cst (.slice none 0 0),.int .u32 0,.int .u32 0,.int .u32 0,.str [],.cst (.slice none 0 0),.bool false,.int .u32 0,
 .cst (.slice none 0 0),.cst (.slice none 0 0),.cst (.slice none 0 0),fr,on,w,it,nm,kd,od,.bool d,.bool l,.int .i64 m]
structure QC where
 kind : Int
 fr : AV
 on : AV
 w : AV
 od : AV
 d : Bool
 l : Bool
 m : Int
def QC.out (q : QC) (it nm kd : AV) : List AV:=outQ q.kind q.fr q.on q.w it nm kd q.od q.d q.l q.m
structure ItM (H0 : Hp) (n p o : Nat) (s : Sch) (ns : List (List Nat)) (ts : List Tbl) (q : Qry) (C : QC) (e : Int) (c : Nat) (E : List Ex) (N : List (List Nat)) (Ks : List Int) (vi vn vk : AV) (R : List AV) (K : Hp) (m : Nat) : Prop where
 hm : n + 2 ≤ m
 tp : Top K m
 kf : ∀ b,b < n → b ≠ p → b ≠ o → K.get b = H0.get b
 kp : K.get p = some (bdS s e)
 kn : K.get n = some (.cells 2 [] (scC ns ts) .nil)
 kq : K.get (n + 1) = some (.cells 15 [] q.cells .nil)
 ko : K.get o = some (.cells 25 [] (C.out vi vn vk) .nil)
 oi : OwnS K m vi R c 8
 on : OwnS K m vn (eStr.l N) c 1
 ok : OwnS K m vk (eInt.l Ks) c 1
 di : ∀ b,blk vi = some b → n + 2 ≤ b ∧ blk vn ≠ some b ∧ blk vk ≠ some b
 dn : ∀ b,blk vn = some b → n + 2 ≤ b ∧ blk vk ≠ some b
 dk : ∀ b,blk vk = some b → n + 2 ≤ b
 fz : ∀ h,FrzL h R (eEx.l E)
 hE : E.length = c
 hN : N.length = c
 hK : Ks.length = c
section
variable {H0 : Hp} {n p o : Nat} {s : Sch} {ns : List (List Nat)} {ts : List Tbl} {q : Qry} {C : QC} {e : Int} {c : Nat} {E : List Ex} {N : List (List Nat)} {Ks : List Int} {vi vn vk : AV} {R : List AV} {K : Hp} {m : Nat}
theorem ItM.next (M : ItM H0 n p o s ns ts q C e c E N Ks vi vn vk R K m) (hpn : p < n) (hon : o < n) (hpo : p ≠ o) {K' : Hp} {m' : Nat} {e' : Int} (hm : m ≤ m') (ht : Top K' m') (hk : ∀ b,b < m → b ≠ p → K'.get b = K.get b) (hp : K'.get p = some (bdS s e')) : ItM H0 n p o s ns ts q C e' c E N Ks vi vn vk R K' m':=by
 have hm0:=M.hm
 exact ⟨by omega,ht,fun b h1 h2 h3 => (hk b (by omega) h2).trans (M.kf b h1 h2 h3),hp,(hk n (by omega) (by omega)).trans M.kn,(hk (n + 1) (by omega) (by omega)).trans M.kq,(hk o (by omega) (by omega)).trans M.ko,
  M.oi.frame hm fun b hb => hk b (M.oi.blkLt hb) (by have:=(M.di b hb).1; omega),M.on.frame hm fun b hb => hk b (M.on.blkLt hb) (by have:=(M.dn b hb).1; omega),M.ok.frame hm fun b hb => hk b (M.ok.blkLt hb) (by have:=M.dk b hb; omega),M.di,M.dn,M.dk,M.fz,M.hE,M.hN,M.hK⟩
end
structure StF (n p o : Nat) (ts : List Tbl) (i : Nat) (F : Fr) : Prop where
 f0 : F.get 0 = some (.ptr p 0)
 f3 : F.get 3 = some (.ptr o 0)
 f5 : F.get 5 = some (.ptr n 0)
 f6 : F.get 6 = some (.ptr (n + 1) 0)
 f32 : F.get 32 = some (eTbl.ds ts)
 f33 : F.get 33 = some (.int .i64 (ts.length : Int))
 f34 : F.get 34 = some (.int .i64 (i : Int))
def namesT (ts : List Tbl) : List (List Nat):=ts.flatMap fun t => t.cols.map (·.name)
theorem items76a (n p o : Nat) (hpn : p < n) (hon : o < n) (hpo : p ≠ o) (H0 : Hp) (s : Sch) (ns : List (List Nat)) (ts : List Tbl) (q : Qry) (C : QC) (hC : C.fr.one = true ∧ C.on.one = true ∧ C.w.one = true ∧ C.od.one = true) (e : Int) (i : Nat) (t : Tbl) (c0 : Nat) (hlim : c0 + t.cols.length ≤ lim) (E0 : List Ex) (N0 : List (List Nat)) (Ks0 : List Int) (hE0 : E0 = colsX c0)
  (F : Fr) (K : Hp) (m : Nat) (Q : QA) (vi vn vk : AV) (R : List AV) (hF : StF n p o ts i F) (h39 : F.get 39 = some (eCol.ds t.cols)) (h40 : F.get 40 = some (.int .i64 (t.cols.length : Int))) (h41 : F.get 41 = some (.int .i64 0)) (M : ItM H0 n p o s ns ts q C e c0 E0 N0 Ks0 vi vn vk R K m)
  (hQ : ∀ vi vn vk R F K m,StF n p o ts i F → ItM H0 n p o s ns ts q C e (c0 + t.cols.length) (colsX (c0 + t.cols.length)) (N0 ++ t.cols.map (·.name)) (Ks0 ++ t.cols.map (·.kind)) vi vn vk R K m → Q .normal F K m []) : LoopV L76_0 Try.prog F K m [] (BlkQ 2 Q):=by
 subst hE0
 unfold lim at hlim
 obtain ⟨hC1,hC2,hC3,hC4⟩:=hC
 refine LoopV.of (fun g F K m ms => ∃ (j : Nat) (vi vn vk : AV) (R : List AV),g = t.cols.length - j ∧ j ≤ t.cols.length ∧ StF n p o ts i F ∧ F.get 39 = some (eCol.ds t.cols) ∧ F.get 40 = some (.int .i64 (t.cols.length : Int)) ∧ F.get 41 = some (.int .i64 (j : Int)) ∧ ItM H0 n p o s ns ts q C e (c0 + j) (colsX (c0 + j)) (N0 ++ (t.cols.take j).map (·.name)) (Ks0 ++ (t.cols.take j).map (·.kind)) vi vn vk R K m ∧ ms = []) t.cols.length ⟨0,vi,vn,vk,R,by simp,by omega,hF,h39,h40,h41,by simpa using M,rfl⟩ ?_
 clear hF h39 h40 h41 M F K m vi vn vk R
 rintro g F K m ms ⟨j,vi,vn,vk,R,rfl,hj,⟨f0,f3,f5,f6,f32,f33,f34⟩,f39,f40,f41,M,rfl⟩
 have hm:=M.hm
 by_cases hlt : j < t.cols.length
 ·
  have hxx:=eCol.ix (ik:=.i64) hlt
  have hld:=fun H => eCol.ldN t.cols[j] (eCol.l (t.cols.drop (j + 1))) H
  simp [L76_0,R76_8,R76_9,f39,f40,f41,hlt,hxx,hld,Enc.av]
  generalize hK1 : Tr.put _ m _ = K1
  have g1 : ∀ b,b < m → K1.get b = K.get b:=fun b hb => by rw [← hK1]; simp [neC hb]
  have x1 : K1.get m = some (.cells 3 [] (eCol.cells t.cols[j]) .nil):=by rw [← hK1]; simp
  have t1 : Top K1 (m + 1):=fun b hb => by
   have e1 : ¬ b = m:=by omega
   rw [← hK1]; simp [e1,M.tp b (by omega)]
  clear hK1
  have M1:=M.next hpn hon hpo (Nat.le_succ m) t1 (fun b h1 _ => g1 b h1) ((g1 p (by omega)).trans M.kp)
  have hvi : ∀ b,blk vi = some b → b < m:=fun b h => M.oi.blkLt h
  have hvn : ∀ b,blk vn = some b → b < m:=fun b h => M.on.blkLt h
  have hvk : ∀ b,blk vk = some b → b < m:=fun b h => M.ok.blkLt h
  clear M g1
  obtain ⟨c,hc⟩ : ∃ c,c = c0 + j:=⟨_,rfl⟩
  rw [← hc] at M1
  have ko:=M1.ko
  simp only [QC.out,outQ] at ko
  have hlv:=M1.oi.cLen
  have tm:=t1 (m + 1) (Nat.le_refl _)
  simp only [R76_10,vc_drw]
  refine DrwV.of (ce0_ok (P:=Try.prog)) ?_
  simp [clearF_get,f3,ko,hlv,noneAt_cons,noneAt_nil,tm]
  generalize hK2 : Tr.put K1 (m + 1) _ = K2
  have g2 : ∀ b,b < m + 1 → K2.get b = K1.get b:=fun b hb => by rw [← hK2]; simp [neC hb]
  have x2 : K2.get (m + 1) = some (.cells 8 [] [.int .i64 0,.int .i64 0,.int .i64 0,.str [],.str [],.str [],.int .i64 0,.cst (.slice none 0 0)] .nil):=by rw [← hK2]; simp
  have t2 : Top K2 (m + 1 + 1):=fun b hb => by
   have e1 : ¬ b = m + 1:=by omega
   rw [← hK2]; simp [e1,t1 b (by omega)]
  clear hK2
  have oi2 : OwnS K2 (m + 1 + 1) vi R c 8:=M1.oi.frame (by omega) fun b hb => g2 b (M1.oi.blkLt hb)
  refine OwnS.appK (k:=1) (new:=[.int .i64 0,.int .i64 0,.int .i64 0,.str [],.str [],.str [],.int .i64 0,.cst (.slice none 0 0)]) oi2 (sliceCells_one x2) (by simp) (by simp) (by omega) (by omega) (by unfold big; omega) (by omega) (by simp) fun K3 o3 g3 => ?_
  have g3' : ∀ b,b ≠ m + 1 + 1 → blk vi ≠ some b → K3.get b = K2.get b:=fun b h1 h2 => g3 b h1 fun e => h2 (by rw [e]; rfl)
  have nvi : ∀ b,b < n + 2 → blk vi ≠ some b:=fun b h1 h2 => by have:=(M1.di b h2).1; omega
  obtain ⟨hRl,⟨e,_⟩ | ⟨b,kb,hb,_,hkb,hob⟩⟩:=o3
  · cases e
  injection hb with hb
  subst hb
  have hRl0 : R.length = c * 8:=M1.oi.1
  have hix:=cIxa_sl (b:=m + 1 + 1) (o:=0) (len:=c + 1) (sz:=8) (i:=c) (k:=.i64) (by omega)
  rw [Nat.zero_add] at hix
  obtain ⟨y,hst,hoy⟩:=own_stE (b:=m + 1 + 1) (k:=8) (o:=c * 8) (v:=.agg (colC c) 8) hob rfl rfl (by omega) (by simp [colC]) (by simp [hRl0])
  simp only [colC] at hst
  have ob:=(g3' o (by omega) (nvi o (by omega))).trans ((g2 o (by omega)).trans ko)
  have om : (o = m + 1 + 1) = False:=by simp only [eq_iff_iff,iff_false]; omega
  simp [hix,hst,hkb,om,ob]
  have k4 : ∀ b,b ≠ o → b ≠ m + 1 + 1 → ((Tr.put K3 (m + 1 + 1) (some y)).put o (some (.cells 25 [] (C.out (.sl (m + 1 + 1) 0 (c + 1) 8) vn vk) .nil))).get b = K3.get b:=fun b h1 h2 => by simp [h1,h2]
  have o4 : ((Tr.put K3 (m + 1 + 1) (some y)).put o (some (.cells 25 [] (C.out (.sl (m + 1 + 1) 0 (c + 1) 8) vn vk) .nil))).get o = some (.cells 25 [] (C.out (.sl (m + 1 + 1) 0 (c + 1) 8) vn vk) .nil):=by simp
  have y4 : ((Tr.put K3 (m + 1 + 1) (some y)).put o (some (.cells 25 [] (C.out (.sl (m + 1 + 1) 0 (c + 1) 8) vn vk) .nil))).get (m + 1 + 1) = some y:=by simp [show ¬ m + 1 + 1 = o by omega]
  simp only [QC.out,outQ] at k4 o4 y4
  generalize Tr.put (Tr.put K3 (m + 1 + 1) (some y)) o _ = K4 at k4 o4 y4 ⊢
  have bk4 : ∀ b,b < m + 1 → b ≠ o → blk vi ≠ some b → K4.get b = K1.get b:=fun b h1 h2 h3 => (k4 b h2 (by omega)).trans ((g3' b (by omega) h3).trans (g2 b h1))
  have t4 : Top K4 (m + 1 + 1 + 1):=fun b hb => (k4 b (by omega) (by omega)).trans ((g3' b (by omega) fun h => by have:=M1.oi.blkLt h; omega).trans (t2 b (by omega)))
  have nn2 : ∀ b,blk vn = some b → blk vi ≠ some b:=fun b h1 h2 => (M1.di b h2).2.1 h1
  have nk2 : ∀ b,blk vk = some b → blk vi ≠ some b:=fun b h1 h2 => (M1.di b h2).2.2 h1
  have on4 : OwnS K4 (m + 1 + 1 + 1) vn (eStr.l (N0 ++ (t.cols.take j).map (·.name))) c 1:=M1.on.frame (by omega) fun b hb => bk4 b (M1.on.blkLt hb) (by have:=(M1.dn b hb).1; omega) (nn2 b hb)
  have ok4 : OwnS K4 (m + 1 + 1 + 1) vk (eInt.l (Ks0 ++ (t.cols.take j).map (·.kind))) c 1:=M1.ok.frame (by omega) fun b hb => bk4 b (M1.ok.blkLt hb) (by have:=M1.dk b hb; omega) (nk2 b hb)
  have x4:=(bk4 m (by omega) (by omega) fun h => by have:=hvi m h; omega).trans x1
  rw [eCol_c] at x4
  have tm4:=t4 (m + 1 + 1 + 1) (Nat.le_refl _)
  simp only [R76_11,vc_drw]
  refine DrwV.of (ce0_ok (P:=Try.prog)) ?_
  simp [clearF_get,f3,o4,x4,noneAt_cons,noneAt_nil,tm4]
  generalize hK5 : Tr.put K4 (m + 1 + 1 + 1) _ = K5
  have g5 : ∀ b,b < m + 1 + 1 + 1 → K5.get b = K4.get b:=fun b hb => by rw [← hK5]; simp [neC hb]
  have x5 : K5.get (m + 1 + 1 + 1) = some (.cells 1 [] [.str t.cols[j].name] .nil):=by rw [← hK5]; simp
  have t5 : Top K5 (m + 1 + 1 + 1 + 1):=fun b hb => by
   have e1 : ¬ b = m + 1 + 1 + 1:=by omega
   rw [← hK5]; simp [e1,t4 b (by omega)]
  clear hK5
  have on5 : OwnS K5 (m + 1 + 1 + 1 + 1) vn (eStr.l (N0 ++ (t.cols.take j).map (·.name))) c 1:=on4.frame (by omega) fun b hb => g5 b (by have:=hvn b hb; omega)
  refine OwnS.appK (k:=1) (new:=[.str t.cols[j].name]) on5 (sliceCells_one x5) (by simp) (by simp) (by omega) (by omega) (by unfold big; omega) (by omega) (by simp) fun K6 o6 g6 => ?_
  have g6' : ∀ b,b ≠ m + 1 + 1 + 1 + 1 → blk vn ≠ some b → K6.get b = K5.get b:=fun b h1 h2 => g6 b h1 fun e => h2 (by rw [e]; rfl)
  have nvn : ∀ b,b < n + 2 → blk vn ≠ some b:=fun b h1 h2 => by have:=(M1.dn b h2).1; omega
  have ob6:=(g6' o (by omega) (nvn o (by omega))).trans ((g5 o (by omega)).trans o4)
  have x6:=(g6' m (by omega) fun h => by have:=hvn m h; omega).trans ((g5 m (by omega)).trans x4)
  have tm6 : K6.get (m + 1 + 1 + 1 + 1 + 1) = none:=(g6' _ (by omega) fun h => by have:=hvn _ h; omega).trans (t5 _ (by omega))
  have tm46 : K4.get (m + 1 + 1 + 1 + 1 + 1) = none:=t4 _ (by omega)
  simp [clearF_get,f3,o4,x4,ob6,x6,noneAt_cons,noneAt_nil,tm6,tm46]
  generalize hK7 : Tr.put K6 (m + 1 + 1 + 1 + 1 + 1) _ = K7
  have g7 : ∀ b,b < m + 1 + 1 + 1 + 1 + 1 → K7.get b = K6.get b:=fun b hb => by rw [← hK7]; simp [neC hb]
  have x7 : K7.get (m + 1 + 1 + 1 + 1 + 1) = some (.cells 1 [] [.int .i64 t.cols[j].kind] .nil):=by rw [← hK7]; simp
  have t6 : Top K6 (m + 1 + 1 + 1 + 1 + 1):=fun b hb => (g6' b (by omega) fun h => by have:=hvn b h; omega).trans (t5 b (by omega))
  have t7 : Top K7 (m + 1 + 1 + 1 + 1 + 1 + 1):=fun b hb => by
   have e1 : ¬ b = m + 1 + 1 + 1 + 1 + 1:=by omega
   rw [← hK7]; simp [e1,t6 b (by omega)]
  clear hK7
  have nkn : ∀ b,blk vk = some b → blk vn ≠ some b:=fun b h1 h2 => (M1.dn b h2).2 h1
  have ok7 : OwnS K7 (m + 1 + 1 + 1 + 1 + 1 + 1) vk (eInt.l (Ks0 ++ (t.cols.take j).map (·.kind))) c 1:=ok4.frame (by omega) fun b hb => (g7 b (by have:=hvk b hb; omega)).trans ((g6' b (by have:=hvk b hb; omega) (nkn b hb)).trans (g5 b (by have:=hvk b hb; omega)))
  refine OwnS.appK (k:=1) (new:=[.int .i64 t.cols[j].kind]) ok7 (sliceCells_one x7) (by simp) (by simp) (by omega) (by omega) (by unfold big; omega) (by omega) (by simp) fun K8 o8 g8 => ?_
  have g8' : ∀ b,b ≠ m + 1 + 1 + 1 + 1 + 1 + 1 → blk vk ≠ some b → K8.get b = K7.get b:=fun b h1 h2 => g8 b h1 fun e => h2 (by rw [e]; rfl)
  have nvk : ∀ b,b < n + 2 → blk vk ≠ some b:=fun b h1 h2 => by have:=M1.dk b h2; omega
  have ob8:=(g8' o (by omega) (nvk o (by omega))).trans ((g7 o (by omega)).trans ob6)
  simp [clearF_get,f3,ob8]
  generalize hK9 : Tr.put (Tr.put K8 o _) o _ = K9
  have g9 : ∀ b,b ≠ o → K9.get b = K8.get b:=fun b hb => by rw [← hK9]; simp [hb]
  have o9 : K9.get o = some (.cells 25 [] (C.out (.sl (m + 1 + 1) 0 (c + 1) 8) (.sl (m + 1 + 1 + 1 + 1) 0 (c + 1) 1) (.sl (m + 1 + 1 + 1 + 1 + 1 + 1) 0 (c + 1) 1)) .nil):=by rw [← hK9]; simp [QC.out,outQ]
  clear hK9
  simp [R76_12,clearF_get,f41,wrap_nat j (by omega)]
  have bk8 : ∀ b,b < m + 1 + 1 + 1 → blk vn ≠ some b → blk vk ≠ some b → K8.get b = K4.get b:=fun b h1 h2 h3 => (g8' b (by omega) h3).trans ((g7 b (by omega)).trans ((g6' b (by omega) h2).trans (g5 b h1)))
  have bkA : ∀ b,b < m + 1 → b ≠ o → blk vi ≠ some b → blk vn ≠ some b → blk vk ≠ some b → K9.get b = K1.get b:=fun b h1 h2 h3 h4 h5 => (g9 b h2).trans ((bk8 b (by omega) h4 h5).trans (bk4 b h1 h2 h3))
  have hcj : c0 + (j + 1) = c + 1:=by omega
  refine ⟨_,by omega,j + 1,rfl,hlt,⟨by simp [clearF_get,f0],by simp [clearF_get,f3],by simp [clearF_get,f5],by simp [clearF_get,f6],by simp [clearF_get,f32],by simp [clearF_get,f33],by simp [clearF_get,f34]⟩,by simp [f39],by simp [f40],by simp,.sl (m + 1 + 1) 0 (c + 1) 8,.sl (m + 1 + 1 + 1 + 1) 0 (c + 1) 1,.sl (m + 1 + 1 + 1 + 1 + 1 + 1) 0 (c + 1) 1,splice (R ++ [.int .i64 0,.int .i64 0,.int .i64 0,.str [],.str [],.str [],.int .i64 0,.cst (.slice none 0 0)]) (colC c) (c * 8),?_⟩
  rw [hcj]
  have etk : t.cols.take (j + 1) = t.cols.take j ++ [t.cols[j]]:=by rw [List.take_add_one,List.getElem?_eq_getElem hlt]; rfl
  refine ⟨by omega,fun b hb => ?_,fun b h1 h2 h3 => ?_,?_,?_,?_,o9,⟨?_,.inr ⟨m + 1 + 1,y,rfl,by omega,?_,hoy⟩⟩,?_,?_,fun b hb => by simp at hb; simp; omega,fun b hb => by simp at hb; simp; omega,fun b hb => by simp at hb; omega,fun h => ?_,by simp,?_,?_⟩
  · exact (g9 b (by omega)).trans ((g8' b (by omega) fun h => by have:=hvk b h; omega).trans (t7 b (by omega)))
  · exact (bkA b (by omega) h3 (nvi b (by omega)) (nvn b (by omega)) (nvk b (by omega))).trans (M1.kf b h1 h2 h3)
  · exact (bkA p (by omega) (by omega) (nvi p (by omega)) (nvn p (by omega)) (nvk p (by omega))).trans M1.kp
  · exact (bkA n (by omega) (by omega) (nvi n (by omega)) (nvn n (by omega)) (nvk n (by omega))).trans M1.kn
  · exact (bkA (n + 1) (by omega) (by omega) (nvi (n + 1) (by omega)) (nvn (n + 1) (by omega)) (nvk (n + 1) (by omega))).trans M1.kq
  · rw [splice_len (by simp [hRl0,colC])]; simp [hRl0]; omega
  · exact (g9 _ (by omega)).trans ((bk8 _ (by omega) (fun h => by have:=hvn _ h; omega) (fun h => by have:=hvk _ h; omega)).trans y4)
  ·
   have e1 : eStr.l (N0 ++ (List.map (·.name) t.cols).take (j + 1)) = eStr.l (N0 ++ (t.cols.take j).map (·.name)) ++ [.str t.cols[j].name]:=by
    rw [← List.map_take,etk,List.map_append,← List.append_assoc,Enc.l_append]; rfl
   rw [e1]
   refine o6.frame (by omega) fun b hb => ?_
   simp at hb
   subst hb
   exact (g9 _ (by omega)).trans ((g8' _ (by omega) fun h => by have:=hvk _ h; omega).trans (g7 _ (by omega)))
  ·
   have e1 : eInt.l (Ks0 ++ (List.map (·.kind) t.cols).take (j + 1)) = eInt.l (Ks0 ++ (t.cols.take j).map (·.kind)) ++ [.int .i64 t.cols[j].kind]:=by
    rw [← List.map_take,etk,List.map_append,← List.append_assoc,Enc.l_append]; rfl
   rw [e1]
   refine o8.frame (by omega) fun b hb => ?_
   simp at hb
   subst hb
   exact g9 _ (by omega)
  ·
   have e:=Enc.l_last eEx (colsX c) [.int .i64 0,.int .i64 0,.int .i64 0,.str [],.str [],.str [],.int .i64 0,.cst (.slice none 0 0)] rfl (colX c)
   have hfz:=M1.fz h
   rw [colsX_succ,← e,colsX_len]
   exact (hfz.append (FrzL.pure (by simp))).splice _ (colC_frz h c)
  · have:=M1.hN; simp at this ⊢; omega
  · have:=M1.hK; simp at this ⊢; omega
 ·
  have hje : j = t.cols.length:=by omega
  subst hje
  rw [List.take_length] at M
  simp [L76_0,R76_8,f40,f41]
  exact hQ vi vn vk R _ K m ⟨by simp [f0],by simp [f3],by simp [f5],by simp [f6],by simp [f32],by simp [f33],by simp [f34]⟩ M
end Go.Abs
namespace Go.Abs
open Go.Proofs
open Classical
set_option maxRecDepth 100000
theorem namesT_take {l : List Tbl} {i : Nat} (h : i < l.length) : namesT (l.take (i + 1)) = namesT (l.take i) ++ l[i].cols.map (·.name):=by
 rw [List.take_add_one,List.getElem?_eq_getElem h]
 simp only [namesT,List.flatMap_append,Option.toList,List.flatMap_cons,List.flatMap_nil,List.append_nil]
theorem items76b (n p o : Nat) (hpn : p < n) (hon : o < n) (hpo : p ≠ o) (H0 : Hp) (s : Sch) (ns : List (List Nat)) (ts : List Tbl) (q : Qry) (C : QC) (hC : C.fr.one = true ∧ C.on.one = true ∧ C.w.one = true ∧ C.od.one = true) (e : Int) (hl : (kindsS ts).length ≤ lim) (ht : ts.length ≤ lim)
  (F : Fr) (K : Hp) (m : Nat) (Q : QA) (vi vn vk : AV) (R : List AV) (hF : StF n p o ts 0 F) (M : ItM H0 n p o s ns ts q C e 0 [] [] [] vi vn vk R K m)
  (hQ : ∀ vi vn vk R F K m,StF n p o ts ts.length F → ItM H0 n p o s ns ts q C e (kindsS ts).length (colsX (kindsS ts).length) (namesT ts) (kindsS ts) vi vn vk R K m → Q .normal F K m []) : LoopV L76_1 Try.prog F K m [] (BlkQ 0 Q):=by
 unfold lim at hl ht
 refine LoopV.of (fun g F K m ms => ∃ (i : Nat) (vi vn vk : AV) (R : List AV),g = ts.length - i ∧ i ≤ ts.length ∧ StF n p o ts i F ∧ ItM H0 n p o s ns ts q C e (kindsS (ts.take i)).length (colsX (kindsS (ts.take i)).length) (namesT (ts.take i)) (kindsS (ts.take i)) vi vn vk R K m ∧ ms = []) ts.length ⟨0,vi,vn,vk,R,by simp,by omega,hF,by simpa [kindsS,namesT,colsX] using M,rfl⟩ ?_
 clear hF M F K m vi vn vk R
 rintro g F K m ms ⟨i,vi,vn,vk,R,rfl,hi,⟨f0,f3,f5,f6,f32,f33,f34⟩,M,rfl⟩
 have hm:=M.hm
 by_cases hlt : i < ts.length
 ·
  have hxx:=eTbl.ix (ik:=.i64) hlt
  have hld:=fun H => eTbl.ldN ts[i] (eTbl.l (ts.drop (i + 1))) H
  simp [L76_1,R76_5,R76_6,R76_7,f32,f33,f34,hlt,hxx,hld,Enc.av]
  generalize hK1 : Tr.put _ m _ = K1
  have g1 : ∀ b,b < m → K1.get b = K.get b:=fun b hb => by rw [← hK1]; simp [neC hb]
  have t1 : Top K1 (m + 1):=fun b hb => by
   have e1 : ¬ b = m:=by omega
   rw [← hK1]; simp [e1,M.tp b (by omega)]
  clear hK1
  have M1:=M.next hpn hon hpo (Nat.le_succ m) t1 (fun b h1 _ => g1 b h1) ((g1 p (by omega)).trans M.kp)
  simp [eTbl_c,Enc.len_ds]
  have hkl:=kindsS_le ts (i + 1)
  have hkt:=kindsS_take hlt
  have hkc : ts[i].kinds.length = ts[i].cols.length:=by simp [Tbl.kinds]
  have hkl2 : (kindsS (ts.take i)).length + ts[i].cols.length = (kindsS (ts.take (i + 1))).length:=by rw [hkt,List.length_append,hkc]
  refine items76a n p o hpn hon hpo H0 s ns ts q C hC e i ts[i] (kindsS (ts.take i)).length (by unfold lim; omega) _ _ _ rfl _ K1 (m + 1) _ vi vn vk R ⟨by simp [f0],by simp [f3],by simp [f5],by simp [f6],by simp [f32],by simp [f33],by simp [f34]⟩ (by simp) (by simp) (by simp) M1 fun vi vn vk R F K m S M => ?_
  have f34:=S.f34
  simp [R76_13,f34,wrap_nat i (by omega)]
  refine ⟨_,by omega,i + 1,rfl,hlt,⟨by simp [S.f0],by simp [S.f3],by simp [S.f5],by simp [S.f6],by simp [S.f32],by simp [S.f33],by simp⟩,vi,vn,vk,R,?_⟩
  rw [hkl2] at M
  rw [namesT_take hlt,hkt]
  rw [hkt] at M
  exact M
 ·
  have hie : i = ts.length:=by omega
  subst hie
  rw [List.take_length] at M
  simp [L76_1,R76_5,f33,f34]
  exact hQ vi vn vk R _ K m ⟨by simp [f0],by simp [f3],by simp [f5],by simp [f6],by simp [f32],by simp [f33],by simp [f34]⟩ M
def Ex.nm : Ex → List Nat
 | .mk _ _ _ m _ _ => m
def Ex.op : Ex → Int
 | .mk op _ _ _ _ _ => op
noncomputable def Itm.nm (x : Itm) : List Nat:=if x.name = [] ∧ x.e.op = 2 then x.e.nm else x.name
noncomputable def itR (ns : List (List Nat)) (ts : List Tbl) : List Itm → Int → List Ex × List Int × Int
 | [],err => ([],[],err)
 | x :: r,err => ((x.e.bd ns ts err).1 :: (itR ns ts r (x.e.bd ns ts err).2.2).1,(x.e.bd ns ts err).2.1 :: (itR ns ts r (x.e.bd ns ts err).2.2).2.1,(itR ns ts r (x.e.bd ns ts err).2.2).2.2)
theorem itR_snoc (ns : List (List Nat)) (ts : List Tbl) (a : Itm) : ∀ (l : List Itm) (err : Int),itR ns ts (l ++ [a]) err = ((itR ns ts l err).1 ++ [(a.e.bd ns ts (itR ns ts l err).2.2).1],(itR ns ts l err).2.1 ++ [(a.e.bd ns ts (itR ns ts l err).2.2).2.1],(a.e.bd ns ts (itR ns ts l err).2.2).2.2)
 | [],err => by simp [itR]
 | e :: r,err => by simp [itR,itR_snoc ns ts a r]
theorem itR_len (ns : List (List Nat)) (ts : List Tbl) : ∀ (l : List Itm) (err : Int),(itR ns ts l err).1.length = l.length ∧ (itR ns ts l err).2.1.length = l.length
 | [],err => by simp [itR]
 | e :: r,err => by simp [itR,itR_len ns ts r]
theorem itR_take (ns : List (List Nat)) (ts : List Tbl) {l : List Itm} {i : Nat} (h : i < l.length) (err : Int) : itR ns ts (l.take (i + 1)) err = ((itR ns ts (l.take i) err).1 ++ [(l[i].e.bd ns ts (itR ns ts (l.take i) err).2.2).1],(itR ns ts (l.take i) err).2.1 ++ [(l[i].e.bd ns ts (itR ns ts (l.take i) err).2.2).2.1],(l[i].e.bd ns ts (itR ns ts (l.take i) err).2.2).2.2):=by
 rw [List.take_add_one,List.getElem?_eq_getElem h]
 exact itR_snoc ns ts l[i] (l.take i) err
structure ItF (n p o : Nat) (q : Qry) (i : Nat) (F : Fr) : Prop where
 f0 : F.get 0 = some (.ptr p 0)
 f3 : F.get 3 = some (.ptr o 0)
 f5 : F.get 5 = some (.ptr n 0)
 f6 : F.get 6 = some (.ptr (n + 1) 0)
 f86 : F.get 86 = some (eItm.ds q.items)
 f87 : F.get 87 = some (.int .i64 (q.items.length : Int))
 f88 : F.get 88 = some (.int .i64 (i : Int))
theorem items76d (n p o : Nat) (hpn : p < n) (hon : o < n) (hpo : p ≠ o) (H0 : Hp) (s : Sch) (ns : List (List Nat)) (ts : List Tbl) (q : Qry) (C : QC) (hC : C.fr.one = true ∧ C.on.one = true ∧ C.w.one = true ∧ C.od.one = true) (e : Int) (c : Nat) (hlim : c < lim) (E : List Ex) (N : List (List Nat)) (Ks : List Int) (y1 : Ex) (nm : List Nat) (kd : Int) (j a : Nat)
  (F : Fr) (K : Hp) (m : Nat) (Q : QA) (vi vn vk : AV) (R : List AV) (hF : ItF n p o q j F) (f14 : F.get 14 = some (.ptr a 0)) (f15 : F.get 15 = some (.int .i64 kd)) (f16 : F.get 16 = some (.str nm)) (ha : K.get a = some (.cells 8 [] y1.cells .nil)) (M : ItM H0 n p o s ns ts q C e c E N Ks vi vn vk R K m)
  (hQ : ∀ vi vn vk R F K m,ItF n p o q j F → ItM H0 n p o s ns ts q C e (c + 1) (E ++ [y1]) (N ++ [nm]) (Ks ++ [kd]) vi vn vk R K m → Q .normal F K m []) : VC Try.prog R76_21 F K m [] Q:=by
 unfold lim at hlim
 obtain ⟨hC1,hC2,hC3,hC4⟩:=hC
 obtain ⟨f0,f3,f5,f6,f86,f87,f88⟩:=hF
 have hm:=M.hm
 have ko:=M.ko
 simp only [QC.out,outQ] at ko
 have t0:=M.tp
 have hvi : ∀ b,blk vi = some b → b < m:=fun b h => M.oi.blkLt h
 have hvn : ∀ b,blk vn = some b → b < m:=fun b h => M.on.blkLt h
 have hvk : ∀ b,blk vk = some b → b < m:=fun b h => M.ok.blkLt h
 have nvi : ∀ b,b < n + 2 → blk vi ≠ some b:=fun b h1 h2 => by have:=(M.di b h2).1; omega
 have nvn : ∀ b,b < n + 2 → blk vn ≠ some b:=fun b h1 h2 => by have:=(M.dn b h2).1; omega
 have nvk : ∀ b,b < n + 2 → blk vk ≠ some b:=fun b h1 h2 => by have:=M.dk b h2; omega
 have nn2 : ∀ b,blk vn = some b → blk vi ≠ some b:=fun b h1 h2 => (M.di b h2).2.1 h1
 have nk2 : ∀ b,blk vk = some b → blk vi ≠ some b:=fun b h1 h2 => (M.di b h2).2.2 h1
 have nkn : ∀ b,blk vk = some b → blk vn ≠ some b:=fun b h1 h2 => (M.dn b h2).2 h1
 simp only [R76_21,vc_drw]
 refine DrwV.of (ce0_ok (P:=Try.prog)) ?_
 have tm:=t0 m (Nat.le_refl _)
 simp [clearF_get,f3,f14,ko,ha,noneAt_cons,noneAt_nil,tm]
 generalize hK1 : Tr.put K m _ = K1
 have g1 : ∀ b,b < m → K1.get b = K.get b:=fun b hb => by rw [← hK1]; simp [neC hb]
 have x1 : K1.get m = some (.cells 8 [] y1.cells .nil):=by rw [← hK1]; simp
 have t1 : Top K1 (m + 1):=fun b hb => by
  have e1 : ¬ b = m:=by omega
  rw [← hK1]; simp [e1,t0 b (by omega)]
 clear hK1
 have oi1 : OwnS K1 (m + 1) vi R c 8:=M.oi.frame (by omega) fun b hb => g1 b (hvi b hb)
 refine OwnS.appK (k:=1) (new:=y1.cells) oi1 (sliceCells_one x1) (by simp) (by simp) (by omega) (by omega) (by unfold big; omega) (by omega) (by simp) fun K2 o2 g2 => ?_
 have g2' : ∀ b,b ≠ m + 1 → blk vi ≠ some b → K2.get b = K1.get b:=fun b h1 h2 => g2 b h1 fun e => h2 (by rw [e]; rfl)
 clear g2
 have t2 : Top K2 (m + 1 + 1):=fun b hb => (g2' b (by omega) fun h => by have:=hvi b h; omega).trans (t1 b (by omega))
 have ko2:=(g2' o (by omega) (nvi o (by omega))).trans ((g1 o (by omega)).trans ko)
 have tm2:=t2 (m + 1 + 1) (Nat.le_refl _)
 have tm02:=t0 (m + 1 + 1) (by omega)
 simp [clearF_get,f3,f16,ko,ko2,noneAt_cons,noneAt_nil,tm2,tm02]
 generalize hK3 : Tr.put K2 (m + 1 + 1) _ = K3
 have g3 : ∀ b,b < m + 1 + 1 → K3.get b = K2.get b:=fun b hb => by rw [← hK3]; simp [neC hb]
 have x3 : K3.get (m + 1 + 1) = some (.cells 1 [] [.str nm] .nil):=by rw [← hK3]; simp
 have t3 : Top K3 (m + 1 + 1 + 1):=fun b hb => by
  have e1 : ¬ b = m + 1 + 1:=by omega
  rw [← hK3]; simp [e1,t2 b (by omega)]
 clear hK3
 have on3 : OwnS K3 (m + 1 + 1 + 1) vn (eStr.l N) c 1:=M.on.frame (by omega) fun b hb => (g3 b (by have:=hvn b hb; omega)).trans ((g2' b (by have:=hvn b hb; omega) (nn2 b hb)).trans (g1 b (hvn b hb)))
 refine OwnS.appK (k:=1) (new:=[.str nm]) on3 (sliceCells_one x3) (by simp) (by simp) (by omega) (by omega) (by unfold big; omega) (by omega) (by simp) fun K4 o4 g4 => ?_
 have g4' : ∀ b,b ≠ m + 1 + 1 + 1 → blk vn ≠ some b → K4.get b = K3.get b:=fun b h1 h2 => g4 b h1 fun e => h2 (by rw [e]; rfl)
 clear g4
 have t4 : Top K4 (m + 1 + 1 + 1 + 1):=fun b hb => (g4' b (by omega) fun h => by have:=hvn b h; omega).trans (t3 b (by omega))
 have ko4:=(g4' o (by omega) (nvn o (by omega))).trans ((g3 o (by omega)).trans ko2)
 have tm4:=t4 (m + 1 + 1 + 1 + 1) (Nat.le_refl _)
 have tm24:=t2 (m + 1 + 1 + 1 + 1) (by omega)
 have tm04:=t0 (m + 1 + 1 + 1 + 1) (by omega)
 simp [clearF_get,f3,f15,ko,ko2,ko4,noneAt_cons,noneAt_nil,tm4,tm24,tm04]
 generalize hK5 : Tr.put K4 (m + 1 + 1 + 1 + 1) _ = K5
 have g5 : ∀ b,b < m + 1 + 1 + 1 + 1 → K5.get b = K4.get b:=fun b hb => by rw [← hK5]; simp [neC hb]
 have x5 : K5.get (m + 1 + 1 + 1 + 1) = some (.cells 1 [] [.int .i64 kd] .nil):=by rw [← hK5]; simp
 have t5 : Top K5 (m + 1 + 1 + 1 + 1 + 1):=fun b hb => by
  have e1 : ¬ b = m + 1 + 1 + 1 + 1:=by omega
  rw [← hK5]; simp [e1,t4 b (by omega)]
 clear hK5
 have ok5 : OwnS K5 (m + 1 + 1 + 1 + 1 + 1) vk (eInt.l Ks) c 1:=M.ok.frame (by omega) fun b hb => (g5 b (by have:=hvk b hb; omega)).trans ((g4' b (by have:=hvk b hb; omega) (nkn b hb)).trans ((g3 b (by have:=hvk b hb; omega)).trans ((g2' b (by have:=hvk b hb; omega) (nk2 b hb)).trans (g1 b (hvk b hb)))))
 refine OwnS.appK (k:=1) (new:=[.int .i64 kd]) ok5 (sliceCells_one x5) (by simp) (by simp) (by omega) (by omega) (by unfold big; omega) (by omega) (by simp) fun K6 o6 g6 => ?_
 have g6' : ∀ b,b ≠ m + 1 + 1 + 1 + 1 + 1 → blk vk ≠ some b → K6.get b = K5.get b:=fun b h1 h2 => g6 b h1 fun e => h2 (by rw [e]; rfl)
 clear g6
 have ko6:=(g6' o (by omega) (nvk o (by omega))).trans ((g5 o (by omega)).trans ko4)
 simp [clearF_get,f3,ko6]
 generalize hK9 : Tr.put (Tr.put (Tr.put K6 o _) o _) o _ = K9
 have g9 : ∀ b,b ≠ o → K9.get b = K6.get b:=fun b hb => by rw [← hK9]; simp [hb]
 have o9 : K9.get o = some (.cells 25 [] (C.out (.sl (m + 1) 0 (c + 1) 8) (.sl (m + 1 + 1 + 1) 0 (c + 1) 1) (.sl (m + 1 + 1 + 1 + 1 + 1) 0 (c + 1) 1)) .nil):=by rw [← hK9]; simp [QC.out,outQ]
 clear hK9
 have bkA : ∀ b,b < m → b ≠ o → blk vi ≠ some b → blk vn ≠ some b → blk vk ≠ some b → K9.get b = K.get b:=fun b h1 h2 h3 h4 h5 => (g9 b h2).trans ((g6' b (by omega) h5).trans ((g5 b (by omega)).trans ((g4' b (by omega) h4).trans ((g3 b (by omega)).trans ((g2' b (by omega) h3).trans (g1 b h1))))))
 refine hQ (.sl (m + 1) 0 (c + 1) 8) (.sl (m + 1 + 1 + 1) 0 (c + 1) 1) (.sl (m + 1 + 1 + 1 + 1 + 1) 0 (c + 1) 1) (R ++ y1.cells) _ K9 _ ⟨by simp [clearF_get,f0],by simp [clearF_get,f3],by simp [clearF_get,f5],by simp [clearF_get,f6],by simp [clearF_get,f86],by simp [clearF_get,f87],by simp [clearF_get,f88]⟩ ⟨by omega,fun b hb => ?_,fun b h1 h2 h3 => ?_,?_,?_,?_,o9,?_,?_,?_,fun b hb => by simp at hb; simp; omega,fun b hb => by simp at hb; simp; omega,fun b hb => by simp at hb; omega,fun h => ?_,by simp [M.hE],by simp [M.hN],by simp [M.hK]⟩
 · exact (g9 b (by omega)).trans ((g6' b (by omega) fun h => by have:=hvk b h; omega).trans (t5 b (by omega)))
 · exact (bkA b (by omega) h3 (nvi b (by omega)) (nvn b (by omega)) (nvk b (by omega))).trans (M.kf b h1 h2 h3)
 · exact (bkA p (by omega) (by omega) (nvi p (by omega)) (nvn p (by omega)) (nvk p (by omega))).trans M.kp
 · exact (bkA n (by omega) (by omega) (nvi n (by omega)) (nvn n (by omega)) (nvk n (by omega))).trans M.kn
 · exact (bkA (n + 1) (by omega) (by omega) (nvi (n + 1) (by omega)) (nvn (n + 1) (by omega)) (nvk (n + 1) (by omega))).trans M.kq
 ·
  refine o2.frame (by omega) fun b hb => ?_
  simp at hb
  subst hb
  exact (g9 _ (by omega)).trans ((g6' _ (by omega) fun h => by have:=hvk _ h; omega).trans ((g5 _ (by omega)).trans ((g4' _ (by omega) fun h => by have:=hvn _ h; omega).trans (g3 _ (by omega)))))
 ·
  rw [Enc.l_append,Enc.l_one,eStr_c]
  refine o4.frame (by omega) fun b hb => ?_
  simp at hb
  subst hb
  exact (g9 _ (by omega)).trans ((g6' _ (by omega) fun h => by have:=hvk _ h; omega).trans (g5 _ (by omega)))
 ·
  rw [Enc.l_append,Enc.l_one,eInt_c]
  refine o6.frame (by omega) fun b hb => ?_
  simp at hb
  subst hb
  exact g9 _ (by omega)
 ·
  rw [Enc.l_append,Enc.l_one,eEx_c]
  exact (M.fz h).append (FrzL.pure (Ex.pureC y1))
theorem items76c (n p o : Nat) (hpn : p < n) (hon : o < n) (hpo : p ≠ o) (H0 : Hp) (s : Sch) (ns : List (List Nat)) (ts : List Tbl) (hn : ns.length = ts.length) (hl : (kindsS ts).length ≤ lim) (ht : ts.length ≤ lim) (hcl : ∀ t ∈ ts,t.cols.length ≤ lim) (q : Qry) (C : QC) (hC : C.fr.one = true ∧ C.on.one = true ∧ C.w.one = true ∧ C.od.one = true) (e0 : Int) (c0 : Nat) (hlim : c0 + q.items.length ≤ lim) (E0 : List Ex) (N0 : List (List Nat)) (Ks0 : List Int) (hz : ∀ x ∈ q.items,x.e.sz ≤ lim ∧ x.e.may = true)
  (F : Fr) (K : Hp) (m : Nat) (Q : QA) (vi vn vk : AV) (R : List AV) (hF : ItF n p o q 0 F) (M : ItM H0 n p o s ns ts q C e0 c0 E0 N0 Ks0 vi vn vk R K m)
  (hQ : ∀ vi vn vk R F K m,ItF n p o q q.items.length F → ItM H0 n p o s ns ts q C (itR ns ts q.items e0).2.2 (c0 + q.items.length) (E0 ++ (itR ns ts q.items e0).1) (N0 ++ q.items.map Itm.nm) (Ks0 ++ (itR ns ts q.items e0).2.1) vi vn vk R K m → Q .normal F K m []) : LoopV L76_2 Try.prog F K m [] (BlkQ 4 Q):=by
 unfold lim at hlim
 obtain ⟨hC1,hC2,hC3,hC4⟩:=hC
 refine LoopV.of (fun g F K m ms => ∃ (j : Nat) (vi vn vk : AV) (R : List AV),g = q.items.length - j ∧ j ≤ q.items.length ∧ ItF n p o q j F ∧ ItM H0 n p o s ns ts q C (itR ns ts (q.items.take j) e0).2.2 (c0 + j) (E0 ++ (itR ns ts (q.items.take j) e0).1) (N0 ++ (q.items.take j).map Itm.nm) (Ks0 ++ (itR ns ts (q.items.take j) e0).2.1) vi vn vk R K m ∧ ms = []) q.items.length ⟨0,vi,vn,vk,R,by simp,by omega,hF,by simpa [itR] using M,rfl⟩ ?_
 clear hF M F K m vi vn vk R
 rintro g F K m ms ⟨j,vi,vn,vk,R,rfl,hj,⟨f0,f3,f5,f6,f86,f87,f88⟩,M,rfl⟩
 have hm:=M.hm
 by_cases hlt : j < q.items.length
 ·
  have hxx:=eItm.ix (ik:=.i64) hlt
  have hld:=fun H => eItm.ldN q.items[j] (eItm.l (q.items.drop (j + 1))) H
  obtain ⟨hz1,hz2⟩:=hz _ (List.getElem_mem hlt)
  have htk:=itR_take ns ts hlt e0
  have kn:=M.kn
  simp only [scC] at kn
  have nm:=neC (show n < m by omega)
  simp [L76_2,R76_15,R76_16,R76_17,f0,f5,f86,f87,f88,hlt,hxx,hld,Enc.av,kn,nm]
  generalize hK1 : Tr.put _ m _ = K1
  have g1 : ∀ b,b < m → K1.get b = K.get b:=fun b hb => by rw [← hK1]; simp [neC hb]
  have x1 : K1.get m = some (.cells 9 [] (eItm.cells q.items[j]) .nil):=by rw [← hK1]; simp
  have t1 : Top K1 (m + 1):=fun b hb => by
   have e1 : ¬ b = m:=by omega
   rw [← hK1]; simp [e1,M.tp b (by omega)]
  clear hK1 hxx hld
  have hvi : ∀ b,blk vi = some b → b < m:=fun b h => M.oi.blkLt h
  have hvn : ∀ b,blk vn = some b → b < m:=fun b h => M.on.blkLt h
  have hvk : ∀ b,blk vk = some b → b < m:=fun b h => M.ok.blkLt h
  have hxx:=fun p err H n => expr71 ns ts hn hl ht hcl s q.items[j].e hz1 hz2 p err H n
  have hnm : (q.items.take (j + 1)).map Itm.nm = (q.items.take j).map Itm.nm ++ [q.items[j].nm]:=by rw [List.take_add_one,List.getElem?_eq_getElem hlt]; simp only [List.map_append,Option.toList,List.map_cons,List.map_nil]
  have hei:=(itR_len ns ts (q.items.take j) e0)
  generalize itR ns ts (q.items.take j) e0 = A at M htk hei
  obtain ⟨Ea,Ka,er0⟩:=A
  simp only at M htk hei
  have hxx:=hxx p er0 K1 (m + 1) (by omega) ((g1 p (by omega)).trans M.kp)
  generalize q.items[j].e.bd ns ts er0 = X at hxx htk
  obtain ⟨y1,kd,er⟩:=X
  simp only at hxx htk
  have M1:=fun (K' : Hp) (m' : Nat) (hm : m ≤ m') (ht : Top K' m') (hk : ∀ b,b < m → b ≠ p → K'.get b = K.get b) (hp : K'.get p = some (bdS s er)) => M.next hpn hon hpo hm ht hk hp
  generalize q.items[j] = it at hxx hnm x1
  obtain ⟨⟨op,v,tn,mn,col,args⟩,inm⟩:=it
  simp only [eItm_c,Ex.cells,List.cons_append,List.nil_append] at x1
  simp only [scC,Ex.av,Ex.cells] at hxx
  simp [eItm_c,Ex.cells]
  refine CalV.ok hxx ?_
  have k2 : ∀ b,b ≠ p → (K1.put p (some (bdS s er))).get b = K1.get b:=fun b hb => by simp [hb]
  have p2 : (K1.put p (some (bdS s er))).get p = some (bdS s er):=by simp
  generalize K1.put p (some (bdS s er)) = K2 at k2 p2 ⊢
  have x2:=(k2 m (by omega)).trans x1
  simp [R76_18,x2]
  generalize hK3 : Tr.put _ (m + 1) _ = K3
  have g3 : ∀ b,b < m + 1 → K3.get b = K2.get b:=fun b hb => by rw [← hK3]; simp [neC hb]
  have x3 : K3.get (m + 1) = some (.cells 8 [] y1.cells .nil):=by rw [← hK3]; simp
  have t3 : Top K3 (m + 1 + 1):=fun b hb => by
   have e1 : ¬ b = m + 1:=by omega
   rw [← hK3]; simp [e1,k2 b (by omega),t1 b (by omega)]
  clear hK3
  have x3':=(g3 m (by omega)).trans x2
  have M3:=M1 K3 (m + 1 + 1) (by omega) t3 (fun b h1 h2 => (g3 b (by omega)).trans ((k2 b h2).trans (g1 b h1))) ((g3 p (by omega)).trans p2)
  clear M1 M g1 k2 p2 x2 g3 x1 t1
  generalize hF3 : (Fp 16 _ _ : Fr) = F3
  have w0 : ItF n p o q j F3:=by rw [← hF3]; exact ⟨by simp [f0],by simp [f3],by simp [f5],by simp [f6],by simp [f86],by simp [f87],by simp [f88]⟩
  have w13 : F3.get 13 = some (.ptr m 0):=by rw [← hF3]; simp
  have w14 : F3.get 14 = some (.ptr (m + 1) 0):=by rw [← hF3]; simp
  have w15 : F3.get 15 = some (.int .i64 kd):=by rw [← hF3]; simp
  have w16 : F3.get 16 = some (.str inm):=by rw [← hF3]; simp
  clear hF3
  obtain ⟨w0,w3,w5,w6,w86,w87,w88⟩:=w0
  have fin : ∀ (F4 : Fr) (nm' : List Nat),nm' = Itm.nm ⟨.mk op v tn mn col args,inm⟩ → ItF n p o q j F4 → F4.get 14 = some (.ptr (m + 1) 0) → F4.get 15 = some (.int .i64 kd) → F4.get 16 = some (.str nm') → VC Try.prog R76_21 F4 K3 (m + 1 + 1) [] (BlkQ 5 (SeqV Try.prog R76_22 (RndQ (fun g F K m ms => ∃ (j : Nat) (vi vn vk : AV) (R : List AV),g = q.items.length - j ∧ j ≤ q.items.length ∧ ItF n p o q j F ∧ ItM H0 n p o s ns ts q C (itR ns ts (q.items.take j) e0).2.2 (c0 + j) (E0 ++ (itR ns ts (q.items.take j) e0).1) (N0 ++ (q.items.take j).map Itm.nm) (Ks0 ++ (itR ns ts (q.items.take j) e0).2.1) vi vn vk R K m ∧ ms = []) (q.items.length - j) (BlkQ 4 Q)))):=by
   intro F4 nm' hnm' h0 h14 h15 h16
   refine items76d n p o hpn hon hpo H0 s ns ts q C ⟨hC1,hC2,hC3,hC4⟩ er (c0 + j) (by unfold lim; omega) _ _ _ y1 nm' kd j (m + 1) F4 K3 (m + 1 + 1) _ vi vn vk R h0 h14 h15 h16 x3 M3 fun vi' vn' vk' R' F5 K5 m5 h5 M5 => ?_
   have f88':=h5.f88
   simp [R76_22,f88',wrap_nat j (by omega)]
   refine ⟨_,by omega,j + 1,rfl,hlt,⟨by simp [h5.f0],by simp [h5.f3],by simp [h5.f5],by simp [h5.f6],by simp [h5.f86],by simp [h5.f87],by simp⟩,vi',vn',vk',R',?_⟩
   rw [htk,← List.map_take,hnm,← hnm']
   simp only [← List.append_assoc]
   exact M5
  by_cases hi0 : inm = []
  ·
   by_cases ho2 : op = 2
   ·
    simp [R76_19,R76_20,w13,w16,hi0,x3',ho2]
    have hx:=fin (Fp 16 (.str mn) (Fp 112 (.str mn) (Fp 111 (.ptr m 5) (Fp 110 (.ptr m 0) (Fp 109 (.bool true) (Fp 108 (.bool true) (Fp 107 (.int .i64 2) (Fp 106 (.ptr m 0) (Fp 105 (.ptr m 0) (Fp 104 (.bool true) (Fp 103 (.bool true) (Fp 102 (.str []) F3)))))))))))) mn (by simp [Itm.nm,Ex.op,Ex.nm,hi0,ho2]) ⟨by simp [w0],by simp [w3],by simp [w5],by simp [w6],by simp [w86],by simp [w87],by simp [w88]⟩ (by simp [w14]) (by simp [w15]) (by simp)
    simpa using hx
   ·
    simp [R76_19,w13,w16,hi0,x3',ho2]
    have hx:=fin (Fp 109 (.bool false) (Fp 108 (.bool false) (Fp 107 (.int .i64 op) (Fp 106 (.ptr m 0) (Fp 105 (.ptr m 0) (Fp 104 (.bool true) (Fp 103 (.bool true) (Fp 102 (.str []) F3)))))))) [] (by simp [Itm.nm,Ex.op,hi0,ho2]) ⟨by simp [w0],by simp [w3],by simp [w5],by simp [w6],by simp [w86],by simp [w87],by simp [w88]⟩ (by simp [w14]) (by simp [w15]) (by simp [w16,hi0])
    simpa using hx
  ·
   simp [R76_19,w16,hi0]
   have hx:=fin (Fp 109 (.bool false) (Fp 108 (.tup []) (Fp 107 (.tup []) (Fp 106 (.tup []) (Fp 105 (.tup []) (Fp 104 (.bool false) (Fp 103 (.bool false) (Fp 102 (.str inm) F3)))))))) inm (by simp [Itm.nm,hi0]) ⟨by simp [w0],by simp [w3],by simp [w5],by simp [w6],by simp [w86],by simp [w87],by simp [w88]⟩ (by simp [w14]) (by simp [w15]) (by simp [w16])
   simpa using hx
 ·
  have hje : j = q.items.length:=by omega
  subst hje
  rw [List.take_length] at M
  simp [L76_2,R76_15,f87,f88]
  exact hQ vi vn vk R _ K m ⟨by simp [f0],by simp [f3],by simp [f5],by simp [f6],by simp [f86],by simp [f87],by simp [f88]⟩ M
noncomputable def itemsB (ns : List (List Nat)) (ts : List Tbl) (q : Qry) (err : Int) : List Ex × List (List Nat) × List Int × Int :=
 if q.star = true then (colsX (kindsS ts).length ++ (itR ns ts q.items (keep (keep err 200 (decide (ts = []))) 3 (decide ((16 : Int) < ((kindsS ts).length : Int))))).1,namesT ts ++ q.items.map Itm.nm,kindsS ts ++ (itR ns ts q.items (keep (keep err 200 (decide (ts = []))) 3 (decide ((16 : Int) < ((kindsS ts).length : Int))))).2.1,(itR ns ts q.items (keep (keep err 200 (decide (ts = []))) 3 (decide ((16 : Int) < ((kindsS ts).length : Int))))).2.2)
 else ((itR ns ts q.items err).1,q.items.map Itm.nm,(itR ns ts q.items err).2.1,(itR ns ts q.items err).2.2)
theorem Qry.c1 (q : Qry) (h : 1 < q.cells.length) : q.cells[1] = .bool q.star:=by simp [Qry.cells]
theorem Qry.c2 (q : Qry) (h : 2 < q.cells.length) : q.cells[2] = eItm.ds q.items:=by simp [Qry.cells]
theorem Qry.c3 (q : Qry) (h : 3 < q.cells.length) : q.cells[3] = eSrc.ds q.srcs:=by simp [Qry.cells]
theorem Qry.c0 (q : Qry) (h : 0 < q.cells.length) : q.cells[0] = .bool q.dist:=by simp [Qry.cells]
def Qry.av (q : Qry) : AV:=.agg q.cells 15
theorem items76 (ns : List (List Nat)) (ts : List Tbl) (hn : ns.length = ts.length) (hl : (kindsS ts).length ≤ lim) (ht : ts.length ≤ lim) (hcl : ∀ t ∈ ts,t.cols.length ≤ lim) (s : Sch) (q : Qry) (hlim : (kindsS ts).length + q.items.length ≤ lim) (hz : ∀ x ∈ q.items,x.e.sz ≤ lim ∧ x.e.may = true) (C : QC) (hC : C.fr.one = true ∧ C.on.one = true ∧ C.w.one = true ∧ C.od.one = true) (p o : Nat) (err : Int) (H : Hp) (n : Nat) (hpn : p < n) (hon : o < n) (hpo : p ≠ o) (hr : RLtL n [C.fr,C.on,C.w,C.od]) (hp : H.get p = some (bdS s err)) (ho : H.get o = some (.cells 25 [] (C.out (.cst (.slice none 0 0)) (.cst (.slice none 0 0)) (.cst (.slice none 0 0))) .nil)) :
  CallOk Try.prog 76 [.ptr p 0,.agg (scC ns ts) 2,q.av,.ptr o 0] H n (.tup []) ((H.put p (some (bdS s (itemsB ns ts q err).2.2.2))).put o (some (.cells 25 [] (C.out (eEx.ds (itemsB ns ts q err).1) (eStr.ds (itemsB ns ts q err).2.1) (eInt.ds (itemsB ns ts q err).2.2.1)) .nil))) n:=by
 have hr':=hr
 simp only [rLtL_cons,rLtL_nil,and_true] at hr'
 obtain ⟨r1,r2,r3,r4⟩:=hr'
 refine binO (args:=[.agg (scC ns ts) 2,q.av]) c76 (by simp [A76]) (by simp [scC,Qry.av,Qry.pure]) hpn hon hpo hp ho (by simp [QC.out,outQ,r1,r2,r3,r4]) (by simp [QC.out,outQ,r1,r2,r3,r4,Pure.rlt]) fun F H0 hF htop hp0 ho0 => ?_
 have q':=neD hpn
 have r':=neD hon
 have fin : ∀ (c : Nat) (E : List Ex) (N : List (List Nat)) (Ks : List Int) (e : Int) (vi vn vk : AV) (R : List AV) (K : Hp) (m : Nat),itemsB ns ts q err = (E,N,Ks,e) → ItM H0 n p o s ns ts q C e c E N Ks vi vn vk R K m → Frz (above n K) (.tup []) (.tup []) ∧ (∀ c,c < n → c ≠ p → c ≠ o → K.get c = H0.get c) ∧ K.get p = some (bdS s (itemsB ns ts q err).2.2.2) ∧ ∃ l,K.get o = some (.cells 25 [] l .nil) ∧ l.length = 25 ∧ FIL (above n K) l (C.out (eEx.ds (itemsB ns ts q err).1) (eStr.ds (itemsB ns ts q err).2.1) (eInt.ds (itemsB ns ts q err).2.2.1)):=by
  intro c E N Ks e vi vn vk R K m hb M
  rw [hb]
  refine ⟨.pure _ (by simp),M.kf,M.kp,_,M.ko,rfl,?_⟩
  have z1 : Frz (above n K) vi (eEx.ds E):=by
   have:=M.oi.frzA (n0:=n) (fun b hb => by have:=(M.di b hb).1; omega) (M.fz _) (by omega)
   rw [Enc.ds,M.hE]; exact this
  have z2 : Frz (above n K) vn (eStr.ds N):=by
   have:=M.on.frzA (n0:=n) (fun b hb => by have:=(M.dn b hb).1; omega) (FrzL.pure (eStr.l_pure N)) (by omega)
   rw [Enc.ds,M.hN]; exact this
  have z3 : Frz (above n K) vk (eInt.ds Ks):=by
   have:=M.ok.frzA (n0:=n) (fun b hb => by have:=M.dk b hb; omega) (FrzL.pure (eInt.l_pure Ks)) (by omega)
   rw [Enc.ds,M.hK]; exact this
  simp [QC.out,outQ]
  exact ⟨.inr z1,.inr z2,.inr z3⟩
 have start : ∀ (K : Hp) (m : Nat) (e : Int),n + 2 ≤ m → Top K m → (∀ c,c < n → c ≠ p → K.get c = H0.get c) → K.get p = some (bdS s e) → K.get n = some (.cells 2 [] (scC ns ts) .nil) → K.get (n + 1) = some (.cells 15 [] q.cells .nil) → ItM H0 n p o s ns ts q C e 0 [] [] [] (.cst (.slice none 0 0)) (.cst (.slice none 0 0)) (.cst (.slice none 0 0)) [] K m:=by
  intro K m e h1 h2 h3 h4 h5 h6
  exact ⟨h1,h2,fun b h1 h2 _ => h3 b h1 h2,h4,h5,h6,(h3 o hon (by omega)).trans ho0,by simpa using OwnS.nil _ _ 8,by simpa using OwnS.nil _ _ 1,by simpa using OwnS.nil _ _ 1,by simp,by simp,by simp,fun h => by simpa using FrzL.nil,rfl,rfl,rfl⟩
 have rest : ∀ (c : Nat) (E : List Ex) (N : List (List Nat)) (Ks : List Int) (e : Int) (vi vn vk : AV) (R : List AV) (F : Fr) (K : Hp) (m : Nat),F.get 0 = some (.ptr p 0) → F.get 3 = some (.ptr o 0) → F.get 5 = some (.ptr n 0) → F.get 6 = some (.ptr (n + 1) 0) → c + q.items.length ≤ lim → ItM H0 n p o s ns ts q C e c E N Ks vi vn vk R K m → itemsB ns ts q err = (E ++ (itR ns ts q.items e).1,N ++ q.items.map Itm.nm,Ks ++ (itR ns ts q.items e).2.1,(itR ns ts q.items e).2.2) →
   VC Try.prog (R76_14.seq (CT.block 4 L76_2.loop)) F K m [] (RetQ [] fun v K x => Frz (above n K) v (.tup []) ∧ (∀ c,c < n → c ≠ p → c ≠ o → K.get c = H0.get c) ∧ K.get p = some (bdS s (itemsB ns ts q err).2.2.2) ∧ ∃ l,K.get o = some (.cells 25 [] l .nil) ∧ l.length = 25 ∧ FIL (above n K) l (C.out (eEx.ds (itemsB ns ts q err).1) (eStr.ds (itemsB ns ts q err).2.1) (eInt.ds (itemsB ns ts q err).2.2.1))):=by
  intro c E N Ks e vi vn vk R F K m f0 f3 f5 f6 hc M hb
  have kq:=M.kq
  simp [R76_14,f6,kq,Qry.c2,Enc.len_ds]
  refine items76c n p o hpn hon hpo H0 s ns ts hn hl ht hcl q C hC e c hc E N Ks hz _ K m _ vi vn vk R ⟨by simp [f0],by simp [f3],by simp [f5],by simp [f6],by simp,by simp,by simp⟩ M fun vi vn vk R F K m S M => ?_
  simpa using fin _ _ _ _ _ vi vn vk R K m hb M
 simp [A76,B76,R76_0,R76_1,hF,Qry.av,Qry.c1]
 generalize hK : Tr.put _ (n + 1) _ = K0
 have k0 : ∀ c,c < n → K0.get c = H0.get c:=fun c hc => by rw [← hK]; simp [neC hc]
 have kn : K0.get n = some (.cells 2 [] (scC ns ts) .nil):=by rw [← hK]; simp
 have kq : K0.get (n + 1) = some (.cells 15 [] q.cells .nil):=by rw [← hK]; simp
 have kt : Top K0 (n + 1 + 1):=fun c hc => by
  have e1 : ¬ c = n:=by omega
  have e2 : ¬ c = n + 1:=by omega
  rw [← hK]; simp [e1,e2,htop c (by omega)]
 clear hK
 cases hst : q.star with
 | false =>
  simp
  have:=rest 0 [] [] [] err _ _ _ [] (Fp 18 (.bool false) (Fp 17 (.ptr (n + 1) 1) (Fp 6 (.ptr (n + 1) 0) (Fp 5 (.ptr n 0) F)))) K0 (n + 1 + 1) (by simp [hF]) (by simp [hF]) (by simp) (by simp) (by omega) (start K0 (n + 1 + 1) err (by omega) kt (fun c hc _ => k0 c hc) ((k0 p hpn).trans hp0) kn kq) (by simp [itemsB,hst])
  simpa using this
 | true =>
  have kn':=kn
  simp only [scC] at kn'
  simp [R76_2,hF,kn',Enc.len_ds]
  refine CalV.ok (failB p s err 200 (decide (ts = [])) K0 _ (by omega) ((k0 p hpn).trans hp0)) ?_
  generalize hE1 : keep err 200 (decide (ts = [])) = e1
  have j2 : ∀ c,c ≠ p → (K0.put p (some (bdS s e1))).get c = K0.get c:=fun c hc => by simp [hc]
  have jp : (K0.put p (some (bdS s e1))).get p = some (bdS s e1):=by simp
  generalize K0.put p (some (bdS s e1)) = K1 at j2 jp ⊢
  have kn1:=(j2 n (by omega)).trans kn
  simp [R76_3,hF,kn1]
  refine CalV.pure (kinds94p ns ts hl ht hcl) ?_
  simp
  refine CalV.ok (failB p s e1 3 (decide ((16 : Int) < ((kindsS ts).length : Int))) K1 _ (by omega) jp) ?_
  generalize hE2 : keep e1 3 (decide ((16 : Int) < ((kindsS ts).length : Int))) = e2
  have j3 : ∀ c,c ≠ p → (K1.put p (some (bdS s e2))).get c = K1.get c:=fun c hc => by simp [hc]
  have jp3 : (K1.put p (some (bdS s e2))).get p = some (bdS s e2):=by simp
  generalize K1.put p (some (bdS s e2)) = K2 at j3 jp3 ⊢
  have kn2:=(j3 n (by omega)).trans kn1
  have kq2:=(j3 (n + 1) (by omega)).trans ((j2 (n + 1) (by omega)).trans kq)
  simp only [scC] at kn2
  simp [R76_4,kn2,Enc.len_ds]
  have hb : itemsB ns ts q err = (colsX (kindsS ts).length ++ (itR ns ts q.items e2).1,namesT ts ++ q.items.map Itm.nm,kindsS ts ++ (itR ns ts q.items e2).2.1,(itR ns ts q.items e2).2.2):=by
   rw [← hE2,← hE1]; simp [itemsB,hst]
  refine items76b n p o hpn hon hpo H0 s ns ts q C hC e2 hl ht _ K2 (n + 1 + 1) _ (.cst (.slice none 0 0)) (.cst (.slice none 0 0)) (.cst (.slice none 0 0)) [] ⟨by simp [hF],by simp [hF],by simp,by simp,by simp,by simp,by simp⟩ (start K2 (n + 1 + 1) e2 (by omega) (fun c hc => (j3 c (by omega)).trans ((j2 c (by omega)).trans (kt c hc))) (fun c h1 h2 => (j3 c h2).trans ((j2 c h2).trans (k0 c h1))) jp3 kn2 kq2) fun vi vn vk R F K m S M => ?_
  have:=rest _ _ _ _ e2 vi vn vk R F K m S.f0 S.f3 S.f5 S.f6 (by omega) M hb
  simpa using this
end Go.Abs
