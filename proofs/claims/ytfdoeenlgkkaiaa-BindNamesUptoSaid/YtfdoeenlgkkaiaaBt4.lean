/- An expression bound: the walk. -/
import Derived.Test.YtfdoeenlgkkaiaaBt3
namespace Go.Abs
open Go.Proofs
open Classical
set_option maxRecDepth 100000
structure WkI (H0 : Hp) (n b w p : Nat) (v1 v2 : AV) (op : Int) (ec : List AV) (args : List Ex) (A : List Ex × List Int × Int) (i : Nat) (va vk : AV) (F : Fr) (K : Hp) (mm : Nat) : Prop where
 hi : i ≤ args.length
 f2 : F.get 2 = some (.ptr b 0)
 f4 : F.get 4 = some (.ptr w 0)
 f5 : F.get 5 = some (.ptr n 0)
 f6 : F.get 6 = some (.ptr (n + 1) 0)
 f10 : F.get 10 = some (.ptr (n + 2) 0)
 f11 : F.get 11 = some vk
 f55 : F.get 55 = some (.ds (Ex.cellsL args) args.length 8)
 f56 : F.get 56 = some (.int .i64 (args.length : Int))
 f57 : F.get 57 = some (.int .i64 (i : Int))
 hmm : n + 3 ≤ mm
 tp : Top K mm
 kf : ∀ c,c < n → c ≠ p → K.get c = H0.get c
 kp : K.get p = some (bdr v1 v2 A.2.2)
 kn : K.get n = some (.cells 8 [] ec .nil)
 kr : K.get (n + 1) = some (.cells 8 [] [.int .i64 0,.int .i64 0,.int .i64 0,.str [],.str [],.str [],.int .i64 0,.cst (.slice none 0 0)] .nil)
 ko : K.get (n + 2) = some (.cells 8 [] [.int .i64 op,.int .i64 0,.int .i64 0,.str [],.str [],.str [],.int .i64 0,va] .nil)
 oa : OwnS K mm va (Ex.cellsL A.1) i 8
 ok : OwnS K mm vk (intsC A.2.1) i 1
 da : ∀ c,blk va = some c → n + 3 ≤ c ∧ blk vk ≠ some c
 dk : ∀ c,blk vk = some c → n + 3 ≤ c
theorem walk95 (ns : List (List Nat)) (ts : List Tbl) (v1 v2 : AV) (hv1 : Pure v1) (hv2 : Pure v2) (hn : ns.length = ts.length) (hl : (kindsS ts).length ≤ lim) (ht : ts.length ≤ lim) (hc : ∀ t ∈ ts,t.cols.length ≤ lim) :
  ∀ (N : Nat) (e : Ex) (err : Int) (H : Hp) (n s b k w p : Nat),e.sz ≤ N → N ≤ lim → e.may = true → WkS H n ns ts s b k w p v1 v2 err →
   CallOk Try.prog 95 [e.av,.ptr s 0,.ptr b 0,.ptr k 0,.ptr w 0] H n (.tup [(e.bd ns ts err).1.av,.int .i64 (e.bd ns ts err).2.1]) (H.put p (some (bdr v1 v2 (e.bd ns ts err).2.2))) n
 | 0,e,_,_,_,_,_,_,_,_,h,_,_,_ => by have:=Ex.sz_pos e; omega
 | N + 1,.mk op v t m col args,err,H,n,s,b,k,w,p,hsz,hN,hmay,hs => by
  obtain ⟨ns1,ns2,ns3,ns4⟩:=hs.ne
  have hlt:=hs.ls
  have hlb:=hs.lb
  have hlk:=hs.lk
  have hlw:=hs.lw
  have hlp:=hs.lp
  have hpu:=Ex.pureC (.mk op v t m col args)
  refine CallR.okB (p:=p) [s,b,k,w,p] (by simp) (by simp [Ex.av,hpu.rlt,hlt,hlb,hlk,hlw]) (by simp [hlt,hlb,hlk,hlw,hlp]) ?_ (rLtB_list (by simp [hv1.rlt,hv2.rlt])) ?_
  ·
   intro c hm y hy
   simp only [List.mem_cons,List.not_mem_nil,or_false] at hm
   rcases hm with rfl | rfl | rfl | rfl | rfl
   · rw [hs.hs] at hy; injection hy with hy; subst hy; exact rLtB_list (PureL.rlt (by simp [scC]))
   · rw [hs.hb] at hy; injection hy with hy; subst hy; exact rLtB_list (by simp [hlp])
   · rw [hs.hk] at hy; injection hy with hy; subst hy; exact rLtB_list (PureL.rlt (by simp))
   · rw [hs.hw] at hy; injection hy with hy; subst hy; exact rLtB_list (by simp [RLt,hlt,hlb,hlk,hlw])
   · rw [hs.hp] at hy; injection hy with hy; subst hy; exact rLtB_list (by simp [hv1.rlt,hv2.rlt])
  intro H0 htop hin
  have hs0 : WkS H0 n ns ts s b k w p v1 v2 err:=⟨(hin _ (by simp)).trans hs.hs,(hin _ (by simp)).trans hs.hb,(hin _ (by simp)).trans hs.hk,(hin _ (by simp)).trans hs.hw,(hin _ (by simp)).trans hs.hp,hlt,hlb,hlk,hlw,hlp⟩
  clear hin hs
  have ps:=neC hlt
  have pb:=neC hlb
  have pk:=neC hlk
  have pp:=neC hlp
  have pp':=neD hlp
  by_cases h2 : op = 2
  ·
   have hpl:=place96 ns ts t m hn hl ht hc
   refine CallR.of c95 (by simp [A95]) fun F hF => ?_
   simp [A95,B95,R95_0,R95_1,R95_2,hF,Ex.av,Ex.cells,h2,hs0.hs,ps]
   refine CalV.pure hpl ?_
   have hpS : placeF t m (ns.zip ts) 0 (-1) false = placeS ns ts t m:=rfl
   rw [hpS]
   generalize hq : placeS ns ts t m = q
   obtain ⟨q1,q2⟩:=q
   simp [R95_3,hF,hs0.hb,pb]
   generalize hH1 : Tr.put _ (n + 1) _ = H1
   have k1 : ∀ c,c < n → H1.get c = H0.get c:=fun c hc => by rw [← hH1]; simp [neC hc]
   have k2 : H1.get n = some (.cells 8 [] (Ex.mk 2 v t m col args).cells .nil):=by rw [← hH1]; simp [Ex.cells]
   have k3 : H1.get (n + 1) = some (.cells 8 [] [.int .i64 0,.int .i64 0,.int .i64 0,.str [],.str [],.str [],.int .i64 0,.cst (.slice none 0 0)] .nil):=by rw [← hH1]; simp
   clear hH1
   refine CalV.ok (fail22 p v1 v2 err q2 (!decide (q2 = 0)) H1 (n + 1 + 1) hv1 hv2 (by omega) ((k1 p hlp).trans hs0.hp)) ?_
   by_cases hf : q2 = 0
   ·
    subst hf
    have hlt2:=placeS_lt hn (table:=t) (name:=m) (by rw [hq])
    rw [hq] at hlt2
    obtain ⟨hq1,hq3⟩:=hlt2
    obtain ⟨i,hi⟩ : ∃ i : Nat,q1 = (i : Int):=⟨q1.toNat,by omega⟩
    subst hi
    have hil : i < (kindsS ts).length:=by simp at hq3; omega
    have kb1:=(k1 k hlk).trans hs0.hk
    simp [R95_4]
    refine DrwV.of (ce0_ok (P:=Try.prog)) ?_
    simp [clearF_get,hF,pp,pp',pk,ns3,k3,kb1,ixa_int hil]
    have hb : (Ex.mk 2 v t m col args).bd ns ts err = (.mk 3 ⟨0,0,[]⟩ [] [] (i : Int) [],(kindsS ts)[i],err):=by simp [Ex.bd,hq,List.getD,hil]
    rw [hb]
    refine ⟨Ex.frz2 (Ex.frz (v:=⟨0,0,[]⟩) (.nil 7)),fun c h1 h3 => ?_,.inl (by simp [bdr,keep])⟩
    simp [neC h1,h3,k1 c h1]
   ·
    simp [R95_4,R95_5,hf,k2,k3,pp',Ex.cells]
    have hb : (Ex.mk 2 v t m col args).bd ns ts err = (.mk 2 v t m col args,0,keep err q2 true):=by simp [Ex.bd,hq,hf]
    rw [hb]
    refine ⟨.pure _ (by simp),fun c h1 h3 => ?_,bdr v1 v2 (keep err q2 true),by simp [pp,bdr],.inl rfl⟩
    simp [neC h1,h3,k1 c h1]
  by_cases h1 : op = 1
  ·
   have hb : (Ex.mk op v t m col args).bd ns ts err = (.mk op v t m col args,v.kind,err):=by simp [Ex.bd,h1]
   rw [hb]
   refine CallR.of c95 (by simp [A95]) fun F hF => ?_
   simp [A95,B95,R95_0,R95_1,R95_7,hF,Ex.av,Ex.cells,h1]
   refine DrwV.of (ce0_ok (P:=Try.prog)) ?_
   simp [clearF_get]
   subst h1
   refine ⟨.pure _ (by simp),fun c h1 h3 => ?_,bdr v1 v2 err,by simp [pp,hs0.hp],.inl rfl⟩
   simp [neC h1]
  have hb : (Ex.mk op v t m col args).bd ns ts err = (.mk op ⟨0,0,[]⟩ [] [] 0 (Ex.bdL ns ts args err).1,(wantE op).1.kind,keep (Ex.bdL ns ts args err).2.2 203 (!(wantE op).1.fits (Ex.bdL ns ts args err).2.1)):=by rw [Ex.bd,if_neg h2,if_neg h1]
  rw [hb]
  have hla:=Ex.sz_len args
  have hml : Ex.mayL args = true ∧ (args.length : Int) = (if op ≤ 7 then 1 else 2) ∧ 4 ≤ op ∧ op ≤ 21:=by
   rw [Ex.may,if_neg h1,if_neg h2] at hmay
   simp only [Bool.and_eq_true,decide_eq_true_eq] at hmay
   exact ⟨hmay.2.2.2,hmay.2.1,hmay.1⟩
  obtain ⟨hma,hln,ho1,ho2⟩:=hml
  simp only [Ex.sz] at hsz
  unfold lim at hN
  refine CallR.of c95 (by simp [A95]) fun F hF => ?_
  simp [A95,B95,R95_0,R95_1,R95_7,R95_9,R95_10,R95_11,hF,Ex.av,Ex.cells,h1,h2]
  generalize hH1 : Tr.put _ (n + 1 + 1) _ = H1
  have k0 : ∀ c,c < n → H1.get c = H0.get c:=fun c hc => by rw [← hH1]; simp [neC hc]
  have k1 : H1.get n = some (.cells 8 [] (Ex.mk op v t m col args).cells .nil):=by rw [← hH1]; simp [Ex.cells]
  have k2 : H1.get (n + 1) = some (.cells 8 [] [.int .i64 0,.int .i64 0,.int .i64 0,.str [],.str [],.str [],.int .i64 0,.cst (.slice none 0 0)] .nil):=by rw [← hH1]; simp
  have k3 : H1.get (n + 2) = some (.cells 8 [] [.int .i64 op,.int .i64 0,.int .i64 0,.str [],.str [],.str [],.int .i64 0,.cst (.slice none 0 0)] .nil):=by rw [← hH1]; simp
  have k4 : Top H1 (n + 3):=fun c hc => by
   have q1 : ¬ c = n:=by omega
   have q2 : ¬ c = n + 1:=by omega
   have q3 : ¬ c = n + 2:=by omega
   rw [← hH1]; simp [q1,q2,q3,htop c (by omega)]
  clear hH1
  refine LoopV.of (fun q F K mm ms => ∃ (i : Nat) (va vk : AV),q = args.length - i ∧ WkI H0 n b w p v1 v2 op ((Ex.mk op v t m col args).cells) args (Ex.bdL ns ts (args.take i) err) i va vk F K mm ∧ ms = []) args.length
   ⟨0,.cst (.slice none 0 0),.cst (.slice none 0 0),by simp,⟨by simp,by simp [hF],by simp [hF],by simp,by simp,by simp,by simp,by simp,by simp,by simp,by omega,k4,fun c hc _ => k0 c hc,by simpa [Ex.bdL] using (k0 p hlp).trans hs0.hp,k1,k2,k3,by simpa [Ex.bdL,Ex.cellsL] using OwnS.nil _ _ 8,by simpa [Ex.bdL,intsC] using OwnS.nil _ _ 1,by simp,by simp⟩,rfl⟩ ?_
  clear hF F k0 k1 k2 k3 k4 H1
  rintro q F K mm ms ⟨i,va,vk,rfl,I,rfl⟩
  have f2:=I.f2
  have f4:=I.f4
  have f5:=I.f5
  have f6:=I.f6
  have f10:=I.f10
  have f11:=I.f11
  have f55:=I.f55
  have f56:=I.f56
  have f57:=I.f57
  have hmm:=I.hmm
  by_cases hlt2 : i < args.length
  ·
   have hx:=ixa_ex (k:=.i64) hlt2
   have hsm:=Ex.sz_mem (List.getElem_mem hlt2)
   have hwk:=(I.kf w hlw ns4).trans hs0.hw
   have mw:=neC (show w < mm by omega)
   simp [L95_0,R95_12,R95_13,R95_14,f4,f55,f56,f57,hlt2,hx,hwk,mw]
   generalize hK1 : Tr.put _ mm (some (ABlk.cells 8 [] args[i].cells Ov.nil)) = K1
   have g1 : ∀ c,c < mm → K1.get c = K.get c:=fun c hc => by rw [← hK1]; simp [neC hc]
   have t1 : Top K1 (mm + 1):=fun c hc => by
    have q1 : ¬ c = mm:=by omega
    rw [← hK1]; simp [q1,I.tp c (by omega)]
   clear hK1
   have hs1 : WkS K1 (mm + 1) ns ts s b k w p v1 v2 (Ex.bdL ns ts (args.take i) err).2.2:=hs0.next (by omega) (fun c h3 h4 => (g1 c (by omega)).trans (I.kf c h3 h4)) ((g1 p (by omega)).trans I.kp)
   refine CalV.ok (walk95 ns ts v1 v2 hv1 hv2 hn hl ht hc N args[i] _ K1 (mm + 1) s b k w p (by omega) (by unfold lim; omega) (Ex.mayL_get hma i hlt2) hs1) ?_
   have htk:=Ex.bdL_take ns ts hlt2 err
   have hlen:=Ex.bdL_len ns ts (args.take i) err
   generalize hA : Ex.bdL ns ts (args.take i) err = A at I hs1 htk hlen ⊢
   generalize hX : args[i].bd ns ts A.2.2 = X at htk ⊢
   obtain ⟨x1,kd,er⟩:=X
   obtain ⟨xs,ks,er0⟩:=A
   simp only at htk hlen
   have oa:=I.oa
   have ok:=I.ok
   have ko1:=(g1 (n + 2) (by omega)).trans I.ko
   have q1 : (n + 2 = p) = False:=by simp only [eq_iff_iff,iff_false]; omega
   have q2 : (n + 1 = mm) = False:=by simp only [eq_iff_iff,iff_false]; omega
   simp [R95_15,f10,ko1,q1,q2]
   generalize hK3 : Tr.put _ (mm + 1 + 1) _ = K3
   have e3 : ∀ c,c < mm → c ≠ p → K3.get c = K.get c:=fun c h3 h4 => by rw [← hK3]; simp [neC h3,h4,g1 c h3]
   have p3 : K3.get p = some (bdr v1 v2 er):=by rw [← hK3]; simp [neC (show p < mm by omega)]
   have x3 : K3.get (mm + 1 + 1) = some (.cells 8 [] x1.cells .nil):=by rw [← hK3]; simp
   have t3 : Top K3 (mm + 1 + 1 + 1):=fun c hc => by
    have r1 : ¬ c = mm + 1 + 1:=by omega
    have r2 : ¬ c = mm + 1:=by omega
    have r3 : ¬ c = p:=by omega
    rw [← hK3]; simp [r1,r2,r3,t1 c (by omega)]
   clear hK3
   have oa3 : OwnS K3 (mm + 1 + 1 + 1) va (Ex.cellsL xs) i 8:=oa.frame (by omega) fun c hc => e3 c (oa.blkLt hc) (by have:=(I.da c hc).1; omega)
   have ok3 : OwnS K3 (mm + 1 + 1 + 1) vk (intsC ks) i 1:=ok.frame (by omega) fun c hc => e3 c (ok.blkLt hc) (by have:=I.dk c hc; omega)
   refine OwnS.appA (k:=1) (new:=x1.cells) oa3 (sliceCells_one x3) (by simp) (by simp) (by omega) (by omega) (by unfold big; omega) (by omega) (by simp) fun K4 o4 g4 => ?_
   have ok4 : OwnS K4 (mm + 1 + 1 + 1) vk (intsC ks) i 1:=ok3.frame (by omega) fun c hc => g4 c (by have:=ok.blkLt hc; omega) fun h => (I.da c h).2 hc
   have e4 : ∀ c,c < mm → c ≠ p → blk va ≠ some c → K4.get c = K.get c:=fun c h3 h4 h5 => (g4 c (by omega) h5).trans (e3 c h3 h4)
   have p4 : K4.get p = some (bdr v1 v2 er):=(g4 p (by omega) fun h => by have:=(I.da p h).1; omega).trans p3
   have t4 : Top K4 (mm + 1 + 1 + 1 + 1):=fun c hc => (g4 c (by omega) fun h => by have:=oa.blkLt h; omega).trans (t3 c (by omega))
   clear g4 e3 p3 x3 t3 oa3 ok3
   simp [f11]
   generalize hK5 : Tr.put K4 (mm + 1 + 1 + 1 + 1) _ = K5
   have g5 : ∀ c,c < mm + 1 + 1 + 1 + 1 → K5.get c = K4.get c:=fun c h3 => by rw [← hK5]; simp [neC h3]
   have x5 : K5.get (mm + 1 + 1 + 1 + 1) = some (.cells 1 [] (intsC [kd]) .nil):=by rw [← hK5]; simp [intsC]
   have t5 : Top K5 (mm + 1 + 1 + 1 + 1 + 1):=fun c hc => by
    have r1 : ¬ c = mm + 1 + 1 + 1 + 1:=by omega
    rw [← hK5]; simp [r1,t4 c (by omega)]
   clear hK5
   have oa5 : OwnS K5 (mm + 1 + 1 + 1 + 1 + 1) (.sl (mm + 1 + 1 + 1) 0 (i + 1) 8) (Ex.cellsL xs ++ x1.cells) (i + 1) 8:=o4.frame (by omega) fun c hc => g5 c (by simp at hc; omega)
   have ok5 : OwnS K5 (mm + 1 + 1 + 1 + 1 + 1) vk (intsC ks) i 1:=ok4.frame (by omega) fun c hc => g5 c (by have:=ok.blkLt hc; omega)
   refine OwnS.appA (k:=1) (new:=intsC [kd]) ok5 (by rw [sliceCells_sl x5 (OwnB.list (by simp)) (by simp)]; simp [intsC]) (by simp) (by simp) (by omega) (by omega) (by unfold big; omega) (by omega) (by simp) fun K6 o6 g6 => ?_
   have oa6 : OwnS K6 (mm + 1 + 1 + 1 + 1 + 1 + 1) (.sl (mm + 1 + 1 + 1) 0 (i + 1) 8) (Ex.cellsL xs ++ x1.cells) (i + 1) 8:=oa5.frame (by omega) fun c hc => g6 c (by simp at hc; omega) fun h => by have:=ok.blkLt h; simp at hc; omega
   have e6 : ∀ c,c < mm → c ≠ p → blk va ≠ some c → blk vk ≠ some c → K6.get c = K.get c:=fun c h3 h4 h5 h6 => (g6 c (by omega) h6).trans ((g5 c (by omega)).trans (e4 c h3 h4 h5))
   have p6 : K6.get p = some (bdr v1 v2 er):=(g6 p (by omega) fun h => by have:=I.dk p h; omega).trans ((g5 p (by omega)).trans p4)
   have t6 : Top K6 (mm + 1 + 1 + 1 + 1 + 1 + 1):=fun c hc => (g6 c (by omega) fun h => by have:=ok.blkLt h; omega).trans (t5 c (by omega))
   have na : ∀ c,c < n + 3 → blk va ≠ some c:=fun c h3 h => by have:=(I.da c h).1; omega
   have nk : ∀ c,c < n + 3 → blk vk ≠ some c:=fun c h3 h => by have:=I.dk c h; omega
   have ko6:=(e6 (n + 2) (by omega) (by omega) (na _ (by omega)) (nk _ (by omega))).trans I.ko
   clear g6 g5 oa5 ok5 t5 t4 p4 e4 ok4 o4
   simp [ko6,f10,R95_16,f57,wrap_nat i (by omega)]
   have qq : ∀ c,c ≠ n + 2 → (K6.put (n + 2) (some (ABlk.cells 8 [] [.int .i64 op,.int .i64 0,.int .i64 0,.str [],.str [],.str [],.int .i64 0,.sl (mm + 1 + 1 + 1) 0 (i + 1) 8] .nil))).get c = K6.get c:=fun c h3 => by simp [h3]
   refine ⟨args.length - (i + 1),by omega,i + 1,rfl,.sl (mm + 1 + 1 + 1) 0 (i + 1) 8,.sl (mm + 1 + 1 + 1 + 1 + 1) 0 (i + 1) 1,?_⟩
   rw [htk]
   refine ⟨hlt2,by simp [f2],by simp [f4],by simp [f5],by simp [f6],by simp [f10],by simp,by simp [f55],by simp [f56],by simp,by omega,fun c h3 => (qq c (by omega)).trans (t6 c h3),fun c h3 h4 => (qq c (by omega)).trans ((e6 c (by omega) h4 (na c (by omega)) (nk c (by omega))).trans (I.kf c h3 h4)),(qq p (by omega)).trans p6,(qq n (by omega)).trans ((e6 n (by omega) (by omega) (na n (by omega)) (nk n (by omega))).trans I.kn),(qq (n + 1) (by omega)).trans ((e6 (n + 1) (by omega) (by omega) (na (n + 1) (by omega)) (nk (n + 1) (by omega))).trans I.kr),by simp,?_,?_,by simp; omega,by simp; omega⟩
   ·
    have:=oa6.frame (H':=(K6.put (n + 2) (some (ABlk.cells 8 [] [.int .i64 op,.int .i64 0,.int .i64 0,.str [],.str [],.str [],.int .i64 0,.sl (mm + 1 + 1 + 1) 0 (i + 1) 8] .nil)))) (Nat.le_refl _) fun c hc => qq c (by simp at hc; omega)
    simpa [Ex.cellsL_append,Ex.cellsL] using this
   ·
    have:=o6.frame (H':=(K6.put (n + 2) (some (ABlk.cells 8 [] [.int .i64 op,.int .i64 0,.int .i64 0,.str [],.str [],.str [],.int .i64 0,.sl (mm + 1 + 1 + 1) 0 (i + 1) 8] .nil)))) (Nat.le_refl _) fun c hc => qq c (by simp at hc; omega)
    simpa [intsC_append] using this
  ·
   have hie : i = args.length:=by have:=I.hi; omega
   subst hie
   rw [List.take_length] at I
   have hlen:=Ex.bdL_len ns ts args err
   have hfit : (wantE op).1.any = true → (wantE op).1.alike = true → 2 ≤ (Ex.bdL ns ts args err).2.1.length:=by
    intro ha hk
    rw [hlen.2]
    by_cases h7 : op ≤ 7
    ·
     have : op = 4 ∨ op = 5 ∨ op = 6 ∨ op = 7:=by omega
     rcases this with h | h | h | h <;> subst h <;> simp [wantE] at ha hk
    · rw [if_neg h7] at hln; omega
   generalize hA : Ex.bdL ns ts args err = A at I hlen hfit ⊢
   obtain ⟨xs,ks,er⟩:=A
   have ft:=fits56 (wantE op).1 ks (by simp at hlen; rw [hlen.2]; unfold lim; omega) hfit
   have hwp:=wanted_pure op
   simp [L95_0,R95_12,R95_17,f56,f57,f5,I.kn,Ex.cells]
   refine CalV.pure hwp ?_
   generalize hw : wantE op = W at ft ⊢
   obtain ⟨⟨w1,w2,w3,w4,w5⟩,wb⟩:=W
   simp [Want.av]
   generalize hK7 : Tr.put _ mm (some (ABlk.cells 5 [] [.int .i64 w1,.int .i64 w2,.int .i64 w3,.bool w4,.bool w5] .nil)) = K7
   have g7 : ∀ c,c < mm → K7.get c = K.get c:=fun c hc => by rw [← hK7]; simp [neC hc]
   have x7 : K7.get mm = some (.cells 5 [] [.int .i64 w1,.int .i64 w2,.int .i64 w3,.bool w4,.bool w5] .nil):=by rw [← hK7]; simp
   have t7 : Top K7 (mm + 1):=fun c hc => by
    have q1 : ¬ c = mm:=by omega
    rw [← hK7]; simp [q1,I.tp c (by omega)]
   clear hK7
   have oa7 : OwnS K7 (mm + 1) va (Ex.cellsL xs) args.length 8:=I.oa.frame (by omega) fun c hc => g7 c (I.oa.blkLt hc)
   have ok7 : OwnS K7 (mm + 1) vk (intsC ks) args.length 1:=I.ok.frame (by omega) fun c hc => g7 c (I.ok.blkLt hc)
   have hb7:=(g7 b (by omega)).trans ((I.kf b hlb ns2).trans hs0.hb)
   have p7:=(g7 p (by omega)).trans I.kp
   have o7:=(g7 (n + 2) (by omega)).trans I.ko
   have r7:=(g7 (n + 1) (by omega)).trans I.kr
   have pp7 : (p = mm) = False:=by simp only [eq_iff_iff,iff_false]; omega
   have pp8 : (mm = p) = False:=by simp only [eq_iff_iff,iff_false]; omega
   have bp8 : (b = p) = False:=by simp [ns2]
   simp only at hlen
   rw [hlen.2] at ft
   have hfl:=fail22 p v1 v2 er 203 (!(Want.mk w1 w2 w3 w4 w5).fits ks) K7 (mm + 1) hv1 hv2 (by omega) p7
   simp only [R95_18,vc_drw]
   refine DrwV.of (ceL_ok (l:=[⟨82,[Want.av ⟨w1,w2,w3,w4,w5⟩,vk],K7,mm + 1,.bool ((Want.mk w1 w2 w3 w4 w5).fits ks),K7,mm + 1⟩,⟨22,[.ptr p 0,.int .i64 203,.bool (!(Want.mk w1 w2 w3 w4 w5).fits ks)],K7,mm + 1,.tup [],K7.put p (some (bdr v1 v2 (keep er 203 (!(Want.mk w1 w2 w3 w4 w5).fits ks)))),mm + 1⟩]) ?_) ?_
   ·
    simp only [List.mem_cons,List.not_mem_nil,or_false]
    rintro c (rfl | rfl)
    · exact ft.callFOk (by simp) _ (.cons _ _ _ _ (.pure _ (by simp)) (.cons _ _ _ _ (ok7.frz (FrzL.pure (by simp)) (by omega)) .nil))
    · exact hfl
   have e2 : ∀ l c1 c2,(ceL [⟨82,l,K7,mm + 1,.bool ((Want.mk w1 w2 w3 w4 w5).fits ks),K7,mm + 1⟩,⟨22,[.ptr p 0,.int .i64 203,.bool (!(Want.mk w1 w2 w3 w4 w5).fits ks)],K7,mm + 1,.tup [],K7.put p (some (bdr v1 v2 (keep er 203 (!(Want.mk w1 w2 w3 w4 w5).fits ks)))),mm + 1⟩]).call 22 c1 K7 c2 = (ceL [⟨22,[.ptr p 0,.int .i64 203,.bool (!(Want.mk w1 w2 w3 w4 w5).fits ks)],K7,mm + 1,.tup [],K7.put p (some (bdr v1 v2 (keep er 203 (!(Want.mk w1 w2 w3 w4 w5).fits ks)))),mm + 1⟩]).call 22 c1 K7 c2:=fun l c1 c2 => ceL_tl (by decide)
   simp [clearF_get,f2,f11,x7,hb7,Want.av,ceL_hd,e2]
   generalize (keep er 203 (!(Want.mk w1 w2 w3 w4 w5).fits ks)) = er'
   have k8 : ∀ c,c ≠ p → (K7.put p (some (bdr v1 v2 er'))).get c = K7.get c:=fun c hc => by simp [hc]
   have p8 : (K7.put p (some (bdr v1 v2 er'))).get p = some (bdr v1 v2 er'):=by simp
   generalize K7.put p (some (bdr v1 v2 er')) = K8 at k8 p8 ⊢
   have o8:=(k8 (n + 2) (by omega)).trans o7
   have r8:=(k8 (n + 1) (by omega)).trans r7
   have x8:=(k8 mm (by omega)).trans x7
   have q1 : (mm = n + 1) = False:=by simp only [eq_iff_iff,iff_false]; omega
   have q2 : (p = n + 1) = False:=by simp only [eq_iff_iff,iff_false]; omega
   simp only [R95_19,vc_drw]
   refine DrwV.of (ce0_ok (P:=Try.prog)) ?_
   simp [clearF_get,f6,f10,o8,r8,x8,q1,q2,p8,I.oa.isOne]
   refine ⟨Ex.frz2 (Ex.frz (v:=⟨0,0,[]⟩) ?_),fun c h3 h4 => ?_,.inl rfl⟩
   ·
    have oa8 : OwnS (K8.put (n + 1) (some (ABlk.cells 8 [] [.int .i64 op,.int .i64 0,.int .i64 0,.str [],.str [],.str [],.int .i64 0,va] .nil))) (mm + 1) va (Ex.cellsL xs) args.length 8:=oa7.frame (Nat.le_refl _) fun c hc => by
     have:=(I.da c hc).1
     have r1 : ¬ c = n + 1:=by omega
     simp [r1,k8 c (by omega)]
    rw [hlen.1]
    exact oa8.frzA (fun c hc => by have:=(I.da c hc).1; omega) (FrzL.pure (Ex.pureLC xs)) (by omega)
   ·
    have r1 : ¬ c = n + 1:=by omega
    simp [r1,k8 c h4,g7 c (by omega),I.kf c h3 h4]
noncomputable def clC (z : List AV) (sz by_ : Nat) : CF:={ res:=[rTmp 2],code:=.seq (.reg [oP (pdT 2) (eMov (constG (.cst (.slice none 0 0))))]) (.seq (.seq (.reg [oP (pdT 3) (eMov (slotG 0)),oP (pdT 4) (e2 (cEq false .slice) (slotG 3) (constG (.cst (.slice none 0 0))))]) (.cond (slotG 4) (.seq (.reg [oP (pdT 2) (eMov (constG (.cst (.slice none 0 0))))]) .ret) .skip)) (.seq (.reg [oP (pdT 5) (eBslice z 0 sz []),oP (pdT 6) (eMov (slotG 0)),oP (pdT 7) (eApp sz by_ (slotG 5) (slotG 6)),oP (pdT 2) (eMov (slotG 7))]) .ret)),nt:=8 }
theorem clone_ok {g : FuncId} {z : List AV} {sz by_ : Nat} (hc : ctF Try.prog g = some (clC z sz by_)) (hs : 0 < sz) (hz : sz ≤ 64) (hby : by_ ≤ 4096) (cs : List AV) (len : Nat) (hl : len ≤ lim) (hcs : cs.length = len * sz) (hp : PureL cs) (h1 : allOne cs = true) : FnPure Try.prog g [.ds cs len sz] (.ds cs len sz):=by
 refine FnPure.ofR (by simp [hp]) (by simp [hp]) ?_
 have A : len = 0 → CallR Try.prog g [.cst (.slice none 0 0)] .nil 0 (fun v1 H' _ => Frz H'.get v1 (.ds cs len sz)):=fun h0 => by
  subst h0
  have : cs = []:=by simpa using hcs
  subst this
  obtain ⟨k,rfl⟩ : ∃ k,sz = k + 1:=⟨sz - 1,by omega⟩
  refine CallR.of hc (by simp [clC]) fun F hF => ?_
  simp [clC,hF,cEq,eqVal]
  exact .nil _
 have B : len = 0 → CallR Try.prog g [.ds [] 0 0] .nil 0 (fun v1 H' _ => Frz H'.get v1 (.ds cs len sz)):=fun h0 => by
  subst h0
  have : cs = []:=by simpa using hcs
  subst this
  refine CallR.of hc (by simp [clC]) fun F hF => ?_
  simp [clC,hF,cEq,eqVal,cApp,sliceCells,sliceLen,cApp1]
  exact .sl 0 0 0 sz 0 [] [] .nil [] [] (by simp) (by simp) .nil
 have C : 0 < len → CallR Try.prog g [.ds cs len sz] .nil 0 (fun v1 H' _ => Frz H'.get v1 (.ds cs len sz)):=fun h0 => by
  refine CallR.of hc (by simp [clC]) fun F hF => ?_
  obtain ⟨len,rfl⟩ : ∃ k,len = k + 1:=⟨len - 1,by omega⟩
  unfold lim at hl
  simp [clC,hF,cEq,eqVal]
  have ow : OwnS (Tr.put Tr.nil 0 (some (ABlk.cells 0 [] [] .nil))) 1 (.sl 0 0 0 sz) [] 0 sz:=⟨by simp,.inr ⟨0,.cells 0 [] [] .nil,rfl,by omega,by simp,.list rfl⟩⟩
  refine OwnS.app (x:=.ds cs (len + 1) sz) (new:=cs) (k:=len + 1) ow (by simp [sliceCells]) (by simp [sliceLen]) hcs hs h0 (by unfold big; omega) hby h1 fun H' ho hk => ?_
  simp
  simp only [List.nil_append,Nat.zero_add] at ho
  exact ho.frz (FrzL.pure hp) hs
 by_cases h0 : len = 0
 ·
  have A:=A h0
  have B:=B h0
  refine ⟨A.1,fun φ D w xs hrel hv hf RR hR => ?_⟩
  cases hv with
  | cons _ y _ ys h1 h2 =>
  cases h2
  have h0 : (∃ ad cap,y = .slice (some ad) 0 cap) ∨ y = .slice none 0 0:=by
   subst h0
   cases h1 with
   | ds => exact .inl ⟨_,_,rfl⟩
   | ds0 => exact .inl ⟨_,_,rfl⟩
   | dsn => exact .inr rfl
  rcases h0 with ⟨ad,cap,rfl⟩ | rfl
  · exact B.2 φ D w _ hrel (.cons _ _ _ _ (.ds0 _ _ _) .nil) hf RR hR
  · exact A.2 φ D w _ hrel (.cons _ _ _ _ (.cst _ rfl) .nil) hf RR hR
 · exact C (by omega)
theorem clone60 (l : List Col) (hl : l.length ≤ lim) : FnPure Try.prog 60 [eCol.ds l] (eCol.ds l):=clone_ok (z:=[.str [],.int .i64 0,.bool false]) (sz:=3) (by_:=32) c60 (by omega) (by omega) (by omega) _ _ hl (by simp) (by simp) (by simp)
theorem clone93 (l : List Int) (hl : l.length ≤ lim) : FnPure Try.prog 93 [eInt.ds l] (eInt.ds l):=clone_ok (z:=[.int .i64 0]) (sz:=1) (by_:=8) c93 (by omega) (by omega) (by omega) _ _ hl (by simp) (by simp) (by simp)
noncomputable def firC (z : List AV) (sz : Nat) : CF:={ res:=[rCelN 4 sz,rTmp 5],code:=(.seq (.reg [oP (pdT 4) (eAlloc z sz),oP (pdT 5) (eMov (constG (.bool false)))]) (.seq (.seq (.reg [oP (pdT 9) (eMov (slotG 0)),oP (pdT 10) (e1 cLenL (slotG 9)),oP (pdT 11) (eMov (constG (.int .i64 0)))]) (.block 0 (.loop (.seq (.reg [oP (pdT 12) (e2 (cBin .lss) (slotG 11) (slotG 10))]) (.seq (.cond (slotG 12) .skip (.exit 0)) (.seq (.block 1 (.seq (.reg [oP (pdT 13) (e2 (cIxa sz) (slotG 9) (slotG 11)),oP (pdT 14) (eLoadN sz (slotG 13)),oP (pdT 7) (eAlloc z sz),oP pdN (eStore sz (slotG 7) (slotG 14))]) (.seq (.reg [oP (pdT 15) (eMov (slotG 1)),oP (pdT 16) (eLoadN sz (slotG 7)),vP (pdT 17) (slotG 15) [(slotG 16)]]) (.cond (slotG 17) (.seq (.reg [oP (pdT 18) (eLoadN sz (slotG 7)),oP pdN (eStore sz (slotG 4) (slotG 18)),oP (pdT 5) (eMov (constG (.bool true)))]) .ret) .skip)))) (.reg [oP (pdT 19) (e2 (cBin .add) (slotG 11) (constG (.int .i64 1))),oP (pdT 11) (eMov (slotG 19))]))))))) (.seq (.reg [oP (pdT 8) (eAlloc z sz)]) (.seq (.reg [oP (pdT 20) (eLoadN sz (slotG 8)),oP pdN (eStore sz (slotG 4) (slotG 20)),oP (pdT 5) (eMov (constG (.bool false)))]) .ret)))),nt:=21 }
theorem a68 : A68 = firC [(.int .u32 0),(.str []),(.cst (.slice none 0 0)),(.int .u32 0)] 4:=rfl
theorem a65 : A65 = firC [(.int .u32 0),(.int .u32 0),(.str []),(.cst (.slice none 0 0)),(.bool false),(.int .u32 0)] 6:=rfl
def firstD {α : Type} (zero : α) (p : α → Bool) (l : List α) : α × Bool:=match l.find? p with
 | some x => (x,true)
 | none => (zero,false)
theorem first_ok {α : Type} {sz : Nat} (E : Enc α sz) {g : FuncId} {z : List AV} (hc : ctF Try.prog g = some (firC z sz)) (_hs : 1 < sz) (hs2 : sz ≤ 64) (hz : z.length = sz) (h1 : allOne z = true) {zero : α} (hzz : ∀ h,FrzL h z (E.cells zero)) {f : FuncId} {b : Nat} {y : ABlk} {p : α → Bool} (xs : List α) (hl : xs.length ≤ lim) (H : Hp) (n : Nat) (hb : b < n) (hy : H.get b = some y) (hr : RLtB n y)
  (hp : ∀ x ∈ xs,∀ (K : Hp) (k : Nat),K.get b = some y → Top K k → CallR Try.prog f [E.av x,.ptr b 0] K k (fun u K' k' => u = .bool (p x) ∧ K' = K ∧ k' = k)) :
  CallOk Try.prog g [E.ds xs,.fn (.func f) [] [.ptr b 0]] H n (.tup [E.av (firstD zero p xs).1,.bool (firstD zero p xs).2]) H n:=by
 refine CallR.okN [b] (by simp [RLt,hb,Pure.rlt]) (by simpa using hb) (fun c hm k hk => ?_) fun H0 ht hin => ?_
 · simp at hm; subst hm; rw [hy] at hk; injection hk with hk; subst hk; exact hr
 have hb0:=(hin b (by simp)).trans hy
 refine CallR.of hc (by simp [firC]) fun F hF => ?_
 simp [firC,hF,Enc.len_ds]
 unfold lim at hl
 refine LoopV.of (fun q F K m ms => ∃ i,q = xs.length - i ∧ i ≤ xs.length ∧ F.get 1 = some (.fn (.func f) [] [.ptr b 0]) ∧ F.get 4 = some (.ptr n 0) ∧ F.get 9 = some (E.ds xs) ∧ F.get 10 = some (.int .i64 (xs.length : Int)) ∧ F.get 11 = some (.int .i64 (i : Int)) ∧ n < m ∧ Top K m ∧ (∀ c,c < n → K.get c = H0.get c) ∧ K.get n = some (.cells sz [] z .nil) ∧ (∀ j (h : j < xs.length),j < i → p xs[j] = false) ∧ ms = []) xs.length ⟨0,by simp,by simp,by simp [hF],by simp,by simp,by simp,by simp,by omega,fun c h3 => ?_,fun c h3 => ?_,by simp,by simp,rfl⟩ ?_
 ·
  have q1 : ¬ c = n:=by omega
  simp [q1,ht c (by omega)]
 ·
  have q1 : ¬ c = n:=by omega
  simp [q1]
 clear hF F
 rintro q F K m ms ⟨i,rfl,hi,f1,f4,f9,f10,f11,hm,tp,kf,kn,hj,rfl⟩
 have hEl : (E.av zero).len = sz:=Eq.trans rfl rfl
 by_cases hlt : i < xs.length
 ·
  have hx:=E.ix (ik:=.i64) hlt
  have hld:=fun H => E.ldN xs[i] (E.l (xs.drop (i + 1))) H
  have hav : ∀ a,(E.av a).len = sz:=fun a => Eq.trans rfl rfl
  have hac : ∀ a,(E.av a).cells = E.cells a:=fun a => Eq.trans rfl rfl
  simp [f1,f9,f10,f11,hlt,hx,hld,hz,hs2,hav,hac]
  generalize hK1 : Tr.put _ m (some (ABlk.cells sz [] (E.cells xs[i]) .nil)) = K1
  have g1 : ∀ c,c < m → K1.get c = K.get c:=fun c hc => by rw [← hK1]; simp [neC hc]
  have x1 : K1.get m = some (.cells sz [] (E.cells xs[i]) .nil):=by rw [← hK1]; simp
  have t1 : Top K1 (m + 1):=fun c hc => by
   have q1 : ¬ c = m:=by omega
   rw [← hK1]; simp [q1,tp c (by omega)]
  clear hK1
  have b1:=(g1 b (by omega)).trans ((kf b hb).trans hb0)
  refine CalV.same (hp xs[i] (List.getElem_mem hlt) K1 (m + 1) b1 t1) ?_
  have q1 : (n = m) = False:=by simp only [eq_iff_iff,iff_false]; omega
  have q2 : (m = n) = False:=by simp only [eq_iff_iff,iff_false]; omega
  cases hpx : p xs[i] with
  | true =>
   have hf : firstD zero p xs = (xs[i],true):=by
    unfold firstD
    rw [List.find?_eq_some_iff_getElem.2 ⟨hpx,i,hlt,rfl,fun j h2 => by simp [hj j (by omega) h2]⟩]
   rw [hf]
   have kn1:=(g1 n hm).trans kn
   simp [f4,x1,kn1,hz,hs2]
   refine ⟨.pure _ (by simp),fun c h3 => ?_⟩
   have q3 : ¬ c = n:=by omega
   simp [q3,g1 c (by omega),kf c h3]
  | false =>
   simp [f1,f4,f9,f10,f11,wrap_nat i (by omega)]
   refine ⟨_,by omega,i + 1,rfl,hlt,rfl,by omega,t1,fun c h3 => (g1 c (by omega)).trans (kf c h3),(g1 n hm).trans kn,fun j h h2 => ?_⟩
   by_cases e : j = i
   · subst e; exact hpx
   · exact hj j h (by omega)
 ·
  have hie : i = xs.length:=by omega
  subst hie
  have hf : firstD zero p xs = (zero,false):=by
   unfold firstD
   rw [List.find?_eq_none.2 fun x hx => ?_]
   obtain ⟨j,h2,rfl⟩:=List.getElem_of_mem hx
   simp [hj j h2 h2]
  rw [hf]
  have q1 : (n = m) = False:=by simp only [eq_iff_iff,iff_false]; omega
  simp [f4,f10,f11,hz,h1,kn,q1,hs2]
  refine ⟨.tup _ _ (.cons _ _ _ _ (.agg _ _ _ (hzz _)) (.cons _ _ _ _ (.pure _ (by simp)) .nil)),fun c h3 => ?_⟩
  have q3 : ¬ c = n:=by omega
  have q4 : ¬ c = m:=by omega
  simp [q3,q4,kf c h3]
def Tbl.zero : Tbl:=⟨0,[],[],0⟩
def Ixd.zero : Ixd:=⟨0,0,[],[],false,0⟩
theorem own67 (t : Tbl) (b : Bool) (h : t.cols.length ≤ lim) : FnPure Try.prog 67 [eTbl.av t,.bool b] (.tup [eTbl.av t,.bool b]):=by
 refine pureV c67 (by simp) (by simp) (by simp [A67]) fun F hF => ?_
 simp [A67,B67,R67_0,R67_1,R67_2,hF,Enc.av,eTbl_c]
 refine CalV.pure (clone60 t.cols h) ?_
 simp [hF,Enc.ds]
 exact .pure _ (by simp)
theorem own64 (x : Ixd) (b : Bool) (h : x.cols.length ≤ lim) : FnPure Try.prog 64 [eIxd.av x,.bool b] (.tup [eIxd.av x,.bool b]):=by
 refine pureV c64 (by simp) (by simp) (by simp [A64]) fun F hF => ?_
 simp [A64,B64,R64_0,R64_1,R64_2,hF,Enc.av,eIxd_c]
 refine CalV.pure (clone93 x.cols h) ?_
 simp [hF,Enc.ds]
 exact .pure _ (by simp)
theorem named92 (t : Tbl) (s : List Nat) (b : Nat) (H : Hp) (n : Nat) (hb : H.get b = some (.cells 1 [] [.str s] .nil)) (ht : Top H n) : CallR Try.prog 92 [eTbl.av t,.ptr b 0] H n (fun u K k => u = .bool (decide (t.name = s)) ∧ K = H ∧ k = n):=by
 refine CallR.forget (by simp) (CallR.of c92 (by simp [A92]) fun F hF => ?_)
 have q : ¬ b = n:=by have:=ht.lt hb; omega
 simp [A92,B92,R92_0,R92_1,hF,Enc.av,eTbl_c,q,hb]
 rintro c hc rfl
 exact absurd (ht _ (Nat.le_refl _)) hc
theorem tbl69 (t : Tbl) (i : Int) (b : Nat) (H : Hp) (n : Nat) (hb : H.get b = some (.cells 1 [] [.int .u32 i] .nil)) (ht : Top H n) : CallR Try.prog 69 [eTbl.av t,.ptr b 0] H n (fun u K k => u = .bool (decide (t.id = i)) ∧ K = H ∧ k = n):=by
 refine CallR.forget (by simp) (CallR.of c69 (by simp [A69]) fun F hF => ?_)
 have q : ¬ b = n:=by have:=ht.lt hb; omega
 simp [A69,B69,R69_0,R69_1,hF,Enc.av,eTbl_c,q,hb]
 rintro c hc rfl
 exact absurd (ht _ (Nat.le_refl _)) hc
theorem idx66 (x : Ixd) (s : List Nat) (b : Nat) (H : Hp) (n : Nat) (hb : H.get b = some (.cells 1 [] [.str s] .nil)) (ht : Top H n) : CallR Try.prog 66 [eIxd.av x,.ptr b 0] H n (fun u K k => u = .bool (decide (x.name = s)) ∧ K = H ∧ k = n):=by
 refine CallR.forget (by simp) (CallR.of c66 (by simp [A66]) fun F hF => ?_)
 have q : ¬ b = n:=by have:=ht.lt hb; omega
 simp [A66,B66,R66_0,R66_1,hF,Enc.av,eIxd_c,q,hb]
 rintro c hc rfl
 exact absurd (ht _ (Nat.le_refl _)) hc
noncomputable def Sch.named (s : Sch) (name : List Nat) : Tbl × Bool:=firstD Tbl.zero (fun t : Tbl => decide (t.name = name)) s.tables
noncomputable def Sch.table (s : Sch) (i : Int) : Tbl × Bool:=firstD Tbl.zero (fun t : Tbl => decide (t.id = i)) s.tables
noncomputable def Sch.index (s : Sch) (name : List Nat) : Ixd × Bool:=firstD Ixd.zero (fun x : Ixd => decide (x.name = name)) s.indexes
theorem firstD_len {α : Type} {zero : α} {p : α → Bool} {l : List α} {Q : α → Prop} (h0 : Q zero) (hl : ∀ x ∈ l,Q x) : Q (firstD zero p l).1:=by
 unfold firstD
 split
 · rename_i x hx; exact hl x (List.mem_of_find?_eq_some hx)
 · exact h0
structure Sch.fine (s : Sch) : Prop where
 t : s.tables.length ≤ lim
 i : s.indexes.length ≤ lim
 tc : ∀ t ∈ s.tables,t.cols.length ≤ lim
 ic : ∀ x ∈ s.indexes,x.cols.length ≤ lim
theorem zerT (h : Hf) : FrzL h [(.int .u32 0),(.str []),(.cst (.slice none 0 0)),(.int .u32 0)] (eTbl.cells Tbl.zero) :=
 .cons _ _ _ _ (.pure _ (by simp)) (.cons _ _ _ _ (.pure _ (by simp)) (.cons _ _ _ _ (.nil 2) (.cons _ _ _ _ (.pure _ (by simp)) .nil)))
theorem zerI (h : Hf) : FrzL h [(.int .u32 0),(.int .u32 0),(.str []),(.cst (.slice none 0 0)),(.bool false),(.int .u32 0)] (eIxd.cells Ixd.zero) :=
 .cons _ _ _ _ (.pure _ (by simp)) (.cons _ _ _ _ (.pure _ (by simp)) (.cons _ _ _ _ (.pure _ (by simp)) (.cons _ _ _ _ (.nil 0) (.cons _ _ _ _ (.pure _ (by simp)) (.cons _ _ _ _ (.pure _ (by simp)) .nil)))))
theorem named57 (s : Sch) (hs : s.fine) (name : List Nat) : FnPure Try.prog 57 [eSch.av s,.str name] (.tup [eTbl.av (s.named name).1,.bool (s.named name).2]):=by
 refine pureV c57 (by simp) (by simp) (by simp [A57]) fun F hF => ?_
 simp [A57,B57,R57_0,R57_1,hF,Enc.av,eSch_c]
 refine CalV.ok (first_ok eTbl (a68 ▸ c68) (by omega) (by omega) rfl rfl zerT (p:=fun t : Tbl => decide (t.name = name)) (y:=.cells 1 [] [.str name] .nil) s.tables hs.t _ _ (by omega) (by simp) (rLtB_list (by simp)) fun x _ K k hb ht => named92 x name _ K k hb ht) ?_
 simp
 refine CalV.pure (own67 _ _ (firstD_len (Q:=fun t : Tbl => t.cols.length ≤ lim) (by simp [Tbl.zero]) hs.tc)) ?_
 simp [Enc.av]
 exact .pure _ (by simp)
theorem table23 (s : Sch) (hs : s.fine) (i : Int) : FnPure Try.prog 23 [eSch.av s,.int .u32 i] (.tup [eTbl.av (s.table i).1,.bool (s.table i).2]):=by
 refine pureV c23 (by simp) (by simp) (by simp [A23]) fun F hF => ?_
 simp [A23,B23,R23_0,R23_1,hF,Enc.av,eSch_c]
 refine CalV.ok (first_ok eTbl (a68 ▸ c68) (by omega) (by omega) rfl rfl zerT (p:=fun t : Tbl => decide (t.id = i)) (y:=.cells 1 [] [.int .u32 i] .nil) s.tables hs.t _ _ (by omega) (by simp) (rLtB_list (by simp)) fun x _ K k hb ht => tbl69 x i _ K k hb ht) ?_
 simp
 refine CalV.pure (own67 _ _ (firstD_len (Q:=fun t : Tbl => t.cols.length ≤ lim) (by simp [Tbl.zero]) hs.tc)) ?_
 simp [Enc.av]
 exact .pure _ (by simp)
theorem index21 (s : Sch) (hs : s.fine) (name : List Nat) : FnPure Try.prog 21 [eSch.av s,.str name] (.tup [eIxd.av (s.index name).1,.bool (s.index name).2]):=by
 refine pureV c21 (by simp) (by simp) (by simp [A21]) fun F hF => ?_
 simp [A21,B21,R21_0,R21_1,hF,Enc.av,eSch_c]
 refine CalV.ok (first_ok eIxd (a65 ▸ c65) (by omega) (by omega) rfl rfl zerI (p:=fun x : Ixd => decide (x.name = name)) (y:=.cells 1 [] [.str name] .nil) s.indexes hs.i _ _ (by omega) (by simp) (rLtB_list (by simp)) fun x _ K k hb ht => idx66 x name _ K k hb ht) ?_
 simp
 refine CalV.pure (own64 _ _ (firstD_len (Q:=fun t : Ixd => t.cols.length ≤ lim) (by simp [Ixd.zero]) hs.ic)) ?_
 simp [Enc.av]
 exact .pure _ (by simp)
def bdS (s : Sch) (err : Int) : ABlk:=bdr (eTbl.ds s.tables) (eIxd.ds s.indexes) err
theorem bdS_rlt (s : Sch) (err : Int) (n : Nat) : RLtB n (bdS s err):=rLtB_list (PureL.rlt (by simp))
theorem binV {g : FuncId} {c : CF} {args : List AV} {H : Hp} {n p : Nat} {v0 : AV} {s : Sch} {err err' : Int} (hc : ctF Try.prog g = some c) (hl : (AV.ptr p 0 :: args).length ≤ c.nt) (hp : PureL args) (hpn : p < n) (hb : H.get p = some (bdS s err))
  (h : ∀ (F : Fr) (H0 : Hp),(∀ i,F.get i = (AV.ptr p 0 :: args)[i]?) → Top H0 n → H0.get p = some (bdS s err) → VC Try.prog c.code F H0 n [] (RetQ c.res fun v K _ => Frz (above n K) v v0 ∧ (∀ c,c < n → c ≠ p → K.get c = H0.get c) ∧ K.get p = some (bdS s err'))) :
  CallOk Try.prog g (.ptr p 0 :: args) H n v0 (H.put p (some (bdS s err'))) n:=by
 refine CallR.okB (p:=p) [p] (by simp) (by simp [hpn,hp.rlt]) (by simpa using hpn) (fun b hm k hk => ?_) (bdS_rlt _ _ _) fun H0 ht hin => ?_
 · simp at hm; subst hm; rw [hb] at hk; injection hk with hk; subst hk; exact bdS_rlt _ _ _
 refine (CallR.of hc hl fun F hF => h F H0 hF ht ((hin p (by simp)).trans hb)).mono fun v K k ⟨h1,h2,h3⟩ => ⟨h1,h2,_,h3,.inl rfl⟩
theorem failB (p : Nat) (s : Sch) (err e : Int) (is : Bool) (H : Hp) (n : Nat) (hpn : p < n) (hp : H.get p = some (bdS s err)) :
  CallOk Try.prog 22 [.ptr p 0,.int .i64 e,.bool is] H n (.tup []) (H.put p (some (bdS s (keep err e is)))) n:=fail22 p _ _ err e is H n (by simp) (by simp) hpn hp
theorem table19 (s : Sch) (hs : s.fine) (name : List Nat) (p : Nat) (err : Int) (H : Hp) (n : Nat) (hpn : p < n) (hp : H.get p = some (bdS s err)) :
  CallOk Try.prog 19 [.ptr p 0,.str name] H n (eTbl.av (s.named name).1) (H.put p (some (bdS s (keep err 200 (!(s.named name).2))))) n:=by
 refine binV c19 (by simp [A19]) (by simp) hpn hp fun F H0 hF ht hp0 => ?_
 have q:=neC hpn
 have q':=neD hpn
 simp only [bdS,bdr] at hp0
 simp [A19,B19,R19_0,R19_1,hF,hp0,q]
 refine CalV.pure (named57 s hs name) ?_
 generalize s.named name = t
 simp [R19_2,hF,Enc.av]
 refine CalV.ok (failB p s err 200 (!t.2) _ _ (by omega) (by simp [q,hp0,bdS,bdr])) ?_
 simp [R19_3,q,q']
 refine ⟨.pure _ (by simp),fun c h1 h2 => ?_⟩
 simp [h2,neC h1]
theorem expr71 (ns : List (List Nat)) (ts : List Tbl) (hn : ns.length = ts.length) (hl : (kindsS ts).length ≤ lim) (ht : ts.length ≤ lim) (hc : ∀ t ∈ ts,t.cols.length ≤ lim) (s : Sch) (e : Ex) (he : e.sz ≤ lim) (hm : e.may = true) (p : Nat) (err : Int) (H : Hp) (n : Nat) (hpn : p < n) (hp : H.get p = some (bdS s err)) :
  CallOk Try.prog 71 [.ptr p 0,.agg (scC ns ts) 2,e.av] H n (.tup [(e.bd ns ts err).1.av,.int .i64 (e.bd ns ts err).2.1]) (H.put p (some (bdS s (e.bd ns ts err).2.2))) n:=by
 refine binV c71 (by simp [A71]) (by simp [scC,Ex.av]) hpn hp fun F H0 hF htop hp0 => ?_
 have q:=neC hpn
 have q':=neD hpn
 simp [A71,B71,R71_0,R71_1,hF,scC]
 refine CalV.pure (kinds94p ns ts hl ht hc) ?_
 simp [R71_2,R71_3,R71_4]
 refine CalV.ok (walk95 ns ts (eTbl.ds s.tables) (eIxd.ds s.indexes) (by simp) (by simp) hn hl ht hc lim e err _ _ (n + 1) n (n + 1 + 1 + 1 + 1) (n + 1 + 1 + 1 + 1 + 1) p he (Nat.le_refl _) hm ⟨by simp [scC],by simp,by simp,by simp,by simp [q,hp0]; rfl,by omega,by omega,by omega,by omega,by omega⟩) ?_
 generalize e.bd ns ts err = X
 obtain ⟨x1,kd,er⟩:=X
 have q3 : (n + 1 + 1 + 1 = p) = False:=by simp only [eq_iff_iff,iff_false]; omega
 simp [q3,q]
 refine ⟨.pure _ (by simp),fun c h1 h2 => ?_,rfl⟩
 simp [h2,neC h1]
theorem conj72 (e : Ex) (h : e.sz ≤ lim) : FnPure Try.prog 72 [e.av] (eEx.ds e.split):=by
 refine FnPure.ofR (by simp [Ex.av]) (by simp) ((conj10 e h .nil 0).callR.mono fun v H' n' ⟨h1,h2,h3⟩ => ?_)
 subst h1 h2
 rw [Enc.ds,eEx_l]
 exact .sl _ _ _ _ (e.split.length * 8) [] (Ex.cellsL e.split) .nil (Ex.cellsL e.split) _ (by simp) (by simp) (FrzL.pure (Ex.pureLC _))
noncomputable def condB (ns : List (List Nat)) (ts : List Tbl) (e : Ex) (err : Int) : List Ex × Int :=
 if e.bare 0 then ([],err) else ((e.bd ns ts err).1.split,keep (e.bd ns ts err).2.2 203 (decide ((e.bd ns ts err).2.1 ≠ 3) && decide ((e.bd ns ts err).2.1 ≠ 0)))
mutual
theorem Ex.bd_sz (ns : List (List Nat)) (ts : List Tbl) : ∀ (e : Ex) (err : Int),(e.bd ns ts err).1.sz ≤ e.sz
 | .mk op v t m col args,err => by
  unfold Ex.bd
  split
  ·
   split
   · simp [Ex.sz,Ex.szL]
   · exact Nat.le_refl _
  ·
   split
   · exact Nat.le_refl _
   ·
    have:=Ex.bdL_sz ns ts args err
    simp only [Ex.sz]; omega
theorem Ex.bdL_sz (ns : List (List Nat)) (ts : List Tbl) : ∀ (l : List Ex) (err : Int),Ex.szL (Ex.bdL ns ts l err).1 ≤ Ex.szL l
 | [],err => by simp [Ex.bdL]
 | e :: r,err => by
  have h1:=Ex.bd_sz ns ts e err
  have h2:=Ex.bdL_sz ns ts r (e.bd ns ts err).2.2
  simp only [Ex.bdL,Ex.szL]; omega
end
theorem cond25 (ns : List (List Nat)) (ts : List Tbl) (hn : ns.length = ts.length) (hl : (kindsS ts).length ≤ lim) (ht : ts.length ≤ lim) (hc : ∀ t ∈ ts,t.cols.length ≤ lim) (s : Sch) (e : Ex) (he : e.sz ≤ lim) (hm : e.maybe = true) (p : Nat) (err : Int) (H : Hp) (n : Nat) (hpn : p < n) (hp : H.get p = some (bdS s err)) :
  CallOk Try.prog 25 [.ptr p 0,.agg (scC ns ts) 2,e.av] H n (eEx.ds (condB ns ts e err).1) (H.put p (some (bdS s (condB ns ts e err).2))) n:=by
 refine binV c25 (by simp [A25]) (by simp [scC,Ex.av]) hpn hp fun F H0 hF htop hp0 => ?_
 have q:=neC hpn
 have q':=neD hpn
 by_cases h0 : e.bare 0
 ·
  have hb : condB ns ts e err = ([],err):=by simp [condB,h0]
  rw [hb]
  obtain ⟨op,v,t,m,col,args⟩:=e
  have hop : op = 0:=h0.1
  simp [A25,B25,R25_0,R25_1,R25_2,hF,scC,Ex.av,Ex.cells,hop,q,hp0]
  refine ⟨.nil 7,fun c h1 h2 => ?_⟩
  simp [neC h1]
 ·
  have hmay : e.may = true:=by simpa [Ex.maybe,h0] using hm
  have hop : ∀ op v t m col args,e = .mk op v t m col args → ¬ op = 0:=by
   rintro op v t m col args rfl rfl
   simp [Ex.may] at hmay
  have hsz:=Ex.bd_sz ns ts e err
  have hx:=expr71 ns ts hn hl ht hc s e he hmay p err
  have hb : condB ns ts e err = ((e.bd ns ts err).1.split,keep (e.bd ns ts err).2.2 203 (decide ((e.bd ns ts err).2.1 ≠ 3) && decide ((e.bd ns ts err).2.1 ≠ 0))):=by simp [condB,h0]
  rw [hb]
  generalize e.bd ns ts err = X at hx hsz ⊢
  obtain ⟨x1,kd,er⟩:=X
  have hcj:=conj72 x1 (by simp at hsz; omega)
  obtain ⟨op,v,t,m,col,args⟩:=e
  have hop:=hop op v t m col args rfl
  have hx:=fun H n => hx H n
  simp only [Ex.av,Ex.cells] at hx
  simp [A25,B25,R25_0,R25_1,R25_3,hF,scC,Ex.av,Ex.cells,hop]
  refine CalV.ok (hx _ _ (by omega) (by simpa [q] using hp0)) ?_
  by_cases h3 : kd = 3
  ·
   simp [R25_4,hF,h3]
   refine CalV.ok (failB p s er 203 false _ _ (by omega) (by simp [q])) ?_
   simp [R25_5,q']
   refine CalV.pure hcj ?_
   simp
   refine ⟨.pure _ (by simp),fun c h1 h2 => ?_⟩
   simp [h2,neC h1]
  ·
   by_cases h4 : kd = 0
   ·
    simp [R25_4,hF,h4]
    refine CalV.ok (failB p s er 203 false _ _ (by omega) (by simp [q])) ?_
    simp [R25_5,q']
    refine CalV.pure hcj ?_
    simp
    refine ⟨.pure _ (by simp),fun c h1 h2 => ?_⟩
    simp [h2,neC h1]
   ·
    simp [R25_4,hF,h3,h4]
    refine CalV.ok (failB p s er 203 true _ _ (by omega) (by simp [q])) ?_
    simp [R25_5,q']
    refine CalV.pure hcj ?_
    simp
    refine ⟨.pure _ (by simp),fun c h1 h2 => ?_⟩
    simp [h2,neC h1]
theorem fit70 (ns : List (List Nat)) (ts : List Tbl) (hn : ns.length = ts.length) (hl : (kindsS ts).length ≤ lim) (ht : ts.length ≤ lim) (hc : ∀ t ∈ ts,t.cols.length ≤ lim) (s : Sch) (e : Ex) (he : e.sz ≤ lim) (hm : e.may = true) (kind : Int) (p : Nat) (err : Int) (H : Hp) (n : Nat) (hpn : p < n) (hp : H.get p = some (bdS s err)) :
  CallOk Try.prog 70 [.ptr p 0,.agg (scC ns ts) 2,e.av,.int .i64 kind] H n (e.bd ns ts err).1.av (H.put p (some (bdS s (keep (e.bd ns ts err).2.2 203 (decide ((e.bd ns ts err).2.1 ≠ 0) && decide ((e.bd ns ts err).2.1 ≠ kind)))))) n:=by
 refine binV c70 (by simp [A70]) (by simp [scC,Ex.av]) hpn hp fun F H0 hF htop hp0 => ?_
 have q:=neC hpn
 have q':=neD hpn
 have hx:=fun H n => expr71 ns ts hn hl ht hc s e he hm p err H n
 generalize e.bd ns ts err = X at hx ⊢
 obtain ⟨x1,kd,er⟩:=X
 have hav : e.av = .agg e.cells 8:=Eq.trans rfl rfl
 simp only [hav] at hx
 simp [A70,B70,R70_0,R70_1,hF,scC]
 refine CalV.ok (hx _ _ (by omega) (by simp [q,hp0])) ?_
 by_cases h3 : kd = 0
 ·
  simp [R70_2,hF,h3]
  refine CalV.ok (failB p s er 203 false _ _ (by omega) (by simp [q])) ?_
  simp [R70_3,q',q]
  refine ⟨.pure _ (by simp),fun c h1 h2 => ?_⟩
  simp [h2,neC h1]
 ·
  by_cases h4 : kd = kind
  ·
   subst h4
   simp [R70_2,hF,h3]
   refine CalV.ok (failB p s er 203 false _ _ (by omega) (by simp [q])) ?_
   simp [R70_3,q',q]
   refine ⟨.pure _ (by simp),fun c h1 h2 => ?_⟩
   simp [h2,neC h1]
  ·
   simp [R70_2,hF,h3,h4]
   refine CalV.ok (failB p s er 203 true _ _ (by omega) (by simp [q])) ?_
   simp [R70_3,q',q]
   refine ⟨.pure _ (by simp),fun c h1 h2 => ?_⟩
   simp [h2,neC h1]
theorem alone26 (t : Tbl) : FnPure Try.prog 26 [eTbl.av t] (.agg (scC [t.name] [t]) 2):=by
 refine pureV c26 (by simp) (by simp [scC]) (by simp [A26]) fun F hF => ?_
 simp [A26,B26,R26_0,R26_1,hF,Enc.av,eTbl_c]
 exact .agg _ _ _ (.cons _ _ _ _ (.sl 2 0 1 1 1 [] [.str t.name] .nil [.str t.name] _ (by simp) (by simp) (FrzL.pure (by simp))) (.cons _ _ _ _ (.sl 3 0 1 4 4 [] [.int .u32 t.id,.str t.name,eCol.ds t.cols,.int .u32 t.head] .nil [.int .u32 t.id,.str t.name,eCol.ds t.cols,.int .u32 t.head] _ (by simp) (by simp) (FrzL.pure (by simp))) .nil))
def eRow : Enc (List Ex) 1:=⟨fun l => [eEx.ds l],fun _ => rfl,fun _ => by simp,fun _ => by simp [Enc.ds]⟩
def eKey : Enc (Int × Bool) 2:=⟨fun k => [.int .i64 k.1,.bool k.2],fun _ => rfl,fun _ => by simp,fun _ => by simp⟩
theorem eRow_c (l : List Ex) : eRow.cells l = [eEx.ds l]:=rfl
theorem eKey_c (k : Int × Bool) : eKey.cells k = [.int .i64 k.1,.bool k.2]:=rfl
theorem eSet_c (x : St1) : eSet.cells x = .str x.name :: x.e.cells:=rfl
theorem eItm_c (x : Itm) : eItm.cells x = x.e.cells ++ [.str x.name]:=rfl
theorem eSrc_c (x : Src) : eSrc.cells x = .str x.table :: .str x.name :: x.cond.cells:=rfl
theorem eOrd_c (x : Ord) : eOrd.cells x = [.str x.name,.bool x.desc]:=rfl
theorem eEx_c (e : Ex) : eEx.cells e = e.cells:=rfl
@[simp] theorem Enc.ds_len1 {α : Type} {k : Nat} (E : Enc α k) (l : List α) : (E.ds l).len = 1:=Eq.trans rfl rfl
@[simp] theorem Enc.ds_cells1 {α : Type} {k : Nat} (E : Enc α k) (l : List α) : (E.ds l).cells = [E.ds l]:=Eq.trans rfl rfl
@[simp] theorem Enc.ds_one {α : Type} {k : Nat} (E : Enc α k) (l : List α) : (E.ds l).one = true:=Eq.trans rfl rfl
structure Stm where
 kind : Int
 table : List Nat
 name : List Nat
 cols : List Col
 on : List (List Nat)
 uniq : Bool
 rows : List (List Ex)
 sets : List St1
 cond : Ex
 q : Qry
def Stm.cells (x : Stm) : List AV:=.int .i64 x.kind :: .str x.table :: .str x.name :: eCol.ds x.cols :: eStr.ds x.on :: .bool x.uniq :: eRow.ds x.rows :: eSet.ds x.sets :: (x.cond.cells ++ x.q.cells)
@[simp] theorem Qry.cells_len' (q : Qry) : q.cells.length = 15:=q.cells_len
@[simp] theorem Stm.cells_len (x : Stm) : x.cells.length = 31:=by simp [Stm.cells]
@[simp] theorem Stm.pure (x : Stm) : PureL x.cells:=by simp [Stm.cells,Qry.pure]
def Stm.av (x : Stm) : AV:=.agg x.cells 31
@[simp] theorem Stm.pureA (x : Stm) : Pure x.av:=by simp [Stm.av]
theorem Stm.c1 (x : Stm) (h : 1 < x.cells.length) : x.cells[1] = .str x.table:=by simp [Stm.cells]
theorem Stm.c2 (x : Stm) (h : 2 < x.cells.length) : x.cells[2] = .str x.name:=by simp [Stm.cells]
theorem Stm.c3 (x : Stm) (h : 3 < x.cells.length) : x.cells[3] = eCol.ds x.cols:=by simp [Stm.cells]
theorem Stm.c4 (x : Stm) (h : 4 < x.cells.length) : x.cells[4] = eStr.ds x.on:=by simp [Stm.cells]
theorem Stm.c5 (x : Stm) (h : 5 < x.cells.length) : x.cells[5] = .bool x.uniq:=by simp [Stm.cells]
theorem Stm.c6 (x : Stm) (h : 6 < x.cells.length) : x.cells[6] = eRow.ds x.rows:=by simp [Stm.cells]
theorem Stm.c7 (x : Stm) (h : 7 < x.cells.length) : x.cells[7] = eSet.ds x.sets:=by simp [Stm.cells]
theorem Stm.cc (x : Stm) : (x.cells.drop 8).take 8 = x.cond.cells:=by
 simp only [Stm.cells,List.drop_succ_cons,List.drop_zero]
 rw [List.take_append_of_le_length (by simp),List.take_of_length_le (by simp)]
theorem Stm.cq (x : Stm) : x.cells.drop 16 = x.q.cells:=by
 simp only [Stm.cells,List.drop_succ_cons]
 rw [List.drop_append_of_le_length (by simp),List.drop_eq_nil_of_le (by simp),List.nil_append]
structure Bnd where
 kind : Int
 name : List Nat:=[]
 table : Tbl:=Tbl.zero
 index : Ixd:=Ixd.zero
 cols : List Col:=[]
 rows : List (List Ex):=[]
 new : List Ex:=[]
 frm : List Tbl:=[]
 on : List (List Ex):=[]
 cond : List Ex:=[]
 items : List Ex:=[]
 names : List (List Nat):=[]
 kinds : List Int:=[]
 order : List (Int × Bool):=[]
 dist : Bool:=false
 limited : Bool:=false
 limit : Int:=0
def Bnd.cells (b : Bnd) : List AV:=[.int .i64 b.kind,.str b.name,.int .u32 b.table.id,.str b.table.name,eCol.ds b.table.cols,.int .u32 b.table.head,.int .u32 b.index.id,.int .u32 b.index.table,.str b.index.name,eInt.ds b.index.cols,.bool b.index.uniq,.int .u32 b.index.root,
 eCol.ds b.cols,eRow.ds b.rows,eEx.ds b.new,eTbl.ds b.frm,eRow.ds b.on,eEx.ds b.cond,eEx.ds b.items,eStr.ds b.names,eInt.ds b.kinds,eKey.ds b.order,.bool b.dist,.bool b.limited,.int .i64 b.limit]
@[simp] theorem Bnd.pure (b : Bnd) : PureL b.cells:=by simp [Bnd.cells]
def nilV : AV:=.cst (.slice none 0 0)
def outZ (kind : Int) : List AV:=[.int .i64 kind,.str [],.int .u32 0,.str [],.cst (.slice none 0 0),.int .u32 0,.int .u32 0,.int .u32 0,.str [],.cst (.slice none 0 0),.bool false,.int .u32 0,
 .cst (.slice none 0 0),.cst (.slice none 0 0),.cst (.slice none 0 0),.cst (.slice none 0 0),.cst (.slice none 0 0),.cst (.slice none 0 0),.cst (.slice none 0 0),.cst (.slice none 0 0),.cst (.slice none 0 0),.cst (.slice none 0 0),.bool false,.bool false,.int .i64 0]
def FIL (h : Hf) : List AV → List AV → Prop
 | [],[] => True
 | v :: l,v' :: l' => FI h v v' ∧ FIL h l l'
 | _,_ => False
@[simp] theorem filNil (h : Hf) : FIL h [] [] = True:=by simp [FIL]
@[simp] theorem filCons (h : Hf) (v v' : AV) (l l' : List AV) : FIL h (v :: l) (v' :: l') = (FI h v v' ∧ FIL h l l'):=by simp [FIL]
@[simp] theorem fiRfl (h : Hf) (v : AV) : FI h v v = True:=by simp [FI]
@[simp] theorem fiNil {α : Type} {k : Nat} (h : Hf) (E : Enc α (k + 1)) : FI h (.cst (.slice none 0 0)) (E.ds []) = True:=by
 simp only [eq_iff_iff,iff_true]; exact .inr (.nil k)
theorem FIL.at {h : Hf} : ∀ {l l' : List AV},FIL h l l' → l'.length = l.length ∧ ∀ (i : Nat) v',l'[i]? = some v' → ∃ v,l[i]? = some v ∧ FI h v v'
 | [],[],_ => ⟨rfl,fun i v' hv => by simp at hv⟩
 | [],_ :: _,k => by simp [FIL] at k
 | _ :: _,[],k => by simp [FIL] at k
 | v :: l,v' :: l',k => by
  simp only [filCons] at k
  obtain ⟨h1,h2⟩:=FIL.at k.2
  refine ⟨by simp [h1],fun i w hw => ?_⟩
  cases i with
  | zero => simp at hw; subst hw; exact ⟨v,rfl,k.1⟩
  | succ i => simpa using h2 i w (by simpa using hw)
theorem FIL.bz {h : Hf} {l l' : List AV} {u : Nat} (k : FIL h l l') (hu : l.length = u) : BZ h (.cells u [] l .nil) (.cells u [] l' .nil):=by
 obtain ⟨h1,h2⟩:=k.at
 refine .inr ⟨u,[],l,.nil,l',rfl,rfl,by omega,fun i v' hv => ?_⟩
 obtain ⟨v,h3,h4⟩:=h2 i v' hv
 refine ⟨v,?_,h4⟩
 rw [getc_list,if_pos (by have:=(List.getElem?_eq_some_iff.1 h3).1; omega)]
 exact h3
theorem FIL.refl (h : Hf) : ∀ l : List AV,FIL h l l
 | [] => by simp
 | v :: l => by simp [FIL.refl h l]
theorem binO {g : FuncId} {c : CF} {args : List AV} {H : Hp} {n p o : Nat} {v0 : AV} {s : Sch} {err err' : Int} {l0 l1 : List AV} (hc : ctF Try.prog g = some c) (hl : (AV.ptr p 0 :: (args ++ [.ptr o 0])).length ≤ c.nt) (hp : PureL args) (hpn : p < n) (hon : o < n) (hpo : p ≠ o) (hb : H.get p = some (bdS s err)) (ho : H.get o = some (.cells 25 [] l0 .nil)) (hr0 : RLtL n l0) (hr1 : RLtL n l1)
  (h : ∀ (F : Fr) (H0 : Hp),(∀ i,F.get i = (AV.ptr p 0 :: (args ++ [.ptr o 0]))[i]?) → Top H0 n → H0.get p = some (bdS s err) → H0.get o = some (.cells 25 [] l0 .nil) →
   VC Try.prog c.code F H0 n [] (RetQ c.res fun v K _ => Frz (above n K) v v0 ∧ (∀ c,c < n → c ≠ p → c ≠ o → K.get c = H0.get c) ∧ K.get p = some (bdS s err') ∧ ∃ l,K.get o = some (.cells 25 [] l .nil) ∧ l.length = 25 ∧ FIL (above n K) l l1)) :
  CallOk Try.prog g (.ptr p 0 :: (args ++ [.ptr o 0])) H n v0 ((H.put p (some (bdS s err'))).put o (some (.cells 25 [] l1 .nil))) n:=by
 refine CallR.okZ [p,o] ?_ (by simp [hpn,hon]) (fun b hm k hk => ?_) (fun b hm k hk => ?_) (fun b hm => ?_) ?_
 ·
  simp only [rLtL_cons,rLt_ptr]
  refine ⟨hpn,RLtL.of fun v hv => ?_⟩
  rcases List.mem_append.1 hv with h1 | h1
  · exact (hp.rlt (n:=n)).mem v h1
  · simp at h1; subst h1; simpa using hon
 ·
  simp only [List.mem_cons,List.not_mem_nil,or_false] at hm
  rcases hm with rfl | rfl
  · rw [hb] at hk; injection hk with hk; subst hk; exact bdS_rlt _ _ _
  · rw [ho] at hk; injection hk with hk; subst hk; exact rLtB_list hr0
 ·
  simp only [List.mem_cons,List.not_mem_nil,or_false] at hm
  rcases hm with rfl | rfl
  · simp [hpo] at hk; subst hk; exact bdS_rlt _ _ _
  · simp at hk; subst hk; exact rLtB_list hr1
 · simp at hm; simp [hm.1,hm.2]
 ·
  refine (CallR.of hc hl fun F hF => h F _ hF (pick_top (by simp [hpn,hon])) ((pick_in (by simp)).trans hb) ((pick_in (by simp)).trans ho)).mono fun v K k ⟨h1,h2,h3,l,h4,h5,h6⟩ => ⟨h1,fun b hm y hy => ?_⟩
  simp only [List.mem_cons,List.not_mem_nil,or_false] at hm
  rcases hm with rfl | rfl
  · simp [hpo] at hy; subst hy; exact ⟨_,h3,.inl rfl⟩
  · simp at hy; subst hy; exact ⟨_,h4,h6.bz h5⟩
theorem col59 (d : Col) (c : Col) (b : Nat) (H : Hp) (n : Nat) (hb : H.get b = some (.cells 3 [] (eCol.cells c) .nil)) (ht : Top H n) : CallR Try.prog 59 [eCol.av d,.ptr b 0] H n (fun u K k => u = .bool (decide (d.name = c.name)) ∧ K = H ∧ k = n):=by
 refine CallR.forget (by simp) (CallR.of c59 (by simp [A59]) fun F hF => ?_)
 have q : ¬ b = n:=by have:=ht.lt hb; omega
 simp [A59,B59,R59_0,R59_1,hF,Enc.av,eCol_c,q,hb]
 rintro c hc rfl
 exact absurd (ht _ (Nat.le_refl _)) hc
theorem col62 (d : Col) (s : List Nat) (b : Nat) (H : Hp) (n : Nat) (hb : H.get b = some (.cells 1 [] [.str s] .nil)) (ht : Top H n) : CallR Try.prog 62 [eCol.av d,.ptr b 0] H n (fun u K k => u = .bool (decide (d.name = s)) ∧ K = H ∧ k = n):=by
 refine CallR.forget (by simp) (CallR.of c62 (by simp [A62]) fun F hF => ?_)
 have q : ¬ b = n:=by have:=ht.lt hb; omega
 simp [A62,B62,R62_0,R62_1,hF,Enc.av,eCol_c,q,hb]
 rintro c hc rfl
 exact absurd (ht _ (Nat.le_refl _)) hc
theorem col73 (d : Col) (x : St1) (b : Nat) (H : Hp) (n : Nat) (hb : H.get b = some (.cells 9 [] (eSet.cells x) .nil)) (ht : Top H n) : CallR Try.prog 73 [eCol.av d,.ptr b 0] H n (fun u K k => u = .bool (decide (d.name = x.name)) ∧ K = H ∧ k = n):=by
 refine CallR.forget (by simp) (CallR.of c73 (by simp [A73]) fun F hF => ?_)
 have q : ¬ b = n:=by have:=ht.lt hb; omega
 simp [A73,B73,R73_0,R73_1,hF,Enc.av,eCol_c,eSet_c,q,hb]
 rintro c hc rfl
 exact absurd (ht _ (Nat.le_refl _)) hc
theorem set75 (y : St1) (x : St1) (b : Nat) (H : Hp) (n : Nat) (hb : H.get b = some (.cells 9 [] (eSet.cells x) .nil)) (ht : Top H n) : CallR Try.prog 75 [eSet.av y,.ptr b 0] H n (fun u K k => u = .bool (decide (y.name = x.name)) ∧ K = H ∧ k = n):=by
 refine CallR.forget (by simp) (CallR.of c75 (by simp [A75]) fun F hF => ?_)
 have q : ¬ b = n:=by have:=ht.lt hb; omega
 simp [A75,B75,R75_0,R75_1,hF,Enc.av,eSet_c,q,hb]
 rintro c hc rfl
 exact absurd (ht _ (Nat.le_refl _)) hc
theorem idxCol {f : FuncId} {first cap : List AV} {p : Col → Bool} {H : Hp} {n : Nat} (l : List Col) (hl : l.length ≤ lim) (hp : ∀ x ∈ l,CallR Try.prog f (first ++ ([eCol.av x] ++ cap)) H n (fun u K k => u = .bool (p x) ∧ K = H ∧ k = n)) :
  CallR Try.prog 61 [eCol.ds l,.fn (.func f) first cap] H n (fun u K k => u = .int .i64 (idxI p l) ∧ K = H ∧ k = n) :=
 idx_ok (el:=eCol.av) c61 hl (eCol.len_ds _) (fun i h => ⟨_,eCol.ix h,fun F H n h14 => by simp [h14,eCol.ldN]⟩) hp
theorem conCol {f : FuncId} {first cap : List AV} {p : Col → Bool} {H : Hp} {n : Nat} (l : List Col) (hl : l.length ≤ lim) (hp : ∀ x ∈ l,CallR Try.prog f (first ++ ([eCol.av x] ++ cap)) H n (fun u K k => u = .bool (p x) ∧ K = H ∧ k = n)) :
  CallR Try.prog 58 [eCol.ds l,.fn (.func f) first cap] H n (fun u K k => u = .bool (l.any p) ∧ K = H ∧ k = n) :=
 con_ok c58 (idxCol l hl hp)
theorem idxSet {f : FuncId} {first cap : List AV} {p : St1 → Bool} {H : Hp} {n : Nat} (l : List St1) (hl : l.length ≤ lim) (hp : ∀ x ∈ l,CallR Try.prog f (first ++ ([eSet.av x] ++ cap)) H n (fun u K k => u = .bool (p x) ∧ K = H ∧ k = n)) :
  CallR Try.prog 98 [eSet.ds l,.fn (.func f) first cap] H n (fun u K k => u = .int .i64 (idxI p l) ∧ K = H ∧ k = n) :=
 idx_ok (el:=eSet.av) c98 hl (eSet.len_ds _) (fun i h => ⟨_,eSet.ix h,fun F H n h14 => by simp [h14,eSet.ldN]⟩) hp
theorem conSet {f : FuncId} {first cap : List AV} {p : St1 → Bool} {H : Hp} {n : Nat} (l : List St1) (hl : l.length ≤ lim) (hp : ∀ x ∈ l,CallR Try.prog f (first ++ ([eSet.av x] ++ cap)) H n (fun u K k => u = .bool (p x) ∧ K = H ∧ k = n)) :
  CallR Try.prog 74 [eSet.ds l,.fn (.func f) first cap] H n (fun u K k => u = .bool (l.any p) ∧ K = H ∧ k = n) :=
 con_ok c74 (idxSet l hl hp)
def keeps (e : Int) (p : Nat → Bool) : Nat → Int → Int
 | 0,err => err
 | n + 1,err => keep (keeps e p n err) e (p n)
def colAt (l : List Col) (i : Nat) : Col:=l.getD i ⟨[],0,false⟩
theorem colAt_lt {l : List Col} {i : Nat} (h : i < l.length) : colAt l i = l[i]:=by simp [colAt,h]
noncomputable def colDup (l : List Col) (i : Nat) : Bool:=(l.take i).any fun d => decide (d.name = (colAt l i).name)
noncomputable def createB (s : Sch) (x : Stm) (err : Int) : Bnd × Int:=({ kind:=x.kind,name:=x.table,cols:=x.cols },keeps 205 (colDup x.cols) x.cols.length (keep err 200 (s.named x.table).2))
theorem create18 (s : Sch) (hs : s.fine) (x : Stm) (hx : x.cols.length ≤ lim) (p o : Nat) (err : Int) (H : Hp) (n : Nat) (hpn : p < n) (hon : o < n) (hpo : p ≠ o) (hp : H.get p = some (bdS s err)) (ho : H.get o = some (.cells 25 [] (outZ x.kind) .nil)) :
  CallOk Try.prog 18 [.ptr p 0,x.av,.ptr o 0] H n (.tup []) ((H.put p (some (bdS s (createB s x err).2))).put o (some (.cells 25 [] (createB s x err).1.cells .nil))) n:=by
 refine binO (args:=[x.av]) c18 (by simp [A18]) (by simp) hpn hon hpo hp ho (PureL.rlt (by simp [outZ])) (PureL.rlt (by simp)) fun F H0 hF htop hp0 ho0 => ?_
 have hcr : createB s x err = ({ kind:=x.kind,name:=x.table,cols:=x.cols },keeps 205 (colDup x.cols) x.cols.length (keep err 200 (s.named x.table).2)):=rfl
 rw [hcr]
 have q:=neC hpn
 have q':=neD hpn
 have r:=neC hon
 have r':=neD hon
 have po : (p = o) = False:=by simp [hpo]
 have op : (o = p) = False:=by simp [hpo,eq_comm]
 have hnm:=named57 s hs x.table
 simp [A18,B18,R18_0,hF,Stm.av]
 simp only [R18_1,vc_drw]
 refine DrwV.of (ceT_ok (l:=[(57,[eSch.av s,.str x.table],fun H n => .mk (.tup [eTbl.av (s.named x.table).1,.bool (s.named x.table).2]) H n)]) ?_) ?_
 ·
  intro y hy
  simp only [List.mem_cons,List.not_mem_nil,or_false] at hy
  subst hy
  exact ceT_pure hnm
 ·
  have hp1 : H0.get p = some (.cells 3 [] [eTbl.ds s.tables,eIxd.ds s.indexes,.int .i64 err] .nil):=hp0
  have hsv : eSch.av s = .agg [eTbl.ds s.tables,eIxd.ds s.indexes] 2:=Eq.trans rfl rfl
  simp [clearF_get,hF,hp1,q,Stm.c1,hsv]
  rw [ceT_hd]
  generalize s.named x.table = tt at *
  have q1 : (n + 1 = n) = False:=by simp
  have top1 : ∀ k : ABlk,(H0.put n (some k)).get (n + 1) = none:=fun k => by simp [htop (n + 1) (by omega)]
  simp [Enc.av,noneAt_cons,noneAt_nil,top1]
  simp [R18_2,clearF_get,hF]
  refine CalV.ok (failB p s err 200 tt.2 _ _ (by omega) (by simp [q,hp0])) ?_
  simp [R18_3,clearF_get,q',Stm.c3,Enc.len_ds]
  generalize hK : Tr.put _ p _ = K1
  have k0 : ∀ c,c < n → c ≠ p → K1.get c = H0.get c:=fun c h1 h2 => by rw [← hK]; simp [h2,neC h1]
  have kp : K1.get p = some (bdS s (keep err 200 tt.2)):=by rw [← hK]; simp
  have kn : K1.get n = some (.cells 31 [] x.cells .nil):=by rw [← hK]; simp [q']
  have kt : Top K1 (n + 2):=fun c hc => by
   have e1 : ¬ c = n:=by omega
   have e2 : ¬ c = n + 1:=by omega
   have e3 : ¬ c = p:=by omega
   rw [← hK]; simp [e1,e2,e3,htop c (by omega)]
  clear hK top1
  unfold lim at hx
  refine LoopV.of (fun t F K m ms => ∃ i,t = x.cols.length - i ∧ i ≤ x.cols.length ∧ F.get 0 = some (.ptr p 0) ∧ F.get 2 = some (.ptr o 0) ∧ F.get 4 = some (.ptr n 0) ∧ F.get 24 = some (eCol.ds x.cols) ∧ F.get 25 = some (.int .i64 (x.cols.length : Int)) ∧ F.get 26 = some (.int .i64 (i : Int)) ∧ n + 2 ≤ m ∧ Top K m ∧ (∀ c,c < n → c ≠ p → K.get c = H0.get c) ∧ K.get n = some (.cells 31 [] x.cells .nil) ∧ K.get p = some (bdS s (keeps 205 (colDup x.cols) i (keep err 200 tt.2))) ∧ ms = []) x.cols.length ⟨0,by simp,by simp,by simp [clearF_get,hF],by simp [clearF_get,hF],by simp [clearF_get],by simp,by simp,by simp,by omega,kt,k0,kn,kp,rfl⟩ ?_
  clear hF F K1 k0 kp kn kt
  rintro t F K m ms ⟨i,rfl,hi,f0,f2,f4,f24,f25,f26,hm,tp,kf,kn,kp,rfl⟩
  by_cases hlt : i < x.cols.length
  ·
   have hix:=eCol.ix (ik:=.i64) hlt
   have hld:=fun H => eCol.ldN x.cols[i] (eCol.l (x.cols.drop (i + 1))) H
   have hsl:=eCol.slHi (show i ≤ x.cols.length by omega)
   have nm:=neC (show n < m by omega)
   simp [L18_0,R18_4,R18_5,R18_6,f0,f4,f24,f25,f26,hlt,hix,hld,kn,nm,Stm.c3,hsl,Enc.av]
   generalize hK1 : Tr.put _ m (some (ABlk.cells 3 [] (eCol.cells x.cols[i]) .nil)) = K1
   have g1 : ∀ c,c < m → K1.get c = K.get c:=fun c hc => by rw [← hK1]; simp [neC hc]
   have x1 : K1.get m = some (.cells 3 [] (eCol.cells x.cols[i]) .nil):=by rw [← hK1]; simp
   have t1 : Top K1 (m + 1):=fun c hc => by
    have e1 : ¬ c = m:=by omega
    rw [← hK1]; simp [e1,tp c (by omega)]
   clear hK1
   refine CalV.same (conCol (p:=fun d => decide (d.name = x.cols[i].name)) (first:=[]) (cap:=[.ptr m 0]) (x.cols.take i) (by simp; unfold lim; omega) fun d _ => col59 d _ m K1 (m + 1) x1 t1) ?_
   have hd : ((x.cols.take i).any fun d => decide (d.name = x.cols[i].name)) = colDup x.cols i:=by simp [colDup,colAt_lt hlt]
   rw [hd]
   simp
   refine CalV.ok (failB p s _ 205 (colDup x.cols i) _ _ (by omega) ((g1 p (by omega)).trans kp)) ?_
   simp [R18_7,f26,wrap_nat i (by omega)]
   have k2 : ∀ c,c ≠ p → (K1.put p (some (bdS s (keep (keeps 205 (colDup x.cols) i (keep err 200 tt.2)) 205 (colDup x.cols i))))).get c = K1.get c:=fun c hc => by simp [hc]
   exact ⟨_,by omega,i + 1,rfl,hlt,f0,f2,f4,f24,f25,by simp,by omega,fun c hc => (k2 c (by omega)).trans (t1 c hc),fun c h1 h2 => by rw [if_neg h2]; exact (g1 c (by omega)).trans (kf c h1 h2),by rw [if_neg (by omega)]; exact (g1 n (by omega)).trans kn,by simp [keeps]⟩
  ·
   have hie : i = x.cols.length:=by omega
   subst hie
   simp [L18_0,R18_4,f25,f26]
   simp only [R18_8,vc_drw]
   have ko:=(kf o hon (by omega)).trans ho0
   have hcl:=clone60 x.cols (by unfold lim; omega)
   refine DrwV.of (ceT_ok (l:=[(60,[eCol.ds x.cols],fun H n => .mk (eCol.ds x.cols) H n)]) ?_) ?_
   ·
    intro y hy
    simp only [List.mem_cons,List.not_mem_nil,or_false] at hy
    subst hy
    exact ceT_pure hcl
   ·
    have no : (n = o) = False:=by simp only [eq_iff_iff,iff_false]; omega
    simp only [outZ] at ko
    simp [clearF_get,f4,kn,Stm.c3]
    rw [ceT_hd]
    simp [clearF_get,f2,f4,kn,ko,Stm.c1,po]
    refine ⟨.pure _ (by simp),fun c h1 h2 h3 => ?_,?_,?_⟩
    · simp [h3,kf c h1 h2]
    · exact kp
    · simp [Bnd.cells,Tbl.zero,Ixd.zero]
end Go.Abs
