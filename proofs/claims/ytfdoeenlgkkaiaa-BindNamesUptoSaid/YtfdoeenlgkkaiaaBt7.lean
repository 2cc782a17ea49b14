/- A query's sources. -/
import Derived.Test.YtfdoeenlgkkaiaaBt6
namespace Go.Abs
open Go.Proofs
open Classical
set_option maxRecDepth 100000
def Src.nm (x : Src) : List Nat:=if x.name = [] then x.table else x.name
noncomputable def Sch.tb (s : Sch) (x : Src) : Tbl:=(s.named x.table).1
def srcAt (l : List Src) (i : Nat) : Src:=l.getD i ⟨[],[],.mk 0 ⟨0,0,[]⟩ [] [] 0 []⟩
theorem srcAt_lt {l : List Src} {i : Nat} (h : i < l.length) : srcAt l i = l[i]:=by simp [srcAt,h]
noncomputable def srcE (s : Sch) (l : List Src) : Nat → Int → Int
 | 0,err => err
 | i + 1,err => keep (keep (srcE s l i err) 200 (!(s.named (srcAt l i).table).2)) 205 (decide ((srcAt l i).nm ∈ (l.take i).map Src.nm))
structure SrM (H0 : Hp) (n p o : Nat) (s : Sch) (q : Qry) (kind : Int) (e : Int) (i : Nat) (vn vt : AV) (K : Hp) (m : Nat) : Prop where
 hm : n + 2 ≤ m
 tp : Top K m
 kf : ∀ b,b < n → b ≠ p → b ≠ o → K.get b = H0.get b
 kp : K.get p = some (bdS s e)
 kn : K.get n = some (.cells 15 [] q.cells .nil)
 ks : K.get (n + 1) = some (.cells 2 [] [vn,vt] .nil)
 ko : K.get o = some (.cells 25 [] (outZ kind) .nil)
 on : OwnS K m vn (eStr.l ((q.srcs.take i).map Src.nm)) i 1
 ot : OwnS K m vt (eTbl.l ((q.srcs.take i).map s.tb)) i 4
 dn : ∀ b,blk vn = some b → n + 2 ≤ b ∧ blk vt ≠ some b
 dt : ∀ b,blk vt = some b → n + 2 ≤ b
structure SrF (n p o : Nat) (q : Qry) (i : Nat) (F : Fr) : Prop where
 f0 : F.get 0 = some (.ptr p 0)
 f2 : F.get 2 = some (.ptr o 0)
 f4 : F.get 4 = some (.ptr n 0)
 f6 : F.get 6 = some (.ptr (n + 1) 0)
 f17 : F.get 17 = some (eSrc.ds q.srcs)
 f18 : F.get 18 = some (.int .i64 (q.srcs.length : Int))
 f19 : F.get 19 = some (.int .i64 (i : Int))
theorem SrM.next {H0 : Hp} {n p o : Nat} {s : Sch} {q : Qry} {kind e : Int} {i : Nat} {vn vt : AV} {K : Hp} {m : Nat} (M : SrM H0 n p o s q kind e i vn vt K m) (hpn : p < n) (hon : o < n) (hpo : p ≠ o) {K' : Hp} {m' : Nat} {e' : Int} (hm : m ≤ m') (ht : Top K' m') (hk : ∀ b,b < m → b ≠ p → K'.get b = K.get b) (hp : K'.get p = some (bdS s e')) : SrM H0 n p o s q kind e' i vn vt K' m':=by
 have hm0:=M.hm
 exact ⟨by omega,ht,fun b h1 h2 h3 => (hk b (by omega) h2).trans (M.kf b h1 h2 h3),hp,(hk n (by omega) (by omega)).trans M.kn,(hk (n + 1) (by omega) (by omega)).trans M.ks,(hk o (by omega) (by omega)).trans M.ko,
  M.on.frame hm fun b hb => hk b (M.on.blkLt hb) (by have:=(M.dn b hb).1; omega),M.ot.frame hm fun b hb => hk b (M.ot.blkLt hb) (by have:=M.dt b hb; omega),M.dn,M.dt⟩
theorem query28d (n p o : Nat) (hpn : p < n) (hon : o < n) (_hpo : p ≠ o) (H0 : Hp) (s : Sch) (q : Qry) (kind e : Int) (i : Nat) (hlt : i < q.srcs.length) (hlim : i < lim) (a : Nat)
  (F : Fr) (K : Hp) (m : Nat) (Q : QA) (vn vt : AV) (hF : SrF n p o q i F) (f9 : F.get 9 = some (.ptr a 0)) (f10 : F.get 10 = some (.str q.srcs[i].nm)) (ha : K.get a = some (.cells 4 [] (eTbl.cells (s.tb q.srcs[i])) .nil)) (han : n + 2 ≤ a) (hav : blk vn ≠ some a) (M : SrM H0 n p o s q kind e i vn vt K m)
  (hQ : ∀ vn vt F K m,SrF n p o q i F → SrM H0 n p o s q kind e (i + 1) vn vt K m → Q .normal F K m []) : VC Try.prog R28_10 F K m [] Q:=by
 unfold lim at hlim
 obtain ⟨f0,f2,f4,f6,f17,f18,f19⟩:=hF
 have hm:=M.hm
 have ks:=M.ks
 have t0:=M.tp
 have hvn : ∀ b,blk vn = some b → b < m:=fun b h => M.on.blkLt h
 have hvt : ∀ b,blk vt = some b → b < m:=fun b h => M.ot.blkLt h
 have nvn : ∀ b,b < n + 2 → blk vn ≠ some b:=fun b h1 h2 => by have:=(M.dn b h2).1; omega
 have nvt : ∀ b,b < n + 2 → blk vt ≠ some b:=fun b h1 h2 => by have:=M.dt b h2; omega
 have ntn : ∀ b,blk vt = some b → blk vn ≠ some b:=fun b h1 h2 => (M.dn b h2).2 h1
 have ham:=M.tp.lt ha
 simp only [R28_10,vc_drw]
 refine DrwV.of (ce0_ok (P:=Try.prog)) ?_
 have tm:=t0 m (Nat.le_refl _)
 simp [clearF_get,f6,f10,ks,noneAt_cons,noneAt_nil,tm]
 generalize hK1 : Tr.put K m _ = K1
 have g1 : ∀ b,b < m → K1.get b = K.get b:=fun b hb => by rw [← hK1]; simp [neC hb]
 have x1 : K1.get m = some (.cells 1 [] [.str q.srcs[i].nm] .nil):=by rw [← hK1]; simp
 have t1 : Top K1 (m + 1):=fun b hb => by
  have e1 : ¬ b = m:=by omega
  rw [← hK1]; simp [e1,t0 b (by omega)]
 clear hK1
 have on1 : OwnS K1 (m + 1) vn (eStr.l ((q.srcs.take i).map Src.nm)) i 1:=M.on.frame (by omega) fun b hb => g1 b (hvn b hb)
 refine OwnS.appK (k:=1) (new:=[.str q.srcs[i].nm]) on1 (sliceCells_one x1) (by simp) (by simp) (by omega) (by omega) (by unfold big; omega) (by omega) (by simp) fun K2 o2 g2 => ?_
 have g2' : ∀ b,b ≠ m + 1 → blk vn ≠ some b → K2.get b = K1.get b:=fun b h1 h2 => g2 b h1 fun e => h2 (by rw [e]; rfl)
 clear g2
 have t2 : Top K2 (m + 1 + 1):=fun b hb => (g2' b (by omega) fun h => by have:=hvn b h; omega).trans (t1 b (by omega))
 have ks2:=(g2' (n + 1) (by omega) (nvn _ (by omega))).trans ((g1 (n + 1) (by omega)).trans ks)
 have ha2:=(g2' a (by omega) hav).trans ((g1 a ham).trans ha)
 have tm2:=t2 (m + 1 + 1) (Nat.le_refl _)
 have tm02:=t0 (m + 1 + 1) (by omega)
 simp [clearF_get,f6,f9,ks,ks2,ha,ha2,noneAt_cons,noneAt_nil,tm2,tm02]
 generalize hK3 : Tr.put K2 (m + 1 + 1) _ = K3
 have g3 : ∀ b,b < m + 1 + 1 → K3.get b = K2.get b:=fun b hb => by rw [← hK3]; simp [neC hb]
 have x3 : K3.get (m + 1 + 1) = some (.cells 4 [] (eTbl.cells (s.tb q.srcs[i])) .nil):=by rw [← hK3]; simp
 have t3 : Top K3 (m + 1 + 1 + 1):=fun b hb => by
  have e1 : ¬ b = m + 1 + 1:=by omega
  rw [← hK3]; simp [e1,t2 b (by omega)]
 clear hK3
 have ot3 : OwnS K3 (m + 1 + 1 + 1) vt (eTbl.l ((q.srcs.take i).map s.tb)) i 4:=M.ot.frame (by omega) fun b hb => (g3 b (by have:=hvt b hb; omega)).trans ((g2' b (by have:=hvt b hb; omega) (ntn b hb)).trans (g1 b (hvt b hb)))
 refine OwnS.appK (k:=1) (new:=eTbl.cells (s.tb q.srcs[i])) ot3 (sliceCells_one x3) (by simp) (by simp) (by omega) (by omega) (by unfold big; omega) (by omega) (by simp) fun K4 o4 g4 => ?_
 have g4' : ∀ b,b ≠ m + 1 + 1 + 1 → blk vt ≠ some b → K4.get b = K3.get b:=fun b h1 h2 => g4 b h1 fun e => h2 (by rw [e]; rfl)
 clear g4
 have ks4:=(g4' (n + 1) (by omega) (nvt _ (by omega))).trans ((g3 (n + 1) (by omega)).trans ks2)
 simp [clearF_get,f6,ks4]
 generalize hK9 : Tr.put (Tr.put K4 (n + 1) _) (n + 1) _ = K9
 have g9 : ∀ b,b ≠ n + 1 → K9.get b = K4.get b:=fun b hb => by rw [← hK9]; simp [hb]
 have s9 : K9.get (n + 1) = some (.cells 2 [] [.sl (m + 1) 0 (i + 1) 1,.sl (m + 1 + 1 + 1) 0 (i + 1) 4] .nil):=by rw [← hK9]; simp
 clear hK9
 have bkA : ∀ b,b < m → b ≠ n + 1 → blk vn ≠ some b → blk vt ≠ some b → K9.get b = K.get b:=fun b h1 h2 h3 h4 => (g9 b h2).trans ((g4' b (by omega) h4).trans ((g3 b (by omega)).trans ((g2' b (by omega) h3).trans (g1 b h1))))
 have etk : q.srcs.take (i + 1) = q.srcs.take i ++ [q.srcs[i]]:=by rw [List.take_add_one,List.getElem?_eq_getElem hlt]; rfl
 refine hQ (.sl (m + 1) 0 (i + 1) 1) (.sl (m + 1 + 1 + 1) 0 (i + 1) 4) _ K9 _ ⟨by simp [clearF_get,f0],by simp [clearF_get,f2],by simp [clearF_get,f4],by simp [clearF_get,f6],by simp [clearF_get,f17],by simp [clearF_get,f18],by simp [clearF_get,f19]⟩ ⟨by omega,fun b hb => ?_,fun b h1 h2 h3 => ?_,?_,?_,s9,?_,?_,?_,fun b hb => by simp at hb; simp; omega,fun b hb => by simp at hb; omega⟩
 · exact (g9 b (by omega)).trans ((g4' b (by omega) fun h => by have:=hvt b h; omega).trans (t3 b (by omega)))
 · exact (bkA b (by omega) (by omega) (nvn b (by omega)) (nvt b (by omega))).trans (M.kf b h1 h2 h3)
 · exact (bkA p (by omega) (by omega) (nvn p (by omega)) (nvt p (by omega))).trans M.kp
 · exact (bkA n (by omega) (by omega) (nvn n (by omega)) (nvt n (by omega))).trans M.kn
 · exact (bkA o (by omega) (by omega) (nvn o (by omega)) (nvt o (by omega))).trans M.ko
 ·
  rw [etk,List.map_append,Enc.l_append]
  refine o2.frame (by omega) fun b hb => ?_
  simp at hb
  subst hb
  exact (g9 _ (by omega)).trans ((g4' _ (by omega) fun h => by have:=hvt _ h; omega).trans (g3 _ (by omega)))
 ·
  rw [etk,List.map_append,Enc.l_append,List.map_cons,List.map_nil,Enc.l_one]
  refine o4.frame (by omega) fun b hb => ?_
  simp at hb
  subst hb
  exact g9 _ (by omega)
theorem query28a (n p o : Nat) (hpn : p < n) (hon : o < n) (hpo : p ≠ o) (H0 : Hp) (s : Sch) (hs : s.fine) (q : Qry) (hlim : q.srcs.length ≤ lim) (kind e0 : Int)
  (F : Fr) (K : Hp) (m : Nat) (Q : QA) (vn vt : AV) (hF : SrF n p o q 0 F) (M : SrM H0 n p o s q kind e0 0 vn vt K m)
  (hQ : ∀ vn vt F K m,SrF n p o q q.srcs.length F → SrM H0 n p o s q kind (srcE s q.srcs q.srcs.length e0) q.srcs.length vn vt K m → Q .normal F K m []) : LoopV L28_0 Try.prog F K m [] (BlkQ 0 Q):=by
 refine LoopV.of (fun g F K m ms => ∃ (i : Nat) (vn vt : AV),g = q.srcs.length - i ∧ i ≤ q.srcs.length ∧ SrF n p o q i F ∧ SrM H0 n p o s q kind (srcE s q.srcs i e0) i vn vt K m ∧ ms = []) q.srcs.length ⟨0,vn,vt,by simp,by omega,hF,M,rfl⟩ ?_
 clear hF M F K m vn vt
 rintro g F K m ms ⟨i,vn,vt,rfl,hi,⟨f0,f2,f4,f6,f17,f18,f19⟩,M,rfl⟩
 have hm:=M.hm
 by_cases hlt : i < q.srcs.length
 ·
  have hxx:=eSrc.ix (ik:=.i64) hlt
  have hld:=fun H => eSrc.ldN q.srcs[i] (eSrc.l (q.srcs.drop (i + 1))) H
  simp [L28_0,R28_3,R28_4,R28_5,f0,f17,f18,f19,hlt,hxx,hld,Enc.av]
  generalize hK1 : Tr.put _ m _ = K1
  have g1 : ∀ b,b < m → K1.get b = K.get b:=fun b hb => by rw [← hK1]; simp [neC hb]
  have x1 : K1.get m = some (.cells 10 [] (eSrc.cells q.srcs[i]) .nil):=by rw [← hK1]; simp
  have t1 : Top K1 (m + 1):=fun b hb => by
   have e1 : ¬ b = m:=by omega
   rw [← hK1]; simp [e1,M.tp b (by omega)]
  clear hK1 hxx hld
  rw [eSrc_c] at x1
  simp [eSrc_c]
  have hvn : ∀ b,blk vn = some b → b < m:=fun b h => M.on.blkLt h
  refine CalV.ok (table19 s hs q.srcs[i].table p _ K1 (m + 1) (by omega) ((g1 p (by omega)).trans M.kp)) ?_
  generalize hE1 : keep (srcE s q.srcs i e0) 200 (!(s.named q.srcs[i].table).2) = e1
  have j2 : ∀ b,b ≠ p → (K1.put p (some (bdS s e1))).get b = K1.get b:=fun b hb => by simp [hb]
  have jp : (K1.put p (some (bdS s e1))).get p = some (bdS s e1):=by simp
  generalize K1.put p (some (bdS s e1)) = K2 at j2 jp ⊢
  have x2:=(j2 m (by omega)).trans x1
  simp [Enc.av]
  generalize hK3 : Tr.put _ (m + 1) _ = K3
  have g3 : ∀ b,b < m + 1 → K3.get b = K2.get b:=fun b hb => by rw [← hK3]; simp [neC hb]
  have x3 : K3.get (m + 1) = some (.cells 4 [] (eTbl.cells (s.tb q.srcs[i])) .nil):=by rw [← hK3]; simp [Sch.tb]
  have t3 : Top K3 (m + 1 + 1):=fun b hb => by
   have e1 : ¬ b = m + 1:=by omega
   rw [← hK3]; simp [e1,j2 b (by omega),t1 b (by omega)]
  clear hK3
  have y3:=(g3 m (by omega)).trans x2
  have M3:=M.next hpn hon hpo (m':=m + 1 + 1) (by omega) t3 (fun b h1 h2 => (g3 b (by omega)).trans ((j2 b h2).trans (g1 b h1))) ((g3 p (by omega)).trans jp)
  have hct:=contains63 ((q.srcs.take i).map Src.nm) q.srcs[i].nm (by simp; omega)
  have hfz : Frz K3.get vn (eStr.ds ((q.srcs.take i).map Src.nm)):=by
   have:=M3.on.frz (FrzL.pure (eStr.l_pure _)) (by omega)
   have e : eStr.ds ((q.srcs.take i).map Src.nm) = .ds (eStr.l ((q.srcs.take i).map Src.nm)) i 1:=by
    rw [Enc.ds]; simp; omega
   rw [e]; exact this
  have fin : ∀ F4 : Fr,SrF n p o q i F4 → F4.get 9 = some (.ptr (m + 1) 0) → F4.get 10 = some (.str q.srcs[i].nm) → VC Try.prog (R28_9.seq R28_10) F4 K3 (m + 1 + 1) [] (BlkQ 1 (SeqV Try.prog R28_11 (RndQ (fun g F K m ms => ∃ (i : Nat) (vn vt : AV),g = q.srcs.length - i ∧ i ≤ q.srcs.length ∧ SrF n p o q i F ∧ SrM H0 n p o s q kind (srcE s q.srcs i e0) i vn vt K m ∧ ms = []) (q.srcs.length - i) (BlkQ 0 Q)))):=by
   intro F4 ⟨w0,w2,w4,w6,w17,w18,w19⟩ w9 w10
   have ks3:=M3.ks
   simp [R28_9,w0,w6,w10,ks3]
   refine CalV.frz hct (by simp) (.cons _ _ _ _ hfz (.cons _ _ _ _ (.pure _ (by simp)) .nil)) ?_
   simp
   refine CalV.ok (failB p s e1 205 _ K3 _ (by omega) M3.kp) ?_
   have hee : srcE s q.srcs (i + 1) e0 = keep e1 205 (decide (q.srcs[i].nm ∈ (q.srcs.map Src.nm).take i)):=by
    rw [srcE,srcAt_lt hlt,hE1,List.map_take]
   rw [← hee]
   have j4 : ∀ b,b ≠ p → (K3.put p (some (bdS s (srcE s q.srcs (i + 1) e0)))).get b = K3.get b:=fun b hb => by simp [hb]
   have jp4 : (K3.put p (some (bdS s (srcE s q.srcs (i + 1) e0)))).get p = some (bdS s (srcE s q.srcs (i + 1) e0)):=by simp
   generalize K3.put p (some (bdS s (srcE s q.srcs (i + 1) e0))) = K4 at j4 jp4 ⊢
   have M4:=M3.next hpn hon hpo (Nat.le_refl _) (fun b hb => (j4 b (by omega)).trans (t3 b hb)) (fun b h1 h2 => j4 b h2) jp4
   refine query28d n p o hpn hon hpo H0 s q kind _ i hlt (by omega) (m + 1) _ K4 (m + 1 + 1) _ vn vt ⟨by simp [w0],by simp [w2],by simp [w4],by simp [w6],by simp [w17],by simp [w18],by simp [w19]⟩ (by simp [w9]) (by simp [w10]) ((j4 _ (by omega)).trans x3) (by omega) (fun h => by have:=hvn _ h; omega) M4 fun vn' vt' F5 K5 m5 S5 M5 => ?_
   have f19':=S5.f19
   unfold lim at hlim
   simp [R28_11,f19',wrap_nat i (by omega)]
   exact ⟨_,by omega,i + 1,rfl,hlt,⟨by simp [S5.f0],by simp [S5.f2],by simp [S5.f4],by simp [S5.f6],by simp [S5.f17],by simp [S5.f18],by simp⟩,vn',vt',M5⟩
  simp [R28_6,y3]
  by_cases hnm : q.srcs[i].name = []
  ·
   simp [R28_7,y3,hnm]
   generalize hF5 : (Fp 31 _ _ : Fr) = F5
   have:=fin F5 (by rw [← hF5]; exact ⟨by simp [f0],by simp [f2],by simp [f4],by simp [f6],by simp [f17],by simp [f18],by simp [f19]⟩) (by rw [← hF5]; simp) (by rw [← hF5]; simp [Src.nm,hnm])
   simpa using this
  ·
   simp [R28_7,R28_8,y3,hnm]
   generalize hF5 : (Fp 10 _ _ : Fr) = F5
   have:=fin F5 (by rw [← hF5]; exact ⟨by simp [f0],by simp [f2],by simp [f4],by simp [f6],by simp [f17],by simp [f18],by simp [f19]⟩) (by rw [← hF5]; simp) (by rw [← hF5]; simp [Src.nm,hnm])
   simpa using this
 ·
  have hje : i = q.srcs.length:=by omega
  subst hje
  simp [L28_0,R28_3,f18,f19]
  exact hQ vn vt _ K m ⟨by simp [f0],by simp [f2],by simp [f4],by simp [f6],by simp [f17],by simp [f18],by simp [f19]⟩ M
noncomputable def onR (ns : List (List Nat)) (ts : List Tbl) (l : List Src) : Nat → Int → List (List Ex) × Int
 | 0,err => ([],err)
 | i + 1,err => ((onR ns ts l i err).1 ++ [(condB (ns.take (i + 1)) (ts.take (i + 1)) (srcAt l i).cond (onR ns ts l i err).2).1],(condB (ns.take (i + 1)) (ts.take (i + 1)) (srcAt l i).cond (onR ns ts l i err).2).2)
theorem onR_len (ns : List (List Nat)) (ts : List Tbl) (l : List Src) (err : Int) : ∀ i,(onR ns ts l i err).1.length = i
 | 0 => rfl
 | i + 1 => by simp [onR,onR_len ns ts l err i]
structure QyM (H0 : Hp) (n p o : Nat) (s : Sch) (ns : List (List Nat)) (ts : List Tbl) (q : Qry) (e : Int) (K : Hp) (m : Nat) : Prop where
 hm : n + 2 ≤ m
 tp : Top K m
 kf : ∀ b,b < n → b ≠ p → b ≠ o → K.get b = H0.get b
 kp : K.get p = some (bdS s e)
 kn : K.get n = some (.cells 15 [] q.cells .nil)
 ks : K.get (n + 1) = some (.cells 2 [] (scC ns ts) .nil)
theorem QyM.next {H0 : Hp} {n p o : Nat} {s : Sch} {ns : List (List Nat)} {ts : List Tbl} {q : Qry} {e : Int} {K : Hp} {m : Nat} (M : QyM H0 n p o s ns ts q e K m) (hpn : p < n) (hon : o < n) {K' : Hp} {m' : Nat} {e' : Int} (hm : m ≤ m') (ht : Top K' m') (hk : ∀ b,b < n + 2 → b ≠ p → b ≠ o → K'.get b = K.get b) (hp : K'.get p = some (bdS s e')) : QyM H0 n p o s ns ts q e' K' m':=by
 have hm0:=M.hm
 exact ⟨by omega,ht,fun b h1 h2 h3 => (hk b (by omega) h2 h3).trans (M.kf b h1 h2 h3),hp,(hk n (by omega) (by omega) (by omega)).trans M.kn,(hk (n + 1) (by omega) (by omega) (by omega)).trans M.ks⟩
structure OnF (n p o : Nat) (q : Qry) (i : Nat) (F : Fr) : Prop where
 f0 : F.get 0 = some (.ptr p 0)
 f2 : F.get 2 = some (.ptr o 0)
 f4 : F.get 4 = some (.ptr n 0)
 f6 : F.get 6 = some (.ptr (n + 1) 0)
 f64 : F.get 64 = some (eSrc.ds q.srcs)
 f65 : F.get 65 = some (.int .i64 (q.srcs.length : Int))
 f66 : F.get 66 = some (.int .i64 (i : Int))
def outJ (kind : Int) (ts : List Tbl) (on : AV) : List AV:=outQ kind (eTbl.ds ts) on (.cst (.slice none 0 0)) (.cst (.slice none 0 0)) (.cst (.slice none 0 0)) (.cst (.slice none 0 0)) (.cst (.slice none 0 0)) false false 0
structure OnM (H0 : Hp) (n p o : Nat) (s : Sch) (ns : List (List Nat)) (ts : List Tbl) (q : Qry) (kind : Int) (e : Int) (i : Nat) (L : List (List Ex)) (va : AV) (K : Hp) (m : Nat) : Prop where
 mem : QyM H0 n p o s ns ts q e K m
 ko : K.get o = some (.cells 25 [] (outJ kind ts va) .nil)
 oa : OwnS K m va (eRow.l L) i 1
 da : ∀ b,blk va = some b → n + 2 ≤ b
theorem query28b (n p o : Nat) (hpn : p < n) (hon : o < n) (hpo : p ≠ o) (H0 : Hp) (s : Sch) (ns : List (List Nat)) (ts : List Tbl) (hn : ns.length = ts.length) (hl : (kindsS ts).length ≤ lim) (ht : ts.length ≤ lim) (hcl : ∀ t ∈ ts,t.cols.length ≤ lim) (q : Qry) (hlen : q.srcs.length = ts.length) (hz : ∀ x ∈ q.srcs,x.cond.sz ≤ lim ∧ x.cond.maybe = true) (kind e0 : Int)
  (F : Fr) (K : Hp) (m : Nat) (Q : QA) (I0 : Zs (fun g F K m ms => ∃ va,g = q.srcs.length ∧ OnF n p o q 0 F ∧ OnM H0 n p o s ns ts q kind e0 0 [] va K m ∧ ms = []) q.srcs.length F K m [])
  (hQ : ∀ va F K m,OnF n p o q q.srcs.length F → OnM H0 n p o s ns ts q kind (onR ns ts q.srcs q.srcs.length e0).2 q.srcs.length (onR ns ts q.srcs q.srcs.length e0).1 va K m → Q .normal F K m []) : LoopV L28_1 Try.prog F K m [] (BlkQ 2 Q):=by
 have htl:=ht
 unfold lim at ht
 refine LoopV.ofZ (fun g F K m ms => ∃ (i : Nat) (va : AV),g = q.srcs.length - i ∧ i ≤ q.srcs.length ∧ OnF n p o q i F ∧ OnM H0 n p o s ns ts q kind (onR ns ts q.srcs i e0).2 i (onR ns ts q.srcs i e0).1 va K m ∧ ms = []) q.srcs.length ?_ ?_
 ·
  obtain ⟨h,F2,K2,h1,va,_,h3,h4,h5⟩:=I0
  exact ⟨h,F2,K2,h1,0,va,by simp,by omega,h3,by simpa [onR] using h4,h5⟩
 clear I0 F K m
 rintro g F K m ms ⟨i,va,rfl,hi,⟨f0,f2,f4,f6,f64,f65,f66⟩,M,rfl⟩
 have hm:=M.mem.hm
 by_cases hlt : i < q.srcs.length
 ·
  have hxx:=eSrc.ix (ik:=.i64) hlt
  have hld:=fun H => eSrc.ldN q.srcs[i] (eSrc.l (q.srcs.drop (i + 1))) H
  obtain ⟨hz1,hz2⟩:=hz _ (List.getElem_mem hlt)
  simp [L28_1,R28_15,R28_16,f64,f65,f66,hlt,hxx,hld,Enc.av]
  generalize hK1 : Tr.put _ m _ = K1
  have g1 : ∀ b,b < m → K1.get b = K.get b:=fun b hb => by rw [← hK1]; simp [neC hb]
  have x1 : K1.get m = some (.cells 10 [] (eSrc.cells q.srcs[i]) .nil):=by rw [← hK1]; simp
  have t1 : Top K1 (m + 1):=fun b hb => by
   have e1 : ¬ b = m:=by omega
   rw [← hK1]; simp [e1,M.mem.tp b (by omega)]
  clear hK1 hxx hld
  have hva : ∀ b,blk va = some b → b < m:=fun b h => M.oa.blkLt h
  have nva : ∀ b,b < n + 2 → blk va ≠ some b:=fun b h1 h2 => by have:=M.da b h2; omega
  have ks1:=(g1 (n + 1) (by omega)).trans M.mem.ks
  have ko1:=(g1 o (by omega)).trans M.ko
  simp only [scC] at ks1
  simp only [outJ,outQ] at ko1
  have hsl1 : cSlc 1 none (some (.int .i64 ((i : Int) + 1))) none (eStr.ds ns) = .val (eStr.ds (ns.take (i + 1))):=by
   have:=eStr.slHi (l:=ns) (i:=i + 1) (by omega)
   simpa using this
  have hsl2 : cSlc 4 none (some (.int .i64 ((i : Int) + 1))) none (eTbl.ds ts) = .val (eTbl.ds (ts.take (i + 1))):=by
   have:=eTbl.slHi (l:=ts) (i:=i + 1) (by omega)
   simpa using this
  have hkl:=kindsS_le ts (i + 1)
  have hcd:=cond25 (ns.take (i + 1)) (ts.take (i + 1)) (by simp; omega) (by omega) (by simp; omega) (fun t h => hcl t (List.mem_of_mem_take h)) s q.srcs[i].cond hz1 hz2 p (onR ns ts q.srcs i e0).2 K1 (m + 1) (by omega) ((g1 p (by omega)).trans M.mem.kp)
  have hav : q.srcs[i].cond.av = .agg q.srcs[i].cond.cells 8:=Eq.trans rfl rfl
  rw [hav] at hcd
  have hon' : onR ns ts q.srcs (i + 1) e0 = ((onR ns ts q.srcs i e0).1 ++ [(condB (ns.take (i + 1)) (ts.take (i + 1)) q.srcs[i].cond (onR ns ts q.srcs i e0).2).1],(condB (ns.take (i + 1)) (ts.take (i + 1)) q.srcs[i].cond (onR ns ts q.srcs i e0).2).2):=by
   rw [onR,srcAt_lt hlt]
  generalize condB (ns.take (i + 1)) (ts.take (i + 1)) q.srcs[i].cond (onR ns ts q.srcs i e0).2 = cd at hcd hon'
  obtain ⟨cl,ce⟩:=cd
  simp only [scC] at hcd
  simp only at hcd hon'
  simp only [R28_17,vc_drw]
  refine DrwV.of (ceL_ok (l:=[⟨25,[.ptr p 0,.agg [eStr.ds (ns.take (i + 1)),eTbl.ds (ts.take (i + 1))] 2,.agg q.srcs[i].cond.cells 8],K1,m + 1,eEx.ds cl,K1.put p (some (bdS s ce)),m + 1⟩]) ?_) ?_
  ·
   simp only [List.mem_cons,List.not_mem_nil,or_false]
   rintro c rfl
   exact hcd
  have htk8 : List.take 8 q.srcs[i].cond.cells = q.srcs[i].cond.cells:=List.take_of_length_le (by simp)
  rw [eSrc_c] at x1
  simp [clearF_get,f0,f2,f6,ks1,x1,wrap_nat i (by omega),hsl1,hsl2,htk8,ceL_hd]
  have op : (o = p) = False:=by simp [Ne.symm hpo]
  have n1:=t1 (m + 1) (Nat.le_refl _)
  have n2 : (K1.put p (some (bdS s ce))).get (m + 1) = none:=by simp [show ¬ m + 1 = p by omega,n1]
  have j2 : ∀ b,b ≠ p → (K1.put p (some (bdS s ce))).get b = K1.get b:=fun b hb => by simp [hb]
  have jp : (K1.put p (some (bdS s ce))).get p = some (bdS s ce):=by simp
  have ko2:=(j2 o (by omega)).trans ko1
  simp [op,ko1]
  generalize K1.put p (some (bdS s ce)) = K2 at n2 j2 jp ko2 ⊢
  simp [noneAt_cons,noneAt_nil,n1,n2]
  generalize hK3 : Tr.put K2 (m + 1) _ = K3
  have g3 : ∀ b,b < m + 1 → K3.get b = K2.get b:=fun b hb => by rw [← hK3]; simp [neC hb]
  have x3 : K3.get (m + 1) = some (.cells 1 [] [eEx.ds cl] .nil):=by rw [← hK3]; simp
  have t3 : Top K3 (m + 1 + 1):=fun b hb => by
   have e1 : ¬ b = m + 1:=by omega
   rw [← hK3]; simp [e1,j2 b (by omega),t1 b (by omega)]
  clear hK3
  have bk3 : ∀ b,b < m → b ≠ p → K3.get b = K.get b:=fun b h1 h2 => (g3 b (by omega)).trans ((j2 b h2).trans (g1 b h1))
  have oa3 : OwnS K3 (m + 1 + 1) va (eRow.l (onR ns ts q.srcs i e0).1) i 1:=M.oa.frame (by omega) fun b hb => bk3 b (hva b hb) (by have:=M.da b hb; omega)
  refine OwnS.appK (k:=1) (new:=[eEx.ds cl]) oa3 (sliceCells_one x3) (by simp) (by simp) (by omega) (by omega) (by unfold big; omega) (by omega) (by simp) fun K4 o4 g4 => ?_
  have g4' : ∀ b,b ≠ m + 1 + 1 → blk va ≠ some b → K4.get b = K3.get b:=fun b h1 h2 => g4 b h1 fun e => h2 (by rw [e]; rfl)
  clear g4
  have ko4:=(g4' o (by omega) (nva o (by omega))).trans ((g3 o (by omega)).trans ko2)
  simp [clearF_get,f2,ko4]
  generalize hK5 : Tr.put K4 o _ = K5
  have g5 : ∀ b,b ≠ o → K5.get b = K4.get b:=fun b hb => by rw [← hK5]; simp [hb]
  have o5 : K5.get o = some (.cells 25 [] (outJ kind ts (.sl (m + 1 + 1) 0 (i + 1) 1)) .nil):=by rw [← hK5]; simp [outJ,outQ]
  clear hK5
  simp [R28_18,clearF_get,f66,wrap_nat i (by omega)]
  refine ⟨q.srcs.length - (i + 1),by omega,Zs.refl ⟨i + 1,rfl,hlt,⟨by simp [clearF_get,f0],by simp [clearF_get,f2],by simp [clearF_get,f4],by simp [clearF_get,f6],by simp [clearF_get,f64],by simp [clearF_get,f65],by simp⟩,⟨.sl (m + 1 + 1) 0 (i + 1) 1,M.mem.next hpn hon (by omega) (fun b hb => ?_) (fun b h1 h2 h3 => ?_) ?_,o5,?_,fun b hb => by simp at hb; omega⟩,rfl⟩⟩
  · exact (g5 b (by omega)).trans ((g4' b (by omega) fun h => by have:=hva b h; omega).trans (t3 b (by omega)))
  · exact (g5 b h3).trans ((g4' b (by omega) (nva b h1)).trans (bk3 b (by omega) h2))
  ·
   rw [hon']
   exact (g5 p (by omega)).trans ((g4' p (by omega) (nva p (by omega))).trans ((g3 p (by omega)).trans jp))
  ·
   rw [hon',Enc.l_append,Enc.l_one,eRow_c]
   refine o4.frame (by omega) fun b hb => ?_
   simp at hb
   subst hb
   exact g5 _ (by omega)
 ·
  have hje : i = q.srcs.length:=by omega
  subst hje
  simp [L28_1,R28_15,f65,f66]
  exact hQ va _ K m ⟨by simp [f0],by simp [f2],by simp [f4],by simp [f6],by simp [f64],by simp [f65],by simp [f66]⟩ M
def ordAt (l : List Ord) (i : Nat) : Ord:=l.getD i ⟨[],false⟩
theorem ordAt_lt {l : List Ord} {i : Nat} (h : i < l.length) : ordAt l i = l[i]:=by simp [ordAt,h]
noncomputable def ordK (N : List (List Nat)) (x : Ord) : Int:=idxI (fun y => decide (x.name = y)) N
noncomputable def ordR (N : List (List Nat)) (l : List Ord) : Nat → Int → List (Int × Bool) × Int
 | 0,err => ([],err)
 | i + 1,err => ((ordR N l i err).1 ++ [(ordK N (ordAt l i),(ordAt l i).desc)],keep (keep (ordR N l i err).2 201 (decide (ordK N (ordAt l i) < 0))) 205 (decide (0 ≤ ordK N (ordAt l i)) && decide ((ordAt l i).name ∈ N.drop ((ordK N (ordAt l i)).toNat + 1))))
theorem ordR_len (N : List (List Nat)) (l : List Ord) (err : Int) : ∀ i,(ordR N l i err).1.length = i
 | 0 => rfl
 | i + 1 => by simp [ordR,ordR_len N l err i]
structure OrF (n p o : Nat) (q : Qry) (i : Nat) (F : Fr) : Prop where
 f0 : F.get 0 = some (.ptr p 0)
 f2 : F.get 2 = some (.ptr o 0)
 f4 : F.get 4 = some (.ptr n 0)
 f6 : F.get 6 = some (.ptr (n + 1) 0)
 f110 : F.get 110 = some (eOrd.ds q.order)
 f111 : F.get 111 = some (.int .i64 (q.order.length : Int))
 f112 : F.get 112 = some (.int .i64 (i : Int))
def outO (kind : Int) (ts : List Tbl) (on : AV) (W E : List Ex) (N : List (List Nat)) (Ks : List Int) (od : AV) : List AV:=outQ kind (eTbl.ds ts) on (eEx.ds W) (eEx.ds E) (eStr.ds N) (eInt.ds Ks) od false false 0
structure OrM (H0 : Hp) (n p o : Nat) (s : Sch) (ns : List (List Nat)) (ts : List Tbl) (q : Qry) (kind : Int) (L : List (List Ex)) (W E : List Ex) (N : List (List Nat)) (Ks : List Int) (von : AV) (e : Int) (i : Nat) (O : List (Int × Bool)) (va : AV) (K : Hp) (m : Nat) : Prop where
 mem : QyM H0 n p o s ns ts q e K m
 ko : K.get o = some (.cells 25 [] (outO kind ts von W E N Ks va) .nil)
 ov : OwnS K m von (eRow.l L) L.length 1
 dv : ∀ b,blk von = some b → n + 2 ≤ b
 oa : OwnS K m va (eKey.l O) i 2
 da : ∀ b,blk va = some b → n + 2 ≤ b ∧ blk von ≠ some b
theorem OrM.next {H0 : Hp} {n p o : Nat} {s : Sch} {ns : List (List Nat)} {ts : List Tbl} {q : Qry} {kind : Int} {L : List (List Ex)} {W E : List Ex} {N : List (List Nat)} {Ks : List Int} {von : AV} {e : Int} {i : Nat} {O : List (Int × Bool)} {va : AV} {K : Hp} {m : Nat} (M : OrM H0 n p o s ns ts q kind L W E N Ks von e i O va K m) (hpn : p < n) (hon : o < n) (hpo : p ≠ o) {K' : Hp} {m' : Nat} {e' : Int} (hm : m ≤ m') (ht : Top K' m') (hk : ∀ b,b < m → b ≠ p → K'.get b = K.get b) (hp : K'.get p = some (bdS s e')) : OrM H0 n p o s ns ts q kind L W E N Ks von e' i O va K' m':=by
 have hm0:=M.mem.hm
 exact ⟨M.mem.next hpn hon hm ht (fun b h1 h2 _ => hk b (by omega) h2) hp,(hk o (by omega) (by omega)).trans M.ko,M.ov.frame hm fun b hb => hk b (M.ov.blkLt hb) (by have:=M.dv b hb; omega),M.dv,M.oa.frame hm fun b hb => hk b (M.oa.blkLt hb) (by have:=(M.da b hb).1; omega),M.da⟩
theorem query28c (n p o : Nat) (hpn : p < n) (hon : o < n) (hpo : p ≠ o) (H0 : Hp) (s : Sch) (ns : List (List Nat)) (ts : List Tbl) (q : Qry) (hlim : q.order.length ≤ lim) (kind : Int) (L : List (List Ex)) (W E : List Ex) (N : List (List Nat)) (hN : N.length ≤ lim) (Ks : List Int) (von : AV) (_hvo : von.one = true) (e0 : Int)
  (F : Fr) (K : Hp) (m : Nat) (Q : QA) (va : AV) (hF : OrF n p o q 0 F) (M : OrM H0 n p o s ns ts q kind L W E N Ks von e0 0 [] va K m)
  (hQ : ∀ va F K m,OrF n p o q q.order.length F → OrM H0 n p o s ns ts q kind L W E N Ks von (ordR N q.order q.order.length e0).2 q.order.length (ordR N q.order q.order.length e0).1 va K m → Q .normal F K m []) : LoopV L28_2 Try.prog F K m [] (BlkQ 4 Q):=by
 have hlim':=hlim
 unfold lim at hlim
 refine LoopV.of (fun g F K m ms => ∃ (i : Nat) (va : AV),g = q.order.length - i ∧ i ≤ q.order.length ∧ OrF n p o q i F ∧ OrM H0 n p o s ns ts q kind L W E N Ks von (ordR N q.order i e0).2 i (ordR N q.order i e0).1 va K m ∧ ms = []) q.order.length ⟨0,va,by simp,by omega,hF,by simpa [ordR] using M,rfl⟩ ?_
 clear hF M F K m va
 rintro g F K m ms ⟨i,va,rfl,hi,⟨f0,f2,f4,f6,f110,f111,f112⟩,M,rfl⟩
 have hm:=M.mem.hm
 by_cases hlt : i < q.order.length
 ·
  have hxx:=eOrd.ix (ik:=.i64) hlt
  have hld:=fun H => eOrd.ldN q.order[i] (eOrd.l (q.order.drop (i + 1))) H
  simp [L28_2,R28_22,R28_23,f110,f111,f112,hlt,hxx,hld,Enc.av]
  generalize hK1 : Tr.put _ m _ = K1
  have g1 : ∀ b,b < m → K1.get b = K.get b:=fun b hb => by rw [← hK1]; simp [neC hb]
  have x1 : K1.get m = some (.cells 2 [] (eOrd.cells q.order[i]) .nil):=by rw [← hK1]; simp
  have t1 : Top K1 (m + 1):=fun b hb => by
   have e1 : ¬ b = m:=by omega
   rw [← hK1]; simp [e1,M.mem.tp b (by omega)]
  clear hK1 hxx hld
  have hva : ∀ b,blk va = some b → b < m:=fun b h => M.oa.blkLt h
  have M1:=M.next hpn hon hpo (Nat.le_succ m) t1 (fun b h1 _ => g1 b h1) ((g1 p (by omega)).trans M.mem.kp)
  clear M g1
  have ko1:=M1.ko
  simp only [outO,outQ] at ko1
  rw [eOrd_c] at x1
  have hix:=index77 N q.order[i].name hN
  have hor : ordR N q.order (i + 1) e0 = ((ordR N q.order i e0).1 ++ [(ordK N q.order[i],q.order[i].desc)],keep (keep (ordR N q.order i e0).2 201 (decide (ordK N q.order[i] < 0))) 205 (decide (0 ≤ ordK N q.order[i]) && decide (q.order[i].name ∈ N.drop ((ordK N q.order[i]).toNat + 1)))):=by
   rw [ordR,ordAt_lt hlt]
  have hkl:=idxI_lt (fun y => decide (q.order[i].name = y)) N
  have hke : idxI (fun y => decide (q.order[i].name = y)) N = ordK N q.order[i]:=rfl
  rw [hke] at hix hkl
  generalize ordK N q.order[i] = k at hix hkl hor
  generalize ordR N q.order i e0 = A at M1 hor
  obtain ⟨O,er⟩:=A
  simp only at M1 hor
  generalize q.order[i] = it at *
  simp only [R28_24,vc_drw]
  refine DrwV.of (ceT_ok (l:=[(77,[eStr.ds N,.str it.name],fun H n => .mk (.int .i64 k) H n)]) ?_) ?_
  ·
   intro y hy
   simp only [List.mem_cons,List.not_mem_nil,or_false] at hy
   subst hy
   exact ceT_pure hix
  simp [clearF_get,f2,ko1,x1]
  rw [ceT_hd]
  simp [R28_25,clearF_get,f0]
  refine CalV.ok (failB p s er 201 (decide (k < 0)) K1 _ (by omega) M1.mem.kp) ?_
  generalize hE1 : keep er 201 (decide (k < 0)) = e1 at hor
  have j2 : ∀ b,b ≠ p → (K1.put p (some (bdS s e1))).get b = K1.get b:=fun b hb => by simp [hb]
  have jp : (K1.put p (some (bdS s e1))).get p = some (bdS s e1):=by simp
  generalize K1.put p (some (bdS s e1)) = K2 at j2 jp ⊢
  have t2 : Top K2 (m + 1):=fun b hb => (j2 b (by omega)).trans (t1 b hb)
  have M2:=M1.next hpn hon hpo (Nat.le_refl _) t2 (fun b h1 h2 => j2 b h2) jp
  have ko2:=M2.ko
  simp only [outO,outQ] at ko2
  have x2:=(j2 m (by omega)).trans x1
  clear x1 ko1 M1
  have fin : ∀ (F4 : Fr) (K4 : Hp) (e2 : Int),OrF n p o q i F4 → F4.get 14 = some (.ptr m 0) → F4.get 15 = some (.int .i64 k) → K4.get m = some (.cells 2 [] [.str it.name,.bool it.desc] .nil) → OrM H0 n p o s ns ts q kind L W E N Ks von e2 i O va K4 (m + 1) → ordR N q.order (i + 1) e0 = (O ++ [(k,it.desc)],e2) → VC Try.prog R28_27 F4 K4 (m + 1) [] (BlkQ 5 (SeqV Try.prog R28_28 (RndQ (fun g F K m ms => ∃ (i : Nat) (va : AV),g = q.order.length - i ∧ i ≤ q.order.length ∧ OrF n p o q i F ∧ OrM H0 n p o s ns ts q kind L W E N Ks von (ordR N q.order i e0).2 i (ordR N q.order i e0).1 va K m ∧ ms = []) (q.order.length - i) (BlkQ 4 Q)))):=by
   intro F4 K4 e2 ⟨w0,w2,w4,w6,w110,w111,w112⟩ w14 w15 x4 M4 ho
   have ko4:=M4.ko
   simp only [outO,outQ] at ko4
   have t4:=M4.mem.tp
   simp only [R28_27,vc_drw]
   refine DrwV.of (ce0_ok (P:=Try.prog)) ?_
   have tm:=t4 (m + 1) (Nat.le_refl _)
   simp [clearF_get,w2,w14,w15,ko4,x4,noneAt_cons,noneAt_nil,tm]
   generalize hK5 : Tr.put K4 (m + 1) _ = K5
   have g5 : ∀ b,b < m + 1 → K5.get b = K4.get b:=fun b hb => by rw [← hK5]; simp [neC hb]
   have x5 : K5.get (m + 1) = some (.cells 2 [] [.int .i64 k,.bool it.desc] .nil):=by rw [← hK5]; simp
   have t5 : Top K5 (m + 1 + 1):=fun b hb => by
    have e1 : ¬ b = m + 1:=by omega
    rw [← hK5]; simp [e1,t4 b (by omega)]
   clear hK5
   have oa5 : OwnS K5 (m + 1 + 1) va (eKey.l O) i 2:=M4.oa.frame (by omega) fun b hb => g5 b (by have:=hva b hb; omega)
   refine OwnS.appK (k:=1) (new:=[.int .i64 k,.bool it.desc]) oa5 (sliceCells_one x5) (by simp) (by simp) (by omega) (by omega) (by unfold big; omega) (by omega) (by simp) fun K6 o6 g6 => ?_
   have g6' : ∀ b,b ≠ m + 1 + 1 → blk va ≠ some b → K6.get b = K5.get b:=fun b h1 h2 => g6 b h1 fun e => h2 (by rw [e]; rfl)
   clear g6
   have nva : ∀ b,b < n + 2 → blk va ≠ some b:=fun b h1 h2 => by have:=(M4.da b h2).1; omega
   have ko6:=(g6' o (by omega) (nva o (by omega))).trans ((g5 o (by omega)).trans ko4)
   simp [clearF_get,w2,ko6]
   generalize hK7 : Tr.put K6 o _ = K7
   have g7 : ∀ b,b ≠ o → K7.get b = K6.get b:=fun b hb => by rw [← hK7]; simp [hb]
   have o7 : K7.get o = some (.cells 25 [] (outO kind ts von W E N Ks (.sl (m + 1 + 1) 0 (i + 1) 2)) .nil):=by rw [← hK7]; simp [outO,outQ]
   clear hK7
   simp [R28_28,clearF_get,w112,wrap_nat i (by omega)]
   have bk7 : ∀ b,b < m + 1 → b ≠ o → blk va ≠ some b → K7.get b = K4.get b:=fun b h1 h2 h3 => (g7 b h2).trans ((g6' b (by omega) h3).trans (g5 b h1))
   have hvo2 : ∀ b,blk von = some b → blk va ≠ some b:=fun b h1 h2 => (M4.da b h2).2 h1
   refine ⟨q.order.length - (i + 1),by omega,i + 1,rfl,hlt,⟨by simp [clearF_get,w0],by simp [clearF_get,w2],by simp [clearF_get,w4],by simp [clearF_get,w6],by simp [clearF_get,w110],by simp [clearF_get,w111],by simp⟩,.sl (m + 1 + 1) 0 (i + 1) 2,?_⟩
   rw [ho]
   refine ⟨M4.mem.next hpn hon (by omega) (fun b hb => ?_) (fun b h1 h2 h3 => bk7 b (by omega) h3 (nva b h1)) ((bk7 p (by omega) (by omega) (nva p (by omega))).trans M4.mem.kp),o7,M4.ov.frame (by omega) fun b hb => bk7 b (M4.ov.blkLt hb) (by have:=M4.dv b hb; omega) (hvo2 b hb),M4.dv,?_,fun b hb => by
    simp at hb
    exact ⟨by omega,fun h => by have:=M4.ov.blkLt h; omega⟩⟩
   · exact (g7 b (by omega)).trans ((g6' b (by omega) fun h => by have:=hva b h; omega).trans (t5 b (by omega)))
   ·
    rw [Enc.l_append,Enc.l_one,eKey_c]
    refine o6.frame (by omega) fun b hb => ?_
    simp at hb
    subst hb
    exact g7 _ (by omega)
  simp only [R28_26,seqV_normal,vc_seq,vc_drw,vcO_nil]
  by_cases hk0 : 0 ≤ k
  ·
   obtain ⟨kk,rfl⟩ : ∃ kk : Nat,k = (kk : Int):=⟨k.toNat,by omega⟩
   have hkk : kk < N.length:=by omega
   have hsl : cSlc 1 (some (.int .i64 ((kk : Int) + 1))) none none (eStr.ds N) = .val (eStr.ds (N.drop (kk + 1))):=by
    have:=eStr.slLo (l:=N) (i:=kk + 1) (by omega)
    simpa using this
   have hct:=contains63 (N.drop (kk + 1)) it.name (by simp; omega)
   have hfl:=failB p s e1 205 (decide (it.name ∈ N.drop (kk + 1))) K2 (m + 1) (by omega) jp
   refine DrwV.of (ceL_ok (l:=[⟨63,[eStr.ds (N.drop (kk + 1)),.str it.name],K2,m + 1,.bool (decide (it.name ∈ N.drop (kk + 1))),K2,m + 1⟩,⟨22,[.ptr p 0,.int .i64 205,.bool (decide (it.name ∈ N.drop (kk + 1)))],K2,m + 1,.tup [],K2.put p (some (bdS s (keep e1 205 (decide (it.name ∈ N.drop (kk + 1)))))),m + 1⟩]) ?_) ?_
   ·
    simp only [List.mem_cons,List.not_mem_nil,or_false]
    rintro c (rfl | rfl)
    · exact hct.callOk _ _
    · exact hfl
   have e2' : ∀ l v c1 c2,(ceL [⟨63,l,K2,m + 1,v,K2,m + 1⟩,⟨22,[.ptr p 0,.int .i64 205,.bool (decide (it.name ∈ N.drop (kk + 1)))],K2,m + 1,.tup [],K2.put p (some (bdS s (keep e1 205 (decide (it.name ∈ N.drop (kk + 1)))))),m + 1⟩]).call 22 c1 K2 c2 = (ceL [⟨22,[.ptr p 0,.int .i64 205,.bool (decide (it.name ∈ N.drop (kk + 1)))],K2,m + 1,.tup [],K2.put p (some (bdS s (keep e1 205 (decide (it.name ∈ N.drop (kk + 1)))))),m + 1⟩]).call 22 c1 K2 c2:=fun l v c1 c2 => ceL_tl (by decide)
   simp [clearF_get,f0,f2,ko2,x2,wrap_nat kk (by unfold lim at hN; omega),hsl,ceL_hd,e2']
   generalize hF5 : (Fp 142 _ _ : Fr) = F5
   have j3 : ∀ b,b ≠ p → (K2.put p (some (bdS s (keep e1 205 (decide (it.name ∈ N.drop (kk + 1))))))).get b = K2.get b:=fun b hb => by simp [hb]
   have jp3 : (K2.put p (some (bdS s (keep e1 205 (decide (it.name ∈ N.drop (kk + 1))))))).get p = some (bdS s (keep e1 205 (decide (it.name ∈ N.drop (kk + 1))))):=by simp
   generalize K2.put p (some (bdS s (keep e1 205 (decide (it.name ∈ N.drop (kk + 1)))))) = K4 at j3 jp3 ⊢
   have M4:=M2.next hpn hon hpo (Nat.le_refl _) (fun b hb => (j3 b (by omega)).trans (t2 b hb)) (fun b h1 h2 => j3 b h2) jp3
   have:=fin F5 K4 _ (by rw [← hF5]; exact ⟨by simp [clearF_get,f0],by simp [clearF_get,f2],by simp [clearF_get,f4],by simp [clearF_get,f6],by simp [clearF_get,f110],by simp [clearF_get,f111],by simp [clearF_get,f112]⟩) (by rw [← hF5]; simp [clearF_get]) (by rw [← hF5]; simp [clearF_get]) ((j3 m (by omega)).trans x2) M4 (by rw [hor]; simp)
   simpa using this
  ·
   have hlt0 : k < 0:=by omega
   have hfl:=failB p s e1 205 false K2 (m + 1) (by omega) jp
   refine DrwV.of (ceL_ok (l:=[⟨22,[.ptr p 0,.int .i64 205,.bool false],K2,m + 1,.tup [],K2.put p (some (bdS s (keep e1 205 false))),m + 1⟩]) ?_) ?_
   ·
    simp only [List.mem_cons,List.not_mem_nil,or_false]
    rintro c rfl
    exact hfl
   simp [clearF_get,f0,hk0,ceL_hd]
   generalize hF5 : (Fp 142 _ _ : Fr) = F5
   have j3 : ∀ b,b ≠ p → (K2.put p (some (bdS s (keep e1 205 false)))).get b = K2.get b:=fun b hb => by simp [hb]
   have jp3 : (K2.put p (some (bdS s (keep e1 205 false)))).get p = some (bdS s (keep e1 205 false)):=by simp
   generalize K2.put p (some (bdS s (keep e1 205 false))) = K4 at j3 jp3 ⊢
   have M4:=M2.next hpn hon hpo (Nat.le_refl _) (fun b hb => (j3 b (by omega)).trans (t2 b hb)) (fun b h1 h2 => j3 b h2) jp3
   have:=fin F5 K4 _ (by rw [← hF5]; exact ⟨by simp [clearF_get,f0],by simp [clearF_get,f2],by simp [clearF_get,f4],by simp [clearF_get,f6],by simp [clearF_get,f110],by simp [clearF_get,f111],by simp [clearF_get,f112]⟩) (by rw [← hF5]; simp [clearF_get]) (by rw [← hF5]; simp [clearF_get]) ((j3 m (by omega)).trans x2) M4 (by rw [hor]; simp [hk0])
   simpa using this
 ·
  have hje : i = q.order.length:=by omega
  subst hje
  simp [L28_2,R28_22,f111,f112]
  exact hQ va _ K m ⟨by simp [f0],by simp [f2],by simp [f4],by simp [f6],by simp [f110],by simp [f111],by simp [f112]⟩ M
theorem OwnS.frzH {K : Hp} {m : Nat} {v : AV} {l l' : List AV} {len sz : Nat} {h : Hf} (ho : OwnS K m v l len sz) (hz : 0 < sz) (hh : ∀ c, blk v = some c → h c = K.get c) (hl : FrzL h l l') : Frz h v (.ds l' len sz) := by
  obtain ⟨s', rfl⟩ : ∃ s', sz = s' + 1 := ⟨sz - 1, by omega⟩
  obtain ⟨h0, ⟨rfl, rfl⟩ | ⟨b, kk, rfl, hb, hk, ho⟩⟩ := ho
  · have : l = [] := by simpa using h0
    subst this
    cases hl
    exact .nil _
  · obtain ⟨u, z, bs, t, rfl, hg⟩ := ho.grab (o := 0) (c := len * (s' + 1)) (by omega)
    refine .sl _ _ _ _ _ _ _ _ _ _ ((hh b rfl).trans hk) hg ?_
    rw [List.drop_zero, List.take_of_length_le (by omega)]
    exact hl
theorem shutQ {F F2 : Fr} {K : Hp} {m n o : Nat} {kind : Int} {ns : List (List Nat)} {ts : List Tbl} {vn vt : AV} (hon : o ≠ n + 1) (hF : ∀ (t : Nat) v, F2.get t = some v → F.get t = some v) (ks : K.get (n + 1) = some (.cells 2 [] [vn, vt] .nil))
    (ko : K.get o = some (.cells 25 [] (outQ kind vt (.cst (.slice none 0 0)) (.cst (.slice none 0 0)) (.cst (.slice none 0 0)) (.cst (.slice none 0 0)) (.cst (.slice none 0 0)) (.cst (.slice none 0 0)) false false 0) .nil)) (on : OwnS K m vn (eStr.l ns) ns.length 1) (ot : OwnS K m vt (eTbl.l ts) ts.length 4)
    (dn : ∀ b, blk vn = some b → b ≠ n + 1 ∧ b ≠ o) (dt : ∀ b, blk vt = some b → b ≠ n + 1 ∧ b ≠ o) :
    ∃ h K2, Shuts h F K F2 K2 ∧ K2.get (n + 1) = some (.cells 2 [] (scC ns ts) .nil) ∧ K2.get o = some (.cells 25 [] (outJ kind ts (.cst (.slice none 0 0))) .nil) ∧ ∀ b, b ≠ n + 1 → b ≠ o → K2.get b = if blk vn = some b ∨ blk vt = some b then none else K.get b := by
  have dl : ∀ (v : AV) (H : Hp) (b : Nat), (match blk v with
    | some c => H.put c none
    | none => H : Hp).get b = if blk v = some b then none else H.get b := by
    intro v H b
    cases hb : blk v with
    | none => simp
    | some c => simp [eq_comm]
  let h : Hf := fun b => if blk vn = some b ∨ blk vt = some b then K.get b else none
  let K1 : Hp := (match blk vn with
    | some c => K.put c none
    | none => K)
  let K2 : Hp := (match blk vt with
    | some c => K1.put c none
    | none => K1)
  have hK2 : ∀ b, K2.get b = if blk vn = some b ∨ blk vt = some b then none else K.get b := by
    intro b
    have e1 : K2.get b = if blk vt = some b then none else K1.get b := dl vt K1 b
    have e2 : K1.get b = if blk vn = some b then none else K.get b := dl vn K b
    rw [e1, e2]
    by_cases h1 : blk vn = some b <;> by_cases h2 : blk vt = some b <;> simp [h1, h2]
  have zn : Frz h vn (eStr.ds ns) := on.frzH (by omega) (fun c hc => by simp [h, hc]) (FrzL.pure (eStr.l_pure ns))
  have zt : Frz h vt (eTbl.ds ts) := ot.frzH (by omega) (fun c hc => by simp [h, hc]) (FrzL.pure (eTbl.l_pure ts))
  refine ⟨h, (K2.put (n + 1) (some (.cells 2 [] (scC ns ts) .nil))).put o (some (.cells 25 [] (outJ kind ts (.cst (.slice none 0 0))) .nil)), ⟨fun b k hb => ?_, fun b hb => ?_, fun t v hv => ⟨v, hF t v hv, .inl rfl⟩, fun b y hb => ?_⟩, by simp [Ne.symm hon], by simp, fun b h1 h2 => ?_⟩
  · have hb : (if blk vn = some b ∨ blk vt = some b then K.get b else none) = some k := hb
    split at hb
    · exact hb
    · cases hb
  · have hb : (if blk vn = some b ∨ blk vt = some b then K.get b else none) ≠ none := hb
    by_cases hc : blk vn = some b ∨ blk vt = some b
    · have hne : b ≠ n + 1 ∧ b ≠ o := by
        rcases hc with hc | hc
        · exact dn b hc
        · exact dt b hc
      simp [hne.1, hne.2, hK2, hc]
    · simp [hc] at hb
  · by_cases h1 : b = o
    · subst h1
      simp at hb
      subst hb
      exact ⟨_, ko, FIL.bz (by simp [outQ, outJ]; exact .inr zt) rfl⟩
    · by_cases h2 : b = n + 1
      · subst h2
        simp [h1] at hb
        subst hb
        exact ⟨_, ks, FIL.bz (by simp [scC]; exact ⟨.inr zn, .inr zt⟩) rfl⟩
      · simp only [Tr.get_put, h1, h2, if_false, hK2] at hb
        split at hb
        · cases hb
        · exact ⟨y, hb, .inl rfl⟩
  · simp [h1, h2, hK2]
noncomputable def queryB (s : Sch) (q : Qry) (kind err : Int) : Bnd × Int :=
  if srcE s q.srcs q.srcs.length err ≠ 0 then ({ kind := kind }, srcE s q.srcs q.srcs.length err) else
  ({ kind := kind, frm := q.srcs.map s.tb, on := (onR (q.srcs.map Src.nm) (q.srcs.map s.tb) q.srcs q.srcs.length 0).1,
     items := (itemsB (q.srcs.map Src.nm) (q.srcs.map s.tb) q (onR (q.srcs.map Src.nm) (q.srcs.map s.tb) q.srcs q.srcs.length 0).2).1,
     names := (itemsB (q.srcs.map Src.nm) (q.srcs.map s.tb) q (onR (q.srcs.map Src.nm) (q.srcs.map s.tb) q.srcs q.srcs.length 0).2).2.1,
     kinds := (itemsB (q.srcs.map Src.nm) (q.srcs.map s.tb) q (onR (q.srcs.map Src.nm) (q.srcs.map s.tb) q.srcs q.srcs.length 0).2).2.2.1,
     cond := (condB (q.srcs.map Src.nm) (q.srcs.map s.tb) q.cond (itemsB (q.srcs.map Src.nm) (q.srcs.map s.tb) q (onR (q.srcs.map Src.nm) (q.srcs.map s.tb) q.srcs q.srcs.length 0).2).2.2.2).1,
     order := (ordR (itemsB (q.srcs.map Src.nm) (q.srcs.map s.tb) q (onR (q.srcs.map Src.nm) (q.srcs.map s.tb) q.srcs q.srcs.length 0).2).2.1 q.order q.order.length (condB (q.srcs.map Src.nm) (q.srcs.map s.tb) q.cond (itemsB (q.srcs.map Src.nm) (q.srcs.map s.tb) q (onR (q.srcs.map Src.nm) (q.srcs.map s.tb) q.srcs q.srcs.length 0).2).2.2.2).2).1,
     dist := q.dist, limited := q.limited, limit := q.limit },
   (ordR (itemsB (q.srcs.map Src.nm) (q.srcs.map s.tb) q (onR (q.srcs.map Src.nm) (q.srcs.map s.tb) q.srcs q.srcs.length 0).2).2.1 q.order q.order.length (condB (q.srcs.map Src.nm) (q.srcs.map s.tb) q.cond (itemsB (q.srcs.map Src.nm) (q.srcs.map s.tb) q (onR (q.srcs.map Src.nm) (q.srcs.map s.tb) q.srcs q.srcs.length 0).2).2.2.2).2).2)
theorem Qry.c12 (q : Qry) (h : 12 < q.cells.length) : q.cells[12] = eOrd.ds q.order := by simp [Qry.cells]
theorem Qry.c13 (q : Qry) (h : 13 < q.cells.length) : q.cells[13] = .bool q.limited := by simp [Qry.cells]
theorem Qry.c14 (q : Qry) (h : 14 < q.cells.length) : q.cells[14] = .int .i64 q.limit := by simp [Qry.cells]
theorem Qry.cc (q : Qry) : (q.cells.drop 4).take 8 = q.cond.cells := by
  simp only [Qry.cells, List.cons_append, List.nil_append, List.drop_succ_cons, List.drop_zero]
  rw [List.take_append_of_le_length (by simp)]; simp
structure Qry.fine (s : Sch) (q : Qry) : Prop where
 k : (kindsS (q.srcs.map s.tb)).length + q.items.length ≤ lim
 s : q.srcs.length ≤ lim
 o : q.order.length ≤ lim
 it : ∀ x ∈ q.items,x.e.sz ≤ lim ∧ x.e.may = true
 sr : ∀ x ∈ q.srcs,x.cond.sz ≤ lim ∧ x.cond.maybe = true
 cz : q.cond.sz ≤ lim
 cm : q.cond.maybe = true
theorem itemsB_len (ns : List (List Nat)) (ts : List Tbl) (q : Qry) (e : Int) : (itemsB ns ts q e).2.1.length ≤ (kindsS ts).length + q.items.length:=by
 have hn : (namesT ts).length = (kindsS ts).length:=by simp [namesT,kindsS,Tbl.kinds,List.length_flatMap]
 unfold itemsB
 split
 · simp [hn]
 · simp
theorem query28 (s : Sch) (hs : s.fine) (q : Qry) (hq : q.fine s) (kind : Int) (p o : Nat) (err : Int) (H : Hp) (n : Nat) (hpn : p < n) (hon : o < n) (hpo : p ≠ o) (hp : H.get p = some (bdS s err)) (ho : H.get o = some (.cells 25 [] (outZ kind) .nil)) :
  CallOk Try.prog 28 [.ptr p 0,q.av,.ptr o 0] H n (.tup []) ((H.put p (some (bdS s (queryB s q kind err).2))).put o (some (.cells 25 [] (queryB s q kind err).1.cells .nil))) n:=by
 refine binO (args:=[q.av]) c28 (by simp [A28]) (by simp [Qry.av,Qry.pure]) hpn hon hpo hp ho (PureL.rlt (by simp [outZ])) (PureL.rlt (by simp)) fun F H0 hF htop hp0 ho0 => ?_
 have q1:=neC hpn
 have q':=neD hpn
 have r':=neD hon
 have hcl : ∀ t ∈ q.srcs.map s.tb,t.cols.length ≤ lim:=by
  intro t ht
  obtain ⟨x,_,rfl⟩:=List.mem_map.1 ht
  exact firstD_len (Q:=fun t : Tbl => t.cols.length ≤ lim) (by simp [Tbl.zero]) hs.tc
 simp [A28,B28,R28_0,R28_1,R28_2,hF,Qry.av,Qry.c3,Enc.len_ds]
 generalize hK : Tr.put _ (n + 1) _ = K0
 have k0 : ∀ c,c < n → K0.get c = H0.get c:=fun c hc => by rw [← hK]; simp [neC hc]
 have kn : K0.get n = some (.cells 15 [] q.cells .nil):=by rw [← hK]; simp
 have ks : K0.get (n + 1) = some (.cells 2 [] [.cst (.slice none 0 0),.cst (.slice none 0 0)] .nil):=by rw [← hK]; simp
 have kt : Top K0 (n + 1 + 1):=fun c hc => by
  have e1 : ¬ c = n:=by omega
  have e2 : ¬ c = n + 1:=by omega
  rw [← hK]; simp [e1,e2,htop c (by omega)]
 clear hK
 refine query28a n p o hpn hon hpo H0 s hs q hq.s kind err _ K0 (n + 1 + 1) _ (.cst (.slice none 0 0)) (.cst (.slice none 0 0)) ⟨by simp [hF],by simp [hF],by simp,by simp,by simp,by simp,by simp⟩ ⟨by omega,kt,fun b h1 _ _ => k0 b h1,(k0 p hpn).trans hp0,kn,ks,(k0 o hon).trans ho0,by simpa using OwnS.nil _ _ 1,by simpa using OwnS.nil _ _ 4,by simp,by simp⟩ fun vn vt F1 K1 m1 S1 M1 => ?_
 clear hF k0 kn ks kt htop hp0 ho0
 obtain ⟨f0,f2,f4,f6,_,_,_⟩:=S1
 have kp1:=M1.kp
 have ks1:=M1.ks
 have ko1:=M1.ko
 have hm1:=M1.hm
 have hon1:=M1.on
 have hot1:=M1.ot
 rw [List.take_length] at hon1 hot1
 have hkp1' : K1.get p = some (.cells 3 [] [eTbl.ds s.tables,eIxd.ds s.indexes,.int .i64 (srcE s q.srcs q.srcs.length err)] .nil):=kp1
 have hqb : queryB s q kind err = if srcE s q.srcs q.srcs.length err ≠ 0 then ({ kind:=kind },srcE s q.srcs q.srcs.length err) else (queryB s q kind err):=by
  unfold queryB; split <;> rfl
 by_cases h0 : srcE s q.srcs q.srcs.length err = 0
 ·
  simp only [outZ] at ko1
  obtain ⟨hl1,hl2⟩:=hot1.len1
  have hl3:=hot1.isOne
  have kn1:=M1.kn
  have no : (n = o) = False:=by simp only [eq_iff_iff,iff_false]; omega
  simp [R28_12,R28_13,R28_14,f0,f2,f4,f6,hkp1',h0,ks1,ko1,hl1,hl2,hl3,no,kn1,Qry.c3,Enc.len_ds]
  have g2 : ∀ b,b ≠ o → (K1.put o (some (.cells 25 [] (outQ kind vt (.cst (.slice none 0 0)) (.cst (.slice none 0 0)) (.cst (.slice none 0 0)) (.cst (.slice none 0 0)) (.cst (.slice none 0 0)) (.cst (.slice none 0 0)) false false 0) .nil))).get b = K1.get b:=fun b hb => by simp [hb]
  have o2 : (K1.put o (some (.cells 25 [] (outQ kind vt (.cst (.slice none 0 0)) (.cst (.slice none 0 0)) (.cst (.slice none 0 0)) (.cst (.slice none 0 0)) (.cst (.slice none 0 0)) (.cst (.slice none 0 0)) false false 0) .nil))).get o = some (.cells 25 [] (outQ kind vt (.cst (.slice none 0 0)) (.cst (.slice none 0 0)) (.cst (.slice none 0 0)) (.cst (.slice none 0 0)) (.cst (.slice none 0 0)) (.cst (.slice none 0 0)) false false 0) .nil):=by simp
  simp only [outQ] at g2 o2
  generalize Tr.put K1 o _ = K2 at g2 o2 ⊢
  generalize hF2 : (Fp 66 _ _ : Fr) = F2
  have w0 : F2.get 0 = some (.ptr p 0):=by rw [← hF2]; simp [f0]
  have w2 : F2.get 2 = some (.ptr o 0):=by rw [← hF2]; simp [f2]
  have w4 : F2.get 4 = some (.ptr n 0):=by rw [← hF2]; simp [f4]
  have w6 : F2.get 6 = some (.ptr (n + 1) 0):=by rw [← hF2]; simp [f6]
  have w64 : F2.get 64 = some (eSrc.ds q.srcs):=by rw [← hF2]; simp
  have w65 : F2.get 65 = some (.int .i64 (q.srcs.length : Int)):=by rw [← hF2]; simp
  have w66 : F2.get 66 = some (.int .i64 ((0 : Nat) : Int)):=by rw [← hF2]; simp
  clear hF2
  have dn:=M1.dn
  have dt:=M1.dt
  obtain ⟨hh,K3,hsh,s3,o3,g3⟩:=shutQ (F:=F2) (F2:=pickF F2 [0,2,4,6,64,65,66]) (K:=K2) (m:=m1) (n:=n) (o:=o) (kind:=kind) (ns:=q.srcs.map Src.nm) (ts:=q.srcs.map s.tb) (vn:=vn) (vt:=vt) (by omega) (fun t v hv => pickF_sub hv) ((g2 (n + 1) (by omega)).trans ks1) o2
   (by rw [List.length_map]; exact hon1.frame (Nat.le_refl _) fun c hc => g2 c (by have:=(dn c hc).1; omega)) (by rw [List.length_map]; exact hot1.frame (Nat.le_refl _) fun c hc => g2 c (by have:=dt c hc; omega)) (fun b hb => by have:=(dn b hb).1; omega) (fun b hb => by have:=dt b hb; omega)
  have bk3 : ∀ b,b < n + 2 → b ≠ n + 1 → b ≠ o → K3.get b = K1.get b:=fun b h1 h2 h3 => by
   rw [g3 b h2 h3,if_neg,g2 b h3]
   rintro (h | h)
   · have:=(dn b h).1; omega
   · have:=dt b h; omega
  have t3 : Top K3 m1:=fun b hb => by
   rw [g3 b (by omega) (by omega)]
   split
   · rfl
   · rw [g2 b (by omega)]; exact M1.tp b hb
  have Q3 : QyM H0 n p o s (q.srcs.map Src.nm) (q.srcs.map s.tb) q 0 K3 m1:=⟨hm1,t3,fun b h1 h2 h3 => (bk3 b (by omega) (by omega) h3).trans (M1.kf b h1 h2 h3),by rw [bk3 p (by omega) (by omega) hpo,kp1,h0],(bk3 n (by omega) (by omega) (by omega)).trans kn1,s3⟩
  have hkl : (kindsS (q.srcs.map s.tb)).length ≤ lim:=by have:=hq.k; omega
  refine query28b n p o hpn hon hpo H0 s (q.srcs.map Src.nm) (q.srcs.map s.tb) (by simp) hkl (by simpa using hq.s) hcl q (by simp) hq.sr kind 0 _ K2 m1 _ ⟨hh,_,K3,hsh,.cst (.slice none 0 0),rfl,⟨(pickF_in (by simp)).trans w0,(pickF_in (by simp)).trans w2,(pickF_in (by simp)).trans w4,(pickF_in (by simp)).trans w6,(pickF_in (by simp)).trans w64,(pickF_in (by simp)).trans w65,(pickF_in (by simp)).trans w66⟩,⟨Q3,o3,by simpa using OwnS.nil _ _ 1,by simp⟩,rfl⟩ fun von F4 K4 m4 S4 M4 => ?_
  have hb0 : queryB s q kind err = queryB s q kind err:=rfl
  rw [queryB,if_neg (by simpa using h0)]
  have hnl:=itemsB_len (q.srcs.map Src.nm) (q.srcs.map s.tb) q (onR (q.srcs.map Src.nm) (q.srcs.map s.tb) q.srcs q.srcs.length 0).2
  have hkq:=hq.k
  have hlq : (q.srcs.map Src.nm).length = (q.srcs.map s.tb).length:=by simp
  have hsq:=hq.s
  have hsq' : (q.srcs.map s.tb).length ≤ lim:=by simpa using hsq
  have hol:=onR_len (q.srcs.map Src.nm) (q.srcs.map s.tb) q.srcs 0 q.srcs.length
  generalize q.srcs.map Src.nm = ns at *
  generalize q.srcs.map s.tb = ts at *
  clear hsh g3 bk3 t3 Q3 s3 o3 w0 w2 w4 w6 w64 w65 w66 g2 o2 K3 K2 dn dt hon1 hot1 M1 f0 f2 f4 f6
  generalize onR ns ts q.srcs q.srcs.length 0 = ON at *
  obtain ⟨L,e4⟩:=ON
  obtain ⟨f0,f2,f4,f6,_,_,_⟩:=S4
  have N4:=M4.mem
  have hm4:=N4.hm
  have ks4:=N4.ks
  have kn4:=N4.kn
  have ko4:=M4.ko
  simp only at hol hnl M4 N4 ko4 ⊢
  simp only [scC] at ks4
  simp [R28_19,f0,f2,f4,f6,ks4,kn4]
  have oa4:=M4.oa
  have da4:=M4.da
  have hv1:=oa4.isOne
  have hvl : RLtL m4 [eTbl.ds ts,von,(.cst (.slice none 0 0)),(.cst (.slice none 0 0))]:=by
   obtain ⟨_,⟨rfl,_⟩ | ⟨b,k,rfl,hb,_⟩⟩:=oa4
   · simp [Pure.rlt]
   · simp [Pure.rlt,hb]
  have hit:=items76 ns ts hlq hkl hsq' hcl s q hkq hq.it ⟨kind,eTbl.ds ts,von,(.cst (.slice none 0 0)),(.cst (.slice none 0 0)),false,false,0⟩ ⟨by simp,hv1,by simp,by simp⟩ p o e4 K4 m4 (by omega) (by omega) hpo hvl N4.kp ko4
  refine CalV.ok hit ?_
  generalize itemsB ns ts q e4 = IT at *
  obtain ⟨E,N,Ks,e5⟩:=IT
  simp only [QC.out] at hnl ⊢
  have g5 : ∀ b,b ≠ p → b ≠ o → ((K4.put p (some (bdS s e5))).put o (some (.cells 25 [] (outQ kind (eTbl.ds ts) von (.cst (.slice none 0 0)) (eEx.ds E) (eStr.ds N) (eInt.ds Ks) (.cst (.slice none 0 0)) false false 0) .nil))).get b = K4.get b:=fun b h1 h2 => by simp [h1,h2]
  have p5 : ((K4.put p (some (bdS s e5))).put o (some (.cells 25 [] (outQ kind (eTbl.ds ts) von (.cst (.slice none 0 0)) (eEx.ds E) (eStr.ds N) (eInt.ds Ks) (.cst (.slice none 0 0)) false false 0) .nil))).get p = some (bdS s e5):=by simp [hpo]
  have o5 : ((K4.put p (some (bdS s e5))).put o (some (.cells 25 [] (outQ kind (eTbl.ds ts) von (.cst (.slice none 0 0)) (eEx.ds E) (eStr.ds N) (eInt.ds Ks) (.cst (.slice none 0 0)) false false 0) .nil))).get o = some (.cells 25 [] (outQ kind (eTbl.ds ts) von (.cst (.slice none 0 0)) (eEx.ds E) (eStr.ds N) (eInt.ds Ks) (.cst (.slice none 0 0)) false false 0) .nil):=by simp
  generalize Tr.put (K4.put p _) o _ = K5 at g5 p5 o5 ⊢
  have N5:=N4.next hpn hon (Nat.le_refl _) (fun b hb => (g5 b (by omega) (by omega)).trans (N4.tp b hb)) (fun b _ h2 h3 => g5 b h2 h3) p5
  have oa5 : OwnS K5 m4 von (eRow.l L) q.srcs.length 1:=oa4.frame (Nat.le_refl _) fun b hb => g5 b (by have:=da4 b hb; omega) (by have:=da4 b hb; omega)
  have ks5:=N5.ks
  have kn5:=N5.kn
  simp only [scC] at ks5
  simp only [outQ] at o5
  have hcd:=cond25 ns ts hlq hkl hsq' hcl s q.cond hq.cz hq.cm p e5 K5 m4 (by omega) p5
  have hav : q.cond.av = .agg q.cond.cells 8:=Eq.trans rfl rfl
  rw [hav] at hcd
  simp only [scC] at hcd
  simp [R28_20,f0,f2,f4,f6,ks5,kn5,Qry.cc]
  refine CalV.ok hcd ?_
  generalize condB ns ts q.cond e5 = CD at *
  obtain ⟨W,e6⟩:=CD
  simp only
  have op : (o = p) = False:=by simp [Ne.symm hpo]
  have no : (n = o) = False:=by simp only [eq_iff_iff,iff_false]; omega
  have np : (n = p) = False:=by simp only [eq_iff_iff,iff_false]; omega
  simp [op,o5,R28_21,f4,no,np,kn5,Qry.c12,Enc.len_ds]
  generalize hK6 : Tr.put (K5.put p _) o _ = K6
  have g6 : ∀ b,b ≠ p → b ≠ o → K6.get b = K5.get b:=fun b h1 h2 => by rw [← hK6]; simp [h1,h2]
  have p6 : K6.get p = some (bdS s e6):=by rw [← hK6]; simp [hpo]
  have o6 : K6.get o = some (.cells 25 [] (outO kind ts von W E N Ks (.cst (.slice none 0 0))) .nil):=by rw [← hK6]; simp [outO,outQ]
  clear hK6
  have N6:=N5.next hpn hon (Nat.le_refl _) (fun b hb => (g6 b (by omega) (by omega)).trans (N5.tp b hb)) (fun b _ h2 h3 => g6 b h2 h3) p6
  have oa6 : OwnS K6 m4 von (eRow.l L) L.length 1:=by
   rw [hol]
   exact oa5.frame (Nat.le_refl _) fun b hb => g6 b (by have:=da4 b hb; omega) (by have:=da4 b hb; omega)
  refine query28c n p o hpn hon hpo H0 s ns ts q hq.o kind L W E N (by omega) Ks von hv1 e6 _ K6 m4 _ (.cst (.slice none 0 0)) ⟨by simp [f0],by simp [f2],by simp [f4],by simp [f6],by simp,by simp,by simp⟩ ⟨N6,o6,oa6,da4,by simpa using OwnS.nil _ _ 2,by simp⟩ fun va F7 K7 m7 S7 M7 => ?_
  have hor:=ordR_len N q.order e6 q.order.length
  generalize ordR N q.order q.order.length e6 = OR at *
  obtain ⟨O,e7⟩:=OR
  simp only at hor M7 ⊢
  obtain ⟨f0,f2,f4,f6,_,_,_⟩:=S7
  have kn7:=M7.mem.kn
  have ko7:=M7.ko
  simp only [outO,outQ] at ko7
  have zv : Frz (above n K7) von (eRow.ds L):=M7.ov.frzA (fun b hb => by have:=M7.dv b hb; omega) (FrzL.pure (eRow.l_pure L)) (by omega)
  have zo : Frz (above n K7) va (eKey.ds O):=by
   have:=M7.oa.frzA (n0:=n) (fun b hb => by have:=(M7.da b hb).1; omega) (FrzL.pure (eKey.l_pure O)) (by omega)
   rw [Enc.ds,hor]; exact this
  simp only [seqV_normal,R28_29,vc_drw]
  refine DrwV.of (ce0_ok (P:=Try.prog)) ?_
  simp [clearF_get,f2,f4,kn7,ko7,no,Qry.c0,Qry.c13,Qry.c14]
  have zm : ∀ K' : Hp,(∀ b,b ≠ o → K'.get b = K7.get b) → Frz (above n K') von (eRow.ds L) ∧ Frz (above n K') va (eKey.ds O):=fun K' h => ⟨zv.mono (above_le fun b k h1 h2 => ⟨h1,(h b (by omega)).trans h2⟩),zo.mono (above_le fun b k h1 h2 => ⟨h1,(h b (by omega)).trans h2⟩)⟩
  refine ⟨.pure _ (by simp),fun c h1 h2 h3 => by simp [h3,M7.mem.kf c h1 h2 h3],by simp [hpo]; exact M7.mem.kp,?_⟩
  generalize hK9 : Tr.put (Tr.put (Tr.put K7 o _) o _) o _ = K9
  have zz:=zm K9 fun b hb => by rw [← hK9]; simp [hb]
  simp [Bnd.cells,Tbl.zero,Ixd.zero]
  exact ⟨.inr zz.1,.inr zz.2⟩
 ·
  rw [hqb]
  simp [R28_12,f0,hkp1',h0]
  exact ⟨.pure _ (by simp),M1.kf,rfl,_,ko1,rfl,by simp [outZ,Bnd.cells,Tbl.zero,Ixd.zero]⟩
end Go.Abs
