/- A part. -/
import Derived.Test.YtbdgioomddkglaaGreatAbs2
import Derived.Laws.StructEq
import Derived.ChangeKeysEq
import Derived.MapKept
import Derived.KernelRfl
import Derived.Laws.Externs
import Derived.Lib.Bytealg
import Derived.RangeFuncRecord
import Derived.DefersIn
import Derived.RecoverIn
noncomputable section
namespace Go.Abs
open List
section
variable {P:Program}
theorem PU {t:TypeId}{d:TypeDesc}(hu:P.underlying t=some d)(h:∀fs,d≠.struct fs)(h2:∀n e,d≠.array n e):fV P t=some false:=by
  unfold fV;rw[hu];cases d<;>first | rfl | exact aj rfl (h _) | exact aj rfl (h2 _ _)
def pack (P:Program)(t:TypeId)(xs:List Value):Value:=match fV P t with
  | some true=>.agg ⟨xs⟩
  | _=>xs.getD 0 undef
theorem pz {t:TypeId}{k off:Nat}{xs:List Value}(hk:cD P t=some k) (ha:fV P t≠none) (h1:fV P t=some false->k=1) (hle:off+k<=xs.length) (w:World):
    (part t ⟨xs⟩ off).run P w=.ok (pack P t ((xs.drop off).take k)) w:=by
  unfold pack
  cases hagg:fV P t with
  | none=>exact aj hagg ha
  | some b =>
    cases b with
    | true =>
      cases hi:P.info? t with
      | none=>simp[cD,hi]at hk
      | some ti =>
        have:ti.size=k:=by simpa[cD,hi]using hk
        rw[we (P:=P) ⟨xs⟩ off hi hagg w,this]
        congr 2
        apply Array.ext'
        simp[extract]
    | false =>
      have hk1:=h1 hagg
      subst hk1
      have hlt:off<xs.length:=by omega
      rw[wc (P:=P) ⟨xs⟩ off hagg (v:=xs[off]) (by simp[hlt]) w]
      congr 1
      simp[getD,hlt]
theorem HL {φ:Ph}{D:Da}{q:LK}{a b:AV}{x y:Value}{r:Bool}(h:dW q a b=some r)(hx:VR φ D a x)(hy:VR φ D b y):
    (q=.i/\∃k i j,x=.int k i/\y=.int k j/\r=(i == j))∨(q=.b/\∃i j,x=.bool i/\y=.bool j/\r=(i == j))∨(q=.s/\∃i j,x=.string i/\y=.string j/\r=(i.toList == j.toList)):=by
  unfold dW at h
  split at h
  · split at h
    · rename_i e;subst e;injection h with h;subst h;cases hx;cases hy;exact .inl ⟨rfl,_,_,_,rfl,rfl,rfl⟩
    · cases h
  · injection h with h;subst h;cases hx;cases hy;exact .inr (.inl ⟨rfl,_,_,rfl,rfl,rfl⟩)
  · injection h with h;subst h
    cases hx with
    | str s _ hs=>cases hy with
      | str s' _ hs'=>exact .inr (.inr ⟨rfl,_,_,rfl,rfl,by rw[HO,<-toList_data,<-toList_data,hs,hs']⟩)
  · cases h
theorem l9:∀ {qs qs':List LK}{as bs:List AV}{r:Bool},bB (qs++qs') as bs=some r->qs.length<=as.length->qs.length<=bs.length->∃r1,bB qs (as.take qs.length) (bs.take qs.length)=some r1/\(r1=false->r=false)/\(r1=true->bB qs' (as.drop qs.length) (bs.drop qs.length)=some r)
  | [],qs',as,bs,r,h,_,_=>⟨true,by simp[bB],by simp,by intro _;simpa using h⟩
  | q::qs,qs',[],bs,r,h,hk,_=>by simp at hk
  | q::qs,qs',a::as,[],r,h,hk,hb=>by simp at hb
  | q :: qs,qs',a::as,b::bs,r,h,hk,hb=>by
    simp only[cons_append,bB]at h
    simp only[length_cons,take_succ_cons,drop_succ_cons,bB]
    cases hab:dW q a b with
    | none=>rw[hab]at h;cases h
    | some c =>
      rw[hab]at h
      cases c with
      | true=>exact l9 h (by simpa using hk) (by simpa using hb)
      | false=>injection h with h;subst h;exact⟨false,rfl,λ _=>rfl,by simp⟩
def Dw (P:Program) (φ:Ph) (D:Da) (w:World) (dd:Nat) (t:TypeId) (k:List LK):Prop:=
  fV P t≠none/\(fV P t=some false->k.length=1)/\∀(as bs:List AV) (xs ys:List Value) (r:Bool),as.length=k.length->bs.length=k.length->cw φ D as xs->cw φ D bs ys->bB k as bs=some r ->
    (Op.equalIn dd t (pack P t xs) (pack P t ys)).run P w=.ok r w
theorem ua {φ : Ph}{D:Da}{rr:TypeId->Option (List LK)}{dd:Nat}(w:World) (ih:∀t k,rr t=some k->Dw P φ D w dd t k):
    ∀(fs:List Field) (s:Nat) (k:List LK) (as bs:List AV) (xs ys:List Value) (r:Bool),rM P rr fs s=some k->as.length=s+k.length->bs.length=s+k.length->cw φ D as xs->cw φ D bs ys->bB k (as.drop s) (bs.drop s)=some r ->
      (Op.eqFields dd ⟨xs⟩ ⟨ys⟩ fs).run P w=.ok r w
  | [],s,k,as,bs,xs,ys,r,h,ha,hb,hx,hy,he=>by
    simp only[rM]at h;injection h with h;subst h
    rw[drop_of_length_le (by simp at ha;omega),drop_of_length_le (by simp at hb;omega)]at he
    simp[bB]at he
    simp[Op.eqFields,he]
  | f :: fs, s, k,as,bs,xs,ys,r,h,ha,hb,hx,hy,he=>by
    simp only[rM]at h
    split at h
    · cases h
    · rename_i hname
      split at h
      · rename_i hoff
        split at h
        · rename_i kk hk
          split at h
          · rename_i hsz
            split at h
            · rename_i l hl
              injection h with h;subst h
              obtain⟨i1,i2,i3⟩:=ih f.type kk hk
              simp only[length_append]at ha hb
              have hlen:=hx.length
              have hlen':=hy.length
              obtain⟨r1,e1,e2,e3⟩:=l9 he (by simp;omega) (by simp;omega)
              have p1:=pz (P:=P) (xs:=xs) (off:=s) hsz i1 i2 (by omega) w
              have p2:=pz (P:=P) (xs:=ys) (off:=s) hsz i1 i2 (by omega) w
              have q:=i3 ((as.drop s).take kk.length) ((bs.drop s).take kk.length) ((xs.drop s).take kk.length) ((ys.drop s).take kk.length) r1 (by simp;omega) (by simp;omega) ((hx.drop s).take kk.length) ((hy.drop s).take kk.length) e1
              simp only[Op.eqFields]
              rw[ak hname]
              simp only[bZ,hoff,p1,p2,q,bX]
              cases r1 with
              | false=>simp[e2 rfl]
              | true =>
                have e4:=e3 rfl
                rw[drop_drop,drop_drop]at e4
                simp only[Bool.not_true,Bool.false_eq_true,if_false]
                exact ua w ih fs (s+kk.length) l as bs xs ys r hl (by omega) (by omega) hx hy e4
            · cases h
          · cases h
        · cases h
      · cases h
theorem GZ (n:Nat)(k:List LK):(nX n k).length=n*k.length:=by
  induction n with
  | zero=>simp[nX]
  | succ n ih=>simp[nX,ih,Nat.succ_mul];omega
theorem ui {φ:Ph}{D:Da}{dd:Nat}{e:TypeId}{k:List LK}(w:World)(ih:Dw P φ D w dd e k)(hsz:cD P e=some k.length):
    ∀(m i:Nat) (as bs:List AV) (xs ys:List Value) (r:Bool),as.length=(i+m)*k.length->bs.length=(i+m)*k.length->cw φ D as xs->cw φ D bs ys->bB (nX m k) (as.drop (i*k.length)) (bs.drop (i*k.length))=some r ->
      (Op.eqItems dd e k.length ⟨xs⟩ ⟨ys⟩ (range' i m)).run P w=.ok r w
  | 0,i,as,bs,xs,ys,r,ha,hb,hx,hy,he=>by
    simp only[nX]at he
    rw[drop_of_length_le (by simp at ha;omega),drop_of_length_le (by simp at hb;omega)]at he
    simp[bB]at he
    simp[Op.eqItems,he]
  | m + 1,i,as,bs,xs,ys,r,ha,hb,hx,hy,he=>by
    obtain⟨i1,i2,i3⟩:=ih
    have hlen:=hx.length
    have hlen':=hy.length
    have hle:i*k.length+k.length<=as.length:=by rw[ha,<-Nat.succ_mul];exact rB _ (by omega)
    have hle':i*k.length+k.length<=bs.length:=by rw[hb,<-Nat.succ_mul];exact rB _ (by omega)
    simp only[nX]at he
    obtain⟨r1,e1,e2,e3⟩:=l9 he (by simp;omega) (by simp;omega)
    have p1:=pz (P:=P) (xs:=xs) (off:=i*k.length) hsz i1 i2 (by omega) w
    have p2:=pz (P:=P) (xs:=ys) (off:=i*k.length) hsz i1 i2 (by omega) w
    have q:=i3 ((as.drop (i*k.length)).take k.length) ((bs.drop (i*k.length)).take k.length) ((xs.drop (i*k.length)).take k.length) ((ys.drop (i*k.length)).take k.length) r1 (by simp;omega) (by simp;omega) ((hx.drop _).take k.length) ((hy.drop _).take k.length) e1
    rw[range'_succ]
    simp only[Op.eqItems,bZ,p1,p2,q,bX]
    cases r1 with
    | false=>simp[e2 rfl]
    | true =>
      have e4:=e3 rfl
      rw[drop_drop,drop_drop,<-Nat.succ_mul]at e4
      simp only[Bool.not_true,Bool.false_eq_true,if_false]
      exact ui w ⟨i1,i2,i3⟩ hsz m (i+1) as bs xs ys r (by rw[ha];congr 1;omega) (by rw[hb];congr 1;omega) hx hy e4
theorem qG {φ:Ph}{D:Da}(w:World):∀(d:Nat) (t:TypeId) (k:List LK),leaves P d t=some k->∀dd,d<=dd->Dw P φ D w dd t k
  | 0,t,k,h=>by simp[leaves]at h
  | d + 1,t,k,h=>by
    intro dd hdd
    obtain⟨dd,rfl⟩:∃e,dd=e+1:=⟨dd - 1,by omega⟩
    have leaf:∀zZ q,P.underlying t=some zZ->k=[q]->((zZ=.bool/\q=.b)∨(zZ=.string/\q=.s)∨∃kk,zZ=.int kk/\q=.i)->Dw P φ D w (dd+1) t k:=by
      intro zZ q hu hk hd
      subst hk
      have hagg:fV P t=some false:=PU hu (by rcases hd with⟨rfl,_⟩ | ⟨rfl,_⟩ | ⟨kk,rfl,_⟩<;>simp) (by rcases hd with⟨rfl,_⟩ | ⟨rfl,_⟩ | ⟨kk,rfl,_⟩<;>simp)
      refine⟨by rw[hagg];simp,λ _=>rfl,λ as bs xs ys r la lb hx hy he=>?_⟩
      match as,bs,la,lb with
      | [a],[b],_,_ =>
        cases hx with
        | cons _ x _ _ hx0 hx1 =>
        cases hx1
        cases hy with
        | cons _ y _ _ hy0 hy1 =>
        cases hy1
        simp only[bB]at he
        have he':dW q a b=some r:=by
          cases hab:dW q a b with
          | none=>rw[hab]at he;cases he
          | some c=>rw[hab]at he;cases c<;>simpa using he
        have hp:pack P t [x]=x/\pack P t [y]=y:=by unfold pack;rw[hagg];simp
        rw[hp.1,hp.2]
        rcases HL he' hx0 hy0 with⟨rfl,kk,i,j,rfl,rfl,rfl⟩ | ⟨rfl,i,j,rfl,rfl,rfl⟩ | ⟨rfl,i,j,rfl,rfl,rfl⟩
        · rcases hd with⟨_,e⟩ | ⟨_,e⟩ | ⟨kk',rfl,_⟩
          · cases e
          · cases e
          · exact run_equalIn_int w dd t kk kk' i j hu
        · rcases hd with⟨rfl,_⟩ | ⟨_,e⟩ | ⟨kk',_,e⟩
          · exact run_equalIn_bool' w dd t i j hu
          · cases e
          · cases e
        · rcases hd with⟨_,e⟩ | ⟨rfl,_⟩ | ⟨kk',_,e⟩
          · cases e
          · exact run_equalIn_string w dd t i j hu
          · cases e
    unfold leaves at h
    split at h
    · rename_i hu;injection h with h;exact leaf _ _ hu h.symm (.inl ⟨rfl,rfl⟩)
    · rename_i kk hu;injection h with h;exact leaf _ _ hu h.symm (.inr (.inr ⟨kk,rfl,rfl⟩))
    · rename_i hu;injection h with h;exact leaf _ _ hu h.symm (.inr (.inl ⟨rfl,rfl⟩))
    · rename_i fs hu
      split at h
      · cases h
      · rename_i hst
        have hagg:fV P t=some true:=by unfold fV;rw[hu]
        refine⟨by rw[hagg];simp,by rw[hagg];simp,λ as bs xs ys r la lb hx hy he=>?_⟩
        have hp:pack P t xs=.agg ⟨xs⟩/\pack P t ys=.agg ⟨ys⟩:=by unfold pack;rw[hagg];exact⟨rfl,rfl⟩
        rw[hp.1,hp.2]
        have hfo:P.fieldsOf t=fs:=by unfold Program.fieldsOf;rw[hu]
        rw[run_equalIn_struct w dd t ⟨xs⟩ ⟨ys⟩ (by rw[hfo];exact hu) (by simpa using hst),hfo]
        exact ua (φ:=φ) (D:=D) (dd:=dd) w (λ t' k' h'=>qG (φ:=φ) (D:=D) w d t' k' h' dd (by omega)) fs.toList 0 k as bs xs ys r h (by omega) (by omega) hx hy (by simpa using he)
    · rename_i n e hu
      split at h
      · rename_i kk hk
        split at h
        · rename_i hsz
          injection h with h
          subst h
          have hagg:fV P t=some true:=by unfold fV;rw[hu]
          refine⟨by rw[hagg];simp,by rw[hagg];simp,λ as bs xs ys r la lb hx hy he=>?_⟩
          have hp:pack P t xs=.agg ⟨xs⟩/\pack P t ys=.agg ⟨ys⟩:=by unfold pack;rw[hagg];exact⟨rfl,rfl⟩
          rw[hp.1,hp.2]
          obtain⟨ti,hi,hcs⟩:∃ti,P.info? e=some ti/\P.cellsOf e=kk.length:=by
            unfold cD at hsz
            cases hi:P.info? e with
            | none=>rw[hi]at hsz;cases hsz
            | some ti=>rw[hi]at hsz;injection hsz with hsz;exact⟨ti,rfl,by simp[Program.cellsOf,hi,hsz]⟩
          rw[run_equalIn_array w dd ⟨xs⟩ ⟨ys⟩ hu hi,hcs,range_eq_range']
          rw[GZ]at la lb
          exact ui w (qG (φ:=φ) (D:=D) w d e kk hk dd (by omega)) hsz n 0 as bs xs ys r (by simpa using la) (by simpa using lb) hx hy (by simpa using he)
        · cases h
      · cases h
    · cases h
theorem Ru {o:Oper}{op:BinOp}{t u:TypeId}{x y:Operand}{g k:G}{ks:List LK}(ho:o.op=.binOp op t x y u) (hg:cA x=some g) (hk:cA y=some k) (hop:isEq op=true) (hagg:fV P t=some true) (hl:leaves P 20 t=some ks)
    (hgd:P.eqGuardType P.depth t=false):bP P o (e2 (kA (lQ op) ks) g k):=by
  refine HS hg hk _ λ φ D h w n ρ v u xv yv hr hx hy hv huv hf hne=>?_
  unfold kA at hne ⊢
  split at hne
  · rename_i a na b nb
    split at hne
    · rename_i hn
      simp only[fz]at hn
      have hn1:=cR hn.1
      have hn2:=cR hn.2
      split at hne
      · rename_i r hr'
        cases hv with
        | agg _ xl _ hxs hxn =>
        cases huv with
        | agg _ yl _ hys hyn =>
        obtain⟨_,_,q3⟩:=qG (P:=P) (φ:=φ) (D:=D) w 20 t ks hl 10000 (by omega)
        have hp:pack P t xl=.agg ⟨xl⟩/\pack P t yl=.agg ⟨yl⟩:=by unfold pack;rw[hagg];exact⟨rfl,rfl⟩
        have q:=q3 a b xl yl r (by omega) (by omega) hxs hys hr'
        rw[hp.1,hp.2]at q
        refine Does.val hr (cv:=.bool (lQ op != r)) ?_ (.bool _)
        simp only[execOp,ho,hx,hy,bZ,run_eqGuard_agg w op t x y _ _ hgd,bX]
        cases op<;>simp[isEq]at hop
        · simp only[run_eql_struct,q,bX,cS,lQ];cases r<;>rfl
        · simp only[run_neq_struct,q,bX,cS,lQ];cases r<;>rfl
      · exact aj rfl hne
    · exact aj rfl hne
  · exact aj rfl hne
theorem run_eq_of {op:BinOp}{t:TypeId}{x y:Value}{r:Bool}(w:World)(hop:isEq op=true)(he:binOp .eql t x y=(do pure (.bool (<-Op.equal t x y))))(hn:binOp .neq t x y=(do pure (.bool (!(<-Op.equal t x y)))))
    (h:∀d,(Op.equalIn (d+1) t x y).run P w=.ok r w):(binOp op t x y).run P w=.ok (.bool (lQ op != r)) w:=by
  have h':(Op.equal t x y).run P w=.ok r w:=h 9999
  cases op<;>simp[isEq]at hop
  · rw[he];simp only[bZ,h',bX,cS,lQ];cases r<;>rfl
  · rw[hn];simp only[bZ,h',bX,cS,lQ];cases r<;>rfl
def mr (P:Program)(aI:Bool)(q:EqK):TypeDesc->Prop
  | .int _=>q=.num
  | .string=>q=.num
  | .bool=>q=.bool
  | .pointer e=>q=.ptr/\∃k,cD P e=some (k+1)
  | .slice _=>q=.slice
  | .map _ _=>q=.map
  | .func _ _ _=>q=.func
  | .interface _=>(q=.k7/\aI=true)∨q=.iface
  | _=>False
theorem HM {t:TypeId}{q:EqK}{aI:Bool}(hq:w_ P aI t=some q):∃zZ,P.underlying t=some zZ/\mr P aI q zZ:=by
  unfold w_ at hq
  split at hq
  · rename_i hu;injection hq with hq;exact⟨_,hu,hq.symm⟩
  · rename_i hu;injection hq with hq;exact⟨_,hu,hq.symm⟩
  · rename_i hu;injection hq with hq;exact⟨_,hu,hq.symm⟩
  · rename_i hu
    split at hq
    · rename_i hz
      injection hq with hq
      exact⟨_,hu,hq.symm,_,hz⟩
    · cases hq
  · rename_i hu;injection hq with hq;exact⟨_,hu,hq.symm⟩
  · rename_i hu;injection hq with hq;exact⟨_,hu,hq.symm⟩
  · rename_i hu;injection hq with hq;exact⟨_,hu,hq.symm⟩
  · rename_i hu
    injection hq with hq
    refine⟨_,hu,?_⟩
    show (q=.k7/\aI=true)∨q=.iface
    rw[<-hq]
    cases aI
    · exact .inr rfl
    · exact .inl ⟨rfl,rfl⟩
  · cases hq
theorem iz {op:BinOp}{t:TypeId}{xo yo:Operand}{x y:Value}(w:World)(hop:isEq op=true)(hagg:∀l,x≠.agg l)(hnil:x≠.nilIface∨y≠.nilIface∨(rQ xo||rQ yo)=true):
    (eqGuard op t xo yo x y).run P w=.ok () w:=by
  cases op<;>simp[isEq]at hop
  all_goals
    cases x<;>cases y<;>first
      | rfl
      | exact aj rfl (hagg _)
      | (rcases hnil with hnil | hnil | hnil
         · exact aj rfl hnil
         · exact aj rfl hnil
         · cases xo<;>cases yo<;>first | rfl | (simp[rQ]at hnil))
theorem PD {t el:TypeId}{k o1 o2 cb co:Nat}(w:World) (hu:P.underlying t=some (.pointer el)) (hk:cD P el=some (k+1)) (d:Nat):
    (Op.equalIn (d+1) t (.pointer (some ⟨cb,co+o1,none⟩)) (.pointer (some ⟨cb,co+o2,none⟩))).run P w=.ok (Nat.beq o1 o2) w:=by
  cases hi:P.info? el with
  | none=>simp[cD,hi]at hk
  | some ti =>
    have hsz:ti.size=k+1:=by simpa[cD,hi]using hk
    have hs:(sizeOf el).run P=λ w=>.ok (k+1) w:=by funext w;rw[run_sizeOf _ hi];simp[Program.cellsOf,hi,hsz]
    have heq:((⟨cb,co+o1,none⟩:Addr) ==⟨cb,co+o2,none⟩)=Nat.beq o1 o2:=by
      by_cases ho:o1=o2
      · subst ho;simp
      · have:(Nat.beq o1 o2)=false:=by
          cases hb:Nat.beq o1 o2 with
          | false=>rfl
          | true=>exact aj (cR hb) ho
        rw[this];simp;exact ho
    simp only[Op.equalIn,bZ,run_underlying hu,bX,hs]
    simp[sameAddr,heq]
theorem sV {t:TypeId}{zZ:TypeDesc}{x y:Value}{aI:Bool}{q:EqK}(w:World)(hu:P.underlying t=some zZ)(hm:mr P aI q zZ)(d:Nat)(r:Bool)
    (h:(q=.ptr/\((∃a,x=.pointer (some a)/\y=.pointer none/\r=false)∨(∃a,x=.pointer none/\y=.pointer (some a)/\r=false)∨(x=.pointer none/\y=.pointer none/\r=true))) ∨
      (q=.slice/\((∃a l c l' c',x=.slice (some a) l c/\y=.slice none l' c'/\r=false)∨(∃a l c l' c',x=.slice none l' c'/\y=.slice (some a) l c/\r=false)∨(∃l c l' c',x=.slice none l c/\y=.slice none l' c'/\r=true))) ∨
      (q=.map/\((∃a,x=.map (some a)/\y=.map none/\r=false)∨(∃a,x=.map none/\y=.map (some a)/\r=false)∨(x=.map none/\y=.map none/\r=true))) ∨
      (q=.func/\((∃f a b,x=.func f a b/\y=.nilFunc/\r=false)∨(∃f a b,x=.nilFunc/\y=.func f a b/\r=false)∨(x=.nilFunc/\y=.nilFunc/\r=true))) ∨
      ((q=.iface∨q=.k7)/\((∃a b,x=.iface a b/\y=.nilIface/\r=false)∨(∃a b,x=.nilIface/\y=.iface a b/\r=false)∨(x=.nilIface/\y=.nilIface/\r=true)))):
    (Op.equalIn (d+1) t x y).run P w=.ok r w:=by
  simp only[Op.equalIn,bZ,run_underlying hu,bX]
  rcases h with⟨rfl,h⟩ | ⟨rfl,h⟩ | ⟨rfl,h⟩ | ⟨rfl,h⟩ | ⟨h0,h⟩
  · cases zZ<;>simp[mr]at hm
    rcases h with⟨_,rfl,rfl,rfl⟩ | ⟨_,rfl,rfl,rfl⟩ | ⟨rfl,rfl,rfl⟩<;>rfl
  · cases zZ<;>simp[mr]at hm
    rcases h with⟨_,_,_,_,_,rfl,rfl,rfl⟩ | ⟨_,_,_,_,_,rfl,rfl,rfl⟩ | ⟨_,_,_,_,rfl,rfl,rfl⟩<;>rfl
  · cases zZ<;>simp[mr]at hm
    rcases h with⟨_,rfl,rfl,rfl⟩ | ⟨_,rfl,rfl,rfl⟩ | ⟨rfl,rfl,rfl⟩<;>rfl
  · cases zZ<;>simp[mr]at hm
    rcases h with⟨_,_,_,rfl,rfl,rfl⟩ | ⟨_,_,_,rfl,rfl,rfl⟩ | ⟨rfl,rfl,rfl⟩<;>rfl
  · rcases h0 with rfl | rfl<;>(cases zZ<;>simp[mr]at hm) <;>
    rcases h with⟨_,_,rfl,rfl,rfl⟩ | ⟨_,_,rfl,rfl,rfl⟩ | ⟨rfl,rfl,rfl⟩<;>rfl
theorem Pz {φ:Ph}{D:Da}{op:BinOp}{t:TypeId}{q:EqK}{a b:AV}{xo yo:Operand}{x y:Value}{r:Bool}(w:World)(hop:isEq op=true)(h:je q a b=some r)(hx:VR φ D a x)(hy:VR φ D b y)(hq:w_ P (rQ xo||rQ yo) t=some q):
    (eqGuard op t xo yo x y).run P w=.ok () w/\(binOp op t x y).run P w=.ok (.bool (lQ op != r)) w:=by
  obtain⟨zZ,hu,hm⟩:=HM hq
  unfold je at h
  split at h
  · split at h
    · rename_i hjk
      subst hjk;injection h with h;subst h;cases hx;cases hy
      refine⟨iz w hop (by simp) (by simp),?_⟩
      cases op<;>simp[isEq]at hop<;>simp[binOp,Op.intCmp,lQ,bne]
    · cases h
  · injection h with h;subst h
    cases hx with
    | str s _ hs =>
    cases hy with
    | str s' _ hs' =>
    subst hs hs'
    have he:(s.toList == s'.toList)=fm (s.data.toList.map UInt8.toNat) (s'.data.toList.map UInt8.toNat):=by rw[HO,<-toList_data,<-toList_data]
    refine⟨iz w hop (by simp) (by simp),?_⟩
    cases op<;>simp[isEq]at hop<;>simp[binOp,Op.stringOp,lQ,bne,he]
  · injection h with h;subst h;cases hx;cases hy
    refine⟨iz w hop (by simp) (by simp),?_⟩
    cases zZ<;>simp[mr]at hm
    exact run_eq_of w hop rfl rfl λ d=>by simp[Op.equalIn,run_underlying hu]
  · rename_i a1 o1 b1 o2
    split at h
    · rename_i hb
      have hb:=cR hb
      subst hb;injection h with h;subst h
      cases hx with
      | ptr _ _ cb co cz hp =>
      cases hy with
      | ptr _ _ cb' co' cz' hp' =>
      rw[hp]at hp';injection hp' with hp';simp only[Prod.mk.injEq]at hp';obtain⟨rfl,rfl,rfl⟩:=hp'
      refine⟨iz w hop (by simp) (by simp),?_⟩
      cases zZ<;>simp[mr]at hm
      obtain⟨k,hk⟩:=hm
      exact run_eq_of w hop rfl rfl (PD w hu hk)
    · cases h
  all_goals first
    | (exfalso;cases h;done)
    | (injection h with h;subst h;cases hx<;>cases hy <;>
       exact⟨iz w hop (λ _=>Value.noConfusion) (.inl Value.noConfusion),run_eq_of w hop rfl rfl λ d=>sV w hu hm d _ (by simp)⟩)
    | (injection h with h;subst h;cases hx<;>cases hy <;>
       exact⟨iz w hop (λ _=>Value.noConfusion) (.inr (.inl Value.noConfusion)),run_eq_of w hop rfl rfl λ d=>sV w hu hm d _ (by simp)⟩)
    | skip
  · injection h with h;subst h;cases hx;cases hy
    refine⟨iz w hop (by simp) (.inr (.inr ?_)),run_eq_of w hop rfl rfl λ d=>sV w hu hm d _ (by simp)⟩
    cases zZ<;>simp[mr]at hm
    simpa using hm
theorem ok_eq {o:Oper}{op:BinOp}{t u:TypeId}{x y:Operand}{g k:G}{q:EqK}(ho:o.op=.binOp op t x y u)(hg:cA x=some g)(hk:cA y=some k)(hop:isEq op=true)(hq:w_ P (rQ x||rQ y) t=some q):bP P o (e2 (j7 (lQ op) q) g k):=by
  refine HS hg hk _ λ φ D h w n ρ v u xv yv hr hx hy hv huv hf hne=>?_
  unfold j7 at hne ⊢
  cases he:je q v u with
  | none=>rw[he]at hne;exact aj rfl hne
  | some r =>
    obtain⟨h1,h2⟩:=Pz (P:=P) w hop he hv huv hq
    exact Does.val hr (by simp only[execOp,ho,hx,hy,bZ,h1,h2,bX,cS]) (.bool _)
end
end Go.Abs
namespace Go.Abs
open List
section
variable {P:Program}
theorem tY {o:Oper}{c:Call}{t:TypeId}{x:Operand}{k:Nat}{d:TypeDesc}(ho:o.op=.call c)(hcb:c.callee=.builtin .len)(h0:c.argTypes[0]?=some t)(a0:c.args[0]?=some x)
  (hu:P.underlying t=some d)(hd:(∃e,d=.array k e)∨∃arr e,d=.pointer arr/\P.underlying arr=some (.array k e)):bP P o (λ _ _ _=>.val (.int .i64 (Int.ofNat k))):=by
 intro F H n φ D a w hr hF hf hne;obtain⟨cs,hrun⟩:=f_ (P:=P) (ρ:=a.eval) ho hcb w;refine Does.val hr (cv:=.int .i64 k) ?_ (.int _ _);rw[hrun]
 rcases hd with⟨e,rfl⟩|⟨arr,e,rfl,ha⟩
 ·simp[builtin,Builtin.len_,h0,a0,run_underlying hu,goInt]
 simp[builtin,Builtin.len_,h0,a0,run_underlying hu,run_underlying ha,goInt]
theorem aa8 {o:Oper}{c:Call}{t:TypeId}{x:Operand}{g:G}(ho:o.op=.call c)(hcb:c.callee=.builtin .len)(h0:c.argTypes[0]?=some t)(a0:c.args[0]?=some x)(hg:cA x=some g)
  (hu:P.underlying t=some .string):bP P o (e1 fb g):=by
 refine sW hg _ λ φ D h w n ρ v xv hr hx hv hf hne=>?_;obtain⟨cs,hrun⟩:=f_ (P:=P) (ρ:=ρ) ho hcb w;unfold fb at hne ⊢
 split at hne
 ·cases hv with
  |str s _ hs =>
  have hl:dH (s.data.toList.map UInt8.toNat) 0=s.size:=by rw[bN,length_map];rfl
  subst hs;refine Does.val hr (cv:=.int .i64 s.size) ?_ (by rw[hl];exact .int _ _);rw[hrun];simp[builtin,Builtin.len_,h0,a0,run_underlying hu,hx,goInt]
 exact aj rfl hne
theorem aa9 {o:Oper}{c:Call}{t e:TypeId}{x:Operand}{g:G}(ho:o.op=.call c) (hcb:c.callee=.builtin .len) (h0:c.argTypes[0]?=some t) (a0:c.args[0]?=some x) (hg:cA x=some g)
  (hu:P.underlying t=some (.slice e)):bP P o (e1 bu g):=by
 refine sW hg _ λ φ D h w n ρ v xv hr hx hv hf hne=>?_;obtain⟨cs,hrun⟩:=f_ (P:=P) (ρ:=ρ) ho hcb w
 have go:∀a k c,xv=.slice a k c->Does P (execOp ρ o) φ D h w n (.val (.int .i64 (Int.ofNat k))):=by
  intro a k c' e;refine Does.val hr (cv:=.int .i64 k) ?_ (.int _ _);rw[hrun];simp[builtin,Builtin.len_,h0,a0,run_underlying hu,hx,goInt,e]
 unfold bu at hne ⊢
 split at hne
 ·cases hv;exact go _ _ _ rfl
 ·cases hv<;>exact go _ _ _ rfl
 ·rename_i p c
  split at hne
  ·cases hv with
   |aI _ ha =>
   have:p=0:=by
    unfold atom at ha
    split at ha<;>simp_all
   subst this;exact go none 0 0 rfl
  exact aj rfl hne
 exact aj rfl hne
theorem Lm {φ:Ph}{D:Da}{k:IntKind}(w:World):∀(l:List AV) (xs:List Value) (a:Int) (r:AV),cw φ D l xs->uK k a l=some r->∃i,r=.int k i/\(xs.foldlM Builtin.min2 (.int k a)).run P w=.ok (.int k i) w
 |[],xs,a,r,hx,h=>by
  cases hx
  simp only[uK]at h;injection h with h;subst h;exact⟨_,rfl,by simp⟩
 |v :: l,xs,a,r,hx,h=>by
  unfold uK at h
  split at h
  ·rename_i e;cases e
  ·rename_i j b r' e;injection e with e1 e2;subst e1 e2
   split at h
   ·rename_i e;subst e
    cases hx with
    |cons _ y _ ys h1 h2 =>
    cases h1
    obtain⟨i,hi,hrun⟩:=Lm w l ys _ _ h2 h;exact⟨i,hi,by simp only[List.foldlM_cons,Builtin.min2,bZ,cS,bX];exact hrun⟩
   cases h
  cases h
theorem Lo {φ:Ph}{D:Da}{k:IntKind}(w:World):∀(l:List AV) (xs:List Value) (a:Int) (r:AV),cw φ D l xs->O3 k a l=some r->∃i,r=.int k i/\(xs.foldlM Builtin.max2 (.int k a)).run P w=.ok (.int k i) w
 |[],xs,a,r,hx,h=>by
  cases hx
  simp only[O3]at h;injection h with h;subst h;exact⟨_,rfl,by simp⟩
 |v :: l,xs,a,r,hx,h=>by
  unfold O3 at h
  split at h
  ·rename_i e;cases e
  ·rename_i j b r' e;injection e with e1 e2;subst e1 e2
   split at h
   ·rename_i e;subst e
    cases hx with
    |cons _ y _ ys h1 h2 =>
    cases h1
    obtain⟨i,hi,hrun⟩:=Lo w l ys _ _ h2 h;exact⟨i,hi,by simp only[List.foldlM_cons,Builtin.max2,bZ,cS,bX];exact hrun⟩
   cases h
  cases h
theorem ahl {o:Oper}{c:Call}{gs:List G}(ho:o.op=.call c) (hcb:c.callee=.builtin .min) (hg:jt c.args.toList=some gs):bP P o (qU uL gs):=by
 intro F H n φ D a w hr hF hf hne;obtain⟨cs,hrun⟩:=f_ (P:=P) (ρ:=a.eval) ho hcb w;unfold qU at hf hne ⊢
 cases hv:evs F gs with
 |none=>rw[hv]at hne;exact aj rfl hne
 |some l =>
  rw[hv]at hne;have hl:=dz hg F φ D a hF l hv;dsimp only at hne ⊢
  cases hm:uL l with
  |none=>rw[hm]at hne;exact aj rfl hne
  |some r =>
   unfold uL at hm
   split at hm
   ·rename_i k i rest
    cases hxs:c.args.toList.map a.eval with
    |nil=>rw[hxs]at hl;cases hl
    |cons x xs =>
     rw[hxs]at hl
     cases hl with
     |cons _ _ _ _ h1 h2 =>
     cases h1
     obtain⟨j,rfl,hj⟩:=Lm (P:=P) w rest xs i r h2 hm;refine Does.val hr (cv:=.int k j) ?_ (.int _ _);rw[hrun];simp[builtin,Builtin.min_,hxs,hj]
   cases hm
theorem ahm {o:Oper}{c:Call}{gs:List G}(ho:o.op=.call c) (hcb:c.callee=.builtin .max) (hg:jt c.args.toList=some gs):bP P o (qU Hv gs):=by
 intro F H n φ D a w hr hF hf hne;obtain⟨cs,hrun⟩:=f_ (P:=P) (ρ:=a.eval) ho hcb w;unfold qU at hf hne ⊢
 cases hv:evs F gs with
 |none=>rw[hv]at hne;exact aj rfl hne
 |some l =>
  rw[hv]at hne;have hl:=dz hg F φ D a hF l hv;dsimp only at hne ⊢
  cases hm:Hv l with
  |none=>rw[hm]at hne;exact aj rfl hne
  |some r =>
   unfold Hv at hm
   split at hm
   ·rename_i k i rest
    cases hxs:c.args.toList.map a.eval with
    |nil=>rw[hxs]at hl;cases hl
    |cons x xs =>
     rw[hxs]at hl
     cases hl with
     |cons _ _ _ _ h1 h2 =>
     cases h1
     obtain⟨j,rfl,hj⟩:=Lo (P:=P) w rest xs i r h2 hm;refine Does.val hr (cv:=.int k j) ?_ (.int _ _);rw[hrun];simp[builtin,Builtin.max_,hxs,hj]
   cases hm
end
end Go.Abs
namespace Go.Abs
open List
open Go.MapKept (bytes_beq run_getObj_map run_setObj_map run_findKey)
section
variable {P:Program}
theorem uh {a b:List Nat}(h:fm a b=true):a=b:=by rw[dZ]at h;simpa using h
theorem E9 (a:List Nat):fm a a=true:=by rw[dZ];simp
def kindOk:LK->TypeDesc->Prop
 |.i,.int _=>True
 |.s,.string=>True
 |_,_=>False
theorem zG {t:TypeId}{q:LK}(h:O_ P t=some q):∃d,P.underlying t=some d/\kindOk q d:=by
 unfold O_ at h
 split at h
 ·rename_i hu;injection h with h;subst h;exact⟨_,hu,trivial⟩
 ·rename_i hu;injection h with h;subst h;exact⟨_,hu,trivial⟩
 cases h
theorem bytes_inj {s s':ByteArray}(h:s.data.toList.map UInt8.toNat=s'.data.toList.map UInt8.toNat):s=s':=by
 have h1:s.data.toList=s'.data.toList:=(List.map_inj_right (λ x y h=>UInt8.toNat_inj.1 h)).1 h
 cases s;cases s'
 congr 1
 exact Array.ext' h1
theorem mB {φ : Ph}{D:Da}{q:LK}{d:TypeDesc}{a b:AV}{x y:Value}{r:Bool}(hd:kindOk q d) (h:dW q a b=some r) (hx:VR φ D a x) (hy:VR φ D b y):Instr.sameNow d x y=some r/\(r=true->x=y):=by
 unfold dW at h
 split at h
 ·split at h
  ·rename_i e;subst e;injection h with h;subst h
   cases hx;cases hy
   cases d<;>simp[kindOk]at hd
   exact⟨by simp[Instr.sameNow],by simp⟩
  cases h
 ·cases d<;>simp[kindOk]at hd
 ·injection h with h;subst h
  cases hx with
  |str s _ hs=>cases hy with
   |str s' _ hs' =>
    subst hs hs'
    cases d<;>simp[kindOk]at hd
    have he:(s == s')=fm (s.data.toList.map UInt8.toNat) (s'.data.toList.map UInt8.toNat):=by
     cases hq:fm (s.data.toList.map UInt8.toNat) (s'.data.toList.map UInt8.toNat)with
     |true =>
      have:=uh hq;rw[bytes_inj this];exact(bytes_beq _ _).2 rfl
     |false =>
      cases hb:s == s' with
      |false=>rfl
      |true =>
       have:=(bytes_beq _ _).1 hb;subst this;rw[E9]at hq;cases hq
    refine⟨by simp only[Instr.sameNow,he],λ hr=>by rw[bytes_inj (uh hr)]⟩
 cases h
theorem adO {q:LK}{d:TypeDesc}{kt:TypeId}{x:Value}{w:World}(hu:P.underlying kt=some d)(hd:kindOk q d)(e:Bool)(n:Nat):(Instr.checkKey e (n+1) kt x).run P w=.ok () w:=by
 unfold Instr.checkKey;simp only[bZ,run_underlying hu,bX]
 cases q<;>cases d<;>simp[kindOk]at hd<;>cases x<;>rfl
theorem ahY {φ:Ph}{D:Da}{q:LK}{k:AV}{x:Value}{w:World}(h:isKey q k=true)(hx:VR φ D k x):(Instr.keyThatStays x x).run P w=.ok x w:=by
 unfold isKey at h
 split at h
 ·cases hx;simp[Instr.keyThatStays,Instr.sameBits]
 ·cases hx;simp[Instr.keyThatStays,Instr.sameBits,(bytes_beq _ _).2]
 cases h
theorem nm {φ:Ph}{D:Da}{q:LK}{d:TypeDesc}{k:AV}{x:Value}(hd:kindOk q d)(hx:VR φ D k x):∀(es:List (AV×AV×Nat))(l:List MapEntry)(i:Nat)(r:Option AV),vA φ D es l->findKey q k es=some r ->
  (r=none/\Instr.findNow d x l i=some none)∨∃v j y,r=some v/\Instr.findNow d x l i=some (some (j,y))/\VR φ D v y
 |[],l,i,r,he,h=>by
  cases he
  simp only[findKey]at h;injection h with h;exact .inl ⟨h.symm,rfl⟩
 |e :: es,l,i,r,he,h=>by
  cases he with
  |cons kk v b y z _ l' h1 h2 h3 =>
  simp only[findKey]at h
  split at h
  ·rename_i hq;injection h with h;exact .inr ⟨v,i,z,h.symm,by simp[Instr.findNow,(mB hd hq hx h1).1],h2⟩
  ·rename_i hq
   rcases nm hd hx es l' (i+1) r h3 h with⟨h4,h5⟩|⟨v',j,y',h4,h5,h6⟩
   ·exact .inl ⟨h4,by simp[Instr.findNow,(mB hd hq hx h1).1,h5]⟩
   exact .inr ⟨v',j,y',h4,by simp[Instr.findNow,(mB hd hq hx h1).1,h5],h6⟩
  cases h
theorem lM {φ:Ph}{D:Da}{q:LK}{d:TypeDesc}{k v:AV}{x z:Value}(hd:kindOk q d) (hx:VR φ D k x) (hz:VR φ D v z):∀(es:List (AV×AV×Nat)) (l:List MapEntry) (i:Nat) (r:Option (List (AV×AV×Nat))),vA φ D es l->jz q k v es=some r ->
  (r=none/\Instr.findNow d x l i=some none)∨∃es' j y e,r=some es'/\Instr.findNow d x l i=some (some (i+j,y))/\l[j]?=some e/\e.key=x/\vA φ D es' (l.modify j λ e=>{e with key:=x,val:=z})
 |[],l,i,r,he,h=>by
  cases he
  simp only[jz]at h;injection h with h;exact .inl ⟨h.symm,rfl⟩
 |e :: es,l,i,r,he,h=>by
  cases he with
  |cons kk u b y u' _ l' h1 h2 h3 =>
  simp only[jz]at h
  split at h
  ·rename_i hq;injection h with h;obtain⟨hs,heq⟩:=mB hd hq hx h1;exact .inr ⟨_,0,u',_,h.symm,by simp[Instr.findNow,hs],rfl,(heq rfl).symm,.cons _ _ _ _ _ _ _ hx hz h3⟩
  ·rename_i hq;obtain⟨hs,_⟩:=mB hd hq hx h1
   split at h
   ·rename_i r' hr';injection h with h
    rcases lM hd hx hz es l' (i+1) _ h3 hr' with⟨h4,_⟩|⟨es',j,y',e',h4,h5,h6,h7,h8⟩
    ·cases h4
    injection h4 with h4;subst h4;exact .inr ⟨_,j+1,y',e',h.symm,by simp[Instr.findNow,hs,h5];omega,by simpa using h6,h7,.cons _ _ _ _ _ _ _ h1 h2 h8⟩
   ·rename_i hr';injection h with h
    rcases lM hd hx hz es l' (i+1) _ h3 hr' with⟨_,h5⟩|⟨es',j,y',e',h4,_⟩
    ·exact .inl ⟨h.symm,by simp[Instr.findNow,hs,h5]⟩
    cases h4
   cases h
  cases h
theorem vA.push {φ:Ph}{D:Da}{k v:AV}{x z:Value}{b:Nat}(hx:VR φ D k x)(hz:VR φ D v z):∀ {es:List (AV×AV×Nat)}{l:List MapEntry},vA φ D es l->vA φ D (es++[(k,v,b)]) (l++[⟨x,z,b⟩])
 |_,_,.nil=>.cons _ _ _ _ _ _ _ hx hz .nil
 |_,_,.cons _ _ _ _ _ _ _ h1 h2 h3=>.cons _ _ _ _ _ _ _ h1 h2 (vA.push hx hz h3)
theorem World.PT (w:World)(o:Obj):(World.newObj w o).heap[w.heap.size]?=some o:=by
 show (w.heap.push o)[w.heap.size]?=some o;simp
theorem Eo {o:Oper}{t:TypeId}{x:Option Operand}(ho:o.op=.makeMap t x)(hx:x=none∨((∃k n,x=some (.const (.int k n)))/\∃k e,P.underlying t=some (.map k e))):bP P o lh:=by
 intro F H n φ D a w hr hF hf hne;have hn:φ n=none:=hf n (aM _) (by simp[lh,sK]);obtain⟨h1,h2⟩:=m0 hr (λ b x y=>hf b x (by simpa[lh,sK]using y)) (.map #[] 0) 0 (.map [] 0) ⟨#[],World.PT w _,.nil⟩;refine⟨.value (.map (some w.heap.size)),_,_,_,?_,.value _,h2,h1,.map _ _ 0 0 (by simp[Ph.set])⟩
 rcases hx with rfl|⟨⟨k,m,rfl⟩,kt,et,hu⟩
 ·simp[execOp,ho,Instr.makeMap];rfl
 simp[execOp,ho,Instr.makeMap,run_underlying hu,Act.eval,asInt,asIntOf];rfl
theorem OV {o : Oper}{t kt et:TypeId}{x y:Operand}{ok:Bool}{g k:G}{q:LK}{z:AV}{zv:Value}{ti:TypeInfo}(ho:o.op=.lookup t x y ok) (hg:cA x=some g) (hk:cA y=some k) (hu:P.underlying t=some (.map kt et)) (hq:O_ P kt=some q)
  (hi:P.info? et=some ti)(h0:ti.zero=some zv)(hz:Ij zv=some z):bP P o (jf q z ok g k):=by
 obtain⟨d,hd,hkd⟩:=zG hq;intro F H n φ D a w hr hF hf hne;unfold jf at hf hne ⊢
 cases hv:g.f F with
 |none=>rw[hv]at hne;exact aj rfl hne
 |some m =>
  rw[hv]at hne;dsimp only at hne ⊢
  cases hkv:k.f F with
  |none=>rw[hkv]at hne;exact aj rfl hne
  |some kv =>
   rw[hkv]at hne;dsimp only at hne ⊢;have hm:=aJ hg F φ D a hF m hv;have hky:=aJ hk F φ D a hF kv hkv;unfold jl at hne ⊢
   split at hne
   ·rename_i b
    split at hne
    ·rename_i es clk hb
     split at hne
     ·rename_i amU;generalize hxv:a.eval x=xv at hm
      cases hm with
      |map _ cb co cz hp =>
      obtain⟨_,Ad,hc1,hc2⟩:=hr.block hb hp;have hc1:w.heap[cb]?=some (.map Ad clk):=hc1;have hck:=adO (P:=P) (x:=a.eval y) (w:=w) hd hkd Ad.isEmpty 9999
      split at hne
      ·rename_i v hfk
       rcases nm hkd hky es Ad.toList 0 _ hc2 hfk with⟨h,_⟩|⟨v',j,y',h1,h2,h3⟩
       ·cases h
       injection h1 with h1;subst h1;have hf2:=run_findKey (w:=w) hd h2;refine Does.val hr (cv:=if ok then .tuple #[y',.bool true]else y') ?_ ?_
       ·simp only[execOp,ho,hxv,Instr.lookup,bZ,run_underlying hu,bX,run_getObj_map hc1,cS,hck,hf2]
       cases ok
       ·exact h3
       exact .aW _ _ (.cons _ _ _ _ h3 (.cons _ _ _ _ (.bool _) .nil))
      ·rename_i hfk
       rcases nm hkd hky es Ad.toList 0 _ hc2 hfk with⟨_,h2⟩|⟨v',j,y',h1,_⟩
       ·have hf2:=run_findKey (w:=w) hd h2;refine Does.val hr (cv:=if ok then .tuple #[zv,.bool false]else zv) ?_ ?_
        ·simp only[execOp,ho,hxv,Instr.lookup,bZ,run_underlying hu,bX,run_getObj_map hc1,cS,hck,hf2,oc hi h0]
        cases ok
        ·exact .vf hz
        exact .aW _ _ (.cons _ _ _ _ (.vf hz) (.cons _ _ _ _ (.bool _) .nil))
       cases h1
      exact aj rfl hne
     exact aj rfl hne
    exact aj rfl hne
   exact aj rfl hne
theorem Lh {o : Oper}{t kt et:TypeId}{x y u:Operand}{g k l:G}{q:LK}(ho:o.op=.mapUpdate t x y u∨o.op=.insert t x y u) (hg:cA x=some g) (hk:cA y=some k) (hl:cA u=some l) (hu:P.underlying t=some (.map kt et)) (hq:O_ P kt=some q):
  bP P o (um q g k l):=by
 obtain⟨d,hd,hkd⟩:=zG hq;intro F H n φ D a w hr hF hf hne;unfold um at hf hne ⊢
 cases hv:g.f F with
 |none=>rw[hv]at hne;exact aj rfl hne
 |some m =>
  rw[hv]at hne;dsimp only at hne ⊢
  cases hkv:k.f F with
  |none=>rw[hkv]at hne;exact aj rfl hne
  |some kv =>
   rw[hkv]at hne;dsimp only at hne ⊢
   cases hlv:l.f F with
   |none=>rw[hlv]at hne;exact aj rfl hne
   |some lv =>
    rw[hlv]at hne;dsimp only at hne ⊢;have hm:=aJ hg F φ D a hF m hv;have hky:=aJ hk F φ D a hF kv hkv;have hly:=aJ hl F φ D a hF lv hlv;unfold oQ at hne ⊢
    split at hne
    ·rename_i b
     split at hne
     ·rename_i es clk hb
      split at hne
      ·rename_i amU;generalize hxv:a.eval x=xv at hm
       cases hm with
       |map _ cb co cz hp =>
       obtain⟨_,Ad,hc1,hc2⟩:=hr.block hb hp;have hc1:w.heap[cb]?=some (.map Ad clk):=hc1;have hck:=adO (P:=P) (x:=a.eval y) (w:=w) hd hkd false 9999;have hlt:cb<w.heap.size:=(oe.1 hc1).1
       have hex:execOp a.eval o=(do Instr.mapUpdate t (a.eval x) (a.eval y) (a.eval u);pure .skip):=by
        rcases ho with ho|ho<;>simp[execOp,ho]
       split at hne
       ·rename_i es' hsk
        rcases lM hkd hky hly es Ad.toList 0 _ hc2 hsk with⟨h,_⟩|⟨es2,j,y',e',h1,h2,h3,h4,h5⟩
        ·cases h
        injection h1 with h1;subst h1;have hf2:=run_findKey (w:=w) hd h2;have asl:=ahY (P:=P) (w:=w) amU hky;have h3':Ad[0+j]?=some e':=by rw[gz];simpa using h3
        refine Does.upd hr (by rw[hb];simp) hp (o:=.map (Ad.modify (0+j) λ e=>{e with key:=a.eval y,val:=a.eval u}) clk) (nx:=.skip) (cv:=undef) ?_ .skip ?_ (.aW _ _ .nil)
        ·rw[hex];simp only[hxv,Instr.mapUpdate,bZ,run_underlying hu,bX,run_getObj_map hc1,hck,hf2,h3',Option.map_some,Option.getD_some,h4,asl,run_setObj_map _ hc1,cS,World.putObj]
        refine⟨Ad.modify (0+j) λ e=>{e with key:=a.eval y,val:=a.eval u},by simp[World.putObj,hlt],?_⟩;rw[gz,Array.toList_modify];exact h5
       ·rename_i hsk
        rcases lM hkd hky hly es Ad.toList 0 _ hc2 hsk with⟨_,h2⟩|⟨es2,j,y',e',h1,_⟩
        ·have hf2:=run_findKey (w:=w) hd h2;refine Does.upd hr (by rw[hb];simp) hp (o:=.map (Ad.push {key:=a.eval y,val:=a.eval u,born:=clk}) (clk+1)) (nx:=.skip) (cv:=undef) ?_ .skip ?_ (.aW _ _ .nil)
         ·rw[hex];simp only[hxv,Instr.mapUpdate,bZ,run_underlying hu,bX,run_getObj_map hc1,hck,hf2,run_setObj_map _ hc1,cS,World.putObj]
         refine⟨Ad.push {key:=a.eval y,val:=a.eval u,born:=clk},by simp[World.putObj,hlt],?_⟩;rw[Array.toList_push];exact hc2.push hky hly
        cases h1
       exact aj rfl hne
      exact aj rfl hne
     exact aj rfl hne
    exact aj rfl hne
end
end Go.Abs
namespace Go.Abs
open List
section
variable {P:Program}
theorem HJ {w:World}{cb off:Nat}{c:Array Value}{e:TypeId}{fr:Nat×Nat}(h:w.heap[cb]?=some (.cells c e fr))(hf:Nfr c.size fr)(hc:c.size<=off):
  ∃fr',w.freeze ⟨cb,off,none⟩ 1=World.putObj w cb (.cells c e fr')/\Nfr c.size fr':=by
 obtain⟨lo,hi⟩:=fr;have hlt:=(oe.1 h).1
 have hm:∀(f:Obj->Obj),w.heap.modify cb f=w.heap.setIfInBounds cb (f (.cells c e (lo,hi))):=by
  intro f;apply Array.ext
  ·simp
  intro i h1 h2;have hg:w.heap[cb]=.cells c e (lo,hi):=(oe.1 h).2
  by_cases hi:cb=i
  ·subst hi;simp[Array.getElem_modify,hg]
  rw[Array.getElem_modify,ae hi,Array.getElem_setIfInBounds_ne (h:=hi)]
 refine⟨if lo == hi then (off,off+1)else (min lo off,max hi (off+1)),?_,?_⟩
 ·unfold World.freeze;rw[ae (by decide)];show ({w with heap:=w.heap.modify cb _}:World)=_;rw[hm];rfl
 unfold Nfr at hf ⊢
 by_cases h0:lo=hi
 ·subst h0;simp;omega
 have:lo≠hi:=h0;simp[h0];dsimp only at hf;omega
theorem ahj {o:Oper}{s d e e':TypeId}{x:Operand}{g:G}(ho:o.op=.convert s d x) (hg:cA x=some g) (hsd:s=d) (hs:P.underlying s=some (.slice e')) (hd:P.underlying d=some (.slice e)) (he:P.underlying e=some (.int .u8)):bP P o (aiP g):=by
 intro F H n φ D a w hr hF hf hne;unfold aiP at hf hne ⊢
 cases hv:g.f F with
 |none=>rw[hv]at hne;exact aj rfl hne
 |some v =>
  rw[hv]at hf hne;dsimp only at hf hne ⊢;have fU:=aJ hg F φ D a hF v hv;unfold aof at hf hne ⊢
  split at hne
  ·rename_i b off len sz;dsimp only at hf ⊢
   split at hne
   ·rename_i u z bs t hb
    split at hne
    ·rename_i hl;have hl:=dR hl;generalize hxv:a.eval x=xv at fU
     cases fU with
     |sl _ _ _ _ cb co cz cap ad hp hle had =>
     obtain⟨rfl,hfit⟩:=had (by omega);obtain⟨_,c,ee,fr,q1,q2,q3,q4,q5,q6⟩:=hr.block hb hp;obtain⟨fr',hfz,hn⟩:=HJ (off:=c.size) q1 q3 (aM _);have hlt:=(oe.1 q1).1;refine Does.upd (P:=P) (nx:=.value (.slice (some ⟨cb,co+off,none⟩) len cap)) (o:=.cells c ee fr') hr (by rw[hb];simp) hp ?_ (.value _) ⟨c,ee,fr',py _ hlt,q2,hn,q4,q5,q6⟩ (.sl _ _ _ _ cb co cz cap _ hp hle λ h=>⟨rfl,hfit⟩);have hsh:w.shape? cb=some (ee,c.size):=by unfold World.shape?;rw[q1]
     subst hsd;have hee:e'=e:=by rw[hs]at hd;injection hd with hd;injection hd
     subst hee;simp only[execOp,ho,hxv];dsimp only at hfz;rw[<-hfz];simp[convert,run_underlying hs,run_underlying he,markStringish,hsh]
    exact aj rfl hne
   exact aj rfl hne
  exact aj rfl hne
end
end Go.Abs
namespace Go.Abs
open List
open Go.MapKept (bytes_beq run_getObj_map run_setObj_map run_findKey)
section
variable {P:Program}
theorem Ab:∀(a b:List UInt8),cmpL (a.map UInt8.toNat) (b.map UInt8.toNat) =
  match (List.range (min a.length b.length)).find? λ i=>a[i]! != b[i]! with
  |some i=>if a[i]! < b[i]! then -1 else 1
  |none=>if a.length<b.length then -1 else if a.length>b.length then 1 else 0
 |[],[]=>rfl
 |[],_::_=>by simp[cmpL]
 |_::_,[]=>by simp[cmpL]
 |x :: a,y::b=>by
  simp only[map_cons,cmpL]
  have hr:List.range (min (x::a).length (y::b).length)=0::(List.range (min a.length b.length)).map Nat.succ:=by
   rw[show min (x::a).length (y::b).length=min a.length b.length+1 by simp,List.range_succ_eq_map]
  rw[hr,find?_cons]
  by_cases e:x=y
  ·subst e;rw[show Nat.beq x.toNat x.toNat=true by simp];dsimp only;rw[Ab a b,List.find?_map];simp only[List.getElem!_cons_zero,bne_self_eq_false]
   have:((λ i=>(x::a)[i]! !=(x::b)[i]!) ∘ Nat.succ)=λ i=>a[i]! != b[i]! := by
    funext i;simp
   rw[this]
   cases (List.range (min a.length b.length)).find? λ i=>a[i]! != b[i]! with
   |none=>simp
   |some i=>simp
  have h1:Nat.beq x.toNat y.toNat=false:=by
   cases h:Nat.beq x.toNat y.toNat with
   |false=>rfl
   |true=>exact aj (UInt8.toNat_inj.1 (cR h)) e
  rw[h1];simp only[List.getElem!_cons_zero];rw[show (x != y)=true by simpa using e];dsimp only
  by_cases hlt:x<y
  ·rw[show Nat.blt x.toNat y.toNat=true by rw[Nat.blt_eq];exact hlt];simp[hlt]
  rw[show Nat.blt x.toNat y.toNat=false by
   cases h:Nat.blt x.toNat y.toNat with
   |false=>rfl
   |true=>exact aj (by rw[Nat.blt_eq]at h;exact h) hlt]
  simp[hlt]
theorem EX (a:ByteArray)(i:Nat):a[i]! = a.data.toList[i]! := by
 have hs:a.data.toList.length=a.size:=Array.length_toList
 by_cases h:i<a.size
 ·rw[getElem!_pos a i h,getElem!_pos a.data.toList i (by omega)];rfl
 rw[getElem!_neg a i h,getElem!_neg a.data.toList i (by omega)]
theorem Ft (a b:ByteArray):Extern.BytealgCompare.cmp a b=cmpL (a.data.toList.map UInt8.toNat) (b.data.toList.map UInt8.toNat):=by
 rw[Ab];unfold Extern.BytealgCompare.cmp;have h1:a.size=a.data.toList.length:=Array.length_toList.symm;have h2:b.size=b.data.toList.length:=Array.length_toList.symm;rw[h1,h2];simp only[EX];rfl
theorem S7 {fn : Func} (h : fn.name = "internal/bytealg.abigen_runtime_cmpstring") (h2 : fn.origin = "") : Extern.findNext fn = none ∧ Extern.find fn = some Extern.BytealgCompare.compare := by
 unfold Extern.findNext Extern.find;rw[h,h2];exact⟨by kernel_rfl,by kernel_rfl⟩
theorem abc {o:Oper}{c:Call}{f:FuncId}{fn:Func}{x y:Operand}{g k:G}(ho:o.op=.call c)(hc:c.callee=.value (.func f))(ha:c.args.toList=[x,y])(hf:P.funcs[f]?=some fn)(hb:fn.body=none)
  (hn : fn.name = "internal/bytealg.abigen_runtime_cmpstring") (h2 : fn.origin = "") (hg : cA x = some g) (hk : cA y = some k) : bP P o (e2 FD g k) := by
 intro F H n φ D a w hr hF hfr hne;unfold e2 at hfr hne ⊢
 cases hv:g.f F with
 |none=>rw[hv]at hne;exact aj rfl hne
 |some v =>
 rw[hv]at hne;dsimp only at hne ⊢
 cases hu:k.f F with
 |none=>rw[hu]at hne;exact aj rfl hne
 |some u =>
 rw[hu]at hne;dsimp only at hne ⊢;have fU:=aJ hg F φ D a hF v hv;have hur:=aJ hk F φ D a hF u hu;unfold FD at hne ⊢
 split at hne
 ·generalize hxv:a.eval x=xv at fU;generalize hyv:a.eval y=yv at hur
  cases fU with
  |str s _ hs =>
  cases hur with
  |str s' _ hs' =>
  subst hs hs';obtain⟨e1,e2⟩:=S7 hn h2
  have hargs:Array.map a.eval c.args=#[.string s,.string s']:=by
   apply Array.ext';simp[ha,hxv,hyv]
  refine Does.val hr (cv:=.int .i64 (cmpL (s.data.toList.map UInt8.toNat) (s'.data.toList.map UInt8.toNat))) ?_ (.int _ _)
  have hname : (fn.name == "runtime.NumGoroutine") = false := by rw [hn]; decide
  have hcf:=run_callFunc_extern (P:=P) hf hname (by rw[hb];rfl) e1 e2 #[.string s,.string s'] w;have h0:a.eval (.func f)=.func (.func f) #[] #[]:=rfl;simp only[execOp,ho,resolve,hc,h0,Deferred.ofValue,bZ,cS,bX,invoke,hargs];simp only[Array.append_empty,Array.empty_append];have hq:(Extern.BytealgCompare.compare #[.string s,.string s']).run P w=.ok (.int .i64 (Extern.BytealgCompare.cmp s s')) w:=rfl;rw[hcf,hq,Ft];rfl
 exact aj rfl hne
theorem za {w:World}{cb:Nat}:∀(ns:List Int)(o:Nat)(acc:ByteArray),(∀j n,ns[j]?=some n->w.cell? ⟨cb,o+j,none⟩=some (.int .u8 n)) ->
  ∃arr,(Extern.Bytes.loadBytes ⟨cb,o,none⟩ ns.length acc).run P w=.ok arr w/\arr.data.toList.map UInt8.toNat=acc.data.toList.map UInt8.toNat++ns.map λ n=>n.toNat % 256
 |[],o,acc,_=>⟨acc,by simp[Extern.Bytes.loadBytes],by simp⟩
 |n :: ns,o,acc,h=>by
  have h0:w.cell? ⟨cb,o,none⟩=some (.int .u8 n):=by simpa using h 0 n rfl
  have hadd:(⟨cb,o,none⟩:Addr).add 1=⟨cb,o+1,none⟩:=by unfold Addr.add;simp
  obtain⟨arr,h1,h2⟩:=za ns (o+1) (acc.push n.toNat.toUInt8) (λ j m hj=>by
   have:=h (j+1) m (by simpa using hj);rw[<-this];congr 2;omega)
  refine⟨arr,?_,?_⟩
  ·simp only[length_cons,Extern.Bytes.loadBytes,bZ,run_load,h0,Result.andThen,hadd];exact h1
  rw[h2];simp[ByteArray.push]
theorem BN {φ : Ph}{D:Da}{H:Hp}{w:World}{v:AV}{x:Value}{bs:List Nat}(hr:Rel φ D H.get w) (hv:VR φ D v x) (h:byL v H=some bs):
  ∃arr:ByteArray,(Extern.Bytes.bytesOf x).run P w=.ok arr w/\arr.data.toList.map UInt8.toNat=bs:=by
 unfold byL at h
 split at h
 ·injection h with h;subst h
  cases hv with
  |str s _ hs=>exact⟨s,rfl,hs⟩
 ·rename_i b o len s
  split at h
  ·rename_i u z bs' t hb
   split at h
   ·rename_i l hg
    cases hv with
    |sl _ _ _ _ cb co cz cap ad hp hle hex =>
    obtain⟨_,c,e,fr,q1,q2,q3,q4,q5,q6⟩:=hr.block hb hp;dsimp only at q1 q2 q4;obtain⟨g1,g2⟩:=jG q5 hg
    rcases Nat.eq_zero_or_pos cap with h0|h0
    ·have hl0:len=0:=by
      rcases Nat.eq_zero_or_pos len with h1|h1
      ·exact h1
      omega
     subst hl0;have:l=[]:=eq_nil_of_length_eq_zero g1;subst this;simp only[bytesOf]at h;injection h with h;subst h;exact⟨.empty,by simp[Extern.Bytes.bytesOf,Extern.Bytes.loadBytes],rfl⟩
    obtain⟨rfl,_⟩:=hex h0
    have hxs:∃xs,cw φ D l xs/\∀i x,xs[i]?=some x->c[co+o+i]?=some x:=by
     have hx:∀i v,l[i]?=some v->∃x,c[co+o+i]?=some x/\VR φ D v x:=by
      intro i v hv;have hi:i<l.length:=(nS.1 hv).1;have:=q4 (o+i) v (by rw[g2 i (by omega)];exact hv);simpa[Nat.add_assoc]using this
     have hsz:co+o+l.length<=c.size∨l.length=0:=by
      rcases Nat.eq_zero_or_pos l.length with h0|h0
      ·exact .inr h0
      left
      obtain⟨x,hx',_⟩:=hx (l.length - 1) l[l.length - 1] (dU (by omega));have:=(oe.1 hx').1;omega
     let xs:=(c.toList.drop (co+o)).take l.length;have hxl:xs.length=l.length:=by simp[xs];omega
     refine⟨xs,cw.m9 (by omega) λ i v hv=>?_,λ i x hx'=>?_⟩
     ·obtain⟨x,hx1,hx2⟩:=hx i v hv;have hi:i<l.length:=(nS.1 hv).1;exact⟨x,by simp only[xs];rw[getElem?_take,ak (by omega),js];simpa using hx1,hx2⟩
     simp only[xs]at hx';rw[getElem?_take]at hx'
     split at hx'
     ·rw[js]at hx';simpa using hx'
     cases hx'
    obtain⟨xs,hxv,hxc⟩:=hxs;obtain⟨ns,rfl,rfl⟩:=nB hxv h;have hlen:ns.length=len:=by have:=hxv.length;simp at this;omega
    obtain⟨arr,r1,r2⟩:=za (P:=P) (w:=w) (cb:=cb) ns (co+o) .empty (λ j n hj=>by
     rw[rZ q1];exact hxc j _ (by simp[hj]))
    rw[hlen]at r1;exact⟨arr,by simpa[Extern.Bytes.bytesOf]using r1,by rw[r2];rfl⟩
   cases h
  cases h
 ·injection h with h;subst h
  cases hv with
  |aI _ hat=>exact⟨.empty,rfl,rfl⟩
 cases h
theorem S8 {fn : Func} (h : fn.name = "internal/bytealg.Compare") (h2 : fn.origin = "") : Extern.findNext fn = none ∧ Extern.find fn = some Extern.BytealgCompare.compare := by
 unfold Extern.findNext Extern.find;rw[h,h2];exact⟨by kernel_rfl,by kernel_rfl⟩
theorem abd {o:Oper}{c:Call}{f:FuncId}{fn:Func}{x y:Operand}{g k:G}(ho:o.op=.call c)(hc:c.callee=.value (.func f))(ha:c.args.toList=[x,y])(hf:P.funcs[f]?=some fn)(hb:fn.body=none)
  (hn : fn.name = "internal/bytealg.Compare") (h2 : fn.origin = "") (hg : cA x = some g) (hk : cA y = some k) : bP P o (Tt g k) := by
 intro F H n φ D a w hr hF hfr hne;unfold Tt at hfr hne ⊢
 cases hv:g.f F with
 |none=>rw[hv]at hne;exact aj rfl hne
 |some v =>
 rw[hv]at hne;dsimp only at hne ⊢
 cases hu:k.f F with
 |none=>rw[hu]at hne;exact aj rfl hne
 |some u =>
 rw[hu]at hne;dsimp only at hne ⊢;have fU:=aJ hg F φ D a hF v hv;have hur:=aJ hk F φ D a hF u hu
 cases hbv:byL v H with
 |none=>rw[hbv]at hne;exact aj rfl hne
 |some p =>
 rw[hbv]at hne;dsimp only at hne ⊢
 cases hbu:byL u H with
 |none=>rw[hbu]at hne;exact aj rfl hne
 |some q =>
 dsimp only;obtain⟨s,r1,rfl⟩:=BN (P:=P) hr fU hbv;obtain⟨s',r2,rfl⟩:=BN (P:=P) hr hur hbu;obtain⟨e1,e2⟩:=S8 hn h2
 have hargs:Array.map a.eval c.args=#[a.eval x,a.eval y]:=by
  apply Array.ext';simp[ha]
 refine Does.val hr (cv:=.int .i64 (cmpL (s.data.toList.map UInt8.toNat) (s'.data.toList.map UInt8.toNat))) ?_ (.int _ _)
 have hname : (fn.name == "runtime.NumGoroutine") = false := by rw [hn]; decide
 have hcf:=run_callFunc_extern (P:=P) hf hname (by rw[hb];rfl) e1 e2 #[a.eval x,a.eval y] w;have h0:a.eval (.func f)=.func (.func f) #[] #[]:=rfl;simp only[execOp,ho,resolve,hc,h0,Deferred.ofValue,bZ,cS,bX,invoke,hargs];simp only[Array.append_empty,Array.empty_append]
 have hq:(Extern.BytealgCompare.compare #[a.eval x,a.eval y]).run P w=.ok (.int .i64 (Extern.BytealgCompare.cmp s s')) w:=by
  have h9:Extern.BytealgCompare.compare #[a.eval x,a.eval y]=(do
   let s <-Extern.Bytes.bytesOf (a.eval x)
   let s' <-Extern.Bytes.bytesOf (a.eval y)
   pure (goInt (Extern.BytealgCompare.cmp s s'))):=rfl
  rw[h9];simp only[bZ,r1,r2,bX,cS];rfl
 rw[hcf,hq,Ft];rfl
theorem tg (c:UInt8):∀(l:List UInt8) (n:Nat),Fq c.toNat (l.map UInt8.toNat) n=n+Lib.countByte l c
 |[],n=>by simp[Fq,Lib.countByte]
 |x :: l,n=>by
  simp only[map_cons,Fq,Lib.countByte,List.count_cons]
  by_cases e:x=c
  ·subst e;rw[show Nat.beq x.toNat x.toNat=true by simp];dsimp only;rw[tg x l (n+1)];simp only[Lib.countByte,beq_self_eq_true,if_true];omega
  have h1:Nat.beq x.toNat c.toNat=false:=by
   cases h:Nat.beq x.toNat c.toNat with
   |false=>rfl
   |true=>exact aj (UInt8.toNat_inj.1 (cR h)) e
  rw[h1];rw[show (x == c)=false by simpa using e];dsimp only;rw[tg c l n];simp[Lib.countByte]
theorem S5 {fn : Func} (h : fn.name = "internal/bytealg.CountString") (h2 : fn.origin = "") : Extern.findNext fn = none ∧ Extern.find fn = some Extern.BytealgCount.count := by
 unfold Extern.findNext Extern.find;rw[h,h2];exact⟨by kernel_rfl,by kernel_rfl⟩
theorem abb {o:Oper}{c:Call}{f:FuncId}{fn:Func}{x y:Operand}{g k:G}(ho:o.op=.call c)(hc:c.callee=.value (.func f))(ha:c.args.toList=[x,y])(hf:P.funcs[f]?=some fn)(hb:fn.body=none)
  (hn : fn.name = "internal/bytealg.CountString") (h2 : fn.origin = "") (hg : cA x = some g) (hk : cA y = some k) : bP P o (e2 TN g k) := by
 intro F H n φ D a w hr hF hfr hne;unfold e2 at hfr hne ⊢
 cases hv:g.f F with
 |none=>rw[hv]at hne;exact aj rfl hne
 |some v =>
 rw[hv]at hne;dsimp only at hne ⊢
 cases hu:k.f F with
 |none=>rw[hu]at hne;exact aj rfl hne
 |some u =>
 rw[hu]at hne;dsimp only at hne ⊢;have fU:=aJ hg F φ D a hF v hv;have hur:=aJ hk F φ D a hF u hu;unfold TN at hne ⊢
 split at hne
 ·rename_i l m
  cases hlt:Nat.blt m 256 with
  |false=>rw[hlt]at hne;exact aj rfl hne
  |true =>
  have hlt:m<256:=by rw[Nat.blt_eq]at hlt;exact hlt
  dsimp only;generalize hxv:a.eval x=xv at fU;generalize hyv:a.eval y=yv at hur
  cases fU with
  |str s _ hs =>
  cases hur with
  |int =>
  subst hs;obtain⟨e1,e2⟩:=S5 hn h2
  have hargs:Array.map a.eval c.args=#[.string s,.int .u8 (m:Int)]:=by
   apply Array.ext';simp[ha,hxv,hyv]
  refine Does.val hr (cv:=.int .i64 (Int.ofNat (Fq m (s.data.toList.map UInt8.toNat) 0))) ?_ (.int _ _)
  have hname : (fn.name == "runtime.NumGoroutine") = false := by rw [hn]; decide
  have hcf:=run_callFunc_extern (P:=P) hf hname (by rw[hb];rfl) e1 e2 #[.string s,.int .u8 (m:Int)] w;have h0:a.eval (.func f)=.func (.func f) #[] #[]:=rfl;simp only[execOp,ho,resolve,hc,h0,Deferred.ofValue,bZ,cS,bX,invoke,hargs];simp only[Array.append_empty,Array.empty_append]
  have hm:(m:Int).toNat.toUInt8.toNat=m:=by
   simp;omega
  have hq:(Extern.BytealgCount.count #[.string s,.int .u8 (m:Int)]).run P w=.ok (.int .i64 (Int.ofNat (Fq m (s.data.toList.map UInt8.toNat) 0))) w:=by
   have h3:=tg (m:Int).toNat.toUInt8 s.data.toList 0;rw[hm]at h3;rw[h3,gz];exact Lib.run_countString (P:=P) s (m:Int) w
  rw[hcf,hq];rfl
 exact aj rfl hne
theorem zJ (c:Nat):∀(l:List Nat) (n:Nat),Pm c l n=match (List.range l.length).find? (λ i=>l[i]! == c)with
  |some i=>(.ofNat (n+i):Int)
  |none=>.negSucc 0
 |[],n=>rfl
 |x :: l,n=>by
  simp only[Pm,length_cons,List.range_succ_eq_map,find?_cons];have h0:(x::l)[0]! = x:=rfl;rw[h0]
  cases h:Nat.beq x c with
  |true =>
   have e:=cR h;subst e;simp
  |false =>
   have e:(x == c)=false:=by
    cases h1:x == c with
    |false=>rfl
    |true=>rw[eq_of_beq h1,show Nat.beq c c=true by simp]at h;cases h
   rw[e];dsimp only;rw[zJ c l (n+1),List.find?_map]
   have h2:((λ i=>(x::l)[i]! == c) ∘ Nat.succ)=λ i=>l[i]! == c:=by
    funext i;simp
   rw[h2]
   cases (List.range l.length).find? (λ i=>l[i]! == c)with
   |none=>rfl
   |some i =>
    show Int.ofNat (n+1+i)=Int.ofNat (n+(i+1));rw[Nat.add_assoc,Nat.add_comm 1 i]
theorem SZ {fn : Func} (h : fn.name = "internal/bytealg.IndexByteString" ∨ fn.name = "internal/bytealg.IndexByte") (h2 : fn.origin = "") : Extern.findNext fn = none ∧ Extern.find fn = some Extern.BytealgIndexByte.indexByte := by
 unfold Extern.findNext Extern.find
 rcases h with h|h
 ·rw[h,h2];exact⟨by kernel_rfl,by kernel_rfl⟩
 rw[h,h2];exact⟨by kernel_rfl,by kernel_rfl⟩
theorem aa_ {o:Oper}{c:Call}{f:FuncId}{fn:Func}{x y:Operand}{g k:G}(ho:o.op=.call c) (hc:c.callee=.value (.func f)) (ha:c.args.toList=[x,y]) (hf:P.funcs[f]?=some fn) (hb:fn.body=none)
  (hn : fn.name = "internal/bytealg.IndexByteString" ∨ fn.name = "internal/bytealg.IndexByte") (h2 : fn.origin = "") (hg : cA x = some g) (hk : cA y = some k) : bP P o (Tq g k) := by
 intro F H n φ D a w hr hF hfr hne;unfold Tq at hfr hne ⊢
 cases hv:g.f F with
 |none=>rw[hv]at hne;exact aj rfl hne
 |some v =>
 rw[hv]at hne;dsimp only at hne ⊢
 cases hu:k.f F with
 |none=>rw[hu]at hne;exact aj rfl hne
 |some u =>
 rw[hu]at hne;dsimp only at hne ⊢;have fU:=aJ hg F φ D a hF v hv;have hur:=aJ hk F φ D a hF u hu;unfold adS at hne ⊢
 split at hne
 ·rename_i m
  cases hlt:Nat.blt m 256 with
  |false=>rw[hlt]at hne;exact aj rfl hne
  |true =>
  rw[hlt]at hne;dsimp only at hne ⊢;have hlt:m<256:=by rw[Nat.blt_eq]at hlt;exact hlt
  cases hbv:byL v H with
  |none=>rw[hbv]at hne;exact aj rfl hne
  |some p =>
  dsimp only;obtain⟨s,r1,rfl⟩:=BN (P:=P) hr fU hbv;obtain⟨e1,e2⟩:=SZ hn h2;generalize hyv:a.eval y=yv at hur
  cases hur with
  |int =>
  have hargs:Array.map a.eval c.args=#[a.eval x,.int .u8 (m:Int)]:=by
   apply Array.ext';simp[ha,hyv]
  refine Does.val hr (cv:=.int .i64 (Pm m (s.data.toList.map UInt8.toNat) 0)) ?_ (.int _ _)
  have hname : (fn.name == "runtime.NumGoroutine") = false := by rcases hn with hn | hn <;> rw [hn] <;> decide
  have hcf:=run_callFunc_extern (P:=P) hf hname (by rw[hb];rfl) e1 e2 #[a.eval x,.int .u8 (m:Int)] w;have h0:a.eval (.func f)=.func (.func f) #[] #[]:=rfl;simp only[execOp,ho,resolve,hc,h0,Deferred.ofValue,bZ,cS,bX,invoke,hargs];simp only[Array.append_empty,Array.empty_append]
  have hm:(m:Int).toNat.toUInt8.toNat=m:=by
   simp;omega
  have hq:(Extern.BytealgIndexByte.indexByte #[a.eval x,.int .u8 (m:Int)]).run P w=.ok (.int .i64 (Pm m (s.data.toList.map UInt8.toNat) 0)) w:=by
   have h9:Extern.BytealgIndexByte.indexByte #[a.eval x,.int .u8 (m:Int)]=(do
    let b <-Extern.Bytes.bytesOf (a.eval x)
    let c <-Extern.Bytes.asByte (.int .u8 (m:Int))
    match (List.range b.size).find? λ i=>b[i]! == c with
    |some i=>pure (goInt i)
    |none=>pure (goInt (-1))):=rfl
   rw[h9];have h10:Extern.Bytes.asByte (.int .u8 (m:Int))=pure (m:Int).toNat.toUInt8:=rfl;simp only[bZ,r1,h10,bX,cS];rw[zJ]
   have h11:(λ i:Nat=>(s.data.toList.map UInt8.toNat)[i]! == m)=λ i:Nat=>s[i]! ==(m:Int).toNat.toUInt8:=by
    funext i
    rw[EX]
    by_cases hi:i<s.data.toList.length
    ·rw[getElem!_pos _ i (by simpa using hi),getElem!_pos _ i hi,List.getElem_map];rw[Bool.eq_iff_iff,beq_iff_eq,beq_iff_eq,<-UInt8.toNat_inj,hm]
    rw[getElem!_neg _ i (by simpa using hi),getElem!_neg _ i hi];rw[Bool.eq_iff_iff,beq_iff_eq,beq_iff_eq,<-UInt8.toNat_inj,hm];rfl
   have h12:(s.data.toList.map UInt8.toNat).length=s.size:=by rw[length_map,Array.length_toList];rfl
   rw[h11,h12]
   cases (List.range s.size).find? (λ i=>s[i]! ==(m:Int).toNat.toUInt8)with
   |none=>rfl
   |some i=>simp[cS];rfl
  rw[hcf,hq];rfl
 exact aj rfl hne
end
end Go.Abs
namespace Go.Abs
open List
section
variable {P:Program}
theorem zn {x:Option Operand}{g:Option G}(h:om x=some g):x.isSome=g.isSome:=by
 cases x with
 |none=>simp[om]at h;subst h;rfl
 |some x=>simp[om]at h;obtain⟨a,_,rfl⟩:=h;rfl
theorem amh {hi mx:Option Operand}{gh gm:Option G}(h:om hi=some gh)(k:om mx=some gm)(hc:(mx.isNone||hi.isSome)=true):gm=none∨gh≠none:=by
 have h1:=zn h;have h2:=zn k
 cases hi<;>cases mx<;>cases gh<;>cases gm<;>simp_all
theorem oN {s ft:TypeId}{f off:Nat}(h:pK P s f=some (off,ft)):∃fs fd ti k,P.underlying s=some (.struct fs)/\fs[f]?=some fd/\P.info? fd.type=some ti/\ti.size=k+1/\off=fd.offset/\ft=fd.type:=by
 unfold pK at h
 split at h
 ·rename_i fs hu
  split at h
  ·rename_i fd hf
   split at h
   ·rename_i k hk;simp only[Option.some.injEq,Prod.mk.injEq]at h
    cases hi:P.info? fd.type with
    |none=>simp[cD,hi]at hk
    |some ti=>exact⟨fs,fd,ti,k,hu,hf,hi,by simpa[cD,hi]using hk,h.1.symm,h.2.symm⟩
   cases h
  cases h
 cases h
theorem PN {o : Oper}{op:BinOp}{t u:TypeId}{x y:Operand}{e:Eff}(ho:o.op=.binOp op t x y u) (h:BH P op t x y=some e):bP P o e:=by
 unfold BH at h
 split at h
 ·rename_i a ha
  split at h
  ·rename_i b hb
   split at h
   ·rename_i hop
    split at h
    ·rename_i fs hu
     split at h
     ·rename_i k hk
      split at h
      ·cases h
      rename_i hg;injection h with h;subst h;exact Ru ho ha hb hop (by unfold fV;rw[hu]) hk (by simpa using hg)
     cases h
    ·rename_i n e hu
     split at h
     ·rename_i k hk
      split at h
      ·cases h
      rename_i hg;injection h with h;subst h;exact Ru ho ha hb hop (by unfold fV;rw[hu]) hk (by simpa using hg)
     cases h
    split at h
    ·rename_i q hq;injection h with h;subst h;exact ok_eq ho ha hb hop hq
    cases h
   rename_i hop;injection h with h;subst h;exact ahs ho ha hb (by cases op<;>simp[isEq]at hop ⊢)
  cases h
 cases h
theorem HU {o:Oper}{s d:TypeId}{x:Operand}{e:Eff}(ho:o.op=.convert s d x) (h:xj P s d x=some e):bP P o e:=by
 unfold xj at h
 cases ha:cA x with
 |none=>rw[ha]at h;cases h
 |some a =>
  rw[ha]at h;simp only[iY,Option.bind_some]at h
  split at h
  ·rename_i hs hd;injection h with h;subst h;exact Rm ho ha hs hd
  ·rename_i hs hd;injection h with h;subst h;exact Hi ho ha hs hd
  ·rename_i hs hd
   split at h
   ·rename_i he;injection h with h;subst h;exact ahk ho ha hs hd he
   cases h
  ·rename_i hs hd
   split at h
   ·rename_i he;injection h with h;subst h;exact aht ho ha hs hd he
   cases h
  ·rename_i hs hd
   split at h
   ·rename_i he
    split at h
    ·rename_i hsd;injection h with h;subst h;exact ahj ho ha hsd hs hd he
    cases h
   cases h
  cases h
theorem yK {o : Oper}{c:Call}{b:Builtin}{e:Eff}(ho:o.op=.call c) (hc:c.callee=.builtin b) (h:oO P c b=some e):bP P o e:=by
 unfold oO at h
 split at h
 ·simp only[iY,fN]at h;obtain⟨t,ht,x,hx,h⟩:=h
  split at h
  ·rename_i n el hu;injection h with h;subst h;exact tY ho hc ht hx hu (.inl ⟨_,rfl⟩)
  ·rename_i arr hu
   split at h
   ·rename_i n el hu';injection h with h;subst h;exact tY ho hc ht hx hu (.inr ⟨_,_,rfl,hu'⟩)
   cases h
  ·rename_i hu;simp only[fN]at h;obtain⟨g,hg,h⟩:=h;injection h with h;subst h;exact aa8 ho hc ht hx hg hu
  ·rename_i el hu;simp only[fN]at h;obtain⟨g,hg,h⟩:=h;injection h with h;subst h;exact aa9 ho hc ht hx hg hu
  cases h
 ·simp only [iY,fN]at h;obtain⟨t,ht,u,hu,s,hs,x,hx,el,he,h⟩:=h
  split at h
  ·cases h
  ·cases h
  rename_i hn1 hn2
  cases hd:P.underlying u with
  |none=>exact aj hd hn2
  |some d =>
   split at h
   ·rename_i z hz
    split at h
    ·rename_i sz hsz
     split at h
     ·rename_i hl;simp only[fN]at h;obtain⟨eT,hb,g,hg,k,hk,h⟩:=h;injection h with h;subst h;exact ahu ho hc ht hu hs hx hg hk he hd (λ k e=>hn1 k (by rw[hd,e])) hz hsz hb hl
     cases h
    cases h
   cases h
 ·simp only[iY,fN]at h;obtain⟨g,hg,h⟩:=h;injection h with h;subst h;exact ahl ho hc hg
 ·simp only[iY,fN]at h;obtain⟨g,hg,h⟩:=h;injection h with h;subst h;exact ahm ho hc hg
 cases h
theorem Px {o : Oper}{c:Call}{f:FuncId}{e:Eff}(ho:o.op=.call c) (hc:c.callee=.value (.func f)) (h:BG P f c.args.toList=some e):bP P o e:=by
 unfold BG at h
 split at h
 ·rename_i fn hf
  split at h
  ·rename_i hb
   split at h
   ·rename_i hn
    split at h
    ·rename_i x y ha;simp only[iY,fN]at h;obtain⟨g,hg,k,hk,h⟩:=h;injection h with h;subst h;exact abc ho hc ha hf hb hn.1 hn.2 hg hk
    cases h
   split at h
   ·rename_i hn
    split at h
    ·rename_i x y ha;simp only[iY,fN]at h;obtain⟨g,hg,k,hk,h⟩:=h;injection h with h;subst h;exact abd ho hc ha hf hb hn.1 hn.2 hg hk
    cases h
   split at h
   ·rename_i hn
    split at h
    ·rename_i x y ha;simp only[iY,fN]at h;obtain⟨g,hg,k,hk,h⟩:=h;injection h with h;subst h;exact abb ho hc ha hf hb hn.1 hn.2 hg hk
    cases h
   split at h
   ·rename_i hn
    split at h
    ·rename_i x y ha;simp only[iY,fN]at h;obtain⟨g,hg,k,hk,h⟩:=h;injection h with h;subst h;exact aa_ ho hc ha hf hb hn.1 hn.2 hg hk
    cases h
   cases h
  cases h
 cases h
theorem FH {o:Oper}{t:TypeId}{parts:Array (Nat×Operand)}{e:Eff}(ho:o.op=.build t parts)(h:dS P o=some e):bP P o e:=by
 unfold dS at h;rw[ho]at h;simp only[iY,fN]at h;obtain⟨z,hz,h⟩:=h
 split at h
 ·rename_i fs hu
  split at h
  ·rename_i places hp;simp only[Option.map_eq_some_iff]at h;obtain⟨l,hl,rfl⟩:=h;refine Ep ho hz _ hl λ zv ti hi h0 ps=>?_;unfold Program.built;simp only[hi,hu,h0,hp]
   congr 1
   funext i
   simp
  cases h
 ·rename_i n el hu
  split at h
  ·rename_i ie hie;simp only[Option.map_eq_some_iff]at h;obtain⟨l,hl,rfl⟩:=h;refine Ep ho hz _ hl λ zv ti hi h0 ps=>?_;unfold Program.built;simp only[hi,hu,h0,hie]
  cases h
 cases h
theorem gW {o:Oper}{e:Eff}(h:dS P o=some e):bP P o e:=by
 have h0:=h;unfold dS at h
 split at h
 ·rename_i ho;simp only[Option.map_eq_some_iff]at h;obtain⟨g,hg,rfl⟩:=h;exact Ro (.inl ho) hg
 ·rename_i ho;simp only[Option.map_eq_some_iff]at h;obtain⟨g,hg,rfl⟩:=h;exact Ro (.inr ho) hg
 ·rename_i ho;simp only[iY,fN]at h;obtain⟨g,hg,k,hk,l,hl,h⟩:=h;injection h with h;subst h;exact aa3 ho hg hk hl
 ·rename_i ho;simp only[Option.map_eq_some_iff]at h;obtain⟨z,hz,rfl⟩:=h;exact Rx ho hz
 ·rename_i ho;simp only[Option.map_eq_some_iff]at h;obtain⟨g,hg,rfl⟩:=h;exact ahr ho hg
 ·rename_i ho;exact FH ho h0
 ·rename_i ho;simp only[iY,fN]at h;obtain⟨el,he,k,hk,z,hz,l,hl,h⟩:=h
  split at h
  ·rename_i hc;simp only[fz,decide_eq_true_eq]at hc;injection h with h;subst h;exact OW ho he hk hz hl hc.1 hc.2
  cases h
 ·rename_i ho;simp only[iY,fN]at h;obtain⟨g,hg,b,hb,h⟩:=h
  split at h
  ·rename_i hbt;subst hbt;simp only[fN]at h;obtain⟨k,hk,h⟩:=h;injection h with h;subst h;exact Rq ho hg hb hk
  rename_i hbt;injection h with h;subst h;exact Rr ho hg (by rw[hb];simpa using hbt)
 ·rename_i ho;simp only[iY,fN]at h;obtain⟨k,hk,g,hg,l,hl,h⟩:=h;injection h with h;subst h;exact Rn ho hg hl hk
 ·rename_i ho;simp only[Option.map_eq_some_iff]at h;obtain⟨g,hg,rfl⟩:=h;exact aa4 ho hg
 ·rename_i ho;exact PN ho h
 ·rename_i ho;simp only[Option.map_eq_some_iff]at h;obtain⟨g,hg,rfl⟩:=h;exact al8 ho hg
 ·rename_i ho;exact HU ho h
 ·rename_i ho
  split at h
  ·rename_i hu;simp only[Option.map_eq_some_iff]at h;obtain⟨g,hg,rfl⟩:=h;exact Rw ho hg hu
  cases h
 ·rename_i t x ho
  split at h
  ·cases h
  ·cases h
  rename_i hn1 hn2;simp only[Option.map_eq_some_iff]at h;obtain⟨g,hg,rfl⟩:=h
  cases hd:P.underlying t with
  |none=>exact aj hd hn2
  |some d=>exact aa6 ho hg hd λ m e=>hn1 m (by rw[hd,e])
 ·rename_i x xt t ok ho
  split at h
  ·cases h
  ·cases h
  rename_i hn1 hn2;simp only[iY,fN]at h;obtain⟨zv,⟨ti,hi,hz⟩,z,haz,g,hg,h⟩:=h;injection h with h;subst h
  cases hd:P.underlying t with
  |none=>exact aj hd hn2
  |some d=>exact ahh ho hg hd (λ m e=>hn1 m (by rw[hd,e])) hi hz λ φ D=>.vf haz
 ·rename_i ho;simp only[iY,fN]at h;obtain⟨g,hg,l,hl,h⟩:=h;injection h with h;subst h;exact aa7 ho hg hl
 ·rename_i ho;injection h with h;subst h;exact Eo ho (.inl rfl)
 ·rename_i ho
  split at h
  ·rename_i hu;injection h with h;subst h;exact Eo ho (.inr ⟨⟨_,_,rfl⟩,_,_,hu⟩)
  cases h
 ·rename_i ho
  split at h
  ·rename_i hu;simp only[iY,fN]at h;obtain⟨z,⟨ti,hi,hz⟩,q,hq,az,haz,g,hg,k,hk,h⟩:=h;injection h with h;subst h;exact OV ho hg hk hu hq hi hz haz
  cases h
 ·rename_i ho
  split at h
  ·rename_i hu;simp only[iY,fN]at h;obtain⟨q,hq,g,hg,k,hk,l,hl,h⟩:=h;injection h with h;subst h;exact Lh (.inl ho) hg hk hl hu hq
  cases h
 ·rename_i ho
  split at h
  ·rename_i hu;simp only[iY,fN]at h;obtain⟨q,hq,g,hg,k,hk,l,hl,h⟩:=h;injection h with h;subst h;exact Lh (.inr ho) hg hk hl hu hq
  cases h
 ·rename_i ho;simp only[iY,fN]at h;obtain⟨el,he,z,hz,k,hk,h⟩:=h
  split at h
  ·rename_i hc;simp only[fN]at h;obtain⟨eT,hb,g,hg,l,hl,h⟩:=h;injection h with h;subst h;exact aa5 ho hg hl he hz hk hb hc
  cases h
 ·rename_i ho
  split at h
  ·rename_i el hu
   split at h
   ·rename_i hc;simp only[iY,fN]at h;obtain⟨sz,hs,g,hg,l,hl,k,hk,m,hm,h⟩:=h;injection h with h;subst h;exact ahi ho hg hl hk hm hu hs (amh hk hm hc)
   cases h
  cases h
 ·rename_i ho;simp only[iY,fN]at h;obtain⟨⟨off,ft⟩,hf,g,hg,h⟩:=h;injection h with h;subst h;obtain⟨fs,fd,ti,k,h1,h2,h3,h4,rfl,rfl⟩:=oN hf;exact abe ho hg h1 h2 h3 h4
 ·rename_i ho;simp only[iY,fN]at h;obtain⟨⟨off,ft⟩,hf,g,hg,b,hb,h⟩:=h;obtain⟨fs,fd,ti,k,h1,h2,h3,h4,rfl,rfl⟩:=oN hf
  split at h
  ·rename_i hbt;subst hbt;simp only[fN]at h;obtain⟨k',hk,h⟩:=h;injection h with h;subst h;have:k'=ti.size:=by simpa[cD,h3]using hk.symm
   subst this;exact aa' ho hg h1 h2 hb h3
  rename_i hbt;injection h with h;subst h;exact aba ho hg h1 h2 (by rw[hb];simpa using hbt)
 ·rename_i ho
  split at h
  ·rename_i hu;simp only[iY,fN]at h;obtain⟨sz,hs,g,hg,k,hk,h⟩:=h;injection h with h;subst h;exact ahp ho hg hk hu hs
  ·rename_i hu;simp only[iY,fN]at h;obtain⟨sz,hs,g,hg,k,hk,h⟩:=h;injection h with h;subst h;exact Rt ho hg hk hu hs
  cases h
 ·rename_i ho
  split at h
  ·rename_i hu;simp only[iY,fN]at h;obtain⟨g,hg,k,hk,h⟩:=h;injection h with h;subst h;exact aho ho hg hk hu
  ·rename_i hu;simp only[iY,fN]at h;obtain⟨sz,hs,ag,ha,g,hg,k,hk,h⟩:=h;injection h with h;subst h;exact ahn ho hg hk hu hs ha
  cases h
 ·rename_i ho;simp only[iY,fN]at h;obtain⟨g,hg,h⟩:=h;injection h with h;subst h;exact ahq ho hg
 ·rename_i ho
  split at h
  ·rename_i hc;exact yK ho hc h
  ·rename_i hc;exact Px ho hc h
  cases h
 cases h
end
end Go.Abs
namespace Go.Abs
open List
def FW (r:Option Nat):Fence:={fn:=λ _=>True,depth:=none,alive:=false,round:=r}
def jd (x:Value):nI->Exit
 |.normal=>.normal
 |.exit i=>.exit i
 |.ret=>.ret
 |.panic _=>.panic [{v:=x,recovered:=false}]
def yR (φ:Ph)(D:Da)(x:Value):nI->Prop
 |.panic v=>VR φ D v x
 |_=>True
def jo (φ:Ph)(D:Da):List Dm->List Deferred->Prop
 |[],ds=>ds=[]
 |.qw m::ms,ds=>∃cb co cz r,φ m=some (cb,co,cz)/\ds={target:=.collected cb,args:=#[]}::r/\jo φ D ms r
 |.fn f vs::ms,ds=>∃fl cl r,cw φ D vs (fl++cl)/\ds={target:=.fn (.func f) ⟨cl⟩,args:=⟨fl⟩ }::r/\jo φ D ms r
def j6 (φ:Ph)(D:Da):UM->FrameMode->Prop
 |.ret,u=>u=.returning
 |.rG v b,u=>∃x,VR φ D v x/\u=.panicking [{v:=x,recovered:=b}]
abbrev QT:=Exit->Act->World->Prop
structure St (nt:Nat)(φ:Ph)(D:Da)(F:Fr)(H:Hp)(m:List Dm)(a:Act)(w:World):Prop where
 rel:Rel φ D H.get w
 fr:FR φ D F.get a.tmps
 sz:a.tmps.size=nt
 uM:jo φ D m a.defers
def Sound (nt:Nat) (run:QT->Act->World->Prop) (f:Fr->Hp->Nat->List Dm->LZ):Prop:=
 ∀F H n m o F' H' n' m',f F H n m=.mk o F' H' n' m'->n<=n'/\∀ φ D a w,St nt φ D F H m a w->cK φ n n' ->
  ∀Q:QT,(∀ φ' D' a' w' px,Ext φ D H.get w n φ' D' H'.get w' n'->St nt φ' D' F' H' m' a' w'->yR φ' D' px o->Q (jd px o) a' w')->run Q a w
structure iQ (P:Program)(ce:Ce):Prop where
 call : ∀ g args H n v H' n', ce.call g args H n = .mk v H' n' → (∃ fn b, P.funcs[g]? = some fn ∧ fn.body = some b ∧ (fn.name == "runtime.NumGoroutine") = false) ∧ n ≤ n' ∧
  ∀ φ D w xs,Rel φ D H.get w->cw φ D args xs->cK φ n n'->∀R:Ending->World->Prop,
   (∀ φ' D' w' x,Ext φ D H.get w n φ' D' H'.get w' n'->Rel φ' D' H'.get w'->VR φ' D' v x->R (.returned x) w')->CallsIn Fence.wide 0 P g ⟨xs⟩ w R
 rG : ∀ g args H n v H' n', ce.call g args H n = .rG v H' n' → (∃ fn b, P.funcs[g]? = some fn ∧ fn.body = some b ∧ (fn.name == "runtime.NumGoroutine") = false) ∧ n ≤ n' ∧
  ∀ φ D w xs,Rel φ D H.get w->cw φ D args xs->cK φ n n'->∀R:Ending->World->Prop,
   (∀ φ' D' w' x,Ext φ D H.get w n φ' D' H'.get w' n'->Rel φ' D' H'.get w'->VR φ' D' v x->R (.panicked [{v:=x,recovered:=false}]) w')->CallsIn Fence.wide 0 P g ⟨xs⟩ w R
 code:∀nt c F H n o F' H' n' m',ce.code nt c F H n=.mk o F' H' n' m'->n<=n'/\∀l φ D a w,St nt φ D F H [] a w->cK φ n n' ->
  ∀Q:QT,(∀ φ' D' a' w' px,Ext φ D H.get w n φ' D' H'.get w' n'->St nt φ' D' F' H' m' a' w'->yR φ' D' px o->Q (jd px o) a' w')->c.wpIn (FW (some l)) 0 P Q a w
 dcall : ∀ g args u H n u' H' n', ce.dcall g args u H n = .mk u' H' n' → (∃ fn b, P.funcs[g]? = some fn ∧ fn.body = some b ∧ (fn.name == "runtime.NumGoroutine") = false) ∧ n ≤ n' ∧
  ∀ φ D w xs mo,Rel φ D H.get w->cw φ D args xs->j6 φ D u mo->cK φ n n'->∀R:Ending->FrameMode->World->Prop,
   (∀ φ' D' w' x tZ,Ext φ D H.get w n φ' D' H'.get w' n'->Rel φ' D' H'.get w'->j6 φ' D' u' tZ->R (.returned x) tZ w')->CallsDIn Fence.wide 0 P g ⟨xs⟩ mo w R
theorem jo.mono {φ φ':Ph}{D D':Da}(hφ:∀b x,φ b=some x->φ' b=some x)(hD:∀c x,D c=some x->D' c=some x):∀ {m ds},jo φ D m ds->jo φ' D' m ds
 |[],_,h=>h
 |.qw _::_,_,⟨cb,co,cz,r,h1,h2,h3⟩=>⟨cb,co,cz,r,hφ _ _ h1,h2,jo.mono hφ hD h3⟩
 |.fn _ _::_,_,⟨fl,cl,r,h1,h2,h3⟩=>⟨fl,cl,r,h1.mono hφ hD,h2,jo.mono hφ hD h3⟩
theorem jK {r:Option Nat}{n:Nat}{P:Program}{f:FuncId}{args:Array Value}{w:World}{R:Ending->World->Prop}(h:CallsIn Fence.wide 0 P f args w R):CallsIn (FW r) n P f args w R:=
 ⟨trivial,λ cs _=>h.2 cs (room_wide _)⟩
section
variable {P:Program}{ce:Ce}{nt:Nat}{r:Option Nat}
def yQ (nt:Nat)(dst:Option Tmp)(pd:Pd):Prop:=∀v F φ D (a:Act) cv,FR φ D F.get a.tmps->a.tmps.size=nt->VR φ D v cv ->
 FR φ D (pd.f v F).get (a.put dst cv).tmps/\(a.put dst cv).tmps.size=nt
theorem put_defers (a:Act)(dst:Option Tmp)(cv:Value):(a.put dst cv).defers=a.defers:=by cases dst<;>rfl
theorem te {dst:Option Tmp}{pd:Pd}(h:fq nt dst=some pd):yQ nt dst pd:=by
 intro v F φ D a cv hF hs hv;unfold fq at h
 split at h
 ·injection h with h;subst h;exact⟨hF,hs⟩
 rename_i d
 split at h
 ·rename_i hd;injection h with h;subst h;refine⟨⟨λ t u hu=>?_,hF.2⟩,by simp[Act.put,hs]⟩;dsimp only at hu;rw[Tr.jV _ _ _ _ _ (Nat.lt_succ_self d)]at hu
  by_cases e:t=d
  ·subst e;rw[ak rfl]at hu;injection hu with hu;subst hu;exact⟨cv,by simp[Act.put,hs,hd],hv⟩
  rw[ae e]at hu;obtain⟨x,hx,wJ⟩:=hF.1 t u hu;exact⟨x,by simp only[Act.put];rw[Array.getElem?_setIfInBounds_ne (Ne.symm e)];exact hx,wJ⟩
 cases h
theorem oh (H:Hp)(n:Nat)(v:AV)(k:bz):uH (.new v k) H.get n=(H.put n (some k)).get:=by
 funext b;simp only[uH,Hf.set,Tr.get_put]
theorem mG (H:Hp)(n:Nat)(v:AV)(b:Nat)(k:bz):uH (.upd v b k) H.get n=(H.put b (some k)).get:=by
 funext c;simp only[uH,Hf.set,Tr.get_put]
theorem rI (H:Hp)(n:Nat)(v:AV)(b:Nat)(k:bz):uH (.mv v b k) H.get n=((H.put b none).put n (some k)).get:=by
 funext c;simp only[uH,Hf.set,Tr.get_put]
def pj:Op->Bool
 |.defer _=>false
 |_=>true
theorem dY {o:Oper}(h:pj o.op=true)(ro:Option Nat)(ρ:Operand->Value):o.semAt ro ρ=execOp ρ o:=
 Oper.semAt_eq ro ρ o λ c hc=>by rw[hc]at h;cases h
theorem dX {o:Oper}{e:Eff}(h:dS P o=some e):pj o.op=true:=by
 cases ho:o.op<;>first|rfl|skip
 unfold dS at h;rw[ho]at h;cases h
variable {ops:Array Oper}{rest:List Nat}
theorem aa2 {o:Oper}{e:Eff}{pd:Pd}{next:K}(hq:pj o.op=true) (kO:yQ nt o.dst pd)
  (hnext:Sound nt (λ Q a w=>wpOpsIn (FW r) 0 P ops Q rest a w) (next.f ce)){F:Fr}{H:Hp}{n:Nat}{m:List Dm}{ou:nI}{F':Fr}{H':Hp}{n':Nat}{m':List Dm}(hk:(opK pd e next).f ce F H n m=.mk ou F' H' n' m'):
  n<=n'/\e F H n≠.fail/\∀ φ D a w,St nt φ D F H m a w->cK φ n n'->(cK φ n (sK (e F H n) n)->Does P (execOp a.eval o) φ D H.get w n (e F H n))->∀Q:QT,(∀ φ' D' a' w' px,Ext φ D H.get w n φ' D' H'.get w' n'->St nt φ' D' F' H' m' a' w'->yR φ' D' px ou->Q (jd px ou) a' w') ->
   o.wpIn (FW r) 0 P a w (wpOpsIn (FW r) 0 P ops Q rest) Q:=by
 have key:∀(v:AV) (H1:Hp) (n1:Nat) (rr:bg),e F H n=rr->rr≠.fail->OT rr=v->uH rr H.get n=H1.get->sK rr n=n1->n<=n1->next.f ce (pd.f v F) H1 n1 m=.mk ou F' H' n' m' ->
   n<=n'/\e F H n≠.fail/\∀ φ D a w,St nt φ D F H m a w->cK φ n n'->(cK φ n (sK (e F H n) n)->Does P (execOp a.eval o) φ D H.get w n (e F H n))->∀Q:QT,(∀ φ' D' a' w' px,Ext φ D H.get w n φ' D' H'.get w' n'->St nt φ' D' F' H' m' a' w'->yR φ' D' px ou->Q (jd px ou) a' w') ->
    o.wpIn (FW r) 0 P a w (wpOpsIn (FW r) 0 P ops Q rest) Q:=by
  intro v H1 n1 rr her hne hv hH hn hle hk1;obtain⟨hn1,hs⟩:=hnext _ _ _ _ _ _ _ _ _ hk1;refine⟨by omega,by rw[her];exact hne,λ φ D a w st hf hd Q hQ=>?_⟩;have hd:=hd (by rw[her,hn];exact hf.left hn1);rw[her]at hd;obtain⟨nx,cv,φ1,w1,hrun,hnx,aP,hrel,fU⟩:=hd;rw[hH]at aP hrel;rw[hn]at aP;rw[hv]at fU;have hfr:=kO v F φ1 D a cv (st.fr.mono aP.phi (λ _ _ h=>h)) st.sz fU;have hst:St nt φ1 D (pd.f v F) H1 m (a.put o.dst cv) w1:=⟨hrel,hfr.1,hfr.2,by rw[put_defers];exact st.uM.mono aP.phi aP.eQ⟩;have hgo:=hs φ1 D (a.put o.dst cv) w1 hst (hf.step aP) Q λ φ' D' a' w' px hx hst' pp=>hQ φ' D' a' w' px (aP.trans hx) hst' pp;refine⟨λ _ _=>trivial,?_⟩;rw[dY hq,hrun]
  cases hnx with
  |value=>exact hgo
  |skip=>exact hgo
 unfold opK at hk;dsimp only at hk
 cases her:e F H n with
 |fail=>rw[her]at hk;cases hk
 |val v=>rw[her]at hk;rw[her]at key;exact key v H n _ rfl (by simp) rfl rfl rfl (aM _) hk
 |new v k=>rw[her]at hk;rw[her]at key;exact key v _ _ _ rfl (by simp) rfl (oh ..) rfl (Nat.le_succ n) hk
 |upd v b k=>rw[her]at hk;rw[her]at key;exact key v _ _ _ rfl (by simp) rfl (mG ..) rfl (aM _) hk
 |mv v b k=>rw[her]at hk;rw[her]at key;exact key v _ _ _ rfl (by simp) rfl (rI ..) rfl (Nat.le_succ n) hk
theorem zm {o:Oper}{e:Eff}{pd:Pd}{next:K}(he:bP P o e)(hq:pj o.op=true)(kO:yQ nt o.dst pd)
  (hnext:Sound nt (λ Q a w=>wpOpsIn (FW r) 0 P ops Q rest a w) (next.f ce)):
  Sound nt (λ Q a w=>o.wpIn (FW r) 0 P a w (wpOpsIn (FW r) 0 P ops Q rest) Q) ((opK pd e next).f ce):=by
 intro F H n m ou F' H' n' m' hk;obtain⟨h1,h2,h3⟩:=aa2 hq kO hnext hk;exact⟨h1,λ φ D a w st hf Q hQ=>h3 φ D a w st hf (λ hf'=>he F H n φ D a w st.rel st.fr hf' h2) Q hQ⟩
theorem vZ {φ:Ph}{D:Da}:∀(ps:List Nat) (args:List AV) (xs:List Value) (F F1:Fr) (tmps:Array Value),qo nt ps args F=some F1->cw φ D args xs->FR φ D F.get tmps->tmps.size=nt ->
  ps.length=xs.length/\FR φ D F1.get ((ps.zip xs).foldl (λ t (x:Nat×Value)=>t.setIfInBounds x.1 x.2) tmps)/\((ps.zip xs).foldl (λ t (x:Nat×Value)=>t.setIfInBounds x.1 x.2) tmps).size=nt
 |[],[],xs,F,F1,tmps,h,hv,hF,hs=>by
  cases hv
  simp only[qo]at h;injection h with h;subst h;exact⟨rfl,hF,hs⟩
 |[],_::_,_,_,_,_,h,_,_,_=>by simp[qo]at h
 |_::_,[],_,_,_,_,h,_,_,_=>by simp[qo]at h
 |p :: ps,v::vs,xs,F,F1,tmps,h,hv,hF,hs=>by
  cases hv with
  |cons _ x _ xs h1 h2 =>
  simp only[qo]at h
  split at h
  ·rename_i hp;have hp:p<nt:=dR hp
   have hF':FR φ D (F.put p (some v)).get (tmps.setIfInBounds p x):=by
    refine⟨λ t u hu=>?_,hF.2⟩;rw[Tr.get_put]at hu
    split at hu
    ·rename_i e;subst e;injection hu with hu;subst hu;exact⟨x,by simp[hs,hp],h1⟩
    rename_i e;obtain⟨y,hy,hvy⟩:=hF.1 t u hu;exact⟨y,by rw[Array.getElem?_setIfInBounds_ne (Ne.symm e)];exact hy,hvy⟩
   obtain⟨i1,i2,i3⟩:=vZ ps vs xs (F.put p (some v)) F1 (tmps.setIfInBounds p x) h h2 hF' (by simp[hs]);exact⟨by simp[i1],by simpa using i2,by simpa using i3⟩
  cases h
theorem k9 (H:Hp)(b:Nat)(k:Option bz):Hf.set H.get b k=(H.put b k).get:=by funext c;simp only[Hf.set,Tr.get_put]
theorem mC {φ D}{H:Hp}{w:World}{n q cb co cz:Nat}{rr:Loop}{k:bz}(hr:Rel φ D H.get w)(hq:H.get q≠none)(hp:φ q=some (cb,co,cz))
  (hk:jq φ D (Go.World.putObj w cb (.loop rr)) (cb,co,cz) k):Rel φ D (H.put q (some k)).get (Go.World.putObj w cb (.loop rr))/\Ext φ D H.get w n φ D (H.put q (some k)).get (Go.World.putObj w cb (.loop rr)) n:=by
 have:=KT (n:=n) hr hq hp (Go.World.putObj w cb (.loop rr)) (λ c hc=>Go.World.putObj_heap_other hc) Go.World.putObj_size rfl rfl hk;rw[k9]at this;exact this
theorem vC {q : Nat}{vs:List AV}{H:Hp}{n:Nat}{v:AV}{H':Hp}{n':Nat}(hce:iQ P ce) (hk:DW ce q vs H n=.mk v H' n'):
  n<=n'/\∀(o:Oper) (c:Call) φ D (a:Act) w x,o.op=.call c->c.callee=.value x->VR φ D (.j9 q) (a.eval x)->cw φ D vs (c.args.toList.map a.eval)->Rel φ D H.get w->cK φ n n'->∀(K:Act->World->Prop) (Q:QT),
   (∀ φ' D' w' cv,Ext φ D H.get w n φ' D' H'.get w' n'->Rel φ' D' H'.get w'->VR φ' D' v cv->K (a.put o.dst cv) w')->o.wpIn (FW r) 0 P a w K Q:=by
 unfold DW at hk
 split at hk
 ·rename_i st0 j0 nt0 F0 ps ca cb' hq0
  split at hk
  ·rename_i F1 hF1
   split at hk
   ·rename_i F2 H2 n2 hc1;obtain⟨hn1,hs1⟩:=hce.code _ _ _ _ _ _ _ _ _ _ hc1
    split at hk
    ·rename_i j2 Hm G2 ps2 a2 b2 hq2
     split at hk
     ·rename_i j F3 H3 n3 m3 hc2;obtain⟨hn2,hs2⟩:=hce.code _ _ _ _ _ _ _ _ _ _ hc2
      split at hk
      ·rename_i st3 j3 GL G3 GK a3 b3 hq3
       have fin:∀(b:Bool) (st:LoopState) (jj:nI),kC.mk (.bool b) (H3.put q (some (.loop st jj GL G3 GK a3 b3))) n3=.mk v H' n'->(gY jj).isNone=b->(st=if b then .ready else .done)->j=jj->(∀v,jj≠.panic v) ->
         n<=n'/\∀(o:Oper) (c:Call) φ D (a:Act) w x,o.op=.call c->c.callee=.value x->VR φ D (.j9 q) (a.eval x)->cw φ D vs (c.args.toList.map a.eval)->Rel φ D H.get w->cK φ n n'->∀(K:Act->World->Prop) (Q:QT),
          (∀ φ' D' w' cv,Ext φ D H.get w n φ' D' H'.get w' n'->Rel φ' D' H'.get w'->VR φ' D' v cv->K (a.put o.dst cv) w')->o.wpIn (FW r) 0 P a w K Q:=by
        intro b st jj hk1 hb hst hjj ER;injection hk1 with e1 e2 e3;subst e1 e2 e3;refine⟨by omega,λ o c φ D a w x ho hc hyl hargs hrel hf K Q hK=>?_⟩;refine⟨λ _ _=>trivial,?_⟩;generalize hxv:a.eval x=xv at hyl
        cases hyl with
        |j9 _ cb co cz hp =>
        obtain⟨_,rr,hr1,hr2,hr3,hr4,hr5,hr6,hr7,hr8⟩:=hrel.block hq0 hp;have hr1:w.heap[cb]?=some (.loop rr):=hr1;obtain⟨p1,p2,p3⟩:=vZ ps vs _ F0 F1 rr.tmps hF1 hargs hr5 hr4
        have hsz:(c.args.map a.eval).size=rr.params.size:=by
         have e1:rr.params.size=ps.length:=by rw[<-hr6];simp
         rw[e1,p1];simp
        have hrun:(o.semAt (FW r).round a.eval).run P w=.ok (.round cb rr.fn ((rr.params.zip (c.args.map a.eval)).foldl (λ tmps (t,a)=>tmps.setIfInBounds t a) rr.tmps) rr.assign rr.body) w:=by
         rw[dY (by rw[ho];rfl)];have hy:=run_yield (P:=P) (args:=(#[]:Array Value)++Array.map a.eval c.args) hr1 (by simpa using hsz);simp only[execOp,ho,resolve,hc,hxv,Deferred.ofValue,bZ,cS,bX,invoke,hy];simp
        have hfold:(rr.params.zip (c.args.map a.eval)).foldl (λ tmps (t,a)=>tmps.setIfInBounds t a) rr.tmps=((ps.zip (c.args.toList.map a.eval)).foldl (λ t (x:Nat×Value)=>t.setIfInBounds x.1 x.2) rr.tmps):=by
         rw[<-Array.foldl_toList,Array.toList_zip,hr6];simp
        rw[hrun,hfold,hr7,hr8];refine⟨λ h=>by simp[FW]at h,roundIn_of_wpIn trivial ?_⟩;refine hs1 cb φ D {tmps:=_,defers:=[]} w ⟨hrel,p2,p3,rfl⟩ (hf.left (by omega)) _ λ φ1 D1 a1 w1 px e1 st1 pp=>?_;have hp1:=e1.phi _ _ hp;obtain⟨hlt2,r2,HD,aic,aib,aia,ah',ah_,ah9,ah8⟩:=st1.rel.block hq2 hp1;have HD:w1.heap[cb]?=some (.loop r2):=HD;have hlt2:cb<w1.heap.size:=hlt2;refine⟨_,run_beginRound (P:=P) HD aic,?_⟩;obtain⟨k1,k2⟩:=mC (n:=n2) (rr:={r2 with state:=.busy}) (k:=.loop .busy j2 Hm G2 ps2 a2 b2) st1.rel (by rw[hq2];simp) hp1 ⟨_,Go.World.putObj_heap_same hlt2,rfl,aib,aia,ah',ah_,ah9,ah8⟩;have f2:=(hf.step e1).step k2;refine hs2 cb φ1 D1 a1 _ ⟨k1,st1.fr,st1.sz,?_⟩ f2 _ λ φ2 D2 a2' w2 px e2 st2 pp=>?_
        ·exact st1.uM
        have hp2:=e2.phi _ _ hp1;obtain⟨hlt3,r3,Br,ase,asd,Su,Ss,Sr,Sm,Sl⟩:=st2.rel.block hq3 hp2;have Br:w2.heap[cb]?=some (.loop r3):=Br;have hlt3:cb<w2.heap.size:=hlt3;have hend:=run_endRound (P:=P) (gY jj) Br;rw[hb,<-hst]at hend;obtain⟨k3,k4⟩:=mC (n:=n3) (rr:={r3 with state:=st,pending:=gY jj}) (k:=.loop st jj GL G3 GK a3 b3) st2.rel (by rw[hq3];simp) hp2 ⟨_,Go.World.putObj_heap_same hlt3,rfl,rfl,Su,Ss,Sr,Sm,Sl⟩;have sX:=((e1.trans k2).trans e2).trans k4;have hgo:=hK φ2 D2 _ (.bool b) sX k3 (.bool _);subst hjj
        cases j with
        |normal=>exact⟨_,_,hend,hgo⟩
        |exit i=>exact⟨_,_,hend,hgo⟩
        |ret=>exact⟨_,_,hend,hgo⟩
        |panic v=>exact aj rfl (ER v)
       split at hk
       ·exact fin true .ready .normal hk rfl rfl rfl (λ _ e=>by cases e)
       ·exact fin false .done (.exit _) hk rfl rfl rfl (λ _ e=>by cases e)
       ·exact fin false .done .ret hk rfl rfl rfl (λ _ e=>by cases e)
       cases hk
      cases hk
     cases hk
    cases hk
   cases hk
  cases hk
 cases hk
structure sB (P:Program)(c:Call)(g:G):Prop where
 fn:∀(o:Oper) (a:Act) (F:Fr) (φ:Ph) (D:Da) (f:FuncId) (first cap:List AV),o.op=.call c->FR φ D F.get a.tmps->g.f F=some (.fn (.func f) first cap)->∃fl cl,cw φ D first fl/\cw φ D cap cl /\
  ∀ fn b w, P.funcs[f]? = some fn → (fn.name == "runtime.NumGoroutine") = false → fn.body = some b → (execOp a.eval o).run P w = .ok (.enter f ⟨fl ++ (c.args.toList.map a.eval ++ cl)⟩) w
 j9:∀(a:Act) (F:Fr) (φ:Ph) (D:Da) (q:Nat),FR φ D F.get a.tmps->g.f F=some (.j9 q)->∃x,c.callee=.value x/\VR φ D (.j9 q) (a.eval x)
theorem sB.value {c:Call}{x:Operand}{g:G}(hc:c.callee=.value x)(hg:cA x=some g):sB P c g:=by
 refine⟨λ o a F φ D f first cap ho hF hgv=>?_,λ a F φ D q hF hgv=>⟨x,hc,aJ hg F φ D a hF _ hgv⟩⟩;have hgr:=aJ hg F φ D a hF _ hgv
 cases hxv:a.eval x with
 |func ff fx cx =>
  rw[hxv]at hgr
  cases hgr with
  |fn _ _ _ fl cl h1 h2 =>
  refine⟨fl,cl,h1,h2,λ fn b w hfn hname hb=>?_⟩;have harr:(⟨fl⟩:Array Value)++Array.map a.eval c.args++⟨cl⟩=⟨fl++(c.args.toList.map a.eval++cl)⟩:=by apply Array.ext';simp
  simp only[execOp,ho,resolve,hc,hxv,Deferred.ofValue,bZ,cS,bX,invoke,callFunc,run_program,hfn,hname,hb,harr];simp
 |_=>rw[hxv]at hgr;cases hgr
theorem O1 {t : TypeId}{name:String}{f:FuncId}{v:Value}{w:World}{k:Nat}(h:wv P t name=some f):(method (k+1) t v name).run P w=.ok (f,v) w:=by
 unfold wv at h
 split at h
 ·rename_i ti hi
  split at h
  ·rename_i m hm
   split at h
   ·rename_i hp
    split at h
    ·rename_i f' pr hf;unfold method;simp only[bZ,run_typeInfo w hi,bX,hm,cS,hp,follow,hf]
     split at h
     ·rename_i e hu
      cases pr with
      |false=>simp at h
      |true =>
       have h:some f'=some f:=h;injection h with h;subst h;unfold receiverAt;simp[run_underlying hu,Place.get]
     ·rename_i d hu hd
      cases pr with
      |true=>cases h
      |false =>
       have h:some f'=some f:=h;injection h with h;subst h;unfold receiverAt;simp only[bZ,run_underlying hd,bX]
       cases d<;>first|(simp[Place.get];done)|(exact aj rfl (hu _))
     cases h
    cases h
   cases h
  cases h
 cases h
theorem sB.invoke {c:Call}{x:Operand}{name:String}{g:G}(hc:c.callee=.invoke x name) (hg:cA x=some g):sB P c (wG P name g):=by
 refine⟨λ o a F φ D f first cap ho hF hgv=>?_,λ a F φ D q hF hgv=>?_⟩
 ·simp only[wG]at hgv
  split at hgv
  ·rename_i t v hgx
   split at hgv
   ·rename_i f' hm;injection hgv with hgv;injection hgv with e1 e2 e3;injection e1 with e1;subst e1 e2 e3;have hgr:=aJ hg F φ D a hF _ hgx;generalize hxv:a.eval x=xv at hgr
    cases hgr with
    |fO _ _ y hy =>
    refine⟨[y],[],.cons _ _ _ _ hy .nil,.nil,λ fn b w hfn hname hb=>?_⟩
    have hrun:(method (P.types.size+Made.depth) t y name).run P w=.ok (f',y) w:=by
     rw[show P.types.size+Made.depth=(P.types.size+99)+1 from rfl];exact O1 hm
    have harr:(#[Value.iface t y]++Array.map a.eval c.args)[0]?=some (.iface t y):=by
     rw[Array.getElem?_append_left (Nat.zero_lt_one)];rfl
    have am1:#[y]++(#[Value.iface t y]++Array.map a.eval c.args).extract 1 (#[Value.iface t y]++Array.map a.eval c.args).size=⟨y::(c.args.toList.map a.eval)⟩:=by
     apply Array.ext';simp[extract];exact eS (by simp)
    simp only[execOp,ho,resolve,hc,hxv,bZ,cS,bX,Go.invoke,harr,callMethod,run_program,hrun,am1,callFunc,hfn,hname,hb];simp
   cases hgv
  cases hgv
 simp only[wG]at hgv
 split at hgv
 ·split at hgv<;>cases hgv
 cases hgv
theorem uy {o:Oper}{c:Call}{pd:Pd}{g:G}{as:List G}{next:K}(ho:o.op=.call c) (hg:sB P c g) (has:jt c.args.toList=some as) (hce:iQ P ce) (kO:yQ nt o.dst pd)
  (hnext:Sound nt (λ Q a w=>wpOpsIn (FW r) 0 P ops Q rest a w) (next.f ce)):
  Sound nt (λ Q a w=>o.wpIn (FW r) 0 P a w (wpOpsIn (FW r) 0 P ops Q rest) Q) ((FB pd g as next).f ce):=by
 intro F H n m ou F' H' n' m' hk;unfold FB at hk;dsimp only at hk
 cases hgv:g.f F with
 |none=>rw[hgv]at hk;cases hk
 |some fv =>
  rw[hgv]at hk
  split at hk
  ·rename_i f first cap hfv;injection hfv with hfv;subst hfv
   cases hev:evs F as with
   |none=>rw[hev]at hk;cases hk
   |some vs =>
    rw[hev]at hk;dsimp only at hk
    cases hcall:ce.call f (first++(vs++cap)) H n with
    |fail=>rw[hcall]at hk;cases hk
    |rG v H1 n1 =>
     rw[hcall]at hk;cases hk;obtain⟨⟨fn,b,hfn,hb,hname⟩,hn1,hcs⟩:=hce.rG _ _ _ _ _ _ _ hcall;refine⟨hn1,λ φ D a w st hf Q hQ=>?_⟩;refine⟨λ _ _=>trivial,?_⟩;obtain⟨fl,cl,h1,h2,hrun0⟩:=hg.fn o a F φ D f first cap ho st.fr hgv;have h3:=dz has F φ D a st.fr vs hev
     have hrun:(o.semAt (FW r).round a.eval).run P w=.ok (.enter f ⟨fl++(c.args.toList.map a.eval++cl)⟩) w:=by
      rw[dY (by rw[ho];rfl)];exact hrun0 fn b w hfn hname hb
     rw[hrun];refine⟨λ h=>by simp[FW]at h,jK (hcs φ D w _ st.rel (h1.append (h3.append h2)) hf _ λ φ1 D1 w1 cv aP hrel fU=>?_)⟩;exact hQ φ1 D1 a w1 cv aP ⟨hrel,st.fr.mono aP.phi aP.eQ,st.sz,st.uM.mono aP.phi aP.eQ⟩ fU
    |mk v H1 n1 =>
     rw[hcall]at hk;dsimp only at hk;obtain⟨⟨fn,b,hfn,hb,hname⟩,hn1,hcs⟩:=hce.call _ _ _ _ _ _ _ hcall;obtain⟨hn2,hs⟩:=hnext _ _ _ _ _ _ _ _ _ hk;refine⟨by omega,λ φ D a w st hf Q hQ=>?_⟩;refine⟨λ _ _=>trivial,?_⟩;obtain⟨fl,cl,h1,h2,hrun0⟩:=hg.fn o a F φ D f first cap ho st.fr hgv;have h3:=dz has F φ D a st.fr vs hev
     have hrun:(o.semAt (FW r).round a.eval).run P w=.ok (.enter f ⟨fl++(c.args.toList.map a.eval++cl)⟩) w:=by
      rw[dY (by rw[ho];rfl)];exact hrun0 fn b w hfn hname hb
     rw[hrun];refine⟨λ h=>by simp[FW]at h,jK (hcs φ D w _ st.rel (h1.append (h3.append h2)) (hf.left hn2) _ λ φ1 D1 w1 cv aP hrel fU=>?_)⟩;have hfr:=kO v F φ1 D1 a cv (st.fr.mono aP.phi aP.eQ) st.sz fU;exact hs φ1 D1 (a.put o.dst cv) w1 ⟨hrel,hfr.1,hfr.2,by rw[put_defers];exact st.uM.mono aP.phi aP.eQ⟩ (hf.step aP) Q λ φ' D' a' w' px hx hst' pp=>hQ φ' D' a' w' px (aP.trans hx) hst' pp
  ·rename_i q hfv;injection hfv with hfv;subst hfv
   cases hev:evs F as with
   |none=>rw[hev]at hk;cases hk
   |some vs =>
    rw[hev]at hk;dsimp only at hk
    cases hy:DW ce q vs H n with
    |fail=>rw[hy]at hk;cases hk
    |rG v H1 n1=>rw[hy]at hk;cases hk
    |mk v H1 n1 =>
     rw[hy]at hk;dsimp only at hk;obtain⟨hn1,hcs⟩:=vC (r:=r) hce hy;obtain⟨hn2,hs⟩:=hnext _ _ _ _ _ _ _ _ _ hk;refine⟨by omega,λ φ D a w st hf Q hQ=>?_⟩;obtain⟨x,hc,hyl⟩:=hg.j9 a F φ D q st.fr hgv;refine hcs o c φ D a w x ho hc hyl (dz has F φ D a st.fr vs hev) st.rel (hf.left hn2) _ Q λ φ1 D1 w1 cv aP hrel fU=>?_;have hfr:=kO v F φ1 D1 a cv (st.fr.mono aP.phi aP.eQ) st.sz fU;exact hs φ1 D1 (a.put o.dst cv) w1 ⟨hrel,hfr.1,hfr.2,by rw[put_defers];exact st.uM.mono aP.phi aP.eQ⟩ (hf.step aP) Q λ φ' D' a' w' px hx hst' pp=>hQ φ' D' a' w' px (aP.trans hx) hst' pp
  cases hk
theorem AY {o:Oper}{x:Operand}{g:G}(ho:o.op=.panic x)(hg:cA x=some g):
  Sound nt (λ Q a w=>o.wpIn (FW r) 0 P a w (wpOpsIn (FW r) 0 P ops Q rest) Q) ((AZ g).f ce):=by
 intro F H n m ou F' H' n' m' hk;unfold AZ at hk;dsimp only at hk
 split at hk
 ·rename_i t v hgv;cases hk;refine⟨aM _,λ φ D a w st hf Q hQ=>⟨λ _ _=>trivial,?_⟩⟩;have h3:=aJ hg F φ D a st.fr _ hgv;generalize hl:a.eval x=l at h3
  cases h3 with
  |fO _ _ y hy =>
  have hrun:(o.semAt (FW r).round a.eval).run P w=.halt (.panic (.iface t y)) w:=by
   rw[dY (by rw[ho];rfl)];simp only[execOp,ho,hl,Instr.panic];simp[goPanic]
  rw[hrun];exact hQ φ D a w (.iface t y) (Ext.refl ..) st (.fO _ _ _ hy)
 cases hk
theorem BC {o:Oper}{f:Operand}{args:Array Operand}{tys:Array TypeId}{pd:Pd}{g:G}{as:List G}{next:K}(hr:r=none) (ho:o.op=.defer {callee:=.value f,args:=args,argTypes:=tys}) (hg:cA f=some g) (has:jt args.toList=some as) (kO:yQ nt o.dst pd)
  (hnext:Sound nt (λ Q a w=>wpOpsIn (FW r) 0 P ops Q rest a w) (next.f ce)):
  Sound nt (λ Q a w=>o.wpIn (FW r) 0 P a w (wpOpsIn (FW r) 0 P ops Q rest) Q) ((BD pd g as next).f ce):=by
 subst hr;intro F H n m ou F' H' n' m' hk;unfold BD at hk;dsimp only at hk
 split at hk
 ·rename_i ff first cap hgv
  split at hk
  ·rename_i vs hev;obtain⟨hn,hs⟩:=hnext _ _ _ _ _ _ _ _ _ hk;refine⟨hn,λ φ D a w st hf Q hQ=>⟨λ _ _=>trivial,?_⟩⟩;have hgr:=aJ hg F φ D a st.fr _ hgv;have h3:=dz has F φ D a st.fr vs hev;generalize hxv:a.eval f=xv at hgr
   cases hgr with
   |fn _ _ _ fl cl h1 h2 =>
   have hrun:(o.semAt (FW none).round a.eval).run P w=.ok (.defer {target:=.fn (.func ff) ⟨cl⟩,args:=⟨fl++args.toList.map a.eval⟩ }) w:=by
    have harr:(⟨fl⟩:Array Value)++Array.map a.eval args=⟨fl++args.toList.map a.eval⟩:=by apply Array.ext';simp
    show ((o.semAt none a.eval).run P w)=_;rw[Oper.semAt_none];simp only[execOp,ho,resolve,hxv,Deferred.ofValue,bZ,cS,bX,harr]
   rw[hrun];have hfr:=kO (.aW []) F φ D {a with defers:={target:=.fn (.func ff) ⟨cl⟩,args:=⟨fl++args.toList.map a.eval⟩ }::a.defers} undef st.fr st.sz (.aW _ _ .nil);refine hs φ D _ w ⟨st.rel,hfr.1,hfr.2,?_⟩ hf Q hQ;rw[put_defers];exact⟨_,_,_,by simpa using h1.append (h3.append h2),rfl,st.uM⟩
  cases hk
 cases hk
theorem Aw {φ:Ph}{D:Da}{v:AV}{b:Bool}(h:VR φ D v (.bool b)):v=.bool b:=by
 cases h with
 |bool=>rfl
 |aI _ ha=>cases ha
end
end Go.Abs
namespace Go.Abs
open List
def over (X X' h:Hf):Hf:=λ b=>match X' b with
  | some k=>some k
  | none=>match X b with
    | some _=>none
    | none=>h b
def Sub (X h:Hf):Prop:=∀b k,X b=some k->h b=some k
theorem zk {X X' h:Hf}{b:Nat}{k:bz}(h1:over X X' h b=some k):X' b=some k∨(X' b=none/\X b=none/\h b=some k):=by
  unfold over at h1
  cases e1:X' b with
  | some k'=>rw[e1]at h1;exact .inl h1
  | none =>
    rw[e1]at h1
    cases e2:X b with
    | some k'=>rw[e2]at h1;cases h1
    | none=>rw[e2]at h1;exact .inr ⟨rfl,rfl,h1⟩
theorem rH {X X' h:Hf}{b:Nat}(h1:over X X' h b≠none):X' b≠none∨(X' b=none/\X b=none/\h b≠none):=by
  cases e:over X X' h b with
  | none=>exact aj e h1
  | some k => rcases zk e with h | ⟨a,b,c⟩
              · exact .inl (by rw[h];simp)
              · exact .inr ⟨a,b,by rw[c];simp⟩
theorem wh {X X' h:Hf}:Sub X' (over X X' h):=λ b k hb=>by unfold over;rw[hb]
theorem sJ {X X' h:Hf}{b:Nat}(h1:X b=none)(h2:X' b=none):over X X' h b=h b:=by unfold over;rw[h1,h2]
theorem zl {X h:Hf}(hs:Sub X h):over X X h=h:=by
  funext b
  unfold over
  cases e:X b with
  | none=>rfl
  | some k=>exact(hs b k e).symm
theorem uZ {φ D h X w}(hr:Rel φ D h w)(hs:Sub X h):Rel φ D X w:=by
  have ne:∀b,X b≠none->h b≠none:=λ b hb=>by
    cases e:X b with
    | none=>exact aj e hb
    | some k=>rw[hs b k e];simp
  exact⟨λ b k hb=>hr.blk b k (hs b k hb),λ b c p q hb hc=>hr.inj b c p q (ne b hb) (ne c hc),λ b p hb=>hr.sep b p (ne b hb),hr.eQ⟩
theorem qM {φ D h w lo hi X X' φ' D' w'}(hr:Rel φ D h w) (hX:Sub X h) (e:Ext φ D X w lo φ' D' X' w' hi) (r:Rel φ' D' X' w'):
    Rel φ' D' (over X X' h) w'/\Ext φ D h w lo φ' D' (over X X' h) w' hi:=by
  have ne:∀b,X b≠none->h b≠none:=λ b hb=>by
    cases e:X b with
    | none=>exact aj e hb
    | some k=>rw[hX b k e];simp
  have apart:∀b p c q,X b=none->h b≠none->φ' b=some p->X' c≠none->φ' c=some q->p.1≠q.1:=by
    intro b p c q hXb hb hp hc hq eq
    cases hbk:h b with
    | none=>exact aj hbk hb
    | some k =>
      obtain⟨p',hp',hlt,_⟩:=hr.blk b k hbk
      have:=e.phi _ _ hp'
      rw[hp]at this;injection this with this;subst this
      rcases e.live c q hc hq with h1 | ⟨b0,p0,x,y,z⟩
      · omega
      · have:=hr.inj b0 b p0 p (ne b0 x) hb y hp' (by omega)
        subst this;exact x hXb
  refine⟨⟨?_,?_,?_,r.eQ⟩,⟨e.le,e.phi,e.new,e.eQ,e.size,?_,?_,?_,?_,e.os,e.out⟩⟩
  · intro b k hb
    rcases zk hb with h1 | ⟨h1,h2,h3⟩
    · exact r.blk b k h1
    · obtain⟨p,hp,hlt,hk⟩:=hr.blk b k h3
      refine⟨p,e.phi _ _ hp,Nat.lt_of_lt_of_le hlt e.size,hk.mono e.phi e.eQ (e.keep _ hlt λ c q hc hq eq=>?_)⟩
      have:=hr.inj c b q p (ne c hc) (by rw[h3];simp) hq hp eq
      subst this;exact hc h2
  · intro b c p q hb hc hp hq eq
    rcases rH hb with h1 | ⟨h1,h2,h3⟩<;>rcases rH hc with k1 | ⟨k1,k2,k3⟩
    · exact r.inj b c p q h1 k1 hp hq eq
    · exact aj eq.symm (apart c q b p k2 k3 hq h1 hp)
    · exact aj eq (apart b p c q h2 h3 hp k1 hq)
    · cases hbk:h b with
      | none=>exact aj hbk h3
      | some kb=>cases hck:h c with
        | none=>exact aj hck k3
        | some kc =>
          obtain⟨p',hp',_⟩:=hr.blk b kb hbk
          obtain⟨q',hq',_⟩:=hr.blk c kc hck
          have e1:=e.phi _ _ hp'
          have e2:=e.phi _ _ hq'
          rw[hp]at e1;injection e1 with e1;subst e1
          rw[hq]at e2;injection e2 with e2;subst e2
          exact hr.inj b c p q h3 k3 hp' hq' eq
  · intro b p hb hp
    rcases rH hb with h1 | ⟨h1,h2,h3⟩
    · exact r.sep b p h1 hp
    · cases hD:D' p.1 with
      | none=>rfl
      | some x =>
        exfalso
        cases hbk:h b with
        | none=>exact aj hbk h3
        | some kb =>
          obtain⟨p',hp',hlt,_⟩:=hr.blk b kb hbk
          have e1:=e.phi _ _ hp'
          rw[hp]at e1;injection e1 with e1;subst e1
          rcases e.lj p.1 (by rw[hD];simp)with h4 | h4 | ⟨b0,p0,x0,y0,z0⟩
          · exact h4 (hr.sep b p h3 hp')
          · omega
          · have:=hr.inj b0 b p0 p (ne b0 x0) h3 y0 hp' z0
            subst this;exact x0 h2
  · exact λ c hc hn=>e.keep c hc λ b p hb=>hn b p (ne b hb)
  · intro b p hb hp
    rcases rH hb with h1 | ⟨h1,h2,h3⟩
    · rcases e.live b p h1 hp with h4 | ⟨b0,p0,x,y,z⟩
      · exact .inl h4
      · exact .inr ⟨b0,p0,ne b0 x,y,z⟩
    · cases hbk:h b with
      | none=>exact aj hbk h3
      | some kb =>
        obtain⟨p',hp',hlt,_⟩:=hr.blk b kb hbk
        have e1:=e.phi _ _ hp'
        rw[hp]at e1;injection e1 with e1;subst e1
        exact .inr ⟨b,p,h3,hp',rfl⟩
  · intro c hc
    rcases e.lj c hc with h1 | h1 | ⟨b0,p0,x,y,z⟩
    · exact .inl h1
    · exact .inr (.inl h1)
    · exact .inr (.inr ⟨b0,p0,ne b0 x,y,z⟩)
  · intro b hb
    rcases rH hb with h1 | ⟨h1,h2,h3⟩
    · rcases e.hid b h1 with h4 | h4
      · exact .inl (ne b h4)
      · exact .inr h4
    · exact .inl h3
section
variable {P:Program}{ce:Ce}{nt:Nat}{r:Option Nat}{ops:Array Oper}
def mg (P:Program) (r:Option Nat) (ops:Array Oper) (i:Nat) (dst:Option Tmp) (Fs:Fr) (X X':Hf) (v:AV) (lo hi:Nat):Prop:=
  lo<=hi/\∀ φ D h (a:Act) w,Rel φ D h w->Sub X h->FR φ D Fs.get a.tmps->cK φ lo hi->∀(K:Act->World->Prop) (Q:QT),
    (∀ φ' D' w' cv,Ext φ D h w lo φ' D' (over X X' h) w' hi->Rel φ' D' (over X X' h) w'->VR φ' D' v cv->K (a.put dst cv) w')->wpOpIn (FW r) 0 P ops Q i K a w
inductive oU (P:Program)(ops:Array Oper)(o:Oper)(Fs:Fr):Bool->Prop
  | free:o.guard=none->oU P ops o Fs true
  | tells (j d:Nat) (b c:Bool):o.guard=some (j,b)->(ops[j]?).bind (·.dst)=some d->Fs.get d=some (.bool c)->oU P ops o Fs (c == b)
  | other (j d:Nat) (b:Bool) (v:AV):o.guard=some (j,b)->(ops[j]?).bind (·.dst)=some d->Fs.get d=some v->(∀c,v≠.bool c)->oU P ops o Fs false
theorem o7 {o:Oper}{Fs:Fr}{b:Bool}(h:oU P ops o Fs b){φ:Ph}{D:Da}{tmps:Array Value}(hF:FR φ D Fs.get tmps):Region.wanted o (yielded ops tmps)=b:=by
  cases h with
  | free h=>simp[Region.wanted,h]
  | tells j d b c h1 h2 h3 =>
    obtain⟨x,hx,hv⟩:=hF.1 d _ h3
    cases hv with
    | bool=>simp only[Region.wanted,h1,yielded,h2,Option.bind_some,hx];cases b<;>cases c<;>rfl
  | other j d b v h1 h2 h3 h4 =>
    obtain⟨x,hx,hv⟩:=hF.1 d _ h3
    simp only[Region.wanted,h1,yielded,h2,Option.bind_some,hx]
    cases x<;>first | rfl | exact aj (Aw hv) (h4 _)
theorem step_skip {i:Nat}{o:Oper}{Fs:Fr}(ho:ops[i]?=some o)(hw:oU P ops o Fs false)(X:Hf)(n:Nat):mg P r ops i o.dst Fs X X (.aW []) n n:=by
  refine⟨aM _,λ φ D h a w hr hX hF hf K Q hK=>?_⟩
  have hwr:=o7 hw hF
  unfold wpOpIn
  rw[zl hX]at hK
  simp only[ho,hwr]
  exact⟨λ _ _=>trivial,hK φ D w undef (Ext.refl ..) hr (.aW _ _ .nil)⟩
theorem eH {i:Nat}{o:Oper}{Fs:Fr}{e:Eff}{H:Hp}{n:Nat}{rr:bg}(ho:ops[i]?=some o)(hw:oU P ops o Fs true)(he:bP P o e)(hq:pj o.op=true)(hrr:e Fs H n=rr)(hne:rr≠.fail):
    mg P r ops i o.dst Fs H.get (uH rr H.get n) (OT rr) n (sK rr n):=by
  refine⟨by cases rr<;>simp[sK],λ φ D h a w hr hX hF hf K Q hK=>?_⟩
  have hwr:=o7 hw hF
  obtain⟨nx,cv,φ',w',hrun,hnx,aP,hrel,fU⟩:=by
    have:=he Fs H n φ D a w (uZ hr hX) hF (by rw[hrr];exact hf) (by rw[hrr];exact hne)
    rw[hrr]at this;exact this
  obtain⟨h1,h2⟩:=qM hr hX aP hrel
  unfold wpOpIn
  simp only[ho,hwr,if_true]
  refine⟨λ _ _=>trivial,?_⟩
  rw[dY hq,hrun]
  cases hnx with
  | value=>exact hK φ' D w' _ h2 h1 fU
  | skip=>exact hK φ' D w' _ h2 h1 fU
theorem y8 {i:Nat}{o:Oper}{Fs:Fr}{c:Call}{g:G}{as:List G}{f:FuncId}{first cap vs:List AV}{H H':Hp}{n n':Nat}{v:AV}(ho:ops[i]?=some o)(hw:oU P ops o Fs true)(hc:o.op=.call c)(hg:sB P c g)(has:jt c.args.toList=some as)
    (hce:iQ P ce)(hgv:g.f Fs=some (.fn (.func f) first cap))(hev:evs Fs as=some vs)(hcall:ce.call f (first++(vs++cap)) H n=.mk v H' n'):mg P r ops i o.dst Fs H.get H'.get v n n':=by
  obtain⟨⟨fn,b,hfn,hb,hname⟩,hn,hcs⟩:=hce.call _ _ _ _ _ _ _ hcall
  refine⟨hn,λ φ D h a w hr hX hF hf K Q hK=>?_⟩
  have hwr:=o7 hw hF
  unfold wpOpIn
  simp only[ho,hwr,if_true]
  refine⟨λ _ _=>trivial,?_⟩
  obtain⟨fl,cl,h1,h2,hrun0⟩:=hg.fn o a Fs φ D f first cap hc hF hgv
  have h3:=dz has Fs φ D a hF vs hev
  have hrun:(o.semAt (FW r).round a.eval).run P w=.ok (.enter f ⟨fl++(c.args.toList.map a.eval++cl)⟩) w:=by
    rw[dY (by rw[hc];rfl)]
    exact hrun0 fn b w hfn hname hb
  rw[hrun]
  refine⟨λ h=>by simp[FW]at h,jK (hcs φ D w _ (uZ hr hX) (h1.append (h3.append h2)) hf _ λ φ1 D1 w1 cv aP hrel fU=>?_)⟩
  obtain⟨k1,k2⟩:=qM hr hX aP hrel
  exact hK φ1 D1 w1 cv k2 k1 fU
theorem vR {i:Nat}{o:Oper}{Fs:Fr}{c:Call}{g:G}{as:List G}{q:Nat}{vs:List AV}{H H':Hp}{n n':Nat}{v:AV}(ho:ops[i]?=some o)(hw:oU P ops o Fs true)(hc:o.op=.call c)(hg:sB P c g)(has:jt c.args.toList=some as)
    (hce:iQ P ce)(hgv:g.f Fs=some (.j9 q))(hev:evs Fs as=some vs)(hy:DW ce q vs H n=.mk v H' n'):mg P r ops i o.dst Fs H.get H'.get v n n':=by
  obtain⟨hn,hcs⟩:=vC (r:=r) hce hy
  refine⟨hn,λ φ D h a w hr hX hF hf K Q hK=>?_⟩
  have hwr:=o7 hw hF
  unfold wpOpIn
  simp only[ho,hwr,if_true]
  obtain⟨x,hcx,hyl⟩:=hg.j9 a Fs φ D q hF hgv
  refine hcs o c φ D a w x hc hcx hyl (dz has Fs φ D a hF vs hev) (uZ hr hX) hf K Q λ φ1 D1 w1 cv aP hrel fU=>?_
  obtain⟨k1,k2⟩:=qM hr hX aP hrel
  exact hK φ1 D1 w1 cv k2 k1 fU
end
end Go.Abs
namespace Go.Abs
open List
theorem y5 (m i:Nat):tb m i=m.testBit i:=by
 unfold tb;show Nat.beq ((m >>> i) &&& 1) 1=_;rw[Nat.testBit_eq_decide_div_mod_eq];rw[show (m >>> i) &&& 1=m / 2 ^ i % 2 by rw[Nat.shiftRight_eq_div_pow,Nat.and_one_is_mod]]
 cases h:Nat.beq (m / 2 ^ i % 2) 1 with
 |true=>have:=cR h;simp[this]
 |false =>
  have:m / 2 ^ i % 2≠1:=λ e=>by rw[e]at h;simp at h
  simp[this]
theorem sF (a b p:Nat):tb (Nat.lor a b) p=(tb a p||tb b p):=by
 rw[y5,y5,y5];exact Nat.testBit_or a b p
theorem vN (x p:Nat):tb (Nat.shiftLeft 1 x) p=decide (x=p):=by
 rw[y5];show (1 <<< x).testBit p=_;rw[Nat.one_shiftLeft,Nat.testBit_two_pow]
theorem AA (p:Nat):tb 0 p=false:=by rw[y5];exact Nat.zero_testBit p
theorem agG (n p:Nat):tb (Nat.sub (Nat.shiftLeft 1 n) 1) p=decide (p<n):=by
 rw[y5];show ((1 <<< n) - 1).testBit p=_;rw[Nat.one_shiftLeft,Nat.testBit_two_pow_sub_one]
structure Rec where
 i:Nat
 v:AV
 lo:Nat
 hi:Nat
 ph:Nat
 e:Nat
 dst:Option Tmp
 Fs:Fr
 blk:Option bz
 pB:Bool
 X:Hf
 hf:Bool
 jH:Option (Nat×bz×bz)
def uJ:Hf:=λ _=>none
section
variable {P:Program}{ce:Ce}{nt:Nat}{r:Option Nat}{ops:Array Oper}
structure qx (P:Program)(r:Option Nat)(ops:Array Oper)(A:Nat->Hp)(j:Nat)(c:Rec):Prop where
 val:c.pB=false->c.blk=none->c.jH=none->c.hi=c.lo/\∀q,c.e<=q->q<=c.ph->∃X,(c.hf=true->X=uJ)/\Sub X (A q).get/\mg P r ops c.i c.dst c.Fs X X c.v c.lo c.lo
 new:c.pB=false->∀k,c.blk=some k->c.hi=c.lo+1/\mg P r ops c.i c.dst c.Fs uJ (uJ.set c.lo (some k)) c.v c.lo (c.lo+1)/\∀q,q<=c.ph->(A q).get c.lo=none
 SU:∀b x y,c.jH=some (b,x,y)->c.pB=false/\c.blk=none/\c.hi=c.lo/\(A c.ph).get b=some x/\mg P r ops c.i c.dst c.Fs (uJ.set b (some x)) (uJ.set b (some y)) c.v c.lo c.lo
 mod:c.pB=true->c.blk=none/\c.ph<j/\mg P r ops c.i c.dst c.Fs c.X (A (c.ph+1)).get c.v c.lo c.hi
structure Good (P:Program)(r:Option Nat)(nt:Nat)(ops:Array Oper)(T D:Tr Nat)(F0:Fr)(n0:Nat)(A:Nat->Hp)(done:List Rec)(j:Nat)(F:Fr)(H:Hp)(n:Nat)(bY grp bad:List Nat)(seen:Nat):Prop where
 nle:n0<=n
 ok:∀c∈done,qx P r ops A j c
 jA:∀c∈done,n0<=c.lo/\c.lo<=c.hi/\c.hi<=n
 pw:done.Pairwise (λ a b=>a.hi<=b.lo)
 op:∀c∈done,∃o,ops[c.i]?=some o/\c.dst=o.dst/\∀d,o.dst=some d->d<nt
 fs:∀c∈done,∀t u,c.Fs.get t=some u->(F0.get t=some u/\∀p,D.get t=some p->tb (dK T p) c.i=true)∨∃s∈done,s.dst=some t/\s.v=u/\tb (dK T c.i) s.i=true
 ft:∀t u,F.get t=some u->(F0.get t=some u/\∀s∈done,s.dst≠some t)∨∃s∈done,s.dst=some t/\s.v=u
 hg:∀b k,H.get b=some k->((A j).get b=some k/\∀s∈done,∀x y,s.jH≠some (b,x,y))∨(∃s∈done,s.pB=false/\s.blk=some k/\s.lo=b/\s.ph=j)∨∃s∈done,∃x,s.jH=some (b,x,k)
 mx:∀c∈done,c.pB=true->∀b k,c.X b=some k->(A c.ph).get b=some k∨∃s∈done,s.pB=false/\s.blk=some k/\s.lo=b/\s.ph=c.ph/\tb (dK T c.i) s.i=true
 ph:∀c∈done,c.ph<=j
 gr:∀c∈done,c.pB=false->(c.ph<j->∃s∈done,s.pB=true/\s.ph=c.ph/\tb (dK T s.i) c.i=true)/\(c.ph=j->c.i∈grp)
 ch:∀c∈done,c.pB=true->∀q,c.ph=q+1->∃s∈done,s.pB=true/\s.ph=q/\tb (dK T c.i) s.i=true
 ea:∀c∈done,c.pB=false->∀q,c.e=q+1->∃s∈done,s.pB=true/\s.ph=q/\tb (dK T c.i) s.i=true
 ml:bY.length=j
 md:∀q x,bY[q]?=some x->∃s∈done,s.pB=true/\s.ph+1+q=j/\s.i=x
 uq:∀c∈done,∀s∈done,c.pB=true->s.pB=true->c.ph=s.ph->c=s
 sn:∀c∈done,tb seen c.i=true
 nh:∀c∈done,c.pB=false->c.blk=none->c.jH=none->c.ph=j->c.i∈bad∨c.hf=true
 ff:∀c∈done,c.jH≠none->c.ph=j/\c.e=j/\bad=[]
 fd:∀c∈done,∀s∈done,∀b x y x' y',c.jH=some (b,x,y)->s.jH=some (b,x',y')->c=s
def sA (A:Nat->Hp):Nat->List Hp->Prop
 |0,Hs=>Hs=[A 0]
 |j+1,Hs=>∃l,Hs=A (j+1)::l/\sA A j l
theorem sA.congr {A B:Nat->Hp}:∀ {j:Nat}{Hs:List Hp},(∀q,q<=j->B q=A q)->sA A j Hs->sA B j Hs
 |0,_,h,e=>by unfold sA at *;rw[h 0 (aM _)];exact e
 |j+1,_,h,⟨l,e,k⟩=>⟨l,by rw[h _ (aM _)];exact e,sA.congr (λ q hq=>h q (by omega)) k⟩
theorem oo {A:Nat->Hp}{n:Nat}:∀ {j:Nat}{Hs:List Hp},sA A j Hs->jC n Hs=true->∀q,q<=j->(A q).get n=none
 |0,_,e,h,q,hq=>by
  unfold sA at e;subst e;have:q=0:=by omega
  subst this;simp only[jC]at h
  split at h
  ·assumption
  cases h
 |j + 1,_,⟨l,e,k⟩,h,q,hq=>by
  subst e;simp only[jC]at h
  split at h
  ·by_cases hqj:q=j+1
   ·subst hqj;assumption
   exact oo k h q (by omega)
  cases h
theorem zW:∀ {a b:List Nat},fm a b=true->a=b
 |[],[],_=>rfl
 |[],_::_,h=>by simp[fm]at h
 |_::_,[],h=>by simp[fm]at h
 |x :: a,y::b,h=>by
  simp only[fm]at h
  split at h
  ·rename_i hxy;rw[cR hxy,zW h]
  cases h
theorem TA {a b:Value}(h:TB a b=true):a=b:=by
 unfold TB at h
 split at h<;>first|rfl|cases h
theorem xB {a b:AV}(h:FP a b=true):a=b:=by
 unfold FP at h
 split at h
 ·simp only[fz,decide_eq_true_eq]at h;rw[h.1,h.2]
 ·simp at h;rw[h]
 ·rw[zW h]
 ·simp only[fz]at h;rw[cR h.1,cR h.2]
 ·simp only[fz]at h;rw[cR h.1.1.1,cR h.1.1.2,cR h.1.2,cR h.2]
 ·rw[cR h]
 ·rw[TA h]
 ·rw[cR h]
 cases h
theorem FO {a b:AV}(h:LW a b=true):a=b:=by
 unfold LW at h
 split at h
 ·simp only[fz]at h;rw[cR h.1,xB h.2]
 exact xB h
theorem FN:∀ {a b:List AV},Ah a b=true->a=b
 |[],[],_=>rfl
 |[],_::_,h=>by simp[Ah]at h
 |_::_,[],h=>by simp[Ah]at h
 |x :: a,y::b,h=>by
  simp only[Ah]at h
  split at h
  ·rename_i hxy;rw[FO hxy,FN h]
  cases h
theorem TX {a b:AV}(h:TY a b=true):a=b:=by
 unfold TY at h
 split at h
 ·simp only[fz]at h;rw[cR h.1,FN h.2]
 exact FO h
theorem nn {f:AV->AV->Bool}(h:∀a b,f a b=true->a=b):∀ {a b:List AV},wZ f a b=true->a=b
 |[],[],_=>rfl
 |[],_::_,e=>by simp[wZ]at e
 |_::_,[],e=>by simp[wZ]at e
 |x::a,y::b,e=>by
  simp only[wZ]at e
  split at e
  ·rename_i hxy;rw[h _ _ hxy,nn h e]
  cases e
theorem Tf:∀(k:Nat)(a b:AV),Ti k a b=true->a=b
 |0,_,_,h=>by simp[Ti]at h
 |k+1,a,b,h=>by
  have ih:=Tf k;unfold Ti at h
  split at h
  ·simp only[fz]at h;rw[cR h.1,nn ih h.2]
  ·rw[nn ih h]
  ·simp only[fz]at h;rw[cR h.1,ih _ _ h.2]
  ·simp only[fz]at h;rw[cR h.1.1,nn ih h.1.2,nn ih h.2]
  ·rw[cR h]
  ·simp only[fz]at h;rw[cR h.1.1,cR h.1.2,nn ih h.2]
  ·rw[nn ih h]
  exact xB h
theorem acr {a b:AV}(h:Ik a b=true):a=b:=by
 unfold Ik at h
 split at h
 ·rename_i h1;exact TX h1
 split at h
 ·rename_i h1;exact Tf 8 _ _ h1
 exact(@decide_eq_true_iff _ (Classical.propDecidable _)).1 h
theorem PO (a:AV):Ik a a=true:=by
 unfold Ik
 split
 ·rfl
 split
 ·rfl
 exact(@decide_eq_true_iff _ (Classical.propDecidable _)).2 rfl
theorem uA {A : Nat->Hp}{e:Eff}{F:Fr}{n:Nat}{v:AV}:∀ {k j:Nat}{Hs:List Hp},sA A j Hs->gG e F n k Hs=some v->∀q,q<=j->j<q+k->e F (A q) n=.val v
 |0,j,Hs,_,h,q,h1,h2=>by omega
 |k + 1, j, Hs,hk,h,q,h1,h2=>by
  obtain⟨l,rfl,hl⟩:∃l,Hs=A j::l/\(∀i,j=i+1->sA A i l):=by
   cases j with
   |zero=>unfold sA at hk;exact⟨[],hk,λ i hi=>by cases hi⟩
   |succ j=>obtain⟨l,e,hk'⟩:=hk;exact⟨l,e,λ i hi=>by cases hi;exact hk'⟩
  simp only[gG]at h
  split at h
  ·rename_i u hu
   split at h
   ·injection h with h;subst h;have:q=j:=by omega
    subst this;exact hu
   rename_i k'
   split at h
   ·rename_i u' hu'
    split at h
    ·rename_i heq;injection h with h;subst h;have:=acr heq;subst this
     by_cases hqj:q=j
     ·subst hqj;exact hu
     have hj:j=(j - 1)+1:=by omega
     exact uA (hl (j - 1) hj) hu' q (by omega) (by omega)
    cases h
   cases h
  cases h
end
end Go.Abs
namespace Go.Abs
open List
section
variable {P:Program}{ce:Ce}{nt:Nat}{r:Option Nat}{ops:Array Oper}{T D:Tr Nat}{F0:Fr}{n0:Nat}
def DOk (D:Tr Nat)(ops:Array Oper):Prop:=∀i o d,ops[i]?=some o->o.dst=some d->D.get d=some i
def EOk (D E:Tr Nat)(F0:Fr):Prop:=∀t p,D.get t=some p->E.get t=none->F0.get t=none
theorem fj {E:Tr Nat}{i seen:Nat}:∀ {l:List Nat},iS T D E i seen l=true->∀t,t∈l->∀p,D.get t=some p ->
  (E.get t=none/\tb (dK T i) p=true)∨(E.get t≠none/\tb (dK T p) i=true/\tb seen p=false)
 |[],_,t,ht=>by cases ht
 |s :: l, h,t,ht=>by
  intro p hp;simp only[iS]at h
  split at h
  ·rename_i hs
   rcases mem_cons.1 ht with rfl|ht
   ·rw[hp]at hs;cases hs
   exact fj h t ht p hp
  rename_i q hs
  split at h
  ·rename_i hE
   cases hq:tb (dK T i) q with
   |false=>rw[hq]at h;cases h
   |true =>
    rw[hq]at h
    rcases mem_cons.1 ht with rfl|ht
    ·rw[hp]at hs;injection hs with hs;subst hs;exact .inl ⟨hE,hq⟩
    exact fj h t ht p hp
  rename_i x hE
  cases hq:tb (dK T q) i&&!tb seen q with
  |false=>rw[hq]at h;cases h
  |true =>
   rw[hq]at h
   rcases mem_cons.1 ht with rfl|ht
   ·rw[hp]at hs;injection hs with hs;subst hs;simp only[fz,Bool.not_eq_true']at hq;exact .inr ⟨by rw[hE];simp,hq.1,hq.2⟩
   exact fj h t ht p hp
theorem qI {m:Nat}:∀ {l:List Nat},EU m l=true->∀p,p∈l->tb m p=true
 |[],_,p,hp=>by cases hp
 |s :: l,h,p,hp=>by
  simp only[EU]at h
  cases hq:tb m s with
  |false=>rw[hq]at h;cases h
  |true =>
   rw[hq]at h
   rcases mem_cons.1 hp with rfl|hp
   ·exact hq
   exact qI h p hp
theorem Eb:∀(l:List Nat)(F:Fr)(t:Nat),((dE l).f F).get t=if t∈l then F.get t else none
 |[],F,t=>rfl
 |s::l,F,t=>by
  show ((Tr.v7 (Nat.succ s) s).f ((ao s).f F) ((dE l).f F)).get t=_;rw[Tr.jV _ _ _ _ _ (Nat.lt_succ_self s),Eb l,gV]
  by_cases h:t=s
  ·subst h;simp
  simp[h]
theorem o9 {l:List Nat}{F:Fr}{t:Nat}{u:AV}(h:((dE l).f F).get t=some u):t∈l/\F.get t=some u:=by
 rw[Eb]at h
 split at h
 ·exact⟨by assumption,h⟩
 cases h
theorem AX {dst:Option Tmp}{pd:Pd}(h:fq nt dst=some pd):(∀v (F:Fr) t,(pd.f v F).get t=if dst=some t then some v else F.get t)/\∀d,dst=some d->d<nt:=by
 unfold fq at h
 split at h
 ·injection h with h;subst h;exact⟨λ v F t=>by simp,λ d hd=>by cases hd⟩
 rename_i d
 split at h
 ·rename_i hd;injection h with h;subst h;refine⟨λ v F t=>?_,λ d' hd'=>by injection hd' with hd';subst hd';exact hd⟩;dsimp only;rw[Tr.jV _ _ _ _ _ (Nat.lt_succ_self d)]
  by_cases e:t=d
  ·subst e;simp
  simp[e,Ne.symm e]
 cases h
theorem qx.mono {A A':Nat->Hp}{j j':Nat}{c:Rec}(h:qx P r ops A j c)(hph:c.ph<=j)(hA:∀q,q<=j->A' q=A q)(hj:j<=j'):qx P r ops A' j' c:=
 ⟨λ a b d=>let ⟨x,y⟩:=h.val a b d;⟨x,λ q h1 h2=>by rw[hA q (by omega)];exact y q h1 h2⟩,
  λ a k b=>let ⟨x,y,z⟩:=h.new a k b;⟨x,y,λ q hq=>by rw[hA q (by omega)];exact z q hq⟩,
  λ b x y a=>let ⟨u,v,w,s,t⟩:=h.SU b x y a;⟨u,v,w,by rw[hA _ hph];exact s,t⟩,
  λ a=>let ⟨x,y,z⟩:=h.mod a;⟨x,by omega,by rw[hA (c.ph+1) (by omega)];exact z⟩⟩
theorem good_step {A A':Nat->Hp}{done:List Rec}{j j':Nat}{F F1:Fr}{H H1:Hp}{n:Nat}{bY ja grp kg bad bad':List Nat}{seen:Nat}{E:Tr Nat}(g:Good P r nt ops T D F0 n0 A done j F H n bY grp bad seen) (hnf:∀s∈done,s.jH=none) (c:Rec){o:Oper}(ho:ops[c.i]?=some o)
  (hdst:c.dst=o.dst)(hlt:∀d,o.dst=some d->d<nt)(hlo:c.lo=n)(hhi:n<=c.hi)(hph:c.ph=j)(hFs:∀t u,c.Fs.get t=some u->t∈slotsOf ops o/\F.get t=some u)
  (hsl:iS T D E c.i seen (slotsOf ops o)=true)(hD:DOk D ops)(hE:EOk D E F0)(hF1:∀t,F1.get t=if c.dst=some t then some c.v else F.get t)(hA:∀q,q<=j->A' q=A q)(hok:qx P r ops A' j' c)(hcf:c.jH=none)
  (hcase:(c.pB=false/\j'=j/\ja=bY/\kg=c.i::grp/\(bad'=c.i::bad∨(bad'=bad/\c.hf=true))/\(∀b k,H1.get b=some k->H.get b=some k∨(c.blk=some k/\c.lo=b)) /\
    (∀q,c.e=q+1->∃x,bY[bY.length - (q+1)]?=some x/\q+1<=bY.length/\tb (dK T c.i) x=true)) ∨
   (c.pB=true/\j'=j+1/\ja=c.i::bY/\kg=[]/\A' (j+1)=H1/\c.X=H.get/\EU (dK T c.i) grp=true/\(∀x l,bY=x::l->tb (dK T c.i) x=true))):
  Good P r nt ops T D F0 n0 A' (done++[c]) j' F1 H1 c.hi ja kg bad' (Nat.lor seen (Nat.shiftLeft 1 c.i)):=by
 have hjj:j<=j':=by rcases hcase with⟨_,h,_⟩|⟨_,h,_⟩<;>omega
 have mem:∀ {s},s∈done->s∈done++[c]:=λ h=>mem_append_left _ h;have Hu:c∈done++[c]:=by simp
 have nZ:∀ {s},s∈done++[c]->s∈done∨s=c:=λ h=>by simpa using h
 have hAj:=hA j (aM _)
 have abL:∀s,s∈done++[c]->s.jH=none:=λ s hs=>by
  rcases nZ hs with hs|rfl
  ·exact hnf s hs
  exact hcf
 refine⟨rC g.nle hhi,?_,?_,?_,?_,?_,?_,?_,?_,?_,?_,?_,?_,?_,?_,?_,?_,?_,?_,?_⟩
 ·intro s hs
  rcases nZ hs with hs|rfl
  ·exact(g.ok s hs).mono (g.ph s hs) hA hjj
  exact hok
 ·intro s hs
  rcases nZ hs with hs|rfl
  ·obtain⟨a,b,d⟩:=g.jA s hs;exact⟨a,b,rC d hhi⟩
  exact⟨by rw[hlo];exact g.nle,by omega,aM _⟩
 ·rw[pairwise_append];refine⟨g.pw,by simp,λ a ha b hb=>?_⟩;have:b=c:=by simpa using hb
  subst this;rw[hlo];exact(g.jA a ha).2.2
 ·intro s hs
  rcases nZ hs with hs|rfl
  ·exact g.op s hs
  exact⟨o,ho,hdst,hlt⟩
 ·intro s hs t u hu
  rcases nZ hs with hs|rfl
  ·rcases g.fs s hs t u hu with h|⟨x,hx,h⟩
   ·exact .inl h
   exact .inr ⟨x,mem hx,h⟩
  obtain⟨h1,h2⟩:=hFs t u hu
  rcases g.ft t u h2 with⟨h,_⟩|⟨x,hx,h3,h4⟩
  ·refine .inl ⟨h,λ p hp=>?_⟩
   rcases fj hsl t h1 p hp with⟨h5,_⟩|⟨_,h5,_⟩
   ·rw[hE t p hp h5]at h;cases h
   exact h5
  obtain⟨ox,hox,hdx,_⟩:=g.op x hx
  rcases fj hsl t h1 _ (hD _ _ _ hox (by rw[<-hdx];exact h3))with⟨_,h5⟩|⟨_,_,h5⟩
  ·exact .inr ⟨x,mem hx,h3,h4,h5⟩
  rw[g.sn x hx]at h5;cases h5
 ·intro t u hu;rw[hF1]at hu
  split at hu
  ·rename_i hd;injection hu with hu;exact .inr ⟨c,Hu,hd,hu⟩
  rename_i hnd
  rcases g.ft t u hu with⟨h,h'⟩|⟨x,hx,h⟩
  ·refine .inl ⟨h,λ s hs=>?_⟩
   rcases nZ hs with hs|rfl
   ·exact h' s hs
   exact hnd
  exact .inr ⟨x,mem hx,h⟩
 ·intro b k hb
  rcases hcase with⟨h1,rfl,_,_,_,h2,_⟩|⟨h1,rfl,_,_,h2,_⟩
  ·rcases h2 b k hb with h3|⟨h3,h4⟩
   ·rcases g.hg b k h3 with h5|⟨s,hs,h5⟩|⟨s,hs,x,h5⟩
    ·exact .inl ⟨by rw[hAj];exact h5.1,λ s hs x y=>by rw[abL s hs];simp⟩
    ·exact .inr (.inl ⟨s,mem hs,h5⟩)
    rw[hnf s hs]at h5;cases h5
   exact .inr (.inl ⟨c,Hu,h1,h3,h4,hph⟩)
  exact .inl ⟨by rw[h2];exact hb,λ s hs x y=>by rw[abL s hs];simp⟩
 ·intro s hs hm b k hb
  rcases nZ hs with hs|rfl
  ·rcases g.mx s hs hm b k hb with h|⟨x,hx,h⟩
   ·exact .inl (by rw[hA _ (g.ph s hs)];exact h)
   exact .inr ⟨x,mem hx,h⟩
  rcases hcase with⟨h1,_⟩|⟨_,_,_,_,_,h2,h3,_⟩
  ·rw[h1]at hm;cases hm
  rw[h2]at hb
  rcases g.hg b k hb with h5|⟨x,hx,h5,h6,h7,h8⟩|⟨s,hs,x,h5⟩
  rotate_left 2
  ·rw[hnf s hs]at h5;cases h5
  ·exact .inl (by rw[hph,hAj];exact h5.1)
  exact .inr ⟨x,mem hx,h5,h6,h7,by omega,qI h3 _ ((g.gr x hx h5).2 h8)⟩
 ·intro s hs
  rcases nZ hs with hs|rfl
  ·have:=g.ph s hs;omega
  omega
 ·intro s hs hm
  rcases nZ hs with hs|rfl
  ·obtain⟨h1,h2⟩:=g.gr s hs hm;have hp:=g.ph s hs
   rcases hcase with⟨_,rfl,_,rfl,_⟩|⟨hcm,rfl,_,_,_,_,h3,_⟩
   ·exact⟨λ h=>let ⟨x,hx,y⟩:=h1 h;⟨x,mem hx,y⟩,λ h=>mem_cons_of_mem _ (h2 h)⟩
   refine⟨λ _=>?_,λ h=>by omega⟩
   by_cases hj:s.ph<j
   ·obtain⟨x,hx,y⟩:=h1 hj;exact⟨x,mem hx,y⟩
   exact⟨c,Hu,hcm,by omega,qI h3 _ (h2 (by omega))⟩
  rcases hcase with⟨_,rfl,_,rfl,_⟩|⟨hcm,_⟩
  ·exact⟨λ h=>by omega,λ _=>by simp⟩
  rw[hcm]at hm;cases hm
 ·intro s hs hm q hq
  rcases nZ hs with hs|rfl
  ·obtain⟨x,hx,y⟩:=g.ch s hs hm q hq;exact⟨x,mem hx,y⟩
  rcases hcase with⟨h1,_⟩|⟨_,_,_,_,_,_,_,h3⟩
  ·rw[h1]at hm;cases hm
  cases wK:bY with
  |nil=>have:=g.ml;rw[wK]at this;simp at this;omega
  |cons x l =>
   obtain⟨y,hy,h4,h5,h6⟩:=g.md 0 x (by rw[wK];rfl);exact⟨y,mem hy,h4,by omega,by rw[h6];exact h3 x l wK⟩
 ·intro s hs hm q hq
  rcases nZ hs with hs|rfl
  ·obtain⟨x,hx,y⟩:=g.ea s hs hm q hq;exact⟨x,mem hx,y⟩
  rcases hcase with⟨_,_,_,_,_,_,h3⟩|⟨hcm,_⟩
  ·obtain⟨x,h4,h5,h6⟩:=h3 q hq;obtain⟨y,hy,h7,h8,h9⟩:=g.md _ x h4;have:=g.ml;exact⟨y,mem hy,h7,by omega,by rw[h9];exact h6⟩
  rw[hcm]at hm;cases hm
 ·have:=g.ml
  rcases hcase with⟨_,rfl,rfl,_⟩|⟨_,rfl,rfl,_⟩
  ·exact this
  simp[this]
 ·intro q x hx
  rcases hcase with⟨_,rfl,rfl,_⟩|⟨hcm,rfl,rfl,_⟩
  ·obtain⟨s,hs,y⟩:=g.md q x hx;exact⟨s,mem hs,y⟩
  cases q with
  |zero=>simp at hx;exact⟨c,Hu,hcm,by omega,hx⟩
  |succ q =>
   obtain⟨s,hs,y1,y2,y3⟩:=g.md q x (by simpa using hx);exact⟨s,mem hs,y1,by omega,y3⟩
 ·intro s hs u hu hsm hum hsu;have adj:∀x,x∈done->x.pB=true->x.ph<j:=λ x hx hm=>((g.ok x hx).mod hm).2.1
  rcases nZ hs with hs' |e1<;>rcases nZ hu with hu' |e2
  ·exact g.uq s hs' u hu' hsm hum hsu
  ·have:=adj s hs' hsm;rw[e2]at hsu;omega
  ·have:=adj u hu' hum;rw[e1]at hsu;omega
  rw[e1,e2]
 ·intro s hs;rw[sF,vN]
  rcases nZ hs with hs|rfl
  ·rw[g.sn s hs];rfl
  simp
 ·intro s hs h1 h2 h3 h4
  rcases hcase with⟨_,rfl,_,_,h5,_⟩|⟨hcm,rfl,_⟩
  ·rcases nZ hs with hs|rfl
   ·rcases g.nh s hs h1 h2 h3 h4 with h6|h6
    ·rcases h5 with rfl|⟨rfl,_⟩
     ·exact .inl (mem_cons_of_mem _ h6)
     exact .inl h6
    exact .inr h6
   rcases h5 with rfl|⟨_,h5⟩
   ·exact .inl (by simp)
   exact .inr h5
  rcases nZ hs with hs|rfl
  ·have:=g.ph s hs;omega
  rw[hcm]at h1;cases h1
 ·intro s hs h;exact aj (abL s hs) h
 intro s hs u hu b x y x' y' h;rw[abL s hs]at h;cases h
theorem SG {A:Nat->Hp}{done:List Rec}{j:Nat}{F F1:Fr}{H:Hp}{n:Nat}{bY grp:List Nat}{seen:Nat}{E:Tr Nat}(g:Good P r nt ops T D F0 n0 A done j F H n bY grp [] seen) (c:Rec){o:Oper}(ho:ops[c.i]?=some o)
  (hdst:c.dst=o.dst)(hlt:∀d,o.dst=some d->d<nt)(hlo:c.lo=n)(hhi:c.hi=n)(hph:c.ph=j)(hce:c.e=j)(hFs:∀t u,c.Fs.get t=some u->t∈slotsOf ops o/\F.get t=some u)
  (hsl:iS T D E c.i seen (slotsOf ops o)=true)(hD:DOk D ops)(hE:EOk D E F0)(hF1:∀t,F1.get t=if c.dst=some t then some c.v else F.get t)(hok:qx P r ops A j c)
  {b:Nat}{x y:bz}(hcf:c.jH=some (b,x,y)) (hfr:∀s∈done,∀x y,s.jH≠some (b,x,y)) (hch:∀x l,bY=x::l->tb (dK T c.i) x=true):
  Good P r nt ops T D F0 n0 A (done++[c]) j F1 (H.put b (some y)) n bY (c.i::grp) [] (Nat.lor seen (Nat.shiftLeft 1 c.i)):=by
 have mem:∀ {s},s∈done->s∈done++[c]:=λ h=>mem_append_left _ h;have Hu:c∈done++[c]:=by simp
 have nZ:∀ {s},s∈done++[c]->s∈done∨s=c:=λ h=>by simpa using h
 obtain⟨hcm,hcb,_,hAb,_⟩:=hok.SU b x y hcf;refine⟨g.nle,?_,?_,?_,?_,?_,?_,?_,?_,?_,?_,?_,?_,g.ml,?_,?_,?_,?_,?_,?_⟩
 ·intro s hs
  rcases nZ hs with hs|rfl
  ·exact g.ok s hs
  exact hok
 ·intro s hs
  rcases nZ hs with hs|rfl
  ·exact g.jA s hs
  exact⟨by rw[hlo];exact g.nle,by omega,by omega⟩
 ·rw[pairwise_append];refine⟨g.pw,by simp,λ a ha b hb=>?_⟩;have:b=c:=by simpa using hb
  subst this;rw[hlo];exact(g.jA a ha).2.2
 ·intro s hs
  rcases nZ hs with hs|rfl
  ·exact g.op s hs
  exact⟨o,ho,hdst,hlt⟩
 ·intro s hs t u hu
  rcases nZ hs with hs|rfl
  ·rcases g.fs s hs t u hu with h|⟨x,hx,h⟩
   ·exact .inl h
   exact .inr ⟨x,mem hx,h⟩
  obtain⟨h1,h2⟩:=hFs t u hu
  rcases g.ft t u h2 with⟨h,_⟩|⟨x,hx,h3,h4⟩
  ·refine .inl ⟨h,λ p hp=>?_⟩
   rcases fj hsl t h1 p hp with⟨h5,_⟩|⟨_,h5,_⟩
   ·rw[hE t p hp h5]at h;cases h
   exact h5
  obtain⟨ox,hox,hdx,_⟩:=g.op x hx
  rcases fj hsl t h1 _ (hD _ _ _ hox (by rw[<-hdx];exact h3))with⟨_,h5⟩|⟨_,_,h5⟩
  ·exact .inr ⟨x,mem hx,h3,h4,h5⟩
  rw[g.sn x hx]at h5;cases h5
 ·intro t u hu;rw[hF1]at hu
  split at hu
  ·rename_i hd;injection hu with hu;exact .inr ⟨c,Hu,hd,hu⟩
  rename_i hnd
  rcases g.ft t u hu with⟨h,h'⟩|⟨x,hx,h⟩
  ·refine .inl ⟨h,λ s hs=>?_⟩
   rcases nZ hs with hs|rfl
   ·exact h' s hs
   exact hnd
  exact .inr ⟨x,mem hx,h⟩
 ·intro b1 k hb;rw[Tr.get_put]at hb
  split at hb
  ·rename_i e1;injection hb with hb;subst hb;subst e1;exact .inr (.inr ⟨c,Hu,x,hcf⟩)
  rename_i e1
  rcases g.hg b1 k hb with⟨h5,h6⟩|⟨s,hs,h5⟩|⟨s,hs,x,h5⟩
  ·refine .inl ⟨h5,λ s hs x' y' h=>?_⟩
   rcases nZ hs with hs|rfl
   ·exact h6 s hs x' y' h
   rw[hcf]at h;injection h with h;injection h with h _;first|exact e1 h|exact e1 h.symm
  ·exact .inr (.inl ⟨s,mem hs,h5⟩)
  exact .inr (.inr ⟨s,mem hs,x,h5⟩)
 ·intro s hs hm b k hb
  rcases nZ hs with hs|rfl
  ·rcases g.mx s hs hm b k hb with h|⟨x,hx,h⟩
   ·exact .inl h
   exact .inr ⟨x,mem hx,h⟩
  rw[hcm]at hm;cases hm
 ·intro s hs
  rcases nZ hs with hs|rfl
  ·exact g.ph s hs
  omega
 ·intro s hs hm
  rcases nZ hs with hs|rfl
  ·obtain⟨h1,h2⟩:=g.gr s hs hm;exact⟨λ h=>let ⟨x,hx,y⟩:=h1 h;⟨x,mem hx,y⟩,λ h=>mem_cons_of_mem _ (h2 h)⟩
  exact⟨λ h=>by omega,λ _=>by simp⟩
 ·intro s hs hm q hq
  rcases nZ hs with hs|rfl
  ·obtain⟨x,hx,y⟩:=g.ch s hs hm q hq;exact⟨x,mem hx,y⟩
  rw[hcm]at hm;cases hm
 ·intro s hs hm q hq
  rcases nZ hs with hs|rfl
  ·obtain⟨x,hx,y⟩:=g.ea s hs hm q hq;exact⟨x,mem hx,y⟩
  cases wK:bY with
  |nil=>have:=g.ml;rw[wK]at this;simp at this;omega
  |cons x l =>
   obtain⟨y,hy,h4,h5,h6⟩:=g.md 0 x (by rw[wK];rfl);exact⟨y,mem hy,h4,by omega,by rw[h6];exact hch x l wK⟩
 ·intro q x hx;obtain⟨s,hs,y⟩:=g.md q x hx;exact⟨s,mem hs,y⟩
 ·intro s hs u hu hsm hum hsu
  rcases nZ hs with hs' |e1<;>rcases nZ hu with hu' |e2
  ·exact g.uq s hs' u hu' hsm hum hsu
  ·rw[e2,hcm]at hum;cases hum
  ·rw[e1,hcm]at hsm;cases hsm
  rw[e1,e2]
 ·intro s hs;rw[sF,vN]
  rcases nZ hs with hs|rfl
  ·rw[g.sn s hs];rfl
  simp
 ·intro s hs h1 h2 h3 h4
  rcases nZ hs with hs|rfl
  ·exact g.nh s hs h1 h2 h3 h4
  rw[hcf]at h3;cases h3
 ·intro s hs h
  rcases nZ hs with hs|rfl
  ·exact g.ff s hs h
  exact⟨hph,hce,rfl⟩
 intro s hs u hu b1 x1 y1 x2 y2 h1 h2
 rcases nZ hs with hs' |e1<;>rcases nZ hu with hu' |e2
 ·exact g.fd s hs' u hu' b1 x1 y1 x2 y2 h1 h2
 ·rw[e2,hcf]at h2;injection h2 with h2;injection h2 with h2 _;subst h2;exact aj h1 (hfr s hs' _ _)
 ·rw[e1,hcf]at h1;injection h1 with h1;injection h1 with h1 _;subst h1;exact aj h2 (hfr u hu' _ _)
 rw[e1,e2]
def Reads (P:Program) (ce:Ce) (r:Option Nat) (nt:Nat) (ops:Array Oper) (T D:Tr Nat) (F0:Fr) (n0:Nat) (l:List fg) (j:Nat) (bY grp bad:List Nat) (seen:Nat) (k:KR):Prop:=
 ∀(A:Nat->Hp) (done:List Rec) (F:Fr) (H:Hp) (Hs:List Hp) (n:Nat) (m:List Dm) (o:nI) (F':Fr) (H':Hp) (n':Nat) (m':List Dm),
  Good P r nt ops T D F0 n0 A done j F H n bY grp bad seen->(∀s∈done,s.jH=none)->sA A j Hs->k.f ce F H Hs n m=.mk o F' H' n' m' ->
  ∃A' all j' ja kg bad' seen',Good P r nt ops T D F0 n0 A' all j' F' H' n' ja kg bad' seen'/\o=.normal/\m'=m/\all.map (·.i)=done.map (·.i)++l.map idxOf/\A' 0=A 0
theorem nV {o:Oper}{rs:RS}{yes no:KR}{F F':Fr}{H H':Hp}{Hs:List Hp}{n n':Nat}{m m':List Dm}{ou:nI}(h:(guarded ops rs o yes no).f ce F H Hs n m=.mk ou F' H' n' m'):
  (oU P ops o (rs.f F) true/\yes.f ce F H Hs n m=.mk ou F' H' n' m')∨(oU P ops o (rs.f F) false/\no.f ce F H Hs n m=.mk ou F' H' n' m'):=by
 unfold guarded at h
 split at h
 ·rename_i hg;exact .inl ⟨.free hg,h⟩
 rename_i j b hg
 split at h
 ·rename_i d hd;simp only[wN]at h
  split at h
  ·rename_i c hv;rw[gV]at hv;have hw:=oU.tells (P:=P) j d b c hg hd hv
   cases hcb:c == b with
   |true=>rw[hcb]at h hw;exact .inl ⟨hw,h⟩
   |false=>rw[hcb]at h hw;exact .inr ⟨hw,h⟩
  ·rename_i v hnb hv;rw[gV]at hv;exact .inr ⟨.other j d b v hg hd hv (λ c hc=>hnb c hc),h⟩
  cases h
 cases h
theorem qA {A A':Nat->Hp}{done:List Rec}{j':Nat}{F1 F':Fr}{H1 H':Hp}{Hs1:List Hp}{n1 n':Nat}{m m':List Dm}{o:nI}{l:List fg}{ja kg bad':List Nat}{seen:Nat}{k:KR}{c:Rec}{x:fg}(hc:c.i=idxOf x)(hnext:Reads P ce r nt ops T D F0 n0 l j' ja kg bad' seen k)
  (g:Good P r nt ops T D F0 n0 A' (done++[c]) j' F1 H1 n1 ja kg bad' seen)(hnf:∀s∈done,s.jH=none)(hcf:c.jH=none)(hs:sA A' j' Hs1)(hA:A' 0=A 0)(h:k.f ce F1 H1 Hs1 n1 m=.mk o F' H' n' m'):
  ∃A' all j' ja kg bad' seen',Good P r nt ops T D F0 n0 A' all j' F' H' n' ja kg bad' seen'/\o=.normal/\m'=m/\all.map (·.i)=done.map (·.i)++(x::l).map idxOf/\A' 0=A 0:=by
 obtain⟨A2,all,j2,ami,asx,atm,alq,h1,h2,h3,h4,h5⟩:=hnext A' (done++[c]) F1 H1 Hs1 n1 m o F' H' n' m' g (λ s hs=>by
  rcases mem_append.1 hs with hs|hs
  ·exact hnf s hs
  have:s=c:=by simpa using hs
  subst this;exact hcf) hs h
 exact⟨A2,all,j2,ami,asx,atm,alq,h1,h2,h3,by rw[h4];simp[hc],by rw[h5,hA]⟩
def HsF (A:Nat->Hp)(j:Nat)(done:List Rec)(Hs:List Hp):Prop:=∃B l,Hs=B::l/\∀b k,B.get b=some k->(A j).get b=some k/\∀s∈done,∀x y,s.jH≠some (b,x,y)
theorem On {k:Nat}{x v:G}{F:Fr}{H:Hp}{n:Nat}{w:AV}{b:Nat}{y old:bz}(h:cH k x v F H n=.upd w b y) (hb:H.get b=some old):cH k x v F (Tr.put .nil b (some old)) n=.upd w b y:=by
 unfold cH at h ⊢
 split at h
 ·rename_i a ha
  split at h
  ·rename_i u hu;unfold jL at h ⊢
   split at h
   ·rename_i b0 o
    split at h
    ·rename_i u' z bs t hg
     split at h
     ·rename_i hc;injection h with h1 h2 h3;subst h2;rw[Tr.get_put,ak rfl];rw[hb]at hg;injection hg with hg;subst hg;dsimp only;rw[hc,h1,h3]
     cases h
    cases h
   cases h
  cases h
 cases h
theorem Qu {P:Program}{o:Oper}{t:TypeId}{a v:Operand}{e:Eff}(ho:o.op=.store t a v)(h:dS P o=some e):∃k x y,e=cH k x y:=by
 unfold dS at h;rw[ho]at h;simp only[iY,fN]at h;obtain⟨k,hk,g,hg,l,hl,h⟩:=h;injection h with h;exact⟨k,g,l,h.symm⟩
theorem aaM (b:Nat)(x:Option bz):((Tr.nil:Hp).put b x).get=uJ.set b x:=by
 funext c
 rw[Tr.get_put];unfold Hf.set uJ
 by_cases h:c=b
 ·subst h;simp
 simp[h]
theorem Eg (b:Nat)(x y:Option bz):(((Tr.nil:Hp).put b x).put b y).get=uJ.set b y:=by
 funext c
 rw[Tr.get_put,Tr.get_put];unfold Hf.set uJ
 by_cases h:c=b
 ·subst h;simp
 simp[h]
theorem zR {E : Tr Nat}(hD:DOk D ops)(hE:EOk D E F0)(bY:List Nat):∀(l:List fg)(j:Nat)(grp:List Nat)(seen:Nat),qO T D E ops bY l seen=true ->
  ∀(A:Nat->Hp) (done:List Rec) (F:Fr) (H:Hp) (Hs:List Hp) (n:Nat) (m:List Dm) (o:nI) (F':Fr) (H':Hp) (n':Nat) (m':List Dm),Good P r nt ops T D F0 n0 A done j F H n bY grp [] seen->HsF A j done Hs->(gu P nt ops l j).f ce F H Hs n m=.mk o F' H' n' m' ->
   ∃all kg seen',Good P r nt ops T D F0 n0 A all j F' H' n' bY kg [] seen'/\o=.normal/\m'=m/\all.map (·.i)=done.map (·.i)++l.map idxOf
 |[],j,grp,seen,_=>by
  intro A done F H Hs n m o F' H' n' m' g hs h;cases h;exact⟨done,grp,seen,g,rfl,rfl,by simp⟩
 |.op _ _::_,j,grp,seen,hp=>by simp[qO]at hp
 |.mod _::_,j,grp,seen,hp=>by simp[qO]at hp
 |.Qa _::_,j,grp,seen,hp=>by simp[qO]at hp
 |.jH i :: l, j, grp, seen,hp=>by
  intro A done F H Hs n m ou F' H' n' m' g hs h;simp only[qO]at hp;simp only[gu]at h
  split at hp
  ·rename_i o ho;rw[ho]at h;dsimp only at h;simp only[fz]at hp;obtain⟨⟨hp1,hp2⟩,hp3⟩:=hp
   have hch:∀x l',bY=x::l'->tb (dK T i) x=true:=by
    intro x l' hx;subst hx;exact hp2
   split at h
   ·rename_i pd kO;obtain⟨hpg,hlt⟩:=AX kO
    split at h
    ·rename_i hgd;unfold inF at h
     split at h
     ·rename_i t a v hop
      split at h
      ·rename_i ef hef;have heo:=gW hef;have hq:=dX hef;obtain⟨sz,gx,gy,rfl⟩:=Qu hop hef;obtain⟨B,lB,rfl,hB⟩:=hs;simp only[SS]at h
       split at h
       ·rename_i u b k hk
        split at h
        ·rename_i x hx;obtain⟨hA,hfr⟩:=hB b x hx;have hst:=eH (r:=r) ho (.free hgd) heo hq (On hk hx) (by simp);rw[mG,Eg,aaM]at hst;let c:Rec:={i,v:=u,lo:=n,hi:=n,ph:=j,e:=j,dst:=o.dst,Fs:=(dE (slotsOf ops o)).f F,blk:=none,pB:=false,X:=uJ,hf:=false,jH:=some (b,x,k)}
         have hok:qx P r ops A j c:=by
          refine⟨λ _ _ hf=>(by cases hf),λ _ k' hk=>(by cases hk),λ b' x' y' hf=>?_,λ hm=>(by cases hm)⟩;injection hf with hf;injection hf with h1 h2;injection h2 with h2 h3;subst h1;subst h2;subst h3;exact⟨rfl,rfl,rfl,hA,hst⟩
         have g':=SG (F1:=pd.f u F) g c ho rfl hlt rfl rfl rfl rfl (λ t u hu=>o9 hu) hp1 hD hE (λ t=>hpg u F t) hok rfl hfr hch
         have hsf:HsF A j (done++[c]) (B.put b none::lB):=by
          refine⟨B.put b none,lB,rfl,λ b1 k1 hb1=>?_⟩;rw[Tr.get_put]at hb1
          split at hb1
          ·cases hb1
          rename_i hne;obtain⟨h5,h6⟩:=hB b1 k1 hb1;refine⟨h5,λ s hs x' y' hf=>?_⟩
          rcases mem_append.1 hs with hs|hs
          ·exact h6 s hs x' y' hf
          have:s=c:=by simpa using hs
          subst this;injection hf with hf;injection hf with hf _
          first|exact hne hf|exact hne hf.symm
         obtain⟨all,kg,seen',h1,h2,h3,h4⟩:=zR hD hE bY l j _ _ hp3 A (done++[c]) _ _ _ n m ou F' H' n' m' g' hsf h;exact⟨all,kg,seen',h1,h2,h3,by rw[h4];simp[c,idxOf]⟩
        cases h
       cases h
      cases h
     cases h
    cases h
   cases h
  cases hp
theorem lT {E : Tr Nat}(hce:iQ P ce) (hD:DOk D ops) (hE:EOk D E F0):∀(l:List fg) (j:Nat) (bY grp bad:List Nat) (seen:Nat),m7 T D E ops l bY grp bad seen=true->Reads P ce r nt ops T D F0 n0 l j bY grp bad seen (gu P nt ops l j)
 |[],j,bY,grp,bad,seen,_=>by
  intro A done F H Hs n m o F' H' n' m' g hnf hs h;cases h;exact⟨A,done,j,bY,grp,bad,seen,g,rfl,rfl,by simp,rfl⟩
 |.jH i :: l,j,bY,grp,bad,seen,hp=>by
  intro A done F H Hs n m ou F' H' n' m' g hnf hs h;simp only[m7]at hp
  split at hp
  ·have hsf:HsF A j done Hs:=by
    obtain⟨l',rfl⟩:∃l',Hs=A j::l':=by
     cases j with
     |zero=>unfold sA at hs;exact⟨[],hs⟩
     |succ j=>obtain⟨l,e,_⟩:=hs;exact⟨l,e⟩
    exact⟨A j,l',rfl,λ b k hb=>⟨hb,λ s hs x y=>by rw[hnf s hs];simp⟩⟩
   obtain⟨all,kg,seen',h1,h2,h3,h4⟩:=zR hD hE bY (.jH i::l) j grp seen hp A done F H Hs n m ou F' H' n' m' g hsf h;exact⟨A,all,j,bY,kg,[],seen',h1,h2,h3,h4,rfl⟩
  cases hp
 |.op i e :: l, j,bY,grp,bad,seen,hp=>by
  intro A done F H Hs n m ou F' H' n' m' g hnf hs h;simp only[m7]at hp;simp only[gu]at h
  split at hp
  ·rename_i o ho;rw[ho]at h;dsimp only at h;simp only[fz]at hp;obtain⟨⟨hp1,hp2⟩,hp3⟩:=hp
   split at h
   ·rename_i pd kO;obtain⟨hpg,hlt⟩:=AX kO;have hnext:=lT hce hD hE l j bY (i::grp) (i::bad) _ hp3
    have hea:∀q,e=q+1->∃x,bY[bY.length - (q+1)]?=some x/\q+1<=bY.length/\tb (dK T i) x=true:=by
     intro q hq;subst hq;simp only[fz]at hp2;have h1:=dR hp2.1;rw[bN]at h1
     cases hx:nth bY (Nat.sub (dH bY 0) (q+1))with
     |none=>rw[hx]at hp2;exact aj hp2.2 (by simp)
     |some x =>
      rw[hx]at hp2;rw[nf,bN]at hx;exact⟨x,hx,h1,hp2.2⟩
    have go:∀(v:AV) (n1:Nat) (H1:Hp) (blk:Option bz),(gu P nt ops l j).f ce (pd.f v F) H1 Hs n1 m=.mk ou F' H' n' m'->n<=n1->(∀b k,H1.get b=some k->H.get b=some k∨(blk=some k/\n=b)) ->
      qx P r ops A j {i,v,lo:=n,hi:=n1,ph:=j,e,dst:=o.dst,Fs:=(dE (slotsOf ops o)).f F,blk,pB:=false,X:=uJ,hf:=false,jH:=none} ->
      ∃A' all j' ja kg bad' seen',Good P r nt ops T D F0 n0 A' all j' F' H' n' ja kg bad' seen'/\ou=.normal/\m'=m/\all.map (·.i)=done.map (·.i)++(fg.op i e::l).map idxOf/\A' 0=A 0:=by
     intro v n1 H1 blk hk hn hH hok
     exact qA (c:={i,v,lo:=n,hi:=n1,ph:=j,e,dst:=o.dst,Fs:=(dE (slotsOf ops o)).f F,blk,pB:=false,X:=uJ,hf:=false,jH:=none}) rfl hnext
      (good_step g hnf {i,v,lo:=n,hi:=n1,ph:=j,e,dst:=o.dst,Fs:=(dE (slotsOf ops o)).f F,blk,pB:=false,X:=uJ,hf:=false,jH:=none} ho rfl hlt rfl hn rfl (λ t u hu=>o9 hu) hp1 hD hE (λ t=>hpg v F t) (λ _ _=>rfl) hok rfl
       (.inl ⟨rfl,rfl,rfl,rfl,.inl rfl,hH,hea⟩)) hnf rfl hs rfl hk
    rcases nV (P:=P) h with⟨hw,h⟩|⟨hw,h⟩
    ·unfold inR at h
     split at h
     ·rename_i ef hef;have heo:=gW hef;have hq:=dX hef;simp only[opR]at h
      split at h
      ·rename_i v hv;refine go v n H none h (aM _) (λ b k hb=>.inl hb) ⟨λ _ _ _=>⟨rfl,λ q _ _=>⟨(Tr.nil:Hp).get,λ h=>(by cases h),λ b k hb=>by simp at hb,?_⟩⟩,λ _ k hk=>(by cases hk),λ _ _ _ hm=>(by cases hm),λ hm=>(by cases hm)⟩;exact eH ho hw heo hq hv (by simp)
      ·rename_i v k hv
       split at h
       ·rename_i hna;refine go v (n+1) _ (some k) h (Nat.le_succ n) (λ b k' hb=>?_) ⟨λ _ hb=>(by cases hb),λ _ k' hk=>?_,λ _ _ _ hm=>(by cases hm),λ hm=>by cases hm⟩
        ·rw[Tr.get_put]at hb
         split at hb
         ·rename_i e1;injection hb with hb;subst hb;exact .inr ⟨rfl,e1.symm⟩
         exact .inl hb
        injection hk with hk;subst hk;refine⟨rfl,?_,λ q hq=>oo hs hna q hq⟩;have:=eH (r:=r) ho hw heo hq hv (by simp);exact this
       cases h
      ·rename_i hv
       split at h
       ·rename_i v hall;refine go v n H none h (aM _) (λ b k hb=>.inl hb) ⟨λ _ _ _=>⟨rfl,λ q h1 h2=>⟨(A q).get,λ h=>(by cases h),λ b k hb=>hb,?_⟩⟩,λ _ k hk=>(by cases hk),λ _ _ _ hm=>(by cases hm),λ hm=>(by cases hm)⟩;dsimp only at h1 h2 ⊢;exact eH ho hw heo hq (uA hs hall q h2 (by simp only[Nat.succ_eq_add_one];show j<q+((j - e)+1);omega)) (by simp)
       cases h
      cases h
     cases h
    simp only[OZ]at h;refine go (.aW []) n H none h (aM _) (λ b k hb=>.inl hb) ⟨λ _ _ _=>⟨rfl,λ q _ _=>⟨(Tr.nil:Hp).get,λ h=>(by cases h),λ b k hb=>by simp at hb,?_⟩⟩,λ _ k hk=>(by cases hk),λ _ _ _ hm=>(by cases hm),λ hm=>(by cases hm)⟩;exact step_skip ho hw _ _
   cases h
  cases hp
 |.Qa i :: l, j,bY,grp,bad,seen,hp=>by
  intro A done F H Hs n m ou F' H' n' m' g hnf hs h;simp only[m7]at hp;simp only[gu]at h
  split at hp
  ·rename_i o ho;rw[ho]at h;dsimp only at h;simp only[fz]at hp;obtain⟨hp1,hp3⟩:=hp
   split at h
   ·rename_i pd kO;obtain⟨hpg,hlt⟩:=AX kO;have hnext:=lT hce hD hE l j bY (i::grp) bad _ hp3
    have go:∀(v:AV) (n1:Nat) (H1:Hp) (blk:Option bz),(gu P nt ops l j).f ce (pd.f v F) H1 Hs n1 m=.mk ou F' H' n' m'->n<=n1->(∀b k,H1.get b=some k->H.get b=some k∨(blk=some k/\n=b)) ->
      qx P r ops A j {i,v,lo:=n,hi:=n1,ph:=j,e:=0,dst:=o.dst,Fs:=(dE (slotsOf ops o)).f F,blk,pB:=false,X:=uJ,hf:=true,jH:=none} ->
      ∃A' all j' ja kg bad' seen',Good P r nt ops T D F0 n0 A' all j' F' H' n' ja kg bad' seen'/\ou=.normal/\m'=m/\all.map (·.i)=done.map (·.i)++(fg.Qa i::l).map idxOf/\A' 0=A 0:=by
     intro v n1 H1 blk hk hn hH hok
     exact qA (c:={i,v,lo:=n,hi:=n1,ph:=j,e:=0,dst:=o.dst,Fs:=(dE (slotsOf ops o)).f F,blk,pB:=false,X:=uJ,hf:=true,jH:=none}) rfl hnext
      (good_step g hnf {i,v,lo:=n,hi:=n1,ph:=j,e:=0,dst:=o.dst,Fs:=(dE (slotsOf ops o)).f F,blk,pB:=false,X:=uJ,hf:=true,jH:=none} ho rfl hlt rfl hn rfl (λ t u hu=>o9 hu) hp1 hD hE (λ t=>hpg v F t) (λ _ _=>rfl) hok rfl
       (.inl ⟨rfl,rfl,rfl,rfl,.inr ⟨rfl,rfl⟩,hH,λ q hq=>(by cases hq)⟩)) hnf rfl hs rfl hk
    rcases nV (P:=P) h with⟨hw,h⟩|⟨hw,h⟩
    ·unfold inR at h
     split at h
     ·rename_i ef hef;have heo:=gW hef;have hq:=dX hef;simp only[opR]at h
      split at h
      ·rename_i v hv;refine go v n H none h (aM _) (λ b k hb=>.inl hb) ⟨λ _ _ _=>⟨rfl,λ q _ _=>⟨(Tr.nil:Hp).get,λ _=>rfl,λ b k hb=>by simp at hb,?_⟩⟩,λ _ k hk=>(by cases hk),λ _ _ _ hm=>(by cases hm),λ hm=>(by cases hm)⟩;exact eH ho hw heo hq hv (by simp)
      ·rename_i v k hv
       split at h
       ·rename_i hna;refine go v (n+1) _ (some k) h (Nat.le_succ n) (λ b k' hb=>?_) ⟨λ _ hb=>(by cases hb),λ _ k' hk=>?_,λ _ _ _ hm=>(by cases hm),λ hm=>by cases hm⟩
        ·rw[Tr.get_put]at hb
         split at hb
         ·rename_i e1;injection hb with hb;subst hb;exact .inr ⟨rfl,e1.symm⟩
         exact .inl hb
        injection hk with hk;subst hk;refine⟨rfl,?_,λ q hq=>oo hs hna q hq⟩;have:=eH (r:=r) ho hw heo hq hv (by simp);exact this
       cases h
      ·rename_i hv;simp[gG]at h
      cases h
     cases h
    simp only[OZ]at h;refine go (.aW []) n H none h (aM _) (λ b k hb=>.inl hb) ⟨λ _ _ _=>⟨rfl,λ q _ _=>⟨(Tr.nil:Hp).get,λ _=>rfl,λ b k hb=>by simp at hb,?_⟩⟩,λ _ k hk=>(by cases hk),λ _ _ _ hm=>(by cases hm),λ hm=>(by cases hm)⟩;exact step_skip ho hw _ _
   cases h
  cases hp
 |.mod i :: l, j, bY,grp,bad,seen,hp=>by
  intro A done F H Hs n m ou F' H' n' m' g hnf hs h;simp only[m7]at hp;simp only[gu]at h
  split at hp
  ·rename_i o ho;rw[ho]at h;dsimp only at h;simp only[fz]at hp;obtain⟨⟨⟨hp1,hp2⟩,hp4⟩,hp3⟩:=hp
   split at h
   ·rename_i pd kO;obtain⟨hpg,hlt⟩:=AX kO;have hnext:=lT hce hD hE l (j+1) (i::bY) [] [] _ hp3
    have hch:∀x l',bY=x::l'->tb (dK T i) x=true:=by
     intro x l' hx;subst hx;exact hp4
    have go:∀(v:AV) (n1:Nat) (H1:Hp),(gu P nt ops l (j+1)).f ce (pd.f v F) H1 (H1::Hs) n1 m=.mk ou F' H' n' m'->n<=n1 ->
      mg P r ops i o.dst ((dE (slotsOf ops o)).f F) H.get H1.get v n n1 ->
      ∃A' all j' ja kg bad' seen',Good P r nt ops T D F0 n0 A' all j' F' H' n' ja kg bad' seen'/\ou=.normal/\m'=m/\all.map (·.i)=done.map (·.i)++(fg.mod i::l).map idxOf/\A' 0=A 0:=by
     intro v n1 H1 hk hn hst;let A1:Nat->Hp:=λ q=>if q=j+1 then H1 else A q
     have hA1:∀q,q<=j->A1 q=A q:=λ q hq=>by simp only[A1];rw[ae (by omega)]
     have hA2:A1 (j+1)=H1:=by simp[A1]
     let c:Rec:={i,v,lo:=n,hi:=n1,ph:=j,e:=0,dst:=o.dst,Fs:=(dE (slotsOf ops o)).f F,blk:=none,pB:=true,X:=H.get,hf:=false,jH:=none}
     have hok:qx P r ops A1 (j+1) c:=by
      refine⟨λ hm=>(by cases hm),λ hm=>(by cases hm),λ _ _ _ hm=>(by cases hm),λ _=>⟨rfl,Nat.lt_succ_self j,?_⟩⟩;show mg P r ops i o.dst ((dE (slotsOf ops o)).f F) H.get (A1 (j+1)).get v n n1;rw[hA2];exact hst
     refine qA (A':=A1) (Hs1:=H1::Hs) (c:=c) rfl hnext
      (good_step (A':=A1) (ja:=i::bY) (kg:=[]) (bad':=[]) (j':=j+1) (H1:=H1) (F1:=pd.f v F) g hnf c ho rfl hlt rfl hn rfl (λ t u hu=>o9 hu) hp1 hD hE (λ t=>hpg v F t) hA1 hok rfl (.inr ⟨rfl,rfl,rfl,rfl,hA2,rfl,hp2,hch⟩)) hnf rfl
      ⟨Hs,by rw[hA2],hs.congr hA1⟩ (hA1 0 (Nat.zero_le _)) hk
    rcases nV (P:=P) h with⟨hw,h⟩|⟨hw,h⟩
    ·unfold inM at h
     split at h
     ·rename_i f args tys hop
      split at h
      ·rename_i ef hef;have heo:=gW hef;have hq:=dX hef;simp only[Ht]at h
       split at h
       ·rename_i v hv;have:=eH (r:=r) ho hw heo hq hv (by simp);exact go v n H h (aM _) this
       ·rename_i v k hv;have:=eH (r:=r) ho hw heo hq hv (by simp);rw[oh]at this;exact go v _ _ h (Nat.le_succ n) this
       ·rename_i v b k hv;have:=eH (r:=r) ho hw heo hq hv (by simp);rw[mG]at this;exact go v _ _ h (aM _) this
       ·rename_i v b k hv;have:=eH (r:=r) ho hw heo hq hv (by simp);rw[rI]at this;exact go v _ _ h (Nat.le_succ n) this
       cases h
      split at h
      ·rename_i gg as hg has;simp only[hU]at h
       split at h
       ·rename_i f' first cap hgv
        split at h
        ·rename_i vs hev
         split at h
         ·rename_i v H1 n1 hcall;have:=y8 (r:=r) ho hw hop (.value rfl hg) has hce hgv hev hcall;exact go v n1 H1 h this.1 this
         cases h
        cases h
       ·rename_i q hgv
        split at h
        ·rename_i vs hev
         split at h
         ·rename_i v H1 n1 hy;have:=vR (r:=r) ho hw hop (.value rfl hg) has hce hgv hev hy;exact go v n1 H1 h this.1 this
         cases h
        cases h
       cases h
      cases h
     ·rename_i f name args tys hop
      split at h
      ·rename_i gg as hg has;simp only[hU]at h
       split at h
       ·rename_i f' first cap hgv
        split at h
        ·rename_i vs hev
         split at h
         ·rename_i v H1 n1 hcall;have:=y8 (r:=r) ho hw hop (.invoke rfl hg) has hce hgv hev hcall;exact go v n1 H1 h this.1 this
         cases h
        cases h
       ·rename_i q hgv
        split at h
        ·rename_i vs hev
         split at h
         ·rename_i v H1 n1 hy;have:=vR (r:=r) ho hw hop (.invoke rfl hg) has hce hgv hev hy;exact go v n1 H1 h this.1 this
         cases h
        cases h
       cases h
      cases h
     split at h
     ·rename_i ef hef;have heo:=gW hef;have hq:=dX hef;simp only[Ht]at h
      split at h
      ·rename_i v hv;have:=eH (r:=r) ho hw heo hq hv (by simp);exact go v n H h (aM _) this
      ·rename_i v k hv;have:=eH (r:=r) ho hw heo hq hv (by simp);rw[oh]at this;exact go v _ _ h (Nat.le_succ n) this
      ·rename_i v b k hv;have:=eH (r:=r) ho hw heo hq hv (by simp);rw[mG]at this;exact go v _ _ h (aM _) this
      ·rename_i v b k hv;have:=eH (r:=r) ho hw heo hq hv (by simp);rw[rI]at this;exact go v _ _ h (Nat.le_succ n) this
      cases h
     cases h
    simp only[abk]at h;exact go (.aW []) n H h (aM _) (step_skip ho hw _ _)
   cases h
  cases hp
end
end Go.Abs
