/- A part. -/
import Derived.Test.YtlhafglnokpioaaGreatAbs2
import Derived.Laws.StructEq
import Derived.ChangeKeysEq
import Derived.MapKept
import Derived.KernelRfl
import Derived.Laws.Externs
import Derived.Lib.Bytealg
import Derived.RangeFuncRecord
import Derived.DefersIn
import Derived.RecoverIn
noncomputable section
namespace Go.Abs
open List
section
variable {P:Program}
theorem U5 {t:TypeId}{d:TypeDesc}(hu:P.underlying t=some d)(h:∀fs,d≠.struct fs)(h2:∀n e,d≠.array n e):hU P t=some false:=by
  unfold hU;rw[hu];cases d<;>first | rfl | exact ar rfl (h _) | exact ar rfl (h2 _ _)
def pack (P:Program)(t:TypeId)(xs:List Value):Value:=match hU P t with
  | some true=>.agg ⟨xs⟩
  | _=>xs.getD 0 undef
theorem qA {t:TypeId}{k off:Nat}{xs:List Value}(hk:cu P t=some k) (ha:hU P t≠none) (h1:hU P t=some false->k=1) (hle:off+k<=xs.length) (w:World):
    (part t ⟨xs⟩ off).run P w=.ok (pack P t ((xs.drop off).take k)) w:=by
  unfold pack
  cases hagg:hU P t with
  | none=>exact ar hagg ha
  | some b =>
    cases b with
    | true =>
      cases hi:P.info? t with
      | none=>simp[cu,hi]at hk
      | some ti =>
        have:ti.size=k:=by simpa[cu,hi]using hk
        rw[GZ (P:=P) ⟨xs⟩ off hi hagg w,this]
        congr 2
        apply Array.ext'
        simp[extract]
    | false =>
      have hk1:=h1 hagg
      subst hk1
      have hlt:off<xs.length:=ae
      rw[GY (P:=P) ⟨xs⟩ off hagg (v:=xs[off]) (by simp[hlt]) w]
      congr 1
      simp[getD,hlt]
theorem JR {φ:Ph}{D:Da}{q:LK}{a b:AV}{x y:Value}{r:Bool}(h:dY q a b=some r)(hx:VR φ D a x)(hy:VR φ D b y):
    (q=.i/\∃k i j,x=.int k i/\y=.int k j/\r=(i == j))∨(q=.b/\∃i j,x=.bool i/\y=.bool j/\r=(i == j))∨(q=.s/\∃i j,x=.string i/\y=.string j/\r=(i.toList == j.toList)):=by
  unfold dY at h
  split at h
  · split at h
    · rename_i e;subst e;injection h with h;subst h;cases hx;cases hy;exact .inl ⟨rfl,_,_,_,rfl,rfl,rfl⟩
    · cases h
  · injection h with h;subst h;cases hx;cases hy;exact .inr (.inl ⟨rfl,_,_,rfl,rfl,rfl⟩)
  · injection h with h;subst h
    cases hx with
    | str s _ hs=>cases hy with
      | str s' _ hs'=>exact .inr (.inr ⟨rfl,_,_,rfl,rfl,by rw[JV,<-toList_data,<-toList_data,hs,hs']⟩)
  · cases h
theorem mC:∀ {qs qs':List LK}{as bs:List AV}{r:Bool},bP (qs++qs') as bs=some r->qs.length<=as.length->qs.length<=bs.length->∃r1,bP qs (as.take qs.length) (bs.take qs.length)=some r1/\(r1=false->r=false)/\(r1=true->bP qs' (as.drop qs.length) (bs.drop qs.length)=some r)
  | [],qs',as,bs,r,h,_,_=>⟨true,by simp[bP],ah,by intro _;simpa using h⟩
  | q::qs,qs',[],bs,r,h,hk,_=>by simp at hk
  | q::qs,qs',a::as,[],r,h,hk,hb=>by simp at hb
  | q :: qs,qs',a::as,b::bs,r,h,hk,hb=>by
    simp only[cons_append,bP]at h
    simp only[length_cons,take_succ_cons,drop_succ_cons,bP]
    cases hab:dY q a b with
    | none=>rw[hab]at h;cases h
    | some c =>
      rw[hab]at h
      cases c with
      | true=>exact mC h (by simpa using hk) (by simpa using hb)
      | false=>injection h with h;subst h;exact⟨false,rfl,λ _=>rfl,ah⟩
def FO (P:Program) (φ:Ph) (D:Da) (w:World) (dd:Nat) (t:TypeId) (k:List LK):Prop:=
  hU P t≠none/\(hU P t=some false->k.length=1)/\∀(as bs:List AV) (xs ys:List Value) (r:Bool),as.length=k.length->bs.length=k.length->bW φ D as xs->bW φ D bs ys->bP k as bs=some r ->
    (Op.equalIn dd t (pack P t xs) (pack P t ys)).run P w=.ok r w
theorem vO {φ : Ph}{D:Da}{rr:TypeId->Option (List LK)}{dd:Nat}(w:World) (ih:∀t k,rr t=some k->FO P φ D w dd t k):
    ∀(fs:List Field) (s:Nat) (k:List LK) (as bs:List AV) (xs ys:List Value) (r:Bool),tP P rr fs s=some k->as.length=s+k.length->bs.length=s+k.length->bW φ D as xs->bW φ D bs ys->bP k (as.drop s) (bs.drop s)=some r ->
      (Op.eqFields dd ⟨xs⟩ ⟨ys⟩ fs).run P w=.ok r w
  | [],s,k,as,bs,xs,ys,r,h,ha,hb,hx,hy,he=>by
    simp only[tP]at h;injection h with h;subst h
    rw[drop_of_length_le (by simp at ha;omega),drop_of_length_le (by simp at hb;omega)]at he
    simp[bP]at he
    simp[Op.eqFields,he]
  | f :: fs, s, k,as,bs,xs,ys,r,h,ha,hb,hx,hy,he=>by
    simp only[tP]at h
    split at h
    · cases h
    · rename_i hname
      split at h
      · rename_i hoff
        split at h
        · rename_i kk hk
          split at h
          · rename_i hsz
            split at h
            · rename_i l hl
              injection h with h;subst h
              obtain⟨i1,i2,i3⟩:=ih f.type kk hk
              simp only[length_append]at ha hb
              have hlen:=hx.length
              have hlen':=hy.length
              obtain⟨r1,e1,e2,e3⟩:=mC he (by simp;omega) (by simp;omega)
              have p1:=qA (P:=P) (xs:=xs) (off:=s) hsz i1 i2 ae w
              have p2:=qA (P:=P) (xs:=ys) (off:=s) hsz i1 i2 ae w
              have q:=i3 ((as.drop s).take kk.length) ((bs.drop s).take kk.length) ((xs.drop s).take kk.length) ((ys.drop s).take kk.length) r1 (by simp;omega) (by simp;omega) ((hx.drop s).take kk.length) ((hy.drop s).take kk.length) e1
              simp only[Op.eqFields]
              rw[aw hname]
              simp only[cL,hoff,p1,p2,q,cy]
              cases r1 with
              | false=>simp[e2 rfl]
              | true =>
                have e4:=e3 rfl
                rw[drop_drop,drop_drop]at e4
                simp only[Bool.not_true,Bool.false_eq_true,if_false]
                exact vO w ih fs (s+kk.length) l as bs xs ys r hl ae ae hx hy e4
            · cases h
          · cases h
        · cases h
      · cases h
theorem Jd (n:Nat)(k:List LK):(pD n k).length=n*k.length:=by
  induction n with
  | zero=>simp[pD]
  | succ n ih=>simp[pD,ih,Nat.succ_mul];omega
theorem vU {φ:Ph}{D:Da}{dd:Nat}{e:TypeId}{k:List LK}(w:World)(ih:FO P φ D w dd e k)(hsz:cu P e=some k.length):
    ∀(m i:Nat) (as bs:List AV) (xs ys:List Value) (r:Bool),as.length=(i+m)*k.length->bs.length=(i+m)*k.length->bW φ D as xs->bW φ D bs ys->bP (pD m k) (as.drop (i*k.length)) (bs.drop (i*k.length))=some r ->
      (Op.eqItems dd e k.length ⟨xs⟩ ⟨ys⟩ (range' i m)).run P w=.ok r w
  | 0,i,as,bs,xs,ys,r,ha,hb,hx,hy,he=>by
    simp only[pD]at he
    rw[drop_of_length_le (by simp at ha;omega),drop_of_length_le (by simp at hb;omega)]at he
    simp[bP]at he
    simp[Op.eqItems,he]
  | m + 1,i,as,bs,xs,ys,r,ha,hb,hx,hy,he=>by
    obtain⟨i1,i2,i3⟩:=ih
    have hlen:=hx.length
    have hlen':=hy.length
    have hle:i*k.length+k.length<=as.length:=by rw[ha,<-Nat.succ_mul];exact C6 _ ae
    have hle':i*k.length+k.length<=bs.length:=by rw[hb,<-Nat.succ_mul];exact C6 _ ae
    simp only[pD]at he
    obtain⟨r1,e1,e2,e3⟩:=mC he (by simp;omega) (by simp;omega)
    have p1:=qA (P:=P) (xs:=xs) (off:=i*k.length) hsz i1 i2 ae w
    have p2:=qA (P:=P) (xs:=ys) (off:=i*k.length) hsz i1 i2 ae w
    have q:=i3 ((as.drop (i*k.length)).take k.length) ((bs.drop (i*k.length)).take k.length) ((xs.drop (i*k.length)).take k.length) ((ys.drop (i*k.length)).take k.length) r1 (by simp;omega) (by simp;omega) ((hx.drop _).take k.length) ((hy.drop _).take k.length) e1
    rw[range'_succ]
    simp only[Op.eqItems,cL,p1,p2,q,cy]
    cases r1 with
    | false=>simp[e2 rfl]
    | true =>
      have e4:=e3 rfl
      rw[drop_drop,drop_drop,<-Nat.succ_mul]at e4
      simp only[Bool.not_true,Bool.false_eq_true,if_false]
      exact vU w ⟨i1,i2,i3⟩ hsz m (i+1) as bs xs ys r (by rw[ha];congr 1;omega) (by rw[hb];congr 1;omega) hx hy e4
theorem rY {φ:Ph}{D:Da}(w:World):∀(d:Nat) (t:TypeId) (k:List LK),leaves P d t=some k->∀dd,d<=dd->FO P φ D w dd t k
  | 0,t,k,h=>by simp[leaves]at h
  | d + 1,t,k,h=>by
    intro dd hdd
    obtain⟨dd,rfl⟩:∃e,dd=e+1:=⟨dd - 1,ae⟩
    have leaf:∀BM q,P.underlying t=some BM->k=[q]->((BM=.bool/\q=.b)∨(BM=.string/\q=.s)∨∃kk,BM=.int kk/\q=.i)->FO P φ D w (dd+1) t k:=by
      intro BM q hu hk hd
      subst hk
      have hagg:hU P t=some false:=U5 hu (by rcases hd with⟨rfl,_⟩ | ⟨rfl,_⟩ | ⟨kk,rfl,_⟩<;>simp) (by rcases hd with⟨rfl,_⟩ | ⟨rfl,_⟩ | ⟨kk,rfl,_⟩<;>simp)
      refine⟨by rw[hagg];simp,λ _=>rfl,λ as bs xs ys r la lb hx hy he=>?_⟩
      match as,bs,la,lb with
      | [a],[b],_,_ =>
        cases hx with
        | cons _ x _ _ hx0 hx1 =>
        cases hx1
        cases hy with
        | cons _ y _ _ hy0 hy1 =>
        cases hy1
        simp only[bP]at he
        have he':dY q a b=some r:=by
          cases hab:dY q a b with
          | none=>rw[hab]at he;cases he
          | some c=>rw[hab]at he;cases c<;>simpa using he
        have hp:pack P t [x]=x/\pack P t [y]=y:=by unfold pack;rw[hagg];simp
        rw[hp.1,hp.2]
        rcases JR he' hx0 hy0 with⟨rfl,kk,i,j,rfl,rfl,rfl⟩ | ⟨rfl,i,j,rfl,rfl,rfl⟩ | ⟨rfl,i,j,rfl,rfl,rfl⟩
        · rcases hd with⟨_,e⟩ | ⟨_,e⟩ | ⟨kk',rfl,_⟩
          · cases e
          · cases e
          · exact run_equalIn_int w dd t kk kk' i j hu
        · rcases hd with⟨rfl,_⟩ | ⟨_,e⟩ | ⟨kk',_,e⟩
          · exact run_equalIn_bool' w dd t i j hu
          · cases e
          · cases e
        · rcases hd with⟨_,e⟩ | ⟨rfl,_⟩ | ⟨kk',_,e⟩
          · cases e
          · exact run_equalIn_string w dd t i j hu
          · cases e
    unfold leaves at h
    split at h
    · rename_i hu;injection h with h;exact leaf _ _ hu h.symm (.inl ⟨rfl,rfl⟩)
    · rename_i kk hu;injection h with h;exact leaf _ _ hu h.symm (.inr (.inr ⟨kk,rfl,rfl⟩))
    · rename_i hu;injection h with h;exact leaf _ _ hu h.symm (.inr (.inl ⟨rfl,rfl⟩))
    · rename_i fs hu
      split at h
      · cases h
      · rename_i hst
        have hagg:hU P t=some true:=by unfold hU;rw[hu]
        refine⟨by rw[hagg];simp,by rw[hagg];simp,λ as bs xs ys r la lb hx hy he=>?_⟩
        have hp:pack P t xs=.agg ⟨xs⟩/\pack P t ys=.agg ⟨ys⟩:=by unfold pack;rw[hagg];exact⟨rfl,rfl⟩
        rw[hp.1,hp.2]
        have hfo:P.fieldsOf t=fs:=by unfold Program.fieldsOf;rw[hu]
        rw[run_equalIn_struct w dd t ⟨xs⟩ ⟨ys⟩ (by rw[hfo];exact hu) (by simpa using hst),hfo]
        exact vO (φ:=φ) (D:=D) (dd:=dd) w (λ t' k' h'=>rY (φ:=φ) (D:=D) w d t' k' h' dd ae) fs.toList 0 k as bs xs ys r h ae ae hx hy (by simpa using he)
    · rename_i n e hu
      split at h
      · rename_i kk hk
        split at h
        · rename_i hsz
          injection h with h
          subst h
          have hagg:hU P t=some true:=by unfold hU;rw[hu]
          refine⟨by rw[hagg];simp,by rw[hagg];simp,λ as bs xs ys r la lb hx hy he=>?_⟩
          have hp:pack P t xs=.agg ⟨xs⟩/\pack P t ys=.agg ⟨ys⟩:=by unfold pack;rw[hagg];exact⟨rfl,rfl⟩
          rw[hp.1,hp.2]
          obtain⟨ti,hi,hcs⟩:∃ti,P.info? e=some ti/\P.cellsOf e=kk.length:=by
            unfold cu at hsz
            cases hi:P.info? e with
            | none=>rw[hi]at hsz;cases hsz
            | some ti=>rw[hi]at hsz;injection hsz with hsz;exact⟨ti,rfl,by simp[Program.cellsOf,hi,hsz]⟩
          rw[run_equalIn_array w dd ⟨xs⟩ ⟨ys⟩ hu hi,hcs,range_eq_range']
          rw[Jd]at la lb
          exact vU w (rY (φ:=φ) (D:=D) w d e kk hk dd ae) hsz n 0 as bs xs ys r (by simpa using la) (by simpa using lb) hx hy (by simpa using he)
        · cases h
      · cases h
    · cases h
theorem XA {o:Oper}{op:BinOp}{t u:TypeId}{x y:Operand}{g k:G}{ks:List LK}(ho:o.op=.binOp op t x y u) (hg:dD x=some g) (hk:dD y=some k) (hop:isEq op=true) (hagg:hU P t=some true) (hl:leaves P 20 t=some ks)
    (hgd:P.eqGuardType P.depth t=false):cj P o (e2 (og (lW op) ks) g k):=by
  refine JW hg hk _ λ φ D h w n ρ v u xv yv hr hx hy hv huv hf hne=>?_
  unfold og at hne ⊢
  split at hne
  · rename_i a na b nb
    split at hne
    · rename_i hn
      simp only[dS]at hn
      have hn1:=cT hn.1
      have hn2:=cT hn.2
      split at hne
      · rename_i r hr'
        cases hv with
        | agg _ xl _ hxs hxn =>
        cases huv with
        | agg _ yl _ hys hyn =>
        obtain⟨_,_,q3⟩:=rY (P:=P) (φ:=φ) (D:=D) w 20 t ks hl 10000 ae
        have hp:pack P t xl=.agg ⟨xl⟩/\pack P t yl=.agg ⟨yl⟩:=by unfold pack;rw[hagg];exact⟨rfl,rfl⟩
        have q:=q3 a b xl yl r ae ae hxs hys hr'
        rw[hp.1,hp.2]at q
        refine Does.val hr (cv:=.bool (lW op != r)) ?_ (.bool _)
        simp only[execOp,ho,hx,hy,cL,run_eqGuard_agg w op t x y _ _ hgd,cy]
        cases op<;>simp[isEq]at hop
        · simp only[run_eql_struct,q,cy,dB,lW];cases r<;>rfl
        · simp only[run_neq_struct,q,cy,dB,lW];cases r<;>rfl
      · exact ar rfl hne
    · exact ar rfl hne
  · exact ar rfl hne
theorem run_eq_of {op:BinOp}{t:TypeId}{x y:Value}{r:Bool}(w:World)(hop:isEq op=true)(he:binOp .eql t x y=(do pure (.bool (<-Op.equal t x y))))(hn:binOp .neq t x y=(do pure (.bool (!(<-Op.equal t x y)))))
    (h:∀d,(Op.equalIn (d+1) t x y).run P w=.ok r w):(binOp op t x y).run P w=.ok (.bool (lW op != r)) w:=by
  have h':(Op.equal t x y).run P w=.ok r w:=h 9999
  cases op<;>simp[isEq]at hop
  · rw[he];simp only[cL,h',cy,dB,lW];cases r<;>rfl
  · rw[hn];simp only[cL,h',cy,dB,lW];cases r<;>rfl
def mH (P:Program)(aV:Bool)(q:EqK):TypeDesc->Prop
  | .int _=>q=.num
  | .string=>q=.num
  | .bool=>q=.bool
  | .pointer e=>q=.ptr/\∃k,cu P e=some (k+1)
  | .slice _=>q=.slice
  | .map _ _=>q=.map
  | .func _ _ _=>q=.func
  | .interface _=>(q=.r6/\aV=true)∨q=.iface
  | _=>False
theorem JS {t:TypeId}{q:EqK}{aV:Bool}(hq:yZ P aV t=some q):∃BM,P.underlying t=some BM/\mH P aV q BM:=by
  unfold yZ at hq
  split at hq
  · rename_i hu;injection hq with hq;exact⟨_,hu,hq.symm⟩
  · rename_i hu;injection hq with hq;exact⟨_,hu,hq.symm⟩
  · rename_i hu;injection hq with hq;exact⟨_,hu,hq.symm⟩
  · rename_i hu
    split at hq
    · rename_i hz
      injection hq with hq
      exact⟨_,hu,hq.symm,_,hz⟩
    · cases hq
  · rename_i hu;injection hq with hq;exact⟨_,hu,hq.symm⟩
  · rename_i hu;injection hq with hq;exact⟨_,hu,hq.symm⟩
  · rename_i hu;injection hq with hq;exact⟨_,hu,hq.symm⟩
  · rename_i hu
    injection hq with hq
    refine⟨_,hu,?_⟩
    show (q=.r6/\aV=true)∨q=.iface
    rw[<-hq]
    cases aV
    · exact .inr rfl
    · exact .inl ⟨rfl,rfl⟩
  · cases hq
theorem iz {op:BinOp}{t:TypeId}{xo yo:Operand}{x y:Value}(w:World)(hop:isEq op=true)(hagg:∀l,x≠.agg l)(hnil:x≠.nilIface∨y≠.nilIface∨(tQ xo||tQ yo)=true):
    (eqGuard op t xo yo x y).run P w=.ok () w:=by
  cases op<;>simp[isEq]at hop
  all_goals
    cases x<;>cases y<;>first
      | rfl
      | exact ar rfl (hagg _)
      | (rcases hnil with hnil | hnil | hnil
         · exact ar rfl hnil
         · exact ar rfl hnil
         · cases xo<;>cases yo<;>first | rfl | (simp[tQ]at hnil))
theorem UL {t el:TypeId}{k o1 o2 cb co:Nat}(w:World) (hu:P.underlying t=some (.pointer el)) (hk:cu P el=some (k+1)) (d:Nat):
    (Op.equalIn (d+1) t (.pointer (some ⟨cb,co+o1,none⟩)) (.pointer (some ⟨cb,co+o2,none⟩))).run P w=.ok (Nat.beq o1 o2) w:=by
  cases hi:P.info? el with
  | none=>simp[cu,hi]at hk
  | some ti =>
    have hsz:ti.size=k+1:=by simpa[cu,hi]using hk
    have hs:(sizeOf el).run P=λ w=>.ok (k+1) w:=by funext w;rw[run_sizeOf _ hi];simp[Program.cellsOf,hi,hsz]
    have heq:((⟨cb,co+o1,none⟩:Addr) ==⟨cb,co+o2,none⟩)=Nat.beq o1 o2:=by
      by_cases ho:o1=o2
      · subst ho;simp
      · have:(Nat.beq o1 o2)=false:=by
          cases hb:Nat.beq o1 o2 with
          | false=>rfl
          | true=>exact ar (cT hb) ho
        rw[this];simp;exact ho
    simp only[Op.equalIn,cL,run_underlying hu,cy,hs]
    simp[sameAddr,heq]
theorem uW {t:TypeId}{BM:TypeDesc}{x y:Value}{aV:Bool}{q:EqK}(w:World)(hu:P.underlying t=some BM)(hm:mH P aV q BM)(d:Nat)(r:Bool)
    (h:(q=.ptr/\((∃a,x=.pointer (some a)/\y=.pointer none/\r=false)∨(∃a,x=.pointer none/\y=.pointer (some a)/\r=false)∨(x=.pointer none/\y=.pointer none/\r=true))) ∨
      (q=.slice/\((∃a l c l' c',x=.slice (some a) l c/\y=.slice none l' c'/\r=false)∨(∃a l c l' c',x=.slice none l' c'/\y=.slice (some a) l c/\r=false)∨(∃l c l' c',x=.slice none l c/\y=.slice none l' c'/\r=true))) ∨
      (q=.map/\((∃a,x=.map (some a)/\y=.map none/\r=false)∨(∃a,x=.map none/\y=.map (some a)/\r=false)∨(x=.map none/\y=.map none/\r=true))) ∨
      (q=.func/\((∃f a b,x=.func f a b/\y=.nilFunc/\r=false)∨(∃f a b,x=.nilFunc/\y=.func f a b/\r=false)∨(x=.nilFunc/\y=.nilFunc/\r=true))) ∨
      ((q=.iface∨q=.r6)/\((∃a b,x=.iface a b/\y=.nilIface/\r=false)∨(∃a b,x=.nilIface/\y=.iface a b/\r=false)∨(x=.nilIface/\y=.nilIface/\r=true)))):
    (Op.equalIn (d+1) t x y).run P w=.ok r w:=by
  simp only[Op.equalIn,cL,run_underlying hu,cy]
  rcases h with⟨rfl,h⟩ | ⟨rfl,h⟩ | ⟨rfl,h⟩ | ⟨rfl,h⟩ | ⟨h0,h⟩
  · cases BM<;>simp[mH]at hm
    rcases h with⟨_,rfl,rfl,rfl⟩ | ⟨_,rfl,rfl,rfl⟩ | ⟨rfl,rfl,rfl⟩<;>rfl
  · cases BM<;>simp[mH]at hm
    rcases h with⟨_,_,_,_,_,rfl,rfl,rfl⟩ | ⟨_,_,_,_,_,rfl,rfl,rfl⟩ | ⟨_,_,_,_,rfl,rfl,rfl⟩<;>rfl
  · cases BM<;>simp[mH]at hm
    rcases h with⟨_,rfl,rfl,rfl⟩ | ⟨_,rfl,rfl,rfl⟩ | ⟨rfl,rfl,rfl⟩<;>rfl
  · cases BM<;>simp[mH]at hm
    rcases h with⟨_,_,_,rfl,rfl,rfl⟩ | ⟨_,_,_,rfl,rfl,rfl⟩ | ⟨rfl,rfl,rfl⟩<;>rfl
  · rcases h0 with rfl | rfl<;>(cases BM<;>simp[mH]at hm) <;>
    rcases h with⟨_,_,rfl,rfl,rfl⟩ | ⟨_,_,rfl,rfl,rfl⟩ | ⟨rfl,rfl,rfl⟩<;>rfl
theorem UK {φ:Ph}{D:Da}{op:BinOp}{t:TypeId}{q:EqK}{a b:AV}{xo yo:Operand}{x y:Value}{r:Bool}(w:World)(hop:isEq op=true)(h:jq q a b=some r)(hx:VR φ D a x)(hy:VR φ D b y)(hq:yZ P (tQ xo||tQ yo) t=some q):
    (eqGuard op t xo yo x y).run P w=.ok () w/\(binOp op t x y).run P w=.ok (.bool (lW op != r)) w:=by
  obtain⟨BM,hu,hm⟩:=JS hq
  unfold jq at h
  split at h
  · split at h
    · rename_i hjk
      subst hjk;injection h with h;subst h;cases hx;cases hy
      refine⟨iz w hop ah ah,?_⟩
      cases op<;>simp[isEq]at hop<;>simp[binOp,Op.intCmp,lW,bne]
    · cases h
  · injection h with h;subst h
    cases hx with
    | str s _ hs =>
    cases hy with
    | str s' _ hs' =>
    subst hs hs'
    have he:(s.toList == s'.toList)=fk (s.data.toList.map UInt8.toNat) (s'.data.toList.map UInt8.toNat):=by rw[JV,<-toList_data,<-toList_data]
    refine⟨iz w hop ah ah,?_⟩
    cases op<;>simp[isEq]at hop<;>simp[binOp,Op.stringOp,lW,bne,he]
  · injection h with h;subst h;cases hx;cases hy
    refine⟨iz w hop ah ah,?_⟩
    cases BM<;>simp[mH]at hm
    exact run_eq_of w hop rfl rfl λ d=>by simp[Op.equalIn,run_underlying hu]
  · rename_i a1 o1 b1 o2
    split at h
    · rename_i hb
      have hb:=cT hb
      subst hb;injection h with h;subst h
      cases hx with
      | ptr _ _ cb co cz hp =>
      cases hy with
      | ptr _ _ cb' co' cz' hp' =>
      rw[hp]at hp';injection hp' with hp';simp only[Prod.mk.injEq]at hp';obtain⟨rfl,rfl,rfl⟩:=hp'
      refine⟨iz w hop ah ah,?_⟩
      cases BM<;>simp[mH]at hm
      obtain⟨k,hk⟩:=hm
      exact run_eq_of w hop rfl rfl (UL w hu hk)
    · cases h
  all_goals first
    | (exfalso;cases h;done)
    | (injection h with h;subst h;cases hx<;>cases hy <;>
       exact⟨iz w hop (λ _=>Value.noConfusion) (.inl Value.noConfusion),run_eq_of w hop rfl rfl λ d=>uW w hu hm d _ ah⟩)
    | (injection h with h;subst h;cases hx<;>cases hy <;>
       exact⟨iz w hop (λ _=>Value.noConfusion) (.inr (.inl Value.noConfusion)),run_eq_of w hop rfl rfl λ d=>uW w hu hm d _ ah⟩)
    | skip
  · injection h with h;subst h;cases hx;cases hy
    refine⟨iz w hop ah (.inr (.inr ?_)),run_eq_of w hop rfl rfl λ d=>uW w hu hm d _ ah⟩
    cases BM<;>simp[mH]at hm
    simpa using hm
theorem ok_eq {o:Oper}{op:BinOp}{t u:TypeId}{x y:Operand}{g k:G}{q:EqK}(ho:o.op=.binOp op t x y u)(hg:dD x=some g)(hk:dD y=some k)(hop:isEq op=true)(hq:yZ P (tQ x||tQ y) t=some q):cj P o (e2 (kT (lW op) q) g k):=by
  refine JW hg hk _ λ φ D h w n ρ v u xv yv hr hx hy hv huv hf hne=>?_
  unfold kT at hne ⊢
  cases he:jq q v u with
  | none=>rw[he]at hne;exact ar rfl hne
  | some r =>
    obtain⟨h1,h2⟩:=UK (P:=P) w hop he hv huv hq
    exact Does.val hr (by simp only[execOp,ho,hx,hy,cL,h1,h2,cy,dB]) (.bool _)
end
end Go.Abs
namespace Go.Abs
open List
section
variable {P:Program}
theorem ae4 {o:Oper}{c:Call}{t:TypeId}{x:Operand}{g:G}(ho:o.op=.call c)(hcb:c.callee=.builtin .len)(h0:c.argTypes[0]?=some t)(a0:c.args[0]?=some x)(hg:dD x=some g)
  (hu:P.underlying t=some .string):cj P o (e1 js g):=by
 refine JX hg _ λ φ D h w n ρ v xv hr hx hv hf hne=>?_;obtain⟨cs,hrun⟩:=iZ (P:=P) (ρ:=ρ) ho hcb w;unfold js at hne ⊢
 split at hne
 ·cases hv with
  |str s _ hs =>
  have hl:eC (s.data.toList.map UInt8.toNat) 0=s.size:=by rw[bM,length_map];rfl
  subst hs;refine Does.val hr (cv:=.int .i64 s.size) ?_ (by rw[hl];exact .int _ _);rw[hrun];simp[builtin,Builtin.len_,h0,a0,run_underlying hu,hx,goInt]
 exact ar rfl hne
theorem ae5 {o:Oper}{c:Call}{t e:TypeId}{x:Operand}{g:G}(ho:o.op=.call c) (hcb:c.callee=.builtin .len) (h0:c.argTypes[0]?=some t) (a0:c.args[0]?=some x) (hg:dD x=some g)
  (hu:P.underlying t=some (.slice e)):cj P o (e1 bm g):=by
 refine JX hg _ λ φ D h w n ρ v xv hr hx hv hf hne=>?_;obtain⟨cs,hrun⟩:=iZ (P:=P) (ρ:=ρ) ho hcb w
 have go:∀a k c,xv=.slice a k c->Does P (execOp ρ o) φ D h w n (.val (.int .i64 (Int.ofNat k))):=by
  intro a k c' e;refine Does.val hr (cv:=.int .i64 k) ?_ (.int _ _);rw[hrun];simp[builtin,Builtin.len_,h0,a0,run_underlying hu,hx,goInt,e]
 unfold bm at hne ⊢
 split at hne
 ·cases hv;exact go _ _ _ rfl
 ·cases hv<;>exact go _ _ _ rfl
 ·rename_i p c
  split at hne
  ·cases hv with
   |aV _ ha =>
   have:p=0:=by
    unfold atom at ha
    split at ha<;>simp_all
   subst this;exact go none 0 0 rfl
  exact ar rfl hne
 exact ar rfl hne
theorem OV {φ:Ph}{D:Da}{k:IntKind}(w:World):∀(l:List AV) (xs:List Value) (a:Int) (r:AV),bW φ D l xs->Hh k a l=some r->∃i,r=.int k i/\(xs.foldlM Builtin.min2 (.int k a)).run P w=.ok (.int k i) w
 |[],xs,a,r,hx,h=>by
  cases hx
  simp only[Hh]at h;injection h with h;subst h;exact⟨_,rfl,ah⟩
 |v :: l,xs,a,r,hx,h=>by
  unfold Hh at h
  split at h
  ·rename_i e;cases e
  ·rename_i j b r' e;injection e with e1 e2;subst e1 e2
   split at h
   ·rename_i e;subst e
    cases hx with
    |cons _ y _ ys h1 h2 =>
    cases h1
    obtain⟨i,hi,hrun⟩:=OV w l ys _ _ h2 h;exact⟨i,hi,by simp only[foldlM_cons,Builtin.min2,cL,dB,cy];exact hrun⟩
   cases h
  cases h
theorem OX {φ:Ph}{D:Da}{k:IntKind}(w:World):∀(l:List AV) (xs:List Value) (a:Int) (r:AV),bW φ D l xs->Ul k a l=some r->∃i,r=.int k i/\(xs.foldlM Builtin.max2 (.int k a)).run P w=.ok (.int k i) w
 |[],xs,a,r,hx,h=>by
  cases hx
  simp only[Ul]at h;injection h with h;subst h;exact⟨_,rfl,ah⟩
 |v :: l,xs,a,r,hx,h=>by
  unfold Ul at h
  split at h
  ·rename_i e;cases e
  ·rename_i j b r' e;injection e with e1 e2;subst e1 e2
   split at h
   ·rename_i e;subst e
    cases hx with
    |cons _ y _ ys h1 h2 =>
    cases h1
    obtain⟨i,hi,hrun⟩:=OX w l ys _ _ h2 h;exact⟨i,hi,by simp only[foldlM_cons,Builtin.max2,cL,dB,cy];exact hrun⟩
   cases h
  cases h
theorem akg {o:Oper}{c:Call}{gs:List G}(ho:o.op=.call c) (hcb:c.callee=.builtin .min) (hg:mn c.args.toList=some gs):cj P o (y6 Uj gs):=by
 intro F H n φ D a w hr hF hf hne;obtain⟨cs,hrun⟩:=iZ (P:=P) (ρ:=a.eval) ho hcb w;unfold y6 at hf hne ⊢
 cases hv:evs F gs with
 |none=>rw[hv]at hne;exact ar rfl hne
 |some l =>
  rw[hv]at hne;have hl:=dT hg F φ D a hF l hv;dsimp only at hne ⊢
  cases hm:Uj l with
  |none=>rw[hm]at hne;exact ar rfl hne
  |some r =>
   unfold Uj at hm
   split at hm
   ·rename_i k i rest
    cases hxs:c.args.toList.map a.eval with
    |nil=>rw[hxs]at hl;cases hl
    |cons x xs =>
     rw[hxs]at hl
     cases hl with
     |cons _ _ _ _ h1 h2 =>
     cases h1
     obtain⟨j,rfl,hj⟩:=OV (P:=P) w rest xs i r h2 hm;refine Does.val hr (cv:=.int k j) ?_ (.int _ _);rw[hrun];simp[builtin,Builtin.min_,hxs,hj]
   cases hm
theorem akh {o:Oper}{c:Call}{gs:List G}(ho:o.op=.call c) (hcb:c.callee=.builtin .max) (hg:mn c.args.toList=some gs):cj P o (y6 Jz gs):=by
 intro F H n φ D a w hr hF hf hne;obtain⟨cs,hrun⟩:=iZ (P:=P) (ρ:=a.eval) ho hcb w;unfold y6 at hf hne ⊢
 cases hv:evs F gs with
 |none=>rw[hv]at hne;exact ar rfl hne
 |some l =>
  rw[hv]at hne;have hl:=dT hg F φ D a hF l hv;dsimp only at hne ⊢
  cases hm:Jz l with
  |none=>rw[hm]at hne;exact ar rfl hne
  |some r =>
   unfold Jz at hm
   split at hm
   ·rename_i k i rest
    cases hxs:c.args.toList.map a.eval with
    |nil=>rw[hxs]at hl;cases hl
    |cons x xs =>
     rw[hxs]at hl
     cases hl with
     |cons _ _ _ _ h1 h2 =>
     cases h1
     obtain⟨j,rfl,hj⟩:=OX (P:=P) w rest xs i r h2 hm;refine Does.val hr (cv:=.int k j) ?_ (.int _ _);rw[hrun];simp[builtin,Builtin.max_,hxs,hj]
   cases hm
end
end Go.Abs
namespace Go.Abs
open List
open Go.MapKept (bytes_beq run_getObj_map run_setObj_map run_findKey)
section
variable {P:Program}
theorem vT {a b:List Nat}(h:fk a b=true):a=b:=by rw[fB]at h;simpa using h
theorem HT (a:List Nat):fk a a=true:=by rw[fB];simp
def kindOk:LK->TypeDesc->Prop
 |.i,.int _=>True
 |.s,.string=>True
 |_,_=>False
theorem By {t:TypeId}{q:LK}(h:Uu P t=some q):∃d,P.underlying t=some d/\kindOk q d:=by
 unfold Uu at h
 split at h
 ·rename_i hu;injection h with h;subst h;exact⟨_,hu,trivial⟩
 ·rename_i hu;injection h with h;subst h;exact⟨_,hu,trivial⟩
 cases h
theorem bytes_inj {s s':ByteArray}(h:s.data.toList.map UInt8.toNat=s'.data.toList.map UInt8.toNat):s=s':=by
 have h1:s.data.toList=s'.data.toList:=(List.map_inj_right (λ x y h=>UInt8.toNat_inj.1 h)).1 h
 cases s;cases s'
 congr 1
 exact Array.ext' h1
theorem mR {φ : Ph}{D:Da}{q:LK}{d:TypeDesc}{a b:AV}{x y:Value}{r:Bool}(hd:kindOk q d) (h:dY q a b=some r) (hx:VR φ D a x) (hy:VR φ D b y):Instr.sameNow d x y=some r/\(r=true->x=y):=by
 unfold dY at h
 split at h
 ·split at h
  ·rename_i e;subst e;injection h with h;subst h
   cases hx;cases hy
   cases d<;>simp[kindOk]at hd
   exact⟨by simp[Instr.sameNow],ah⟩
  cases h
 ·cases d<;>simp[kindOk]at hd
 ·injection h with h;subst h
  cases hx with
  |str s _ hs=>cases hy with
   |str s' _ hs' =>
    subst hs hs'
    cases d<;>simp[kindOk]at hd
    have he:(s == s')=fk (s.data.toList.map UInt8.toNat) (s'.data.toList.map UInt8.toNat):=by
     cases hq:fk (s.data.toList.map UInt8.toNat) (s'.data.toList.map UInt8.toNat)with
     |true =>
      have:=vT hq;rw[bytes_inj this];exact(bytes_beq _ _).2 rfl
     |false =>
      cases hb:s == s' with
      |false=>rfl
      |true =>
       have:=(bytes_beq _ _).1 hb;subst this;rw[HT]at hq;cases hq
    refine⟨by simp only[Instr.sameNow,he],λ hr=>by rw[bytes_inj (vT hr)]⟩
 cases h
theorem ahu {q:LK}{d:TypeDesc}{kt:TypeId}{x:Value}{w:World}(hu:P.underlying kt=some d)(hd:kindOk q d)(e:Bool)(n:Nat):(Instr.checkKey e (n+1) kt x).run P w=.ok () w:=by
 unfold Instr.checkKey;simp only[cL,run_underlying hu,cy]
 cases q<;>cases d<;>simp[kindOk]at hd<;>cases x<;>rfl
theorem akK {φ:Ph}{D:Da}{q:LK}{k:AV}{x:Value}{w:World}(h:isKey q k=true)(hx:VR φ D k x):(Instr.keyThatStays x x).run P w=.ok x w:=by
 unfold isKey at h
 split at h
 ·cases hx;simp[Instr.keyThatStays,Instr.sameBits]
 ·cases hx;simp[Instr.keyThatStays,Instr.sameBits,(bytes_beq _ _).2]
 cases h
theorem nX {φ:Ph}{D:Da}{q:LK}{d:TypeDesc}{k:AV}{x:Value}(hd:kindOk q d)(hx:VR φ D k x):∀(es:List (AV×AV×Nat))(l:List MapEntry)(i:Nat)(r:Option AV),xw φ D es l->findKey q k es=some r ->
  (r=none/\Instr.findNow d x l i=some none)∨∃v j y,r=some v/\Instr.findNow d x l i=some (some (j,y))/\VR φ D v y
 |[],l,i,r,he,h=>by
  cases he
  simp only[findKey]at h;injection h with h;exact .inl ⟨h.symm,rfl⟩
 |e :: es,l,i,r,he,h=>by
  cases he with
  |cons kk v b y z _ l' h1 h2 h3 =>
  simp only[findKey]at h
  split at h
  ·rename_i hq;injection h with h;exact .inr ⟨v,i,z,h.symm,by simp[Instr.findNow,(mR hd hq hx h1).1],h2⟩
  ·rename_i hq
   rcases nX hd hx es l' (i+1) r h3 h with⟨h4,h5⟩|⟨v',j,y',h4,h5,h6⟩
   ·exact .inl ⟨h4,by simp[Instr.findNow,(mR hd hq hx h1).1,h5]⟩
   exact .inr ⟨v',j,y',h4,by simp[Instr.findNow,(mR hd hq hx h1).1,h5],h6⟩
  cases h
theorem lT {φ:Ph}{D:Da}{q:LK}{d:TypeDesc}{k v:AV}{x z:Value}(hd:kindOk q d) (hx:VR φ D k x) (hz:VR φ D v z):∀(es:List (AV×AV×Nat)) (l:List MapEntry) (i:Nat) (r:Option (List (AV×AV×Nat))),xw φ D es l->iM q k v es=some r ->
  (r=none/\Instr.findNow d x l i=some none)∨∃es' j y e,r=some es'/\Instr.findNow d x l i=some (some (i+j,y))/\l[j]?=some e/\e.key=x/\xw φ D es' (l.modify j λ e=>{e with key:=x,val:=z})
 |[],l,i,r,he,h=>by
  cases he
  simp only[iM]at h;injection h with h;exact .inl ⟨h.symm,rfl⟩
 |e :: es,l,i,r,he,h=>by
  cases he with
  |cons kk u b y u' _ l' h1 h2 h3 =>
  simp only[iM]at h
  split at h
  ·rename_i hq;injection h with h;obtain⟨hs,heq⟩:=mR hd hq hx h1;exact .inr ⟨_,0,u',_,h.symm,by simp[Instr.findNow,hs],rfl,(heq rfl).symm,.cons _ _ _ _ _ _ _ hx hz h3⟩
  ·rename_i hq;obtain⟨hs,_⟩:=mR hd hq hx h1
   split at h
   ·rename_i r' hr';injection h with h
    rcases lT hd hx hz es l' (i+1) _ h3 hr' with⟨h4,_⟩|⟨es',j,y',e',h4,h5,h6,h7,h8⟩
    ·cases h4
    injection h4 with h4;subst h4;exact .inr ⟨_,j+1,y',e',h.symm,by simp[Instr.findNow,hs,h5];omega,by simpa using h6,h7,.cons _ _ _ _ _ _ _ h1 h2 h8⟩
   ·rename_i hr';injection h with h
    rcases lT hd hx hz es l' (i+1) _ h3 hr' with⟨_,h5⟩|⟨es',j,y',e',h4,_⟩
    ·exact .inl ⟨h.symm,by simp[Instr.findNow,hs,h5]⟩
    cases h4
   cases h
  cases h
theorem xw.push {φ:Ph}{D:Da}{k v:AV}{x z:Value}{b:Nat}(hx:VR φ D k x)(hz:VR φ D v z):∀ {es:List (AV×AV×Nat)}{l:List MapEntry},xw φ D es l->xw φ D (es++[(k,v,b)]) (l++[⟨x,z,b⟩])
 |_,_,.nil=>.cons _ _ _ _ _ _ _ hx hz .nil
 |_,_,.cons _ _ _ _ _ _ _ h1 h2 h3=>.cons _ _ _ _ _ _ _ h1 h2 (xw.push hx hz h3)
theorem World.U4 (w:World)(o:Obj):(World.newObj w o).heap[w.heap.size]?=some o:=by
 show (w.heap.push o)[w.heap.size]?=some o;simp
theorem G7 {o:Oper}{t:TypeId}{x:Option Operand}(ho:o.op=.makeMap t x)(hx:x=none∨((∃k n,x=some (.const (.int k n)))/\∃k e,P.underlying t=some (.map k e))):cj P o lJ:=by
 intro F H n φ D a w hr hF hf hne;have hn:φ n=none:=hf n (aK _) (by simp[lJ,wv]);obtain⟨h1,h2⟩:=nF hr (λ b x y=>hf b x (by simpa[lJ,wv]using y)) (.map #[] 0) 0 (.map [] 0) ⟨#[],World.U4 w _,.nil⟩;refine⟨.value (.map (some w.heap.size)),_,_,_,?_,.value _,h2,h1,.map _ _ 0 0 (by simp[Ph.set])⟩
 rcases hx with rfl|⟨⟨k,m,rfl⟩,kt,et,hu⟩
 ·simp[execOp,ho,Instr.makeMap];rfl
 simp[execOp,ho,Instr.makeMap,run_underlying hu,Act.eval,asInt,asIntOf];rfl
theorem Ud {o : Oper}{t kt et:TypeId}{x y:Operand}{ok:Bool}{g k:G}{q:LK}{z:AV}{zv:Value}{ti:TypeInfo}(ho:o.op=.lookup t x y ok) (hg:dD x=some g) (hk:dD y=some k) (hu:P.underlying t=some (.map kt et)) (hq:Uu P kt=some q)
  (hi:P.info? et=some ti)(h0:ti.zero=some zv)(hz:U0 zv=some z):cj P o (jF q z ok g k):=by
 obtain⟨d,hd,hkd⟩:=By hq;intro F H n φ D a w hr hF hf hne;unfold jF at hf hne ⊢
 cases hv:g.f F with
 |none=>rw[hv]at hne;exact ar rfl hne
 |some m =>
  rw[hv]at hne;dsimp only at hne ⊢
  cases hkv:k.f F with
  |none=>rw[hkv]at hne;exact ar rfl hne
  |some kv =>
   rw[hkv]at hne;dsimp only at hne ⊢;have hm:=aW hg F φ D a hF m hv;have hky:=aW hk F φ D a hF kv hkv;unfold fo at hne ⊢
   split at hne
   ·rename_i b
    split at hne
    ·rename_i es clk hb
     split at hne
     ·rename_i aqf;generalize hxv:a.eval x=xv at hm
      cases hm with
      |map _ cb co cz hp =>
      obtain⟨_,BV,hc1,hc2⟩:=hr.block hb hp;have hc1:w.heap[cb]?=some (.map BV clk):=hc1;have hck:=ahu (P:=P) (x:=a.eval y) (w:=w) hd hkd BV.isEmpty 9999
      split at hne
      ·rename_i v hfk
       rcases nX hkd hky es BV.toList 0 _ hc2 hfk with⟨h,_⟩|⟨v',j,y',h1,h2,h3⟩
       ·cases h
       injection h1 with h1;subst h1;have hf2:=run_findKey (w:=w) hd h2;refine Does.val hr (cv:=if ok then .tuple #[y',.bool true]else y') ?_ ?_
       ·simp only[execOp,ho,hxv,Instr.lookup,cL,run_underlying hu,cy,run_getObj_map hc1,dB,hck,hf2]
       cases ok
       ·exact h3
       exact .bo _ _ (.cons _ _ _ _ h3 (.cons _ _ _ _ (.bool _) .nil))
      ·rename_i hfk
       rcases nX hkd hky es BV.toList 0 _ hc2 hfk with⟨_,h2⟩|⟨v',j,y',h1,_⟩
       ·have hf2:=run_findKey (w:=w) hd h2;refine Does.val hr (cv:=if ok then .tuple #[zv,.bool false]else zv) ?_ ?_
        ·simp only[execOp,ho,hxv,Instr.lookup,cL,run_underlying hu,cy,run_getObj_map hc1,dB,hck,hf2,pI hi h0]
        cases ok
        ·exact .DV hz
        exact .bo _ _ (.cons _ _ _ _ (.DV hz) (.cons _ _ _ _ (.bool _) .nil))
       cases h1
      exact ar rfl hne
     exact ar rfl hne
    exact ar rfl hne
   exact ar rfl hne
theorem OO {o : Oper}{t kt et:TypeId}{x y u:Operand}{g k l:G}{q:LK}(ho:o.op=.mapUpdate t x y u∨o.op=.insert t x y u) (hg:dD x=some g) (hk:dD y=some k) (hl:dD u=some l) (hu:P.underlying t=some (.map kt et)) (hq:Uu P kt=some q):
  cj P o (lI q g k l):=by
 obtain⟨d,hd,hkd⟩:=By hq;intro F H n φ D a w hr hF hf hne;unfold lI at hf hne ⊢
 cases hv:g.f F with
 |none=>rw[hv]at hne;exact ar rfl hne
 |some m =>
  rw[hv]at hne;dsimp only at hne ⊢
  cases hkv:k.f F with
  |none=>rw[hkv]at hne;exact ar rfl hne
  |some kv =>
   rw[hkv]at hne;dsimp only at hne ⊢
   cases hlv:l.f F with
   |none=>rw[hlv]at hne;exact ar rfl hne
   |some lv =>
    rw[hlv]at hne;dsimp only at hne ⊢;have hm:=aW hg F φ D a hF m hv;have hky:=aW hk F φ D a hF kv hkv;have hly:=aW hl F φ D a hF lv hlv;unfold rE at hne ⊢
    split at hne
    ·rename_i b
     split at hne
     ·rename_i es clk hb
      split at hne
      ·rename_i aqf;generalize hxv:a.eval x=xv at hm
       cases hm with
       |map _ cb co cz hp =>
       obtain⟨_,BV,hc1,hc2⟩:=hr.block hb hp;have hc1:w.heap[cb]?=some (.map BV clk):=hc1;have hck:=ahu (P:=P) (x:=a.eval y) (w:=w) hd hkd false 9999;have hlt:cb<w.heap.size:=(uJ.1 hc1).1
       have hex:execOp a.eval o=(do Instr.mapUpdate t (a.eval x) (a.eval y) (a.eval u);pure .skip):=by
        rcases ho with ho|ho<;>simp[execOp,ho]
       split at hne
       ·rename_i es' hsk
        rcases lT hkd hky hly es BV.toList 0 _ hc2 hsk with⟨h,_⟩|⟨es2,j,y',e',h1,h2,h3,h4,h5⟩
        ·cases h
        injection h1 with h1;subst h1;have hf2:=run_findKey (w:=w) hd h2;have awj:=akK (P:=P) (w:=w) aqf hky;have h3':BV[0+j]?=some e':=by rw[q7];simpa using h3
        refine Does.upd hr (by rw[hb];simp) hp (o:=.map (BV.modify (0+j) λ e=>{e with key:=a.eval y,val:=a.eval u}) clk) (nx:=.skip) (cv:=undef) ?_ .skip ?_ (.bo _ _ .nil)
        ·rw[hex];simp only[hxv,Instr.mapUpdate,cL,run_underlying hu,cy,run_getObj_map hc1,hck,hf2,h3',Option.map_some,Option.getD_some,h4,awj,run_setObj_map _ hc1,dB,World.putObj]
        refine⟨BV.modify (0+j) λ e=>{e with key:=a.eval y,val:=a.eval u},by simp[World.putObj,hlt],?_⟩;rw[q7,Array.toList_modify];exact h5
       ·rename_i hsk
        rcases lT hkd hky hly es BV.toList 0 _ hc2 hsk with⟨_,h2⟩|⟨es2,j,y',e',h1,_⟩
        ·have hf2:=run_findKey (w:=w) hd h2;refine Does.upd hr (by rw[hb];simp) hp (o:=.map (BV.push {key:=a.eval y,val:=a.eval u,born:=clk}) (clk+1)) (nx:=.skip) (cv:=undef) ?_ .skip ?_ (.bo _ _ .nil)
         ·rw[hex];simp only[hxv,Instr.mapUpdate,cL,run_underlying hu,cy,run_getObj_map hc1,hck,hf2,run_setObj_map _ hc1,dB,World.putObj]
         refine⟨BV.push {key:=a.eval y,val:=a.eval u,born:=clk},by simp[World.putObj,hlt],?_⟩;rw[Array.toList_push];exact hc2.push hky hly
        cases h1
       exact ar rfl hne
      exact ar rfl hne
     exact ar rfl hne
    exact ar rfl hne
end
end Go.Abs
namespace Go.Abs
open List
section
variable {P:Program}
end
end Go.Abs
namespace Go.Abs
open List
open Go.MapKept (bytes_beq run_getObj_map run_setObj_map run_findKey)
section
variable {P:Program}
theorem BU:∀(a b:List UInt8),cmpL (a.map UInt8.toNat) (b.map UInt8.toNat) =
  match (range (min a.length b.length)).find? λ i=>a[i]! != b[i]! with
  |some i=>if a[i]! < b[i]! then -1 else 1
  |none=>if a.length<b.length then -1 else if a.length>b.length then 1 else 0
 |[],[]=>rfl
 |[],_::_=>by simp[cmpL]
 |_::_,[]=>by simp[cmpL]
 |x :: a,y::b=>by
  simp only[map_cons,cmpL]
  have hr:range (min (x::a).length (y::b).length)=0::(range (min a.length b.length)).map Nat.succ:=by
   rw[show min (x::a).length (y::b).length=min a.length b.length+1 by simp,range_succ_eq_map]
  rw[hr,find?_cons]
  by_cases e:x=y
  ·subst e;rw[show Nat.beq x.toNat x.toNat=true by simp];dsimp only;rw[BU a b,find?_map];simp only[getElem!_cons_zero,bne_self_eq_false]
   have:((λ i=>(x::a)[i]! !=(x::b)[i]!) ∘ Nat.succ)=λ i=>a[i]! != b[i]! := by
    funext i;simp
   rw[this]
   cases (range (min a.length b.length)).find? λ i=>a[i]! != b[i]! with
   |none=>simp
   |some i=>simp
  have h1:Nat.beq x.toNat y.toNat=false:=by
   cases h:Nat.beq x.toNat y.toNat with
   |false=>rfl
   |true=>exact ar (UInt8.toNat_inj.1 (cT h)) e
  rw[h1];simp only[getElem!_cons_zero];rw[show (x != y)=true by simpa using e];dsimp only
  by_cases hlt:x<y
  ·rw[show Nat.blt x.toNat y.toNat=true by rw[Nat.blt_eq];exact hlt];simp[hlt]
  rw[show Nat.blt x.toNat y.toNat=false by
   cases h:Nat.blt x.toNat y.toNat with
   |false=>rfl
   |true=>exact ar (by rw[Nat.blt_eq]at h;exact h) hlt]
  simp[hlt]
theorem Yv (a:ByteArray)(i:Nat):a[i]! = a.data.toList[i]! := by
 have hs:a.data.toList.length=a.size:=Array.length_toList
 by_cases h:i<a.size
 ·rw[getElem!_pos a i h,getElem!_pos a.data.toList i ae];rfl
 rw[getElem!_neg a i h,getElem!_neg a.data.toList i ae]
theorem Y1 (a b:ByteArray):Extern.BytealgCompare.cmp a b=cmpL (a.data.toList.map UInt8.toNat) (b.data.toList.map UInt8.toNat):=by
 rw[BU];unfold Extern.BytealgCompare.cmp;have h1:a.size=a.data.toList.length:=Array.length_toList.symm;have h2:b.size=b.data.toList.length:=Array.length_toList.symm;rw[h1,h2];simp only[Yv];rfl
theorem YE {fn : Func} (h : fn.name = "internal/bytealg.abigen_runtime_cmpstring") (h2 : fn.origin = "") : Extern.findNext fn = none ∧ Extern.find fn = some Extern.BytealgCompare.compare := by
 unfold Extern.findNext Extern.find;rw[h,h2];exact⟨by kernel_rfl,by kernel_rfl⟩
theorem ae6 {o:Oper}{c:Call}{f:FuncId}{fn:Func}{x y:Operand}{g k:G}(ho:o.op=.call c)(hc:c.callee=.value (.func f))(ha:c.args.toList=[x,y])(hf:P.funcs[f]?=some fn)(hb:fn.body=none)
  (hn : fn.name = "internal/bytealg.abigen_runtime_cmpstring") (h2 : fn.origin = "") (hg : dD x = some g) (hk : dD y = some k) : cj P o (e2 Ig g k) := by
 intro F H n φ D a w hr hF hfr hne;unfold e2 at hfr hne ⊢
 cases hv:g.f F with
 |none=>rw[hv]at hne;exact ar rfl hne
 |some v =>
 rw[hv]at hne;dsimp only at hne ⊢
 cases hu:k.f F with
 |none=>rw[hu]at hne;exact ar rfl hne
 |some u =>
 rw[hu]at hne;dsimp only at hne ⊢;have je:=aW hg F φ D a hF v hv;have hur:=aW hk F φ D a hF u hu;unfold Ig at hne ⊢
 split at hne
 ·generalize hxv:a.eval x=xv at je;generalize hyv:a.eval y=yv at hur
  cases je with
  |str s _ hs =>
  cases hur with
  |str s' _ hs' =>
  subst hs hs';obtain⟨e1,e2⟩:=YE hn h2
  have hargs:Array.map a.eval c.args=#[.string s,.string s']:=by
   apply Array.ext';simp[ha,hxv,hyv]
  refine Does.val hr (cv:=.int .i64 (cmpL (s.data.toList.map UInt8.toNat) (s'.data.toList.map UInt8.toNat))) ?_ (.int _ _)
  have hname : (fn.name == "runtime.NumGoroutine") = false := by rw [hn]; decide
  have hcf:=run_callFunc_extern (P:=P) hf hname (by rw[hb];rfl) e1 e2 #[.string s,.string s'] w;have h0:a.eval (.func f)=.func (.func f) #[] #[]:=rfl;simp only[execOp,ho,resolve,hc,h0,Deferred.ofValue,cL,dB,cy,invoke,hargs];simp only[Array.append_empty,Array.empty_append];have hq:(Extern.BytealgCompare.compare #[.string s,.string s']).run P w=.ok (.int .i64 (Extern.BytealgCompare.cmp s s')) w:=rfl;rw[hcf,hq,Y1];rfl
 exact ar rfl hne
end
end Go.Abs
namespace Go.Abs
open List
section
variable {P:Program}
theorem Bg {x:Option Operand}{g:Option G}(h:pN x=some g):x.isSome=g.isSome:=by
 cases x with
 |none=>simp[pN]at h;subst h;rfl
 |some x=>simp[pN]at h;obtain⟨a,_,rfl⟩:=h;rfl
theorem apz {hi mx:Option Operand}{gh gm:Option G}(h:pN hi=some gh)(k:pN mx=some gm)(hc:(mx.isNone||hi.isSome)=true):gm=none∨gh≠none:=by
 have h1:=Bg h;have h2:=Bg k
 cases hi<;>cases mx<;>cases gh<;>cases gm<;>simp_all
theorem ze {s ft:TypeId}{f off:Nat}(h:u6 P s f=some (off,ft)):∃fs fd ti k,P.underlying s=some (.struct fs)/\fs[f]?=some fd/\P.info? fd.type=some ti/\ti.size=k+1/\off=fd.offset/\ft=fd.type:=by
 unfold u6 at h
 split at h
 ·rename_i fs hu
  split at h
  ·rename_i fd hf
   split at h
   ·rename_i k hk;simp only[Option.some.injEq,Prod.mk.injEq]at h
    cases hi:P.info? fd.type with
    |none=>simp[cu,hi]at hk
    |some ti=>exact⟨fs,fd,ti,k,hu,hf,hi,by simpa[cu,hi]using hk,h.1.symm,h.2.symm⟩
   cases h
  cases h
 cases h
theorem UZ {o : Oper}{op:BinOp}{t u:TypeId}{x y:Operand}{e:Eff}(ho:o.op=.binOp op t x y u) (h:DZ P op t x y=some e):cj P o e:=by
 unfold DZ at h
 split at h
 ·rename_i a ha
  split at h
  ·rename_i b hb
   split at h
   ·rename_i hop
    split at h
    ·rename_i fs hu
     split at h
     ·rename_i k hk
      split at h
      ·cases h
      rename_i hg;injection h with h;subst h;exact XA ho ha hb hop (by unfold hU;rw[hu]) hk (by simpa using hg)
     cases h
    ·rename_i n e hu
     split at h
     ·rename_i k hk
      split at h
      ·cases h
      rename_i hg;injection h with h;subst h;exact XA ho ha hb hop (by unfold hU;rw[hu]) hk (by simpa using hg)
     cases h
    split at h
    ·rename_i q hq;injection h with h;subst h;exact ok_eq ho ha hb hop hq
    cases h
   rename_i hop;injection h with h;subst h;exact akn ho ha hb (by cases op<;>simp[isEq]at hop ⊢)
  cases h
 cases h
theorem J7 {o:Oper}{s d:TypeId}{x:Operand}{e:Eff}(ho:o.op=.convert s d x)(h:zg P s d x=some e):cj P o e:=by
 unfold zg at h
 cases ha:dD x with
 |none=>rw[ha]at h;cases h
 |some a =>
  rw[ha]at h;simp only[kJ,Option.bind_some]at h
  split at h
  ·rename_i hs hd;injection h with h;subst h;exact Xu ho ha hs hd
  ·rename_i hs hd
   split at h
   ·rename_i he;injection h with h;subst h;exact akf ho ha hs hd he
   cases h
  ·rename_i hs hd
   split at h
   ·rename_i he;injection h with h;subst h;exact ako ho ha hs hd he
   cases h
  cases h
theorem Am {o : Oper}{c:Call}{b:Builtin}{e:Eff}(ho:o.op=.call c) (hc:c.callee=.builtin b) (h:pY P c b=some e):cj P o e:=by
 unfold pY at h
 split at h
 ·simp only[kJ,iG]at h;obtain⟨t,ht,x,hx,h⟩:=h
  split at h
  ·rename_i hu;simp only[iG]at h;obtain⟨g,hg,h⟩:=h;injection h with h;subst h;exact ae4 ho hc ht hx hg hu
  ·rename_i el hu;simp only[iG]at h;obtain⟨g,hg,h⟩:=h;injection h with h;subst h;exact ae5 ho hc ht hx hg hu
  cases h
 ·simp only [kJ,iG]at h;obtain⟨t,ht,u,hu,s,hs,x,hx,el,he,h⟩:=h
  split at h
  ·cases h
  ·cases h
  rename_i hn1 hn2
  cases hd:P.underlying u with
  |none=>exact ar hd hn2
  |some d =>
   split at h
   ·rename_i z hz
    split at h
    ·rename_i sz hsz
     split at h
     ·rename_i hl;simp only[iG]at h;obtain⟨gq,hb,g,hg,k,hk,h⟩:=h;injection h with h;subst h;exact akp ho hc ht hu hs hx hg hk he hd (λ k e=>hn1 k (by rw[hd,e])) hz hsz hb hl
     cases h
    cases h
   cases h
 ·simp only[kJ,iG]at h;obtain⟨g,hg,h⟩:=h;injection h with h;subst h;exact akg ho hc hg
 ·simp only[kJ,iG]at h;obtain⟨g,hg,h⟩:=h;injection h with h;subst h;exact akh ho hc hg
 cases h
theorem UG {o:Oper}{c:Call}{f:FuncId}{e:Eff}(ho:o.op=.call c) (hc:c.callee=.value (.func f)) (h:DY P f c.args.toList=some e):cj P o e:=by
 unfold DY at h
 split at h
 ·rename_i fn hf
  split at h
  ·rename_i hb
   split at h
   ·rename_i hn
    split at h
    ·rename_i x y ha;simp only[kJ,iG]at h;obtain⟨g,hg,k,hk,h⟩:=h;injection h with h;subst h;exact ae6 ho hc ha hf hb hn.1 hn.2 hg hk
    cases h
   cases h
  cases h
 cases h
theorem Ii {o:Oper}{t:TypeId}{parts:Array (Nat×Operand)}{e:Eff}(ho:o.op=.build t parts)(h:eb P o=some e):cj P o e:=by
 unfold eb at h;rw[ho]at h;simp only[kJ,iG]at h;obtain⟨z,hz,h⟩:=h
 split at h
 ·rename_i fs hu
  split at h
  ·rename_i places hp;simp only[Option.map_eq_some_iff]at h;obtain⟨l,hl,rfl⟩:=h;refine G8 ho hz _ hl λ zv ti hi h0 ps=>?_;unfold Program.built;simp only[hi,hu,h0,hp]
   congr 1
   funext i
   simp
  cases h
 ·rename_i n el hu
  split at h
  ·rename_i ie hie;simp only[Option.map_eq_some_iff]at h;obtain⟨l,hl,rfl⟩:=h;refine G8 ho hz _ hl λ zv ti hi h0 ps=>?_;unfold Program.built;simp only[hi,hu,h0,hie]
  cases h
 cases h
theorem iO {o:Oper}{e:Eff}(h:eb P o=some e):cj P o e:=by
 have h0:=h;unfold eb at h
 split at h
 ·rename_i ho;simp only[Option.map_eq_some_iff]at h;obtain⟨g,hg,rfl⟩:=h;exact Xw (.inl ho) hg
 ·rename_i ho;simp only[Option.map_eq_some_iff]at h;obtain⟨g,hg,rfl⟩:=h;exact Xw (.inr ho) hg
 ·rename_i ho;simp only[kJ,iG]at h;obtain⟨g,hg,k,hk,l,hl,h⟩:=h;injection h with h;subst h;exact ae0 ho hg hk hl
 ·rename_i ho;simp only[Option.map_eq_some_iff]at h;obtain⟨z,hz,rfl⟩:=h;exact XB ho hz
 ·rename_i ho;simp only[Option.map_eq_some_iff]at h;obtain⟨g,hg,rfl⟩:=h;exact akm ho hg
 ·rename_i ho;exact Ii ho h0
 ·rename_i ho;simp only[kJ,iG]at h;obtain⟨el,he,k,hk,z,hz,l,hl,h⟩:=h
  split at h
  ·rename_i hc;simp only[dS,decide_eq_true_eq]at hc;injection h with h;subst h;exact Ue ho he hk hz hl hc.1 hc.2
  cases h
 ·rename_i ho;simp only[kJ,iG]at h;obtain⟨g,hg,b,hb,h⟩:=h
  split at h
  ·rename_i hbt;subst hbt;simp only[iG]at h;obtain⟨k,hk,h⟩:=h;injection h with h;subst h;exact Xx ho hg hb hk
  rename_i hbt;injection h with h;subst h;exact Xy ho hg (by rw[hb];simpa using hbt)
 ·rename_i ho;simp only[kJ,iG]at h;obtain⟨k,hk,g,hg,l,hl,h⟩:=h;injection h with h;subst h;exact Xv ho hg hl hk
 ·rename_i ho;simp only[Option.map_eq_some_iff]at h;obtain⟨g,hg,rfl⟩:=h;exact ae1 ho hg
 ·rename_i ho;exact UZ ho h
 ·rename_i ho;simp only[Option.map_eq_some_iff]at h;obtain⟨g,hg,rfl⟩:=h;exact apk ho hg
 ·rename_i ho;exact J7 ho h
 ·rename_i ho;simp only[kJ,iG]at h;obtain⟨g,hg,l,hl,h⟩:=h;injection h with h;subst h;exact ae3 ho hg hl
 ·rename_i ho;injection h with h;subst h;exact G7 ho (.inl rfl)
 ·rename_i ho
  split at h
  ·rename_i hu;injection h with h;subst h;exact G7 ho (.inr ⟨⟨_,_,rfl⟩,_,_,hu⟩)
  cases h
 ·rename_i ho
  split at h
  ·rename_i hu;simp only[kJ,iG]at h;obtain⟨z,⟨ti,hi,hz⟩,q,hq,az,haz,g,hg,k,hk,h⟩:=h;injection h with h;subst h;exact Ud ho hg hk hu hq hi hz haz
  cases h
 ·rename_i ho
  split at h
  ·rename_i hu;simp only[kJ,iG]at h;obtain⟨q,hq,g,hg,k,hk,l,hl,h⟩:=h;injection h with h;subst h;exact OO (.inl ho) hg hk hl hu hq
  cases h
 ·rename_i ho
  split at h
  ·rename_i hu;simp only[kJ,iG]at h;obtain⟨q,hq,g,hg,k,hk,l,hl,h⟩:=h;injection h with h;subst h;exact OO (.inr ho) hg hk hl hu hq
  cases h
 ·rename_i ho;simp only[kJ,iG]at h;obtain⟨el,he,z,hz,k,hk,h⟩:=h
  split at h
  ·rename_i hc;simp only[iG]at h;obtain⟨gq,hb,g,hg,l,hl,h⟩:=h;injection h with h;subst h;exact ae2 ho hg hl he hz hk hb hc
  cases h
 ·rename_i ho
  split at h
  ·rename_i el hu
   split at h
   ·rename_i hc;simp only[kJ,iG]at h;obtain⟨sz,hs,g,hg,l,hl,k,hk,m,hm,h⟩:=h;injection h with h;subst h;exact ake ho hg hl hk hm hu hs (apz hk hm hc)
   cases h
  cases h
 ·rename_i ho;simp only[kJ,iG]at h;obtain⟨⟨off,ft⟩,hf,g,hg,h⟩:=h;injection h with h;subst h;obtain⟨fs,fd,ti,k,h1,h2,h3,h4,rfl,rfl⟩:=ze hf;exact ae7 ho hg h1 h2 h3 h4
 ·rename_i ho
  split at h
  ·rename_i hu;simp only[kJ,iG]at h;obtain⟨sz,hs,g,hg,k,hk,h⟩:=h;injection h with h;subst h;exact akk ho hg hk hu hs
  ·rename_i hu;simp only[kJ,iG]at h;obtain⟨sz,hs,g,hg,k,hk,h⟩:=h;injection h with h;subst h;exact Xz ho hg hk hu hs
  cases h
 ·rename_i ho
  split at h
  ·rename_i hu;simp only[kJ,iG]at h;obtain⟨g,hg,k,hk,h⟩:=h;injection h with h;subst h;exact akj ho hg hk hu
  ·rename_i hu;simp only[kJ,iG]at h;obtain⟨sz,hs,ag,ha,g,hg,k,hk,h⟩:=h;injection h with h;subst h;exact aki ho hg hk hu hs ha
  cases h
 ·rename_i ho;simp only[kJ,iG]at h;obtain⟨g,hg,h⟩:=h;injection h with h;subst h;exact akl ho hg
 ·rename_i ho
  split at h
  ·rename_i hc;exact Am ho hc h
  ·rename_i hc;exact UG ho hc h
  cases h
 cases h
end
end Go.Abs
namespace Go.Abs
open List
def FW (r:Option Nat):Fence:={fn:=λ _=>True,depth:=none,alive:=false,round:=r}
def j7 (x:Value):lO->Exit
 |.normal=>.normal
 |.exit i=>.exit i
 |.ret=>.ret
 |.panic _=>.panic [{v:=x,recovered:=false}]
def IJ (φ:Ph)(D:Da)(x:Value):lO->Prop
 |.panic v=>VR φ D v x
 |_=>True
def jb (φ:Ph)(D:Da):List Dm->List Deferred->Prop
 |[],ds=>ds=[]
 |.cG m::ms,ds=>∃cb co cz r,φ m=some (cb,co,cz)/\ds={target:=.collected cb,args:=#[]}::r/\jb φ D ms r
 |.fn f vs::ms,ds=>∃fl cl r,bW φ D vs (fl++cl)/\ds={target:=.fn (.func f) ⟨cl⟩,args:=⟨fl⟩ }::r/\jb φ D ms r
def we (φ:Ph)(D:Da):UM->FrameMode->Prop
 |.ret,u=>u=.returning
 |.wu v b,u=>∃x,VR φ D v x/\u=.panicking [{v:=x,recovered:=b}]
abbrev QT:=Exit->Act->World->Prop
structure St (nt:Nat)(φ:Ph)(D:Da)(F:Fr)(H:Hp)(m:List Dm)(a:Act)(w:World):Prop where
 rel:Rel φ D H.get w
 fr:FR φ D F.get a.tmps
 sz:a.tmps.size=nt
 Bm:jb φ D m a.defers
def Sound (nt:Nat) (run:QT->Act->World->Prop) (f:Fr->Hp->Nat->List Dm->P9):Prop:=
 ∀F H n m o F' H' n' m',f F H n m=.mk o F' H' n' m'->n<=n'/\∀ φ D a w,St nt φ D F H m a w->cU φ n n' ->
  ∀Q:QT,(∀ φ' D' a' w' px,Ext φ D H.get w n φ' D' H'.get w' n'->St nt φ' D' F' H' m' a' w'->IJ φ' D' px o->Q (j7 px o) a' w')->run Q a w
structure iI (P:Program)(ce:Ce):Prop where
 call : ∀ g args H n v H' n', ce.call g args H n = .mk v H' n' → (∃ fn b, P.funcs[g]? = some fn ∧ fn.body = some b ∧ (fn.name == "runtime.NumGoroutine") = false) ∧ n ≤ n' ∧
  ∀ φ D w xs,Rel φ D H.get w->bW φ D args xs->cU φ n n'->∀R:Ending->World->Prop,
   (∀ φ' D' w' x,Ext φ D H.get w n φ' D' H'.get w' n'->Rel φ' D' H'.get w'->VR φ' D' v x->R (.returned x) w')->CallsIn Fence.wide 0 P g ⟨xs⟩ w R
 wu : ∀ g args H n v H' n', ce.call g args H n = .wu v H' n' → (∃ fn b, P.funcs[g]? = some fn ∧ fn.body = some b ∧ (fn.name == "runtime.NumGoroutine") = false) ∧ n ≤ n' ∧
  ∀ φ D w xs,Rel φ D H.get w->bW φ D args xs->cU φ n n'->∀R:Ending->World->Prop,
   (∀ φ' D' w' x,Ext φ D H.get w n φ' D' H'.get w' n'->Rel φ' D' H'.get w'->VR φ' D' v x->R (.panicked [{v:=x,recovered:=false}]) w')->CallsIn Fence.wide 0 P g ⟨xs⟩ w R
 code:∀nt c F H n o F' H' n' m',ce.code nt c F H n=.mk o F' H' n' m'->n<=n'/\∀l φ D a w,St nt φ D F H [] a w->cU φ n n' ->
  ∀Q:QT,(∀ φ' D' a' w' px,Ext φ D H.get w n φ' D' H'.get w' n'->St nt φ' D' F' H' m' a' w'->IJ φ' D' px o->Q (j7 px o) a' w')->c.wpIn (FW (some l)) 0 P Q a w
 dcall : ∀ g args u H n u' H' n', ce.dcall g args u H n = .mk u' H' n' → (∃ fn b, P.funcs[g]? = some fn ∧ fn.body = some b ∧ (fn.name == "runtime.NumGoroutine") = false) ∧ n ≤ n' ∧
  ∀ φ D w xs mo,Rel φ D H.get w->bW φ D args xs->we φ D u mo->cU φ n n'->∀R:Ending->FrameMode->World->Prop,
   (∀ φ' D' w' x Vk,Ext φ D H.get w n φ' D' H'.get w' n'->Rel φ' D' H'.get w'->we φ' D' u' Vk->R (.returned x) Vk w')->CallsDIn Fence.wide 0 P g ⟨xs⟩ mo w R
theorem jb.mono {φ φ':Ph}{D D':Da}(hφ:∀b x,φ b=some x->φ' b=some x)(hD:∀c x,D c=some x->D' c=some x):∀ {m ds},jb φ D m ds->jb φ' D' m ds
 |[],_,h=>h
 |.cG _::_,_,⟨cb,co,cz,r,h1,h2,h3⟩=>⟨cb,co,cz,r,hφ _ _ h1,h2,jb.mono hφ hD h3⟩
 |.fn _ _::_,_,⟨fl,cl,r,h1,h2,h3⟩=>⟨fl,cl,r,h1.mono hφ hD,h2,jb.mono hφ hD h3⟩
theorem jB {r:Option Nat}{n:Nat}{P:Program}{f:FuncId}{args:Array Value}{w:World}{R:Ending->World->Prop}(h:CallsIn Fence.wide 0 P f args w R):CallsIn (FW r) n P f args w R:=
 ⟨trivial,λ cs _=>h.2 cs (room_wide _)⟩
section
variable {P:Program}{ce:Ce}{nt:Nat}{r:Option Nat}
def FM (nt:Nat)(dst:Option Tmp)(pd:Pd):Prop:=∀v F φ D (a:Act) cv,FR φ D F.get a.tmps->a.tmps.size=nt->VR φ D v cv ->
 FR φ D (pd.f v F).get (a.put dst cv).tmps/\(a.put dst cv).tmps.size=nt
theorem put_defers (a:Act)(dst:Option Tmp)(cv:Value):(a.put dst cv).defers=a.defers:=by cases dst<;>rfl
theorem BP {dst:Option Tmp}{pd:Pd}(h:fC nt dst=some pd):FM nt dst pd:=by
 intro v F φ D a cv hF hs hv;unfold fC at h
 split at h
 ·injection h with h;subst h;exact⟨hF,hs⟩
 rename_i d
 split at h
 ·rename_i hd;injection h with h;subst h;refine⟨⟨λ t u hu=>?_,hF.2⟩,by simp[Act.put,hs]⟩;dsimp only at hu;rw[Tr.jO _ _ _ _ _ (Nat.lt_succ_self d)]at hu
  by_cases e:t=d
  ·subst e;rw[aw rfl]at hu;injection hu with hu;subst hu;exact⟨cv,by simp[Act.put,hs,hd],hv⟩
  rw[ai e]at hu;obtain⟨x,hx,yK⟩:=hF.1 t u hu;exact⟨x,by simp only[Act.put];rw[Array.getElem?_setIfInBounds_ne (Ne.symm e)];exact hx,yK⟩
 cases h
theorem tJ (H:Hp)(n:Nat)(v:AV)(k:bG):yx (.new v k) H.get n=(H.put n (some k)).get:=by
 funext b;simp only[yx,Hf.set,Tr.get_put]
theorem pM (H:Hp)(n:Nat)(v:AV)(b:Nat)(k:bG):yx (.upd v b k) H.get n=(H.put b (some k)).get:=by
 funext c;simp only[yx,Hf.set,Tr.get_put]
theorem wS (H:Hp)(n:Nat)(v:AV)(b:Nat)(k:bG):yx (.mv v b k) H.get n=((H.put b none).put n (some k)).get:=by
 funext c;simp only[yx,Hf.set,Tr.get_put]
def qz:Op->Bool
 |.defer _=>false
 |_=>true
theorem eN {o:Oper}(h:qz o.op=true)(ro:Option Nat)(ρ:Operand->Value):o.semAt ro ρ=execOp ρ o:=
 Oper.semAt_eq ro ρ o λ c hc=>by rw[hc]at h;cases h
theorem dZ {o:Oper}{e:Eff}(h:eb P o=some e):qz o.op=true:=by
 cases ho:o.op<;>first|rfl|skip
 unfold eb at h;rw[ho]at h;cases h
variable {ops:Array Oper}{rest:List Nat}
theorem aeV {o:Oper}{e:Eff}{pd:Pd}{next:K}(hq:qz o.op=true) (oQ:FM nt o.dst pd)
  (hnext:Sound nt (λ Q a w=>wpOpsIn (FW r) 0 P ops Q rest a w) (next.f ce)){F:Fr}{H:Hp}{n:Nat}{m:List Dm}{ou:lO}{F':Fr}{H':Hp}{n':Nat}{m':List Dm}(hk:(opK pd e next).f ce F H n m=.mk ou F' H' n' m'):
  n<=n'/\e F H n≠.fail/\∀ φ D a w,St nt φ D F H m a w->cU φ n n'->(cU φ n (wv (e F H n) n)->Does P (execOp a.eval o) φ D H.get w n (e F H n))->∀Q:QT,(∀ φ' D' a' w' px,Ext φ D H.get w n φ' D' H'.get w' n'->St nt φ' D' F' H' m' a' w'->IJ φ' D' px ou->Q (j7 px ou) a' w') ->
   o.wpIn (FW r) 0 P a w (wpOpsIn (FW r) 0 P ops Q rest) Q:=by
 have key:∀(v:AV) (H1:Hp) (n1:Nat) (rr:bw),e F H n=rr->rr≠.fail->Xr rr=v->yx rr H.get n=H1.get->wv rr n=n1->n<=n1->next.f ce (pd.f v F) H1 n1 m=.mk ou F' H' n' m' ->
   n<=n'/\e F H n≠.fail/\∀ φ D a w,St nt φ D F H m a w->cU φ n n'->(cU φ n (wv (e F H n) n)->Does P (execOp a.eval o) φ D H.get w n (e F H n))->∀Q:QT,(∀ φ' D' a' w' px,Ext φ D H.get w n φ' D' H'.get w' n'->St nt φ' D' F' H' m' a' w'->IJ φ' D' px ou->Q (j7 px ou) a' w') ->
    o.wpIn (FW r) 0 P a w (wpOpsIn (FW r) 0 P ops Q rest) Q:=by
  intro v H1 n1 rr her hne hv hH hn hle hk1;obtain⟨hn1,hs⟩:=hnext _ _ _ _ _ _ _ _ _ hk1;refine⟨ae,by rw[her];exact hne,λ φ D a w st hf hd Q hQ=>?_⟩;have hd:=hd (by rw[her,hn];exact hf.left hn1);rw[her]at hd;obtain⟨nx,cv,φ1,w1,hrun,hnx,bf,hrel,je⟩:=hd;rw[hH]at bf hrel;rw[hn]at bf;rw[hv]at je;have hfr:=oQ v F φ1 D a cv (st.fr.mono bf.phi (λ _ _ h=>h)) st.sz je;have hst:St nt φ1 D (pd.f v F) H1 m (a.put o.dst cv) w1:=⟨hrel,hfr.1,hfr.2,by rw[put_defers];exact st.Bm.mono bf.phi bf.eS⟩;have hgo:=hs φ1 D (a.put o.dst cv) w1 hst (hf.step bf) Q λ φ' D' a' w' px hx hst' pp=>hQ φ' D' a' w' px (bf.trans hx) hst' pp;refine⟨λ _ _=>trivial,?_⟩;rw[eN hq,hrun]
  cases hnx with
  |value=>exact hgo
  |skip=>exact hgo
 unfold opK at hk;dsimp only at hk
 cases her:e F H n with
 |fail=>rw[her]at hk;cases hk
 |val v=>rw[her]at hk;rw[her]at key;exact key v H n _ rfl ah rfl rfl rfl (aK _) hk
 |new v k=>rw[her]at hk;rw[her]at key;exact key v _ _ _ rfl ah rfl (tJ ..) rfl (Nat.le_succ n) hk
 |upd v b k=>rw[her]at hk;rw[her]at key;exact key v _ _ _ rfl ah rfl (pM ..) rfl (aK _) hk
 |mv v b k=>rw[her]at hk;rw[her]at key;exact key v _ _ _ rfl ah rfl (wS ..) rfl (Nat.le_succ n) hk
theorem Bf {o:Oper}{e:Eff}{pd:Pd}{next:K}(he:cj P o e)(hq:qz o.op=true)(oQ:FM nt o.dst pd)
  (hnext:Sound nt (λ Q a w=>wpOpsIn (FW r) 0 P ops Q rest a w) (next.f ce)):
  Sound nt (λ Q a w=>o.wpIn (FW r) 0 P a w (wpOpsIn (FW r) 0 P ops Q rest) Q) ((opK pd e next).f ce):=by
 intro F H n m ou F' H' n' m' hk;obtain⟨h1,h2,h3⟩:=aeV hq oQ hnext hk;exact⟨h1,λ φ D a w st hf Q hQ=>h3 φ D a w st hf (λ hf'=>he F H n φ D a w st.rel st.fr hf' h2) Q hQ⟩
theorem yh {φ:Ph}{D:Da}:∀(ps:List Nat) (args:List AV) (xs:List Value) (F F1:Fr) (tmps:Array Value),mU nt ps args F=some F1->bW φ D args xs->FR φ D F.get tmps->tmps.size=nt ->
  ps.length=xs.length/\FR φ D F1.get ((ps.zip xs).foldl (λ t (x:Nat×Value)=>t.setIfInBounds x.1 x.2) tmps)/\((ps.zip xs).foldl (λ t (x:Nat×Value)=>t.setIfInBounds x.1 x.2) tmps).size=nt
 |[],[],xs,F,F1,tmps,h,hv,hF,hs=>by
  cases hv
  simp only[mU]at h;injection h with h;subst h;exact⟨rfl,hF,hs⟩
 |[],_::_,_,_,_,_,h,_,_,_=>by simp[mU]at h
 |_::_,[],_,_,_,_,h,_,_,_=>by simp[mU]at h
 |p :: ps,v::vs,xs,F,F1,tmps,h,hv,hF,hs=>by
  cases hv with
  |cons _ x _ xs h1 h2 =>
  simp only[mU]at h
  split at h
  ·rename_i hp;have hp:p<nt:=eF hp
   have hF':FR φ D (F.put p (some v)).get (tmps.setIfInBounds p x):=by
    refine⟨λ t u hu=>?_,hF.2⟩;rw[Tr.get_put]at hu
    split at hu
    ·rename_i e;subst e;injection hu with hu;subst hu;exact⟨x,by simp[hs,hp],h1⟩
    rename_i e;obtain⟨y,hy,hvy⟩:=hF.1 t u hu;exact⟨y,by rw[Array.getElem?_setIfInBounds_ne (Ne.symm e)];exact hy,hvy⟩
   obtain⟨i1,i2,i3⟩:=yh ps vs xs (F.put p (some v)) F1 (tmps.setIfInBounds p x) h h2 hF' (by simp[hs]);exact⟨by simp[i1],by simpa using i2,by simpa using i3⟩
  cases h
theorem lD (H:Hp)(b:Nat)(k:Option bG):Hf.set H.get b k=(H.put b k).get:=by funext c;simp only[Hf.set,Tr.get_put]
theorem mT {φ D}{H:Hp}{w:World}{n q cb co cz:Nat}{rr:Loop}{k:bG}(hr:Rel φ D H.get w)(hq:H.get q≠none)(hp:φ q=some (cb,co,cz))
  (hk:jc φ D (Go.World.putObj w cb (.loop rr)) (cb,co,cz) k):Rel φ D (H.put q (some k)).get (Go.World.putObj w cb (.loop rr))/\Ext φ D H.get w n φ D (H.put q (some k)).get (Go.World.putObj w cb (.loop rr)) n:=by
 have:=Oy (n:=n) hr hq hp (Go.World.putObj w cb (.loop rr)) (λ c hc=>Go.World.putObj_heap_other hc) Go.World.putObj_size rfl rfl hk;rw[lD]at this;exact this
theorem xz {q : Nat}{vs:List AV}{H:Hp}{n:Nat}{v:AV}{H':Hp}{n':Nat}(hce:iI P ce) (hk:Gp ce q vs H n=.mk v H' n'):
  n<=n'/\∀(o:Oper) (c:Call) φ D (a:Act) w x,o.op=.call c->c.callee=.value x->VR φ D (.jd q) (a.eval x)->bW φ D vs (c.args.toList.map a.eval)->Rel φ D H.get w->cU φ n n'->∀(K:Act->World->Prop) (Q:QT),
   (∀ φ' D' w' cv,Ext φ D H.get w n φ' D' H'.get w' n'->Rel φ' D' H'.get w'->VR φ' D' v cv->K (a.put o.dst cv) w')->o.wpIn (FW r) 0 P a w K Q:=by
 unfold Gp at hk
 split at hk
 ·rename_i st0 j0 nt0 F0 ps ca cb' hq0
  split at hk
  ·rename_i F1 hF1
   split at hk
   ·rename_i F2 H2 n2 hc1;obtain⟨hn1,hs1⟩:=hce.code _ _ _ _ _ _ _ _ _ _ hc1
    split at hk
    ·rename_i j2 Bl G2 ps2 a2 b2 hq2
     split at hk
     ·rename_i j F3 H3 n3 m3 hc2;obtain⟨hn2,hs2⟩:=hce.code _ _ _ _ _ _ _ _ _ _ hc2
      split at hk
      ·rename_i st3 j3 IY G3 vJ a3 b3 hq3
       have fin:∀(b:Bool) (st:LoopState) (jj:lO),iC.mk (.bool b) (H3.put q (some (.loop st jj IY G3 vJ a3 b3))) n3=.mk v H' n'->(gY jj).isNone=b->(st=if b then .ready else .done)->j=jj->(∀v,jj≠.panic v) ->
         n<=n'/\∀(o:Oper) (c:Call) φ D (a:Act) w x,o.op=.call c->c.callee=.value x->VR φ D (.jd q) (a.eval x)->bW φ D vs (c.args.toList.map a.eval)->Rel φ D H.get w->cU φ n n'->∀(K:Act->World->Prop) (Q:QT),
          (∀ φ' D' w' cv,Ext φ D H.get w n φ' D' H'.get w' n'->Rel φ' D' H'.get w'->VR φ' D' v cv->K (a.put o.dst cv) w')->o.wpIn (FW r) 0 P a w K Q:=by
        intro b st jj hk1 hb hst hjj hnp;injection hk1 with e1 e2 e3;subst e1 e2 e3;refine⟨ae,λ o c φ D a w x ho hc hyl hargs hrel hf K Q hK=>?_⟩;refine⟨λ _ _=>trivial,?_⟩;generalize hxv:a.eval x=xv at hyl
        cases hyl with
        |jd _ cb co cz hp =>
        obtain⟨_,rr,hr1,hr2,hr3,hr4,hr5,hr6,hr7,hr8⟩:=hrel.block hq0 hp;have hr1:w.heap[cb]?=some (.loop rr):=hr1;obtain⟨p1,p2,p3⟩:=yh ps vs _ F0 F1 rr.tmps hF1 hargs hr5 hr4
        have hsz:(c.args.map a.eval).size=rr.params.size:=by
         have e1:rr.params.size=ps.length:=by rw[<-hr6];simp
         rw[e1,p1];simp
        have hrun:(o.semAt (FW r).round a.eval).run P w=.ok (.round cb rr.fn ((rr.params.zip (c.args.map a.eval)).foldl (λ tmps (t,a)=>tmps.setIfInBounds t a) rr.tmps) rr.assign rr.body) w:=by
         rw[eN (by rw[ho];rfl)];have hy:=run_yield (P:=P) (args:=(#[]:Array Value)++Array.map a.eval c.args) hr1 (by simpa using hsz);simp only[execOp,ho,resolve,hc,hxv,Deferred.ofValue,cL,dB,cy,invoke,hy];simp
        have hfold:(rr.params.zip (c.args.map a.eval)).foldl (λ tmps (t,a)=>tmps.setIfInBounds t a) rr.tmps=((ps.zip (c.args.toList.map a.eval)).foldl (λ t (x:Nat×Value)=>t.setIfInBounds x.1 x.2) rr.tmps):=by
         rw[<-Array.foldl_toList,Array.toList_zip,hr6];simp
        rw[hrun,hfold,hr7,hr8];refine⟨λ h=>by simp[FW]at h,roundIn_of_wpIn trivial ?_⟩;refine hs1 cb φ D {tmps:=_,defers:=[]} w ⟨hrel,p2,p3,rfl⟩ (hf.left ae) _ λ φ1 D1 a1 w1 px e1 st1 pp=>?_;have hp1:=e1.phi _ _ hp;obtain⟨hlt2,r2,JI,ak9,ak8,ak7,ak6,ak5,ak4,ak3⟩:=st1.rel.block hq2 hp1;have JI:w1.heap[cb]?=some (.loop r2):=JI;have hlt2:cb<w1.heap.size:=hlt2;refine⟨_,run_beginRound (P:=P) JI ak9,?_⟩;obtain⟨k1,k2⟩:=mT (n:=n2) (rr:={r2 with state:=.busy}) (k:=.loop .busy j2 Bl G2 ps2 a2 b2) st1.rel (by rw[hq2];simp) hp1 ⟨_,Go.World.putObj_heap_same hlt2,rfl,ak8,ak7,ak6,ak5,ak4,ak3⟩;have f2:=(hf.step e1).step k2;refine hs2 cb φ1 D1 a1 _ ⟨k1,st1.fr,st1.sz,?_⟩ f2 _ λ φ2 D2 a2' w2 px e2 st2 pp=>?_
        ·exact st1.Bm
        have hp2:=e2.phi _ _ hp1;obtain⟨hlt3,r3,DC,awa,av',Yk,Yj,Yi,Yh,Yg⟩:=st2.rel.block hq3 hp2;have DC:w2.heap[cb]?=some (.loop r3):=DC;have hlt3:cb<w2.heap.size:=hlt3;have hend:=run_endRound (P:=P) (gY jj) DC;rw[hb,<-hst]at hend;obtain⟨k3,k4⟩:=mT (n:=n3) (rr:={r3 with state:=st,pending:=gY jj}) (k:=.loop st jj IY G3 vJ a3 b3) st2.rel (by rw[hq3];simp) hp2 ⟨_,Go.World.putObj_heap_same hlt3,rfl,rfl,Yk,Yj,Yi,Yh,Yg⟩;have uX:=((e1.trans k2).trans e2).trans k4;have hgo:=hK φ2 D2 _ (.bool b) uX k3 (.bool _);subst hjj
        cases j with
        |normal=>exact⟨_,_,hend,hgo⟩
        |exit i=>exact⟨_,_,hend,hgo⟩
        |ret=>exact⟨_,_,hend,hgo⟩
        |panic v=>exact ar rfl (hnp v)
       split at hk
       ·exact fin true .ready .normal hk rfl rfl rfl (λ _ e=>by cases e)
       ·exact fin false .done (.exit _) hk rfl rfl rfl (λ _ e=>by cases e)
       ·exact fin false .done .ret hk rfl rfl rfl (λ _ e=>by cases e)
       cases hk
      cases hk
     cases hk
    cases hk
   cases hk
  cases hk
 cases hk
structure uw (P:Program)(c:Call)(g:G):Prop where
 fn:∀(o:Oper) (a:Act) (F:Fr) (φ:Ph) (D:Da) (f:FuncId) (first cap:List AV),o.op=.call c->FR φ D F.get a.tmps->g.f F=some (.fn (.func f) first cap)->∃fl cl,bW φ D first fl/\bW φ D cap cl /\
  ∀ fn b w, P.funcs[f]? = some fn → (fn.name == "runtime.NumGoroutine") = false → fn.body = some b → (execOp a.eval o).run P w = .ok (.enter f ⟨fl ++ (c.args.toList.map a.eval ++ cl)⟩) w
 jd:∀(a:Act) (F:Fr) (φ:Ph) (D:Da) (q:Nat),FR φ D F.get a.tmps->g.f F=some (.jd q)->∃x,c.callee=.value x/\VR φ D (.jd q) (a.eval x)
theorem uw.value {c:Call}{x:Operand}{g:G}(hc:c.callee=.value x)(hg:dD x=some g):uw P c g:=by
 refine⟨λ o a F φ D f first cap ho hF hgv=>?_,λ a F φ D q hF hgv=>⟨x,hc,aW hg F φ D a hF _ hgv⟩⟩;have hgr:=aW hg F φ D a hF _ hgv
 cases hxv:a.eval x with
 |func ff fx cx =>
  rw[hxv]at hgr
  cases hgr with
  |fn _ _ _ fl cl h1 h2 =>
  refine⟨fl,cl,h1,h2,λ fn b w hfn hname hb=>?_⟩;have harr:(⟨fl⟩:Array Value)++Array.map a.eval c.args++⟨cl⟩=⟨fl++(c.args.toList.map a.eval++cl)⟩:=by apply Array.ext';simp
  simp only[execOp,ho,resolve,hc,hxv,Deferred.ofValue,cL,dB,cy,invoke,callFunc,run_program,hfn,hname,hb,harr];simp
 |_=>rw[hxv]at hgr;cases hgr
theorem Uk {t : TypeId}{name:String}{f:FuncId}{v:Value}{w:World}{k:Nat}(h:XK P t name=some f):(method (k+1) t v name).run P w=.ok (f,v) w:=by
 unfold XK at h
 split at h
 ·rename_i ti hi
  split at h
  ·rename_i m hm
   split at h
   ·rename_i hp
    split at h
    ·rename_i f' pr hf;unfold method;simp only[cL,run_typeInfo w hi,cy,hm,dB,hp,follow,hf]
     split at h
     ·rename_i e hu
      cases pr with
      |false=>simp at h
      |true =>
       have h:some f'=some f:=h;injection h with h;subst h;unfold receiverAt;simp[run_underlying hu,Place.get]
     ·rename_i d hu hd
      cases pr with
      |true=>cases h
      |false =>
       have h:some f'=some f:=h;injection h with h;subst h;unfold receiverAt;simp only[cL,run_underlying hd,cy]
       cases d<;>first|(simp[Place.get];done)|(exact ar rfl (hu _))
     cases h
    cases h
   cases h
  cases h
 cases h
theorem uw.invoke {c:Call}{x:Operand}{name:String}{g:G}(hc:c.callee=.invoke x name) (hg:dD x=some g):uw P c (akL P name g):=by
 refine⟨λ o a F φ D f first cap ho hF hgv=>?_,λ a F φ D q hF hgv=>?_⟩
 ·simp only[akL]at hgv
  split at hgv
  ·rename_i t v hgx
   split at hgv
   ·rename_i f' hm;injection hgv with hgv;injection hgv with e1 e2 e3;injection e1 with e1;subst e1 e2 e3;have hgr:=aW hg F φ D a hF _ hgx;generalize hxv:a.eval x=xv at hgr
    cases hgr with
    |oO _ _ y hy =>
    refine⟨[y],[],.cons _ _ _ _ hy .nil,.nil,λ fn b w hfn hname hb=>?_⟩
    have hrun:(method (P.types.size+Made.depth) t y name).run P w=.ok (f',y) w:=by
     rw[show P.types.size+Made.depth=(P.types.size+99)+1 from rfl];exact Uk hm
    have harr:(#[Value.iface t y]++Array.map a.eval c.args)[0]?=some (.iface t y):=by
     rw[Array.getElem?_append_left (Nat.zero_lt_one)];rfl
    have aqo:#[y]++(#[Value.iface t y]++Array.map a.eval c.args).extract 1 (#[Value.iface t y]++Array.map a.eval c.args).size=⟨y::(c.args.toList.map a.eval)⟩:=by
     apply Array.ext';simp[extract];exact fN ah
    simp only[execOp,ho,resolve,hc,hxv,cL,dB,cy,Go.invoke,harr,callMethod,run_program,hrun,aqo,callFunc,hfn,hname,hb];simp
   cases hgv
  cases hgv
 simp only[akL]at hgv
 split at hgv
 ·split at hgv<;>cases hgv
 cases hgv
theorem Ie {o:Oper}{c:Call}{pd:Pd}{g:G}{as:List G}{next:K}(ho:o.op=.call c) (hg:uw P c g) (has:mn c.args.toList=some as) (hce:iI P ce) (oQ:FM nt o.dst pd)
  (hnext:Sound nt (λ Q a w=>wpOpsIn (FW r) 0 P ops Q rest a w) (next.f ce)):
  Sound nt (λ Q a w=>o.wpIn (FW r) 0 P a w (wpOpsIn (FW r) 0 P ops Q rest) Q) ((BW pd g as next).f ce):=by
 intro F H n m ou F' H' n' m' hk;unfold BW at hk;dsimp only at hk
 cases hgv:g.f F with
 |none=>rw[hgv]at hk;cases hk
 |some fv =>
  rw[hgv]at hk
  split at hk
  ·rename_i f first cap hfv;injection hfv with hfv;subst hfv
   cases hev:evs F as with
   |none=>rw[hev]at hk;cases hk
   |some vs =>
    rw[hev]at hk;dsimp only at hk
    cases hcall:ce.call f (first++(vs++cap)) H n with
    |fail=>rw[hcall]at hk;cases hk
    |wu v H1 n1 =>
     rw[hcall]at hk;cases hk;obtain⟨⟨fn,b,hfn,hb,hname⟩,hn1,hcs⟩:=hce.wu _ _ _ _ _ _ _ hcall;refine⟨hn1,λ φ D a w st hf Q hQ=>?_⟩;refine⟨λ _ _=>trivial,?_⟩;obtain⟨fl,cl,h1,h2,hrun0⟩:=hg.fn o a F φ D f first cap ho st.fr hgv;have h3:=dT has F φ D a st.fr vs hev
     have hrun:(o.semAt (FW r).round a.eval).run P w=.ok (.enter f ⟨fl++(c.args.toList.map a.eval++cl)⟩) w:=by
      rw[eN (by rw[ho];rfl)];exact hrun0 fn b w hfn hname hb
     rw[hrun];refine⟨λ h=>by simp[FW]at h,jB (hcs φ D w _ st.rel (h1.append (h3.append h2)) hf _ λ φ1 D1 w1 cv bf hrel je=>?_)⟩;exact hQ φ1 D1 a w1 cv bf ⟨hrel,st.fr.mono bf.phi bf.eS,st.sz,st.Bm.mono bf.phi bf.eS⟩ je
    |mk v H1 n1 =>
     rw[hcall]at hk;dsimp only at hk;obtain⟨⟨fn,b,hfn,hb,hname⟩,hn1,hcs⟩:=hce.call _ _ _ _ _ _ _ hcall;obtain⟨hn2,hs⟩:=hnext _ _ _ _ _ _ _ _ _ hk;refine⟨ae,λ φ D a w st hf Q hQ=>?_⟩;refine⟨λ _ _=>trivial,?_⟩;obtain⟨fl,cl,h1,h2,hrun0⟩:=hg.fn o a F φ D f first cap ho st.fr hgv;have h3:=dT has F φ D a st.fr vs hev
     have hrun:(o.semAt (FW r).round a.eval).run P w=.ok (.enter f ⟨fl++(c.args.toList.map a.eval++cl)⟩) w:=by
      rw[eN (by rw[ho];rfl)];exact hrun0 fn b w hfn hname hb
     rw[hrun];refine⟨λ h=>by simp[FW]at h,jB (hcs φ D w _ st.rel (h1.append (h3.append h2)) (hf.left hn2) _ λ φ1 D1 w1 cv bf hrel je=>?_)⟩;have hfr:=oQ v F φ1 D1 a cv (st.fr.mono bf.phi bf.eS) st.sz je;exact hs φ1 D1 (a.put o.dst cv) w1 ⟨hrel,hfr.1,hfr.2,by rw[put_defers];exact st.Bm.mono bf.phi bf.eS⟩ (hf.step bf) Q λ φ' D' a' w' px hx hst' pp=>hQ φ' D' a' w' px (bf.trans hx) hst' pp
  ·rename_i q hfv;injection hfv with hfv;subst hfv
   cases hev:evs F as with
   |none=>rw[hev]at hk;cases hk
   |some vs =>
    rw[hev]at hk;dsimp only at hk
    cases hy:Gp ce q vs H n with
    |fail=>rw[hy]at hk;cases hk
    |wu v H1 n1=>rw[hy]at hk;cases hk
    |mk v H1 n1 =>
     rw[hy]at hk;dsimp only at hk;obtain⟨hn1,hcs⟩:=xz (r:=r) hce hy;obtain⟨hn2,hs⟩:=hnext _ _ _ _ _ _ _ _ _ hk;refine⟨ae,λ φ D a w st hf Q hQ=>?_⟩;obtain⟨x,hc,hyl⟩:=hg.jd a F φ D q st.fr hgv;refine hcs o c φ D a w x ho hc hyl (dT has F φ D a st.fr vs hev) st.rel (hf.left hn2) _ Q λ φ1 D1 w1 cv bf hrel je=>?_;have hfr:=oQ v F φ1 D1 a cv (st.fr.mono bf.phi bf.eS) st.sz je;exact hs φ1 D1 (a.put o.dst cv) w1 ⟨hrel,hfr.1,hfr.2,by rw[put_defers];exact st.Bm.mono bf.phi bf.eS⟩ (hf.step bf) Q λ φ' D' a' w' px hx hst' pp=>hQ φ' D' a' w' px (bf.trans hx) hst' pp
  cases hk
theorem CN {φ:Ph}{D:Da}{v:AV}{b:Bool}(h:VR φ D v (.bool b)):v=.bool b:=by
 cases h with
 |bool=>rfl
 |aV _ ha=>cases ha
end
end Go.Abs
namespace Go.Abs
open List
def over (X X' h:Hf):Hf:=λ b=>match X' b with
  | some k=>some k
  | none=>match X b with
    | some _=>none
    | none=>h b
def Sub (X h:Hf):Prop:=∀b k,X b=some k->h b=some k
theorem Bc {X X' h:Hf}{b:Nat}{k:bG}(h1:over X X' h b=some k):X' b=some k∨(X' b=none/\X b=none/\h b=some k):=by
  unfold over at h1
  cases e1:X' b with
  | some k'=>rw[e1]at h1;exact .inl h1
  | none =>
    rw[e1]at h1
    cases e2:X b with
    | some k'=>rw[e2]at h1;cases h1
    | none=>rw[e2]at h1;exact .inr ⟨rfl,rfl,h1⟩
theorem tI {X X' h:Hf}{b:Nat}(h1:over X X' h b≠none):X' b≠none∨(X' b=none/\X b=none/\h b≠none):=by
  cases e:over X X' h b with
  | none=>exact ar e h1
  | some k => rcases Bc e with h | ⟨a,b,c⟩
              · exact .inl (by rw[h];simp)
              · exact .inr ⟨a,b,by rw[c];simp⟩
theorem yu {X X' h:Hf}:Sub X' (over X X' h):=λ b k hb=>by unfold over;rw[hb]
theorem uM {X X' h:Hf}{b:Nat}(h1:X b=none)(h2:X' b=none):over X X' h b=h b:=by unfold over;rw[h1,h2]
theorem Bd {X h:Hf}(hs:Sub X h):over X X h=h:=by
  funext b
  unfold over
  cases e:X b with
  | none=>rfl
  | some k=>exact(hs b k e).symm
theorem tB {φ D h X w}(hr:Rel φ D h w)(hs:Sub X h):Rel φ D X w:=by
  have ne:∀b,X b≠none->h b≠none:=λ b hb=>by
    cases e:X b with
    | none=>exact ar e hb
    | some k=>rw[hs b k e];simp
  exact⟨λ b k hb=>hr.blk b k (hs b k hb),λ b c p q hb hc=>hr.inj b c p q (ne b hb) (ne c hc),λ b p hb=>hr.sep b p (ne b hb),hr.eS⟩
theorem sG {φ D h w lo hi X X' φ' D' w'}(hr:Rel φ D h w) (hX:Sub X h) (e:Ext φ D X w lo φ' D' X' w' hi) (r:Rel φ' D' X' w'):
    Rel φ' D' (over X X' h) w'/\Ext φ D h w lo φ' D' (over X X' h) w' hi:=by
  have ne:∀b,X b≠none->h b≠none:=λ b hb=>by
    cases e:X b with
    | none=>exact ar e hb
    | some k=>rw[hX b k e];simp
  have apart:∀b p c q,X b=none->h b≠none->φ' b=some p->X' c≠none->φ' c=some q->p.1≠q.1:=by
    intro b p c q hXb hb hp hc hq eq
    cases hbk:h b with
    | none=>exact ar hbk hb
    | some k =>
      obtain⟨p',hp',hlt,_⟩:=hr.blk b k hbk
      have:=e.phi _ _ hp'
      rw[hp]at this;injection this with this;subst this
      rcases e.live c q hc hq with h1 | ⟨b0,p0,x,y,z⟩
      · omega
      · have:=hr.inj b0 b p0 p (ne b0 x) hb y hp' ae
        subst this;exact x hXb
  refine⟨⟨?_,?_,?_,r.eS⟩,⟨e.le,e.phi,e.new,e.eS,e.size,?_,?_,?_,?_,e.os,e.out⟩⟩
  · intro b k hb
    rcases Bc hb with h1 | ⟨h1,h2,h3⟩
    · exact r.blk b k h1
    · obtain⟨p,hp,hlt,hk⟩:=hr.blk b k h3
      refine⟨p,e.phi _ _ hp,Nat.lt_of_lt_of_le hlt e.size,hk.mono e.phi e.eS (e.keep _ hlt λ c q hc hq eq=>?_)⟩
      have:=hr.inj c b q p (ne c hc) (by rw[h3];simp) hq hp eq
      subst this;exact hc h2
  · intro b c p q hb hc hp hq eq
    rcases tI hb with h1 | ⟨h1,h2,h3⟩<;>rcases tI hc with k1 | ⟨k1,k2,k3⟩
    · exact r.inj b c p q h1 k1 hp hq eq
    · exact ar eq.symm (apart c q b p k2 k3 hq h1 hp)
    · exact ar eq (apart b p c q h2 h3 hp k1 hq)
    · cases hbk:h b with
      | none=>exact ar hbk h3
      | some kb=>cases hck:h c with
        | none=>exact ar hck k3
        | some kc =>
          obtain⟨p',hp',_⟩:=hr.blk b kb hbk
          obtain⟨q',hq',_⟩:=hr.blk c kc hck
          have e1:=e.phi _ _ hp'
          have e2:=e.phi _ _ hq'
          rw[hp]at e1;injection e1 with e1;subst e1
          rw[hq]at e2;injection e2 with e2;subst e2
          exact hr.inj b c p q h3 k3 hp' hq' eq
  · intro b p hb hp
    rcases tI hb with h1 | ⟨h1,h2,h3⟩
    · exact r.sep b p h1 hp
    · cases hD:D' p.1 with
      | none=>rfl
      | some x =>
        exfalso
        cases hbk:h b with
        | none=>exact ar hbk h3
        | some kb =>
          obtain⟨p',hp',hlt,_⟩:=hr.blk b kb hbk
          have e1:=e.phi _ _ hp'
          rw[hp]at e1;injection e1 with e1;subst e1
          rcases e.kR p.1 (by rw[hD];simp)with h4 | h4 | ⟨b0,p0,x0,y0,z0⟩
          · exact h4 (hr.sep b p h3 hp')
          · omega
          · have:=hr.inj b0 b p0 p (ne b0 x0) h3 y0 hp' z0
            subst this;exact x0 h2
  · exact λ c hc hn=>e.keep c hc λ b p hb=>hn b p (ne b hb)
  · intro b p hb hp
    rcases tI hb with h1 | ⟨h1,h2,h3⟩
    · rcases e.live b p h1 hp with h4 | ⟨b0,p0,x,y,z⟩
      · exact .inl h4
      · exact .inr ⟨b0,p0,ne b0 x,y,z⟩
    · cases hbk:h b with
      | none=>exact ar hbk h3
      | some kb =>
        obtain⟨p',hp',hlt,_⟩:=hr.blk b kb hbk
        have e1:=e.phi _ _ hp'
        rw[hp]at e1;injection e1 with e1;subst e1
        exact .inr ⟨b,p,h3,hp',rfl⟩
  · intro c hc
    rcases e.kR c hc with h1 | h1 | ⟨b0,p0,x,y,z⟩
    · exact .inl h1
    · exact .inr (.inl h1)
    · exact .inr (.inr ⟨b0,p0,ne b0 x,y,z⟩)
  · intro b hb
    rcases tI hb with h1 | ⟨h1,h2,h3⟩
    · rcases e.hid b h1 with h4 | h4
      · exact .inl (ne b h4)
      · exact .inr h4
    · exact .inl h3
section
variable {P:Program}{ce:Ce}{nt:Nat}{r:Option Nat}{ops:Array Oper}
def mG (P:Program) (r:Option Nat) (ops:Array Oper) (i:Nat) (dst:Option Tmp) (Fs:Fr) (X X':Hf) (v:AV) (lo hi:Nat):Prop:=
  lo<=hi/\∀ φ D h (a:Act) w,Rel φ D h w->Sub X h->FR φ D Fs.get a.tmps->cU φ lo hi->∀(K:Act->World->Prop) (Q:QT),
    (∀ φ' D' w' cv,Ext φ D h w lo φ' D' (over X X' h) w' hi->Rel φ' D' (over X X' h) w'->VR φ' D' v cv->K (a.put dst cv) w')->wpOpIn (FW r) 0 P ops Q i K a w
inductive qb (P:Program)(ops:Array Oper)(o:Oper)(Fs:Fr):Bool->Prop
  | free:o.guard=none->qb P ops o Fs true
  | tells (j d:Nat) (b c:Bool):o.guard=some (j,b)->(ops[j]?).bind (·.dst)=some d->Fs.get d=some (.bool c)->qb P ops o Fs (c == b)
  | other (j d:Nat) (b:Bool) (v:AV):o.guard=some (j,b)->(ops[j]?).bind (·.dst)=some d->Fs.get d=some v->(∀c,v≠.bool c)->qb P ops o Fs false
theorem qp {o:Oper}{Fs:Fr}{b:Bool}(h:qb P ops o Fs b){φ:Ph}{D:Da}{tmps:Array Value}(hF:FR φ D Fs.get tmps):Region.wanted o (yielded ops tmps)=b:=by
  cases h with
  | free h=>simp[Region.wanted,h]
  | tells j d b c h1 h2 h3 =>
    obtain⟨x,hx,hv⟩:=hF.1 d _ h3
    cases hv with
    | bool=>simp only[Region.wanted,h1,yielded,h2,Option.bind_some,hx];cases b<;>cases c<;>rfl
  | other j d b v h1 h2 h3 h4 =>
    obtain⟨x,hx,hv⟩:=hF.1 d _ h3
    simp only[Region.wanted,h1,yielded,h2,Option.bind_some,hx]
    cases x<;>first | rfl | exact ar (CN hv) (h4 _)
theorem step_skip {i:Nat}{o:Oper}{Fs:Fr}(ho:ops[i]?=some o)(hw:qb P ops o Fs false)(X:Hf)(n:Nat):mG P r ops i o.dst Fs X X (.bo []) n n:=by
  refine⟨aK _,λ φ D h a w hr hX hF hf K Q hK=>?_⟩
  have hwr:=qp hw hF
  unfold wpOpIn
  rw[Bd hX]at hK
  simp only[ho,hwr]
  exact⟨λ _ _=>trivial,hK φ D w undef (Ext.refl ..) hr (.bo _ _ .nil)⟩
theorem eM {i:Nat}{o:Oper}{Fs:Fr}{e:Eff}{H:Hp}{n:Nat}{rr:bw}(ho:ops[i]?=some o)(hw:qb P ops o Fs true)(he:cj P o e)(hq:qz o.op=true)(hrr:e Fs H n=rr)(hne:rr≠.fail):
    mG P r ops i o.dst Fs H.get (yx rr H.get n) (Xr rr) n (wv rr n):=by
  refine⟨by cases rr<;>simp[wv],λ φ D h a w hr hX hF hf K Q hK=>?_⟩
  have hwr:=qp hw hF
  obtain⟨nx,cv,φ',w',hrun,hnx,bf,hrel,je⟩:=by
    have:=he Fs H n φ D a w (tB hr hX) hF (by rw[hrr];exact hf) (by rw[hrr];exact hne)
    rw[hrr]at this;exact this
  obtain⟨h1,h2⟩:=sG hr hX bf hrel
  unfold wpOpIn
  simp only[ho,hwr,if_true]
  refine⟨λ _ _=>trivial,?_⟩
  rw[eN hq,hrun]
  cases hnx with
  | value=>exact hK φ' D w' _ h2 h1 je
  | skip=>exact hK φ' D w' _ h2 h1 je
theorem TD {i:Nat}{o:Oper}{Fs:Fr}{c:Call}{g:G}{as:List G}{f:FuncId}{first cap vs:List AV}{H H':Hp}{n n':Nat}{v:AV}(ho:ops[i]?=some o)(hw:qb P ops o Fs true)(hc:o.op=.call c)(hg:uw P c g)(has:mn c.args.toList=some as)
    (hce:iI P ce)(hgv:g.f Fs=some (.fn (.func f) first cap))(hev:evs Fs as=some vs)(hcall:ce.call f (first++(vs++cap)) H n=.mk v H' n'):mG P r ops i o.dst Fs H.get H'.get v n n':=by
  obtain⟨⟨fn,b,hfn,hb,hname⟩,hn,hcs⟩:=hce.call _ _ _ _ _ _ _ hcall
  refine⟨hn,λ φ D h a w hr hX hF hf K Q hK=>?_⟩
  have hwr:=qp hw hF
  unfold wpOpIn
  simp only[ho,hwr,if_true]
  refine⟨λ _ _=>trivial,?_⟩
  obtain⟨fl,cl,h1,h2,hrun0⟩:=hg.fn o a Fs φ D f first cap hc hF hgv
  have h3:=dT has Fs φ D a hF vs hev
  have hrun:(o.semAt (FW r).round a.eval).run P w=.ok (.enter f ⟨fl++(c.args.toList.map a.eval++cl)⟩) w:=by
    rw[eN (by rw[hc];rfl)]
    exact hrun0 fn b w hfn hname hb
  rw[hrun]
  refine⟨λ h=>by simp[FW]at h,jB (hcs φ D w _ (tB hr hX) (h1.append (h3.append h2)) hf _ λ φ1 D1 w1 cv bf hrel je=>?_)⟩
  obtain⟨k1,k2⟩:=sG hr hX bf hrel
  exact hK φ1 D1 w1 cv k2 k1 je
theorem Jf {i:Nat}{o:Oper}{Fs:Fr}{c:Call}{g:G}{as:List G}{q:Nat}{vs:List AV}{H H':Hp}{n n':Nat}{v:AV}(ho:ops[i]?=some o)(hw:qb P ops o Fs true)(hc:o.op=.call c)(hg:uw P c g)(has:mn c.args.toList=some as)
    (hce:iI P ce)(hgv:g.f Fs=some (.jd q))(hev:evs Fs as=some vs)(hy:Gp ce q vs H n=.mk v H' n'):mG P r ops i o.dst Fs H.get H'.get v n n':=by
  obtain⟨hn,hcs⟩:=xz (r:=r) hce hy
  refine⟨hn,λ φ D h a w hr hX hF hf K Q hK=>?_⟩
  have hwr:=qp hw hF
  unfold wpOpIn
  simp only[ho,hwr,if_true]
  obtain⟨x,hcx,hyl⟩:=hg.jd a Fs φ D q hF hgv
  refine hcs o c φ D a w x hc hcx hyl (dT has Fs φ D a hF vs hev) (tB hr hX) hf K Q λ φ1 D1 w1 cv bf hrel je=>?_
  obtain⟨k1,k2⟩:=sG hr hX bf hrel
  exact hK φ1 D1 w1 cv k2 k1 je
end
end Go.Abs
namespace Go.Abs
open List
theorem AE (m i:Nat):tb m i=m.testBit i:=by
 unfold tb;show Nat.beq ((m >>> i) &&& 1) 1=_;rw[Nat.testBit_eq_decide_div_mod_eq];rw[show (m >>> i) &&& 1=m / 2 ^ i % 2 by rw[Nat.shiftRight_eq_div_pow,Nat.and_one_is_mod]]
 cases h:Nat.beq (m / 2 ^ i % 2) 1 with
 |true=>have:=cT h;simp[this]
 |false =>
  have:m / 2 ^ i % 2≠1:=λ e=>by rw[e]at h;simp at h
  simp[this]
theorem uE (a b p:Nat):tb (Nat.lor a b) p=(tb a p||tb b p):=by
 rw[AE,AE,AE];exact Nat.testBit_or a b p
theorem xK (x p:Nat):tb (Nat.shiftLeft 1 x) p=decide (x=p):=by
 rw[AE];show (1 <<< x).testBit p=_;rw[Nat.one_shiftLeft,Nat.testBit_two_pow]
theorem CP (p:Nat):tb 0 p=false:=by rw[AE];exact Nat.zero_testBit p
theorem ajE (n p:Nat):tb (Nat.sub (Nat.shiftLeft 1 n) 1) p=decide (p<n):=by
 rw[AE];show ((1 <<< n) - 1).testBit p=_;rw[Nat.one_shiftLeft,Nat.testBit_two_pow_sub_one]
structure Rec where
 i:Nat
 v:AV
 lo:Nat
 hi:Nat
 ph:Nat
 e:Nat
 dst:Option Tmp
 Fs:Fr
 blk:Option bG
 qG:Bool
 X:Hf
 hf:Bool
 jA:Option (Nat×bG×bG)
def wy:Hf:=λ _=>none
section
variable {P:Program}{ce:Ce}{nt:Nat}{r:Option Nat}{ops:Array Oper}
structure rF (P:Program)(r:Option Nat)(ops:Array Oper)(A:Nat->Hp)(j:Nat)(c:Rec):Prop where
 val:c.qG=false->c.blk=none->c.jA=none->c.hi=c.lo/\∀q,c.e<=q->q<=c.ph->∃X,(c.hf=true->X=wy)/\Sub X (A q).get/\mG P r ops c.i c.dst c.Fs X X c.v c.lo c.lo
 new:c.qG=false->∀k,c.blk=some k->c.hi=c.lo+1/\mG P r ops c.i c.dst c.Fs wy (wy.set c.lo (some k)) c.v c.lo (c.lo+1)/\∀q,q<=c.ph->(A q).get c.lo=none
 YA:∀b x y,c.jA=some (b,x,y)->c.qG=false/\c.blk=none/\c.hi=c.lo/\(A c.ph).get b=some x/\mG P r ops c.i c.dst c.Fs (wy.set b (some x)) (wy.set b (some y)) c.v c.lo c.lo
 mod:c.qG=true->c.blk=none/\c.ph<j/\mG P r ops c.i c.dst c.Fs c.X (A (c.ph+1)).get c.v c.lo c.hi
structure Good (P:Program)(r:Option Nat)(nt:Nat)(ops:Array Oper)(T D:Tr Nat)(F0:Fr)(n0:Nat)(A:Nat->Hp)(done:List Rec)(j:Nat)(F:Fr)(H:Hp)(n:Nat)(bL grp bad:List Nat)(seen:Nat):Prop where
 nle:n0<=n
 ok:∀c∈done,rF P r ops A j c
 nD:∀c∈done,n0<=c.lo/\c.lo<=c.hi/\c.hi<=n
 pw:done.Pairwise (λ a b=>a.hi<=b.lo)
 op:∀c∈done,∃o,ops[c.i]?=some o/\c.dst=o.dst/\∀d,o.dst=some d->d<nt
 fs:∀c∈done,∀t u,c.Fs.get t=some u->(F0.get t=some u/\∀p,D.get t=some p->tb (dP T p) c.i=true)∨∃s∈done,s.dst=some t/\s.v=u/\tb (dP T c.i) s.i=true
 ft:∀t u,F.get t=some u->(F0.get t=some u/\∀s∈done,s.dst≠some t)∨∃s∈done,s.dst=some t/\s.v=u
 hg:∀b k,H.get b=some k->((A j).get b=some k/\∀s∈done,∀x y,s.jA≠some (b,x,y))∨(∃s∈done,s.qG=false/\s.blk=some k/\s.lo=b/\s.ph=j)∨∃s∈done,∃x,s.jA=some (b,x,k)
 mx:∀c∈done,c.qG=true->∀b k,c.X b=some k->(A c.ph).get b=some k∨∃s∈done,s.qG=false/\s.blk=some k/\s.lo=b/\s.ph=c.ph/\tb (dP T c.i) s.i=true
 ph:∀c∈done,c.ph<=j
 gr:∀c∈done,c.qG=false->(c.ph<j->∃s∈done,s.qG=true/\s.ph=c.ph/\tb (dP T s.i) c.i=true)/\(c.ph=j->c.i∈grp)
 ch:∀c∈done,c.qG=true->∀q,c.ph=q+1->∃s∈done,s.qG=true/\s.ph=q/\tb (dP T c.i) s.i=true
 ea:∀c∈done,c.qG=false->∀q,c.e=q+1->∃s∈done,s.qG=true/\s.ph=q/\tb (dP T c.i) s.i=true
 ml:bL.length=j
 md:∀q x,bL[q]?=some x->∃s∈done,s.qG=true/\s.ph+1+q=j/\s.i=x
 uq:∀c∈done,∀s∈done,c.qG=true->s.qG=true->c.ph=s.ph->c=s
 sn:∀c∈done,tb seen c.i=true
 nh:∀c∈done,c.qG=false->c.blk=none->c.jA=none->c.ph=j->c.i∈bad∨c.hf=true
 ff:∀c∈done,c.jA≠none->c.ph=j/\c.e=j/\bad=[]
 fd:∀c∈done,∀s∈done,∀b x y x' y',c.jA=some (b,x,y)->s.jA=some (b,x',y')->c=s
def uv (A:Nat->Hp):Nat->List Hp->Prop
 |0,Hs=>Hs=[A 0]
 |j+1,Hs=>∃l,Hs=A (j+1)::l/\uv A j l
theorem uv.congr {A B:Nat->Hp}:∀ {j:Nat}{Hs:List Hp},(∀q,q<=j->B q=A q)->uv A j Hs->uv B j Hs
 |0,_,h,e=>by unfold uv at *;rw[h 0 (aK _)];exact e
 |j+1,_,h,⟨l,e,k⟩=>⟨l,by rw[h _ (aK _)];exact e,uv.congr (λ q hq=>h q ae) k⟩
theorem pP {A:Nat->Hp}{n:Nat}:∀ {j:Nat}{Hs:List Hp},uv A j Hs->jx n Hs=true->∀q,q<=j->(A q).get n=none
 |0,_,e,h,q,hq=>by
  unfold uv at e;subst e;have:q=0:=ae;subst this;simp only[jx]at h
  split at h
  ·assumption
  cases h
 |j + 1,_,⟨l,e,k⟩,h,q,hq=>by
  subst e;simp only[jx]at h
  split at h
  ·by_cases hqj:q=j+1
   ·subst hqj;assumption
   exact pP k h q ae
  cases h
theorem BK:∀ {a b:List Nat},fk a b=true->a=b
 |[],[],_=>rfl
 |[],_::_,h=>by simp[fk]at h
 |_::_,[],h=>by simp[fk]at h
 |x :: a,y::b,h=>by
  simp only[fk]at h
  split at h
  ·rename_i hxy;rw[cT hxy,BK h]
  cases h
theorem YU {a b:Value}(h:YV a b=true):a=b:=by
 unfold YV at h
 split at h<;>first|rfl|cases h
theorem zq {a b:AV}(h:Iq a b=true):a=b:=by
 unfold Iq at h
 split at h
 ·simp only[dS,decide_eq_true_eq]at h;rw[h.1,h.2]
 ·simp at h;rw[h]
 ·rw[BK h]
 ·simp only[dS]at h;rw[cT h.1,cT h.2]
 ·simp only[dS]at h;rw[cT h.1.1.1,cT h.1.1.2,cT h.1.2,cT h.2]
 ·rw[cT h]
 ·rw[YU h]
 ·rw[cT h]
 cases h
theorem Ip {a b:AV}(h:P2 a b=true):a=b:=by
 unfold P2 at h
 split at h
 ·simp only[dS]at h;rw[cT h.1,zq h.2]
 exact zq h
theorem Io:∀ {a b:List AV},Cd a b=true->a=b
 |[],[],_=>rfl
 |[],_::_,h=>by simp[Cd]at h
 |_::_,[],h=>by simp[Cd]at h
 |x :: a,y::b,h=>by
  simp only[Cd]at h
  split at h
  ·rename_i hxy;rw[Ip hxy,Io h]
  cases h
theorem Zf {a b:AV}(h:Zg a b=true):a=b:=by
 unfold Zg at h
 split at h
 ·simp only[dS]at h;rw[cT h.1,Io h.2]
 exact Ip h
theorem nZ {f:AV->AV->Bool}(h:∀a b,f a b=true->a=b):∀ {a b:List AV},yY f a b=true->a=b
 |[],[],_=>rfl
 |[],_::_,e=>by simp[yY]at e
 |_::_,[],e=>by simp[yY]at e
 |x::a,y::b,e=>by
  simp only[yY]at e
  split at e
  ·rename_i hxy;rw[h _ _ hxy,nZ h e]
  cases e
theorem YK:∀(k:Nat)(a b:AV),YL k a b=true->a=b
 |0,_,_,h=>by simp[YL]at h
 |k+1,a,b,h=>by
  have ih:=YK k;unfold YL at h
  split at h
  ·simp only[dS]at h;rw[cT h.1,nZ ih h.2]
  ·rw[nZ ih h]
  ·simp only[dS]at h;rw[cT h.1,ih _ _ h.2]
  ·simp only[dS]at h;rw[cT h.1.1,nZ ih h.1.2,nZ ih h.2]
  ·rw[cT h]
  ·simp only[dS]at h;rw[cT h.1.1,cT h.1.2,nZ ih h.2]
  ·rw[nZ ih h]
  exact zq h
theorem agk {a b:AV}(h:KF a b=true):a=b:=by
 unfold KF at h
 split at h
 ·rename_i h1;exact Zf h1
 split at h
 ·rename_i h1;exact YK 8 _ _ h1
 exact(@decide_eq_true_iff _ (Classical.propDecidable _)).1 h
theorem U1 (a:AV):KF a a=true:=by
 unfold KF
 split
 ·rfl
 split
 ·rfl
 exact(@decide_eq_true_iff _ (Classical.propDecidable _)).2 rfl
theorem v8 {A : Nat->Hp}{e:Eff}{F:Fr}{n:Nat}{v:AV}:∀ {k j:Nat}{Hs:List Hp},uv A j Hs->fD e F n k Hs=some v->∀q,q<=j->j<q+k->e F (A q) n=.val v
 |0,j,Hs,_,h,q,h1,h2=>ae
 |k + 1, j, Hs,hk,h,q,h1,h2=>by
  obtain⟨l,rfl,hl⟩:∃l,Hs=A j::l/\(∀i,j=i+1->uv A i l):=by
   cases j with
   |zero=>unfold uv at hk;exact⟨[],hk,λ i hi=>by cases hi⟩
   |succ j=>obtain⟨l,e,hk'⟩:=hk;exact⟨l,e,λ i hi=>by cases hi;exact hk'⟩
  simp only[fD]at h
  split at h
  ·rename_i u hu
   split at h
   ·injection h with h;subst h;have:q=j:=ae;subst this;exact hu
   rename_i k'
   split at h
   ·rename_i u' hu'
    split at h
    ·rename_i heq;injection h with h;subst h;have:=agk heq;subst this
     by_cases hqj:q=j
     ·subst hqj;exact hu
     have hj:j=(j - 1)+1:=ae;exact v8 (hl (j - 1) hj) hu' q ae ae
    cases h
   cases h
  cases h
end
end Go.Abs
namespace Go.Abs
open List
section
variable {P:Program}{ce:Ce}{nt:Nat}{r:Option Nat}{ops:Array Oper}{T D:Tr Nat}{F0:Fr}{n0:Nat}
def DOk (D:Tr Nat)(ops:Array Oper):Prop:=∀i o d,ops[i]?=some o->o.dst=some d->D.get d=some i
def EOk (D E:Tr Nat)(F0:Fr):Prop:=∀t p,D.get t=some p->E.get t=none->F0.get t=none
theorem fg {E:Tr Nat}{i seen:Nat}:∀ {l:List Nat},iL T D E i seen l=true->∀t,t∈l->∀p,D.get t=some p ->
  (E.get t=none/\tb (dP T i) p=true)∨(E.get t≠none/\tb (dP T p) i=true/\tb seen p=false)
 |[],_,t,ht=>by cases ht
 |s :: l, h,t,ht=>by
  intro p hp;simp only[iL]at h
  split at h
  ·rename_i hs
   rcases mem_cons.1 ht with rfl|ht
   ·rw[hp]at hs;cases hs
   exact fg h t ht p hp
  rename_i q hs
  split at h
  ·rename_i hE
   cases hq:tb (dP T i) q with
   |false=>rw[hq]at h;cases h
   |true =>
    rw[hq]at h
    rcases mem_cons.1 ht with rfl|ht
    ·rw[hp]at hs;injection hs with hs;subst hs;exact .inl ⟨hE,hq⟩
    exact fg h t ht p hp
  rename_i x hE
  cases hq:tb (dP T q) i&&!tb seen q with
  |false=>rw[hq]at h;cases h
  |true =>
   rw[hq]at h
   rcases mem_cons.1 ht with rfl|ht
   ·rw[hp]at hs;injection hs with hs;subst hs;simp only[dS,Bool.not_eq_true']at hq;exact .inr ⟨by rw[hE];simp,hq.1,hq.2⟩
   exact fg h t ht p hp
theorem sx {m:Nat}:∀ {l:List Nat},HE m l=true->∀p,p∈l->tb m p=true
 |[],_,p,hp=>by cases hp
 |s :: l,h,p,hp=>by
  simp only[HE]at h
  cases hq:tb m s with
  |false=>rw[hq]at h;cases h
  |true =>
   rw[hq]at h
   rcases mem_cons.1 hp with rfl|hp
   ·exact hq
   exact sx h p hp
theorem GA:∀(l:List Nat)(F:Fr)(t:Nat),((cS l).f F).get t=if t∈l then F.get t else none
 |[],F,t=>rfl
 |s::l,F,t=>by
  show ((Tr.ym (Nat.succ s) s).f ((aA s).f F) ((cS l).f F)).get t=_;rw[Tr.jO _ _ _ _ _ (Nat.lt_succ_self s),GA l,gU]
  by_cases h:t=s
  ·subst h;simp
  simp[h]
theorem qx {l:List Nat}{F:Fr}{t:Nat}{u:AV}(h:((cS l).f F).get t=some u):t∈l/\F.get t=some u:=by
 rw[GA]at h
 split at h
 ·exact⟨by assumption,h⟩
 cases h
theorem C9 {dst:Option Tmp}{pd:Pd}(h:fC nt dst=some pd):(∀v (F:Fr) t,(pd.f v F).get t=if dst=some t then some v else F.get t)/\∀d,dst=some d->d<nt:=by
 unfold fC at h
 split at h
 ·injection h with h;subst h;exact⟨λ v F t=>ah,λ d hd=>by cases hd⟩
 rename_i d
 split at h
 ·rename_i hd;injection h with h;subst h;refine⟨λ v F t=>?_,λ d' hd'=>by injection hd' with hd';subst hd';exact hd⟩;dsimp only;rw[Tr.jO _ _ _ _ _ (Nat.lt_succ_self d)]
  by_cases e:t=d
  ·subst e;simp
  simp[e,Ne.symm e]
 cases h
theorem rF.mono {A A':Nat->Hp}{j j':Nat}{c:Rec}(h:rF P r ops A j c)(hph:c.ph<=j)(hA:∀q,q<=j->A' q=A q)(hj:j<=j'):rF P r ops A' j' c:=
 ⟨λ a b d=>let ⟨x,y⟩:=h.val a b d;⟨x,λ q h1 h2=>by rw[hA q ae];exact y q h1 h2⟩,
  λ a k b=>let ⟨x,y,z⟩:=h.new a k b;⟨x,y,λ q hq=>by rw[hA q ae];exact z q hq⟩,
  λ b x y a=>let ⟨u,v,w,s,t⟩:=h.YA b x y a;⟨u,v,w,by rw[hA _ hph];exact s,t⟩,
  λ a=>let ⟨x,y,z⟩:=h.mod a;⟨x,ae,by rw[hA (c.ph+1) ae];exact z⟩⟩
theorem good_step {A A':Nat->Hp}{done:List Rec}{j j':Nat}{F F1:Fr}{H H1:Hp}{n:Nat}{bL iP grp jX bad bad':List Nat}{seen:Nat}{E:Tr Nat}(g:Good P r nt ops T D F0 n0 A done j F H n bL grp bad seen) (hnf:∀s∈done,s.jA=none) (c:Rec){o:Oper}(ho:ops[c.i]?=some o)
  (hdst:c.dst=o.dst)(hlt:∀d,o.dst=some d->d<nt)(hlo:c.lo=n)(hhi:n<=c.hi)(hph:c.ph=j)(hFs:∀t u,c.Fs.get t=some u->t∈slotsOf ops o/\F.get t=some u)
  (hsl:iL T D E c.i seen (slotsOf ops o)=true)(hD:DOk D ops)(hE:EOk D E F0)(hF1:∀t,F1.get t=if c.dst=some t then some c.v else F.get t)(hA:∀q,q<=j->A' q=A q)(hok:rF P r ops A' j' c)(hcf:c.jA=none)
  (hcase:(c.qG=false/\j'=j/\iP=bL/\jX=c.i::grp/\(bad'=c.i::bad∨(bad'=bad/\c.hf=true))/\(∀b k,H1.get b=some k->H.get b=some k∨(c.blk=some k/\c.lo=b)) /\
    (∀q,c.e=q+1->∃x,bL[bL.length - (q+1)]?=some x/\q+1<=bL.length/\tb (dP T c.i) x=true)) ∨
   (c.qG=true/\j'=j+1/\iP=c.i::bL/\jX=[]/\A' (j+1)=H1/\c.X=H.get/\HE (dP T c.i) grp=true/\(∀x l,bL=x::l->tb (dP T c.i) x=true))):
  Good P r nt ops T D F0 n0 A' (done++[c]) j' F1 H1 c.hi iP jX bad' (Nat.lor seen (Nat.shiftLeft 1 c.i)):=by
 have hjj:j<=j':=by rcases hcase with⟨_,h,_⟩|⟨_,h,_⟩<;>omega
 have mem:∀ {s},s∈done->s∈done++[c]:=λ h=>mem_append_left _ h;have Jx:c∈done++[c]:=ah;have pE:∀ {s},s∈done++[c]->s∈done∨s=c:=λ h=>by simpa using h
 have hAj:=hA j (aK _)
 have afF:∀s,s∈done++[c]->s.jA=none:=λ s hs=>by
  rcases pE hs with hs|rfl
  ·exact hnf s hs
  exact hcf
 refine⟨wo g.nle hhi,?_,?_,?_,?_,?_,?_,?_,?_,?_,?_,?_,?_,?_,?_,?_,?_,?_,?_,?_⟩
 ·intro s hs
  rcases pE hs with hs|rfl
  ·exact(g.ok s hs).mono (g.ph s hs) hA hjj
  exact hok
 ·intro s hs
  rcases pE hs with hs|rfl
  ·obtain⟨a,b,d⟩:=g.nD s hs;exact⟨a,b,wo d hhi⟩
  exact⟨by rw[hlo];exact g.nle,ae,aK _⟩
 ·rw[pairwise_append];refine⟨g.pw,ah,λ a ha b hb=>?_⟩;have:b=c:=by simpa using hb
  subst this;rw[hlo];exact(g.nD a ha).2.2
 ·intro s hs
  rcases pE hs with hs|rfl
  ·exact g.op s hs
  exact⟨o,ho,hdst,hlt⟩
 ·intro s hs t u hu
  rcases pE hs with hs|rfl
  ·rcases g.fs s hs t u hu with h|⟨x,hx,h⟩
   ·exact .inl h
   exact .inr ⟨x,mem hx,h⟩
  obtain⟨h1,h2⟩:=hFs t u hu
  rcases g.ft t u h2 with⟨h,_⟩|⟨x,hx,h3,h4⟩
  ·refine .inl ⟨h,λ p hp=>?_⟩
   rcases fg hsl t h1 p hp with⟨h5,_⟩|⟨_,h5,_⟩
   ·rw[hE t p hp h5]at h;cases h
   exact h5
  obtain⟨ox,hox,hdx,_⟩:=g.op x hx
  rcases fg hsl t h1 _ (hD _ _ _ hox (by rw[<-hdx];exact h3))with⟨_,h5⟩|⟨_,_,h5⟩
  ·exact .inr ⟨x,mem hx,h3,h4,h5⟩
  rw[g.sn x hx]at h5;cases h5
 ·intro t u hu;rw[hF1]at hu
  split at hu
  ·rename_i hd;injection hu with hu;exact .inr ⟨c,Jx,hd,hu⟩
  rename_i hnd
  rcases g.ft t u hu with⟨h,h'⟩|⟨x,hx,h⟩
  ·refine .inl ⟨h,λ s hs=>?_⟩
   rcases pE hs with hs|rfl
   ·exact h' s hs
   exact hnd
  exact .inr ⟨x,mem hx,h⟩
 ·intro b k hb
  rcases hcase with⟨h1,rfl,_,_,_,h2,_⟩|⟨h1,rfl,_,_,h2,_⟩
  ·rcases h2 b k hb with h3|⟨h3,h4⟩
   ·rcases g.hg b k h3 with h5|⟨s,hs,h5⟩|⟨s,hs,x,h5⟩
    ·exact .inl ⟨by rw[hAj];exact h5.1,λ s hs x y=>by rw[afF s hs];simp⟩
    ·exact .inr (.inl ⟨s,mem hs,h5⟩)
    rw[hnf s hs]at h5;cases h5
   exact .inr (.inl ⟨c,Jx,h1,h3,h4,hph⟩)
  exact .inl ⟨by rw[h2];exact hb,λ s hs x y=>by rw[afF s hs];simp⟩
 ·intro s hs hm b k hb
  rcases pE hs with hs|rfl
  ·rcases g.mx s hs hm b k hb with h|⟨x,hx,h⟩
   ·exact .inl (by rw[hA _ (g.ph s hs)];exact h)
   exact .inr ⟨x,mem hx,h⟩
  rcases hcase with⟨h1,_⟩|⟨_,_,_,_,_,h2,h3,_⟩
  ·rw[h1]at hm;cases hm
  rw[h2]at hb
  rcases g.hg b k hb with h5|⟨x,hx,h5,h6,h7,h8⟩|⟨s,hs,x,h5⟩
  rotate_left 2
  ·rw[hnf s hs]at h5;cases h5
  ·exact .inl (by rw[hph,hAj];exact h5.1)
  exact .inr ⟨x,mem hx,h5,h6,h7,ae,sx h3 _ ((g.gr x hx h5).2 h8)⟩
 ·intro s hs
  rcases pE hs with hs|rfl
  ·have:=g.ph s hs;omega
  omega
 ·intro s hs hm
  rcases pE hs with hs|rfl
  ·obtain⟨h1,h2⟩:=g.gr s hs hm;have hp:=g.ph s hs
   rcases hcase with⟨_,rfl,_,rfl,_⟩|⟨hcm,rfl,_,_,_,_,h3,_⟩
   ·exact⟨λ h=>let ⟨x,hx,y⟩:=h1 h;⟨x,mem hx,y⟩,λ h=>mem_cons_of_mem _ (h2 h)⟩
   refine⟨λ _=>?_,λ h=>ae⟩
   by_cases hj:s.ph<j
   ·obtain⟨x,hx,y⟩:=h1 hj;exact⟨x,mem hx,y⟩
   exact⟨c,Jx,hcm,ae,sx h3 _ (h2 ae)⟩
  rcases hcase with⟨_,rfl,_,rfl,_⟩|⟨hcm,_⟩
  ·exact⟨λ h=>ae,λ _=>ah⟩
  rw[hcm]at hm;cases hm
 ·intro s hs hm q hq
  rcases pE hs with hs|rfl
  ·obtain⟨x,hx,y⟩:=g.ch s hs hm q hq;exact⟨x,mem hx,y⟩
  rcases hcase with⟨h1,_⟩|⟨_,_,_,_,_,_,_,h3⟩
  ·rw[h1]at hm;cases hm
  cases yL:bL with
  |nil=>have:=g.ml;rw[yL]at this;simp at this;omega
  |cons x l =>
   obtain⟨y,hy,h4,h5,h6⟩:=g.md 0 x (by rw[yL];rfl);exact⟨y,mem hy,h4,ae,by rw[h6];exact h3 x l yL⟩
 ·intro s hs hm q hq
  rcases pE hs with hs|rfl
  ·obtain⟨x,hx,y⟩:=g.ea s hs hm q hq;exact⟨x,mem hx,y⟩
  rcases hcase with⟨_,_,_,_,_,_,h3⟩|⟨hcm,_⟩
  ·obtain⟨x,h4,h5,h6⟩:=h3 q hq;obtain⟨y,hy,h7,h8,h9⟩:=g.md _ x h4;have:=g.ml;exact⟨y,mem hy,h7,ae,by rw[h9];exact h6⟩
  rw[hcm]at hm;cases hm
 ·have:=g.ml
  rcases hcase with⟨_,rfl,rfl,_⟩|⟨_,rfl,rfl,_⟩
  ·exact this
  simp[this]
 ·intro q x hx
  rcases hcase with⟨_,rfl,rfl,_⟩|⟨hcm,rfl,rfl,_⟩
  ·obtain⟨s,hs,y⟩:=g.md q x hx;exact⟨s,mem hs,y⟩
  cases q with
  |zero=>simp at hx;exact⟨c,Jx,hcm,ae,hx⟩
  |succ q =>
   obtain⟨s,hs,y1,y2,y3⟩:=g.md q x (by simpa using hx);exact⟨s,mem hs,y1,ae,y3⟩
 ·intro s hs u hu hsm hum hsu;have ag1:∀x,x∈done->x.qG=true->x.ph<j:=λ x hx hm=>((g.ok x hx).mod hm).2.1
  rcases pE hs with hs' |e1<;>rcases pE hu with hu' |e2
  ·exact g.uq s hs' u hu' hsm hum hsu
  ·have:=ag1 s hs' hsm;rw[e2]at hsu;omega
  ·have:=ag1 u hu' hum;rw[e1]at hsu;omega
  rw[e1,e2]
 ·intro s hs;rw[uE,xK]
  rcases pE hs with hs|rfl
  ·rw[g.sn s hs];rfl
  simp
 ·intro s hs h1 h2 h3 h4
  rcases hcase with⟨_,rfl,_,_,h5,_⟩|⟨hcm,rfl,_⟩
  ·rcases pE hs with hs|rfl
   ·rcases g.nh s hs h1 h2 h3 h4 with h6|h6
    ·rcases h5 with rfl|⟨rfl,_⟩
     ·exact .inl (mem_cons_of_mem _ h6)
     exact .inl h6
    exact .inr h6
   rcases h5 with rfl|⟨_,h5⟩
   ·exact .inl ah
   exact .inr h5
  rcases pE hs with hs|rfl
  ·have:=g.ph s hs;omega
  rw[hcm]at h1;cases h1
 ·intro s hs h;exact ar (afF s hs) h
 intro s hs u hu b x y x' y' h;rw[afF s hs]at h;cases h
theorem Yt {A:Nat->Hp}{done:List Rec}{j:Nat}{F F1:Fr}{H:Hp}{n:Nat}{bL grp:List Nat}{seen:Nat}{E:Tr Nat}(g:Good P r nt ops T D F0 n0 A done j F H n bL grp [] seen) (c:Rec){o:Oper}(ho:ops[c.i]?=some o)
  (hdst:c.dst=o.dst)(hlt:∀d,o.dst=some d->d<nt)(hlo:c.lo=n)(hhi:c.hi=n)(hph:c.ph=j)(hce:c.e=j)(hFs:∀t u,c.Fs.get t=some u->t∈slotsOf ops o/\F.get t=some u)
  (hsl:iL T D E c.i seen (slotsOf ops o)=true)(hD:DOk D ops)(hE:EOk D E F0)(hF1:∀t,F1.get t=if c.dst=some t then some c.v else F.get t)(hok:rF P r ops A j c)
  {b:Nat}{x y:bG}(hcf:c.jA=some (b,x,y)) (hfr:∀s∈done,∀x y,s.jA≠some (b,x,y)) (hch:∀x l,bL=x::l->tb (dP T c.i) x=true):
  Good P r nt ops T D F0 n0 A (done++[c]) j F1 (H.put b (some y)) n bL (c.i::grp) [] (Nat.lor seen (Nat.shiftLeft 1 c.i)):=by
 have mem:∀ {s},s∈done->s∈done++[c]:=λ h=>mem_append_left _ h;have Jx:c∈done++[c]:=ah;have pE:∀ {s},s∈done++[c]->s∈done∨s=c:=λ h=>by simpa using h
 obtain⟨hcm,hcb,_,hAb,_⟩:=hok.YA b x y hcf;refine⟨g.nle,?_,?_,?_,?_,?_,?_,?_,?_,?_,?_,?_,?_,g.ml,?_,?_,?_,?_,?_,?_⟩
 ·intro s hs
  rcases pE hs with hs|rfl
  ·exact g.ok s hs
  exact hok
 ·intro s hs
  rcases pE hs with hs|rfl
  ·exact g.nD s hs
  exact⟨by rw[hlo];exact g.nle,ae,ae⟩
 ·rw[pairwise_append];refine⟨g.pw,ah,λ a ha b hb=>?_⟩;have:b=c:=by simpa using hb
  subst this;rw[hlo];exact(g.nD a ha).2.2
 ·intro s hs
  rcases pE hs with hs|rfl
  ·exact g.op s hs
  exact⟨o,ho,hdst,hlt⟩
 ·intro s hs t u hu
  rcases pE hs with hs|rfl
  ·rcases g.fs s hs t u hu with h|⟨x,hx,h⟩
   ·exact .inl h
   exact .inr ⟨x,mem hx,h⟩
  obtain⟨h1,h2⟩:=hFs t u hu
  rcases g.ft t u h2 with⟨h,_⟩|⟨x,hx,h3,h4⟩
  ·refine .inl ⟨h,λ p hp=>?_⟩
   rcases fg hsl t h1 p hp with⟨h5,_⟩|⟨_,h5,_⟩
   ·rw[hE t p hp h5]at h;cases h
   exact h5
  obtain⟨ox,hox,hdx,_⟩:=g.op x hx
  rcases fg hsl t h1 _ (hD _ _ _ hox (by rw[<-hdx];exact h3))with⟨_,h5⟩|⟨_,_,h5⟩
  ·exact .inr ⟨x,mem hx,h3,h4,h5⟩
  rw[g.sn x hx]at h5;cases h5
 ·intro t u hu;rw[hF1]at hu
  split at hu
  ·rename_i hd;injection hu with hu;exact .inr ⟨c,Jx,hd,hu⟩
  rename_i hnd
  rcases g.ft t u hu with⟨h,h'⟩|⟨x,hx,h⟩
  ·refine .inl ⟨h,λ s hs=>?_⟩
   rcases pE hs with hs|rfl
   ·exact h' s hs
   exact hnd
  exact .inr ⟨x,mem hx,h⟩
 ·intro b1 k hb;rw[Tr.get_put]at hb
  split at hb
  ·rename_i e1;injection hb with hb;subst hb;subst e1;exact .inr (.inr ⟨c,Jx,x,hcf⟩)
  rename_i e1
  rcases g.hg b1 k hb with⟨h5,h6⟩|⟨s,hs,h5⟩|⟨s,hs,x,h5⟩
  ·refine .inl ⟨h5,λ s hs x' y' h=>?_⟩
   rcases pE hs with hs|rfl
   ·exact h6 s hs x' y' h
   rw[hcf]at h;injection h with h;injection h with h _;first|exact e1 h|exact e1 h.symm
  ·exact .inr (.inl ⟨s,mem hs,h5⟩)
  exact .inr (.inr ⟨s,mem hs,x,h5⟩)
 ·intro s hs hm b k hb
  rcases pE hs with hs|rfl
  ·rcases g.mx s hs hm b k hb with h|⟨x,hx,h⟩
   ·exact .inl h
   exact .inr ⟨x,mem hx,h⟩
  rw[hcm]at hm;cases hm
 ·intro s hs
  rcases pE hs with hs|rfl
  ·exact g.ph s hs
  omega
 ·intro s hs hm
  rcases pE hs with hs|rfl
  ·obtain⟨h1,h2⟩:=g.gr s hs hm;exact⟨λ h=>let ⟨x,hx,y⟩:=h1 h;⟨x,mem hx,y⟩,λ h=>mem_cons_of_mem _ (h2 h)⟩
  exact⟨λ h=>ae,λ _=>ah⟩
 ·intro s hs hm q hq
  rcases pE hs with hs|rfl
  ·obtain⟨x,hx,y⟩:=g.ch s hs hm q hq;exact⟨x,mem hx,y⟩
  rw[hcm]at hm;cases hm
 ·intro s hs hm q hq
  rcases pE hs with hs|rfl
  ·obtain⟨x,hx,y⟩:=g.ea s hs hm q hq;exact⟨x,mem hx,y⟩
  cases yL:bL with
  |nil=>have:=g.ml;rw[yL]at this;simp at this;omega
  |cons x l =>
   obtain⟨y,hy,h4,h5,h6⟩:=g.md 0 x (by rw[yL];rfl);exact⟨y,mem hy,h4,ae,by rw[h6];exact hch x l yL⟩
 ·intro q x hx;obtain⟨s,hs,y⟩:=g.md q x hx;exact⟨s,mem hs,y⟩
 ·intro s hs u hu hsm hum hsu
  rcases pE hs with hs' |e1<;>rcases pE hu with hu' |e2
  ·exact g.uq s hs' u hu' hsm hum hsu
  ·rw[e2,hcm]at hum;cases hum
  ·rw[e1,hcm]at hsm;cases hsm
  rw[e1,e2]
 ·intro s hs;rw[uE,xK]
  rcases pE hs with hs|rfl
  ·rw[g.sn s hs];rfl
  simp
 ·intro s hs h1 h2 h3 h4
  rcases pE hs with hs|rfl
  ·exact g.nh s hs h1 h2 h3 h4
  rw[hcf]at h3;cases h3
 ·intro s hs h
  rcases pE hs with hs|rfl
  ·exact g.ff s hs h
  exact⟨hph,hce,rfl⟩
 intro s hs u hu b1 x1 y1 x2 y2 h1 h2
 rcases pE hs with hs' |e1<;>rcases pE hu with hu' |e2
 ·exact g.fd s hs' u hu' b1 x1 y1 x2 y2 h1 h2
 ·rw[e2,hcf]at h2;injection h2 with h2;injection h2 with h2 _;subst h2;exact ar h1 (hfr s hs' _ _)
 ·rw[e1,hcf]at h1;injection h1 with h1;injection h1 with h1 _;subst h1;exact ar h2 (hfr u hu' _ _)
 rw[e1,e2]
def Reads (P:Program) (ce:Ce) (r:Option Nat) (nt:Nat) (ops:Array Oper) (T D:Tr Nat) (F0:Fr) (n0:Nat) (l:List fe) (j:Nat) (bL grp bad:List Nat) (seen:Nat) (k:KR):Prop:=
 ∀(A:Nat->Hp) (done:List Rec) (F:Fr) (H:Hp) (Hs:List Hp) (n:Nat) (m:List Dm) (o:lO) (F':Fr) (H':Hp) (n':Nat) (m':List Dm),
  Good P r nt ops T D F0 n0 A done j F H n bL grp bad seen->(∀s∈done,s.jA=none)->uv A j Hs->k.f ce F H Hs n m=.mk o F' H' n' m' ->
  ∃A' all j' iP jX bad' seen',Good P r nt ops T D F0 n0 A' all j' F' H' n' iP jX bad' seen'/\o=.normal/\m'=m/\all.map (·.i)=done.map (·.i)++l.map idxOf/\A' 0=A 0
theorem pq {o:Oper}{rs:RS}{yes no:KR}{F F':Fr}{H H':Hp}{Hs:List Hp}{n n':Nat}{m m':List Dm}{ou:lO}(h:(guarded ops rs o yes no).f ce F H Hs n m=.mk ou F' H' n' m'):
  (qb P ops o (rs.f F) true/\yes.f ce F H Hs n m=.mk ou F' H' n' m')∨(qb P ops o (rs.f F) false/\no.f ce F H Hs n m=.mk ou F' H' n' m'):=by
 unfold guarded at h
 split at h
 ·rename_i hg;exact .inl ⟨.free hg,h⟩
 rename_i j b hg
 split at h
 ·rename_i d hd;simp only[yO]at h
  split at h
  ·rename_i c hv;rw[gU]at hv;have hw:=qb.tells (P:=P) j d b c hg hd hv
   cases hcb:c == b with
   |true=>rw[hcb]at h hw;exact .inl ⟨hw,h⟩
   |false=>rw[hcb]at h hw;exact .inr ⟨hw,h⟩
  ·rename_i v hnb hv;rw[gU]at hv;exact .inr ⟨.other j d b v hg hd hv (λ c hc=>hnb c hc),h⟩
  cases h
 cases h
theorem rP {A A':Nat->Hp}{done:List Rec}{j':Nat}{F1 F':Fr}{H1 H':Hp}{Hs1:List Hp}{n1 n':Nat}{m m':List Dm}{o:lO}{l:List fe}{iP jX bad':List Nat}{seen:Nat}{k:KR}{c:Rec}{x:fe}(hc:c.i=idxOf x)(hnext:Reads P ce r nt ops T D F0 n0 l j' iP jX bad' seen k)
  (g:Good P r nt ops T D F0 n0 A' (done++[c]) j' F1 H1 n1 iP jX bad' seen)(hnf:∀s∈done,s.jA=none)(hcf:c.jA=none)(hs:uv A' j' Hs1)(hA:A' 0=A 0)(h:k.f ce F1 H1 Hs1 n1 m=.mk o F' H' n' m'):
  ∃A' all j' iP jX bad' seen',Good P r nt ops T D F0 n0 A' all j' F' H' n' iP jX bad' seen'/\o=.normal/\m'=m/\all.map (·.i)=done.map (·.i)++(x::l).map idxOf/\A' 0=A 0:=by
 obtain⟨A2,all,j2,apA,awz,axu,aoH,h1,h2,h3,h4,h5⟩:=hnext A' (done++[c]) F1 H1 Hs1 n1 m o F' H' n' m' g (λ s hs=>by
  rcases mem_append.1 hs with hs|hs
  ·exact hnf s hs
  have:s=c:=by simpa using hs
  subst this;exact hcf) hs h
 exact⟨A2,all,j2,apA,awz,axu,aoH,h1,h2,h3,by rw[h4];simp[hc],by rw[h5,hA]⟩
def HsF (A:Nat->Hp)(j:Nat)(done:List Rec)(Hs:List Hp):Prop:=∃B l,Hs=B::l/\∀b k,B.get b=some k->(A j).get b=some k/\∀s∈done,∀x y,s.jA≠some (b,x,y)
theorem TC {k:Nat}{x v:G}{F:Fr}{H:Hp}{n:Nat}{w:AV}{b:Nat}{y old:bG}(h:dz k x v F H n=.upd w b y) (hb:H.get b=some old):dz k x v F (Tr.put .nil b (some old)) n=.upd w b y:=by
 unfold dz at h ⊢
 split at h
 ·rename_i a ha
  split at h
  ·rename_i u hu;unfold mF at h ⊢
   split at h
   ·rename_i b0 o
    split at h
    ·rename_i u' z bs t hg
     split at h
     ·rename_i hc;injection h with h1 h2 h3;subst h2;rw[Tr.get_put,aw rfl];rw[hb]at hg;injection hg with hg;subst hg;dsimp only;rw[hc,h1,h3]
     cases h
    cases h
   cases h
  cases h
 cases h
theorem VH {P:Program}{o:Oper}{t:TypeId}{a v:Operand}{e:Eff}(ho:o.op=.store t a v)(h:eb P o=some e):∃k x y,e=dz k x y:=by
 unfold eb at h;rw[ho]at h;simp only[kJ,iG]at h;obtain⟨k,hk,g,hg,l,hl,h⟩:=h;injection h with h;exact⟨k,g,l,h.symm⟩
theorem aeH (b:Nat)(x:Option bG):((Tr.nil:Hp).put b x).get=wy.set b x:=by
 funext c
 rw[Tr.get_put];unfold Hf.set wy
 by_cases h:c=b
 ·subst h;simp
 simp[h]
theorem GV (b:Nat)(x y:Option bG):(((Tr.nil:Hp).put b x).put b y).get=wy.set b y:=by
 funext c
 rw[Tr.get_put,Tr.get_put];unfold Hf.set wy
 by_cases h:c=b
 ·subst h;simp
 simp[h]
theorem BH {E : Tr Nat}(hD:DOk D ops)(hE:EOk D E F0)(bL:List Nat):∀(l:List fe)(j:Nat)(grp:List Nat)(seen:Nat),sJ T D E ops bL l seen=true ->
  ∀(A:Nat->Hp) (done:List Rec) (F:Fr) (H:Hp) (Hs:List Hp) (n:Nat) (m:List Dm) (o:lO) (F':Fr) (H':Hp) (n':Nat) (m':List Dm),Good P r nt ops T D F0 n0 A done j F H n bL grp [] seen->HsF A j done Hs->(gp P nt ops l j).f ce F H Hs n m=.mk o F' H' n' m' ->
   ∃all jX seen',Good P r nt ops T D F0 n0 A all j F' H' n' bL jX [] seen'/\o=.normal/\m'=m/\all.map (·.i)=done.map (·.i)++l.map idxOf
 |[],j,grp,seen,_=>by
  intro A done F H Hs n m o F' H' n' m' g hs h;cases h;exact⟨done,grp,seen,g,rfl,rfl,ah⟩
 |.op _ _::_,j,grp,seen,hp=>by simp[sJ]at hp
 |.mod _::_,j,grp,seen,hp=>by simp[sJ]at hp
 |.Vi _::_,j,grp,seen,hp=>by simp[sJ]at hp
 |.jA i :: l, j, grp, seen,hp=>by
  intro A done F H Hs n m ou F' H' n' m' g hs h;simp only[sJ]at hp;simp only[gp]at h
  split at hp
  ·rename_i o ho;rw[ho]at h;dsimp only at h;simp only[dS]at hp;obtain⟨⟨hp1,hp2⟩,hp3⟩:=hp
   have hch:∀x l',bL=x::l'->tb (dP T i) x=true:=by
    intro x l' hx;subst hx;exact hp2
   split at h
   ·rename_i pd oQ;obtain⟨hpg,hlt⟩:=C9 oQ
    split at h
    ·rename_i hgd;unfold inF at h
     split at h
     ·rename_i t a v hop
      split at h
      ·rename_i ef hef;have heo:=iO hef;have hq:=dZ hef;obtain⟨sz,gx,gy,rfl⟩:=VH hop hef;obtain⟨B,lB,rfl,hB⟩:=hs;simp only[Yz]at h
       split at h
       ·rename_i u b k hk
        split at h
        ·rename_i x hx;obtain⟨hA,hfr⟩:=hB b x hx;have hst:=eM (r:=r) ho (.free hgd) heo hq (TC hk hx) ah;rw[pM,GV,aeH]at hst;let c:Rec:={i,v:=u,lo:=n,hi:=n,ph:=j,e:=j,dst:=o.dst,Fs:=(cS (slotsOf ops o)).f F,blk:=none,qG:=false,X:=wy,hf:=false,jA:=some (b,x,k)}
         have hok:rF P r ops A j c:=by
          refine⟨λ _ _ hf=>(by cases hf),λ _ k' hk=>(by cases hk),λ b' x' y' hf=>?_,λ hm=>(by cases hm)⟩;injection hf with hf;injection hf with h1 h2;injection h2 with h2 h3;subst h1;subst h2;subst h3;exact⟨rfl,rfl,rfl,hA,hst⟩
         have g':=Yt (F1:=pd.f u F) g c ho rfl hlt rfl rfl rfl rfl (λ t u hu=>qx hu) hp1 hD hE (λ t=>hpg u F t) hok rfl hfr hch
         have hsf:HsF A j (done++[c]) (B.put b none::lB):=by
          refine⟨B.put b none,lB,rfl,λ b1 k1 hb1=>?_⟩;rw[Tr.get_put]at hb1
          split at hb1
          ·cases hb1
          rename_i hne;obtain⟨h5,h6⟩:=hB b1 k1 hb1;refine⟨h5,λ s hs x' y' hf=>?_⟩
          rcases mem_append.1 hs with hs|hs
          ·exact h6 s hs x' y' hf
          have:s=c:=by simpa using hs
          subst this;injection hf with hf;injection hf with hf _
          first|exact hne hf|exact hne hf.symm
         obtain⟨all,jX,seen',h1,h2,h3,h4⟩:=BH hD hE bL l j _ _ hp3 A (done++[c]) _ _ _ n m ou F' H' n' m' g' hsf h;exact⟨all,jX,seen',h1,h2,h3,by rw[h4];simp[c,idxOf]⟩
        cases h
       cases h
      cases h
     cases h
    cases h
   cases h
  cases hp
theorem l9 {E : Tr Nat}(hce:iI P ce) (hD:DOk D ops) (hE:EOk D E F0):∀(l:List fe) (j:Nat) (bL grp bad:List Nat) (seen:Nat),nI T D E ops l bL grp bad seen=true->Reads P ce r nt ops T D F0 n0 l j bL grp bad seen (gp P nt ops l j)
 |[],j,bL,grp,bad,seen,_=>by
  intro A done F H Hs n m o F' H' n' m' g hnf hs h;cases h;exact⟨A,done,j,bL,grp,bad,seen,g,rfl,rfl,ah,rfl⟩
 |.jA i :: l,j,bL,grp,bad,seen,hp=>by
  intro A done F H Hs n m ou F' H' n' m' g hnf hs h;simp only[nI]at hp
  split at hp
  ·have hsf:HsF A j done Hs:=by
    obtain⟨l',rfl⟩:∃l',Hs=A j::l':=by
     cases j with
     |zero=>unfold uv at hs;exact⟨[],hs⟩
     |succ j=>obtain⟨l,e,_⟩:=hs;exact⟨l,e⟩
    exact⟨A j,l',rfl,λ b k hb=>⟨hb,λ s hs x y=>by rw[hnf s hs];simp⟩⟩
   obtain⟨all,jX,seen',h1,h2,h3,h4⟩:=BH hD hE bL (.jA i::l) j grp seen hp A done F H Hs n m ou F' H' n' m' g hsf h;exact⟨A,all,j,bL,jX,[],seen',h1,h2,h3,h4,rfl⟩
  cases hp
 |.op i e :: l, j,bL,grp,bad,seen,hp=>by
  intro A done F H Hs n m ou F' H' n' m' g hnf hs h;simp only[nI]at hp;simp only[gp]at h
  split at hp
  ·rename_i o ho;rw[ho]at h;dsimp only at h;simp only[dS]at hp;obtain⟨⟨hp1,hp2⟩,hp3⟩:=hp
   split at h
   ·rename_i pd oQ;obtain⟨hpg,hlt⟩:=C9 oQ;have hnext:=l9 hce hD hE l j bL (i::grp) (i::bad) _ hp3
    have hea:∀q,e=q+1->∃x,bL[bL.length - (q+1)]?=some x/\q+1<=bL.length/\tb (dP T i) x=true:=by
     intro q hq;subst hq;simp only[dS]at hp2;have h1:=eF hp2.1;rw[bM]at h1
     cases hx:nth bL (Nat.sub (eC bL 0) (q+1))with
     |none=>rw[hx]at hp2;exact ar hp2.2 ah
     |some x =>
      rw[hx]at hp2;rw[nK,bM]at hx;exact⟨x,hx,h1,hp2.2⟩
    have go:∀(v:AV) (n1:Nat) (H1:Hp) (blk:Option bG),(gp P nt ops l j).f ce (pd.f v F) H1 Hs n1 m=.mk ou F' H' n' m'->n<=n1->(∀b k,H1.get b=some k->H.get b=some k∨(blk=some k/\n=b)) ->
      rF P r ops A j {i,v,lo:=n,hi:=n1,ph:=j,e,dst:=o.dst,Fs:=(cS (slotsOf ops o)).f F,blk,qG:=false,X:=wy,hf:=false,jA:=none} ->
      ∃A' all j' iP jX bad' seen',Good P r nt ops T D F0 n0 A' all j' F' H' n' iP jX bad' seen'/\ou=.normal/\m'=m/\all.map (·.i)=done.map (·.i)++(fe.op i e::l).map idxOf/\A' 0=A 0:=by
     intro v n1 H1 blk hk hn hH hok
     exact rP (c:={i,v,lo:=n,hi:=n1,ph:=j,e,dst:=o.dst,Fs:=(cS (slotsOf ops o)).f F,blk,qG:=false,X:=wy,hf:=false,jA:=none}) rfl hnext
      (good_step g hnf {i,v,lo:=n,hi:=n1,ph:=j,e,dst:=o.dst,Fs:=(cS (slotsOf ops o)).f F,blk,qG:=false,X:=wy,hf:=false,jA:=none} ho rfl hlt rfl hn rfl (λ t u hu=>qx hu) hp1 hD hE (λ t=>hpg v F t) (λ _ _=>rfl) hok rfl
       (.inl ⟨rfl,rfl,rfl,rfl,.inl rfl,hH,hea⟩)) hnf rfl hs rfl hk
    rcases pq (P:=P) h with⟨hw,h⟩|⟨hw,h⟩
    ·unfold Dy at h
     split at h
     ·rename_i ef hef;have heo:=iO hef;have hq:=dZ hef;simp only[opR]at h
      split at h
      ·rename_i v hv;refine go v n H none h (aK _) (λ b k hb=>.inl hb) ⟨λ _ _ _=>⟨rfl,λ q _ _=>⟨(Tr.nil:Hp).get,λ h=>(by cases h),λ b k hb=>by simp at hb,?_⟩⟩,λ _ k hk=>(by cases hk),λ _ _ _ hm=>(by cases hm),λ hm=>(by cases hm)⟩;exact eM ho hw heo hq hv ah
      ·rename_i v k hv
       split at h
       ·rename_i hna;refine go v (n+1) _ (some k) h (Nat.le_succ n) (λ b k' hb=>?_) ⟨λ _ hb=>(by cases hb),λ _ k' hk=>?_,λ _ _ _ hm=>(by cases hm),λ hm=>by cases hm⟩
        ·rw[Tr.get_put]at hb
         split at hb
         ·rename_i e1;injection hb with hb;subst hb;exact .inr ⟨rfl,e1.symm⟩
         exact .inl hb
        injection hk with hk;subst hk;refine⟨rfl,?_,λ q hq=>pP hs hna q hq⟩;have:=eM (r:=r) ho hw heo hq hv ah;exact this
       cases h
      ·rename_i hv
       split at h
       ·rename_i v hall;refine go v n H none h (aK _) (λ b k hb=>.inl hb) ⟨λ _ _ _=>⟨rfl,λ q h1 h2=>⟨(A q).get,λ h=>(by cases h),λ b k hb=>hb,?_⟩⟩,λ _ k hk=>(by cases hk),λ _ _ _ hm=>(by cases hm),λ hm=>(by cases hm)⟩;dsimp only at h1 h2 ⊢;exact eM ho hw heo hq (v8 hs hall q h2 (by simp only[Nat.succ_eq_add_one];show j<q+((j - e)+1);omega)) ah
       cases h
      cases h
     cases h
    simp only[Ug]at h;refine go (.bo []) n H none h (aK _) (λ b k hb=>.inl hb) ⟨λ _ _ _=>⟨rfl,λ q _ _=>⟨(Tr.nil:Hp).get,λ h=>(by cases h),λ b k hb=>by simp at hb,?_⟩⟩,λ _ k hk=>(by cases hk),λ _ _ _ hm=>(by cases hm),λ hm=>(by cases hm)⟩;exact step_skip ho hw _ _
   cases h
  cases hp
 |.Vi i :: l, j,bL,grp,bad,seen,hp=>by
  intro A done F H Hs n m ou F' H' n' m' g hnf hs h;simp only[nI]at hp;simp only[gp]at h
  split at hp
  ·rename_i o ho;rw[ho]at h;dsimp only at h;simp only[dS]at hp;obtain⟨hp1,hp3⟩:=hp
   split at h
   ·rename_i pd oQ;obtain⟨hpg,hlt⟩:=C9 oQ;have hnext:=l9 hce hD hE l j bL (i::grp) bad _ hp3
    have go:∀(v:AV) (n1:Nat) (H1:Hp) (blk:Option bG),(gp P nt ops l j).f ce (pd.f v F) H1 Hs n1 m=.mk ou F' H' n' m'->n<=n1->(∀b k,H1.get b=some k->H.get b=some k∨(blk=some k/\n=b)) ->
      rF P r ops A j {i,v,lo:=n,hi:=n1,ph:=j,e:=0,dst:=o.dst,Fs:=(cS (slotsOf ops o)).f F,blk,qG:=false,X:=wy,hf:=true,jA:=none} ->
      ∃A' all j' iP jX bad' seen',Good P r nt ops T D F0 n0 A' all j' F' H' n' iP jX bad' seen'/\ou=.normal/\m'=m/\all.map (·.i)=done.map (·.i)++(fe.Vi i::l).map idxOf/\A' 0=A 0:=by
     intro v n1 H1 blk hk hn hH hok
     exact rP (c:={i,v,lo:=n,hi:=n1,ph:=j,e:=0,dst:=o.dst,Fs:=(cS (slotsOf ops o)).f F,blk,qG:=false,X:=wy,hf:=true,jA:=none}) rfl hnext
      (good_step g hnf {i,v,lo:=n,hi:=n1,ph:=j,e:=0,dst:=o.dst,Fs:=(cS (slotsOf ops o)).f F,blk,qG:=false,X:=wy,hf:=true,jA:=none} ho rfl hlt rfl hn rfl (λ t u hu=>qx hu) hp1 hD hE (λ t=>hpg v F t) (λ _ _=>rfl) hok rfl
       (.inl ⟨rfl,rfl,rfl,rfl,.inr ⟨rfl,rfl⟩,hH,λ q hq=>(by cases hq)⟩)) hnf rfl hs rfl hk
    rcases pq (P:=P) h with⟨hw,h⟩|⟨hw,h⟩
    ·unfold Dy at h
     split at h
     ·rename_i ef hef;have heo:=iO hef;have hq:=dZ hef;simp only[opR]at h
      split at h
      ·rename_i v hv;refine go v n H none h (aK _) (λ b k hb=>.inl hb) ⟨λ _ _ _=>⟨rfl,λ q _ _=>⟨(Tr.nil:Hp).get,λ _=>rfl,λ b k hb=>by simp at hb,?_⟩⟩,λ _ k hk=>(by cases hk),λ _ _ _ hm=>(by cases hm),λ hm=>(by cases hm)⟩;exact eM ho hw heo hq hv ah
      ·rename_i v k hv
       split at h
       ·rename_i hna;refine go v (n+1) _ (some k) h (Nat.le_succ n) (λ b k' hb=>?_) ⟨λ _ hb=>(by cases hb),λ _ k' hk=>?_,λ _ _ _ hm=>(by cases hm),λ hm=>by cases hm⟩
        ·rw[Tr.get_put]at hb
         split at hb
         ·rename_i e1;injection hb with hb;subst hb;exact .inr ⟨rfl,e1.symm⟩
         exact .inl hb
        injection hk with hk;subst hk;refine⟨rfl,?_,λ q hq=>pP hs hna q hq⟩;have:=eM (r:=r) ho hw heo hq hv ah;exact this
       cases h
      ·rename_i hv;simp[fD]at h
      cases h
     cases h
    simp only[Ug]at h;refine go (.bo []) n H none h (aK _) (λ b k hb=>.inl hb) ⟨λ _ _ _=>⟨rfl,λ q _ _=>⟨(Tr.nil:Hp).get,λ _=>rfl,λ b k hb=>by simp at hb,?_⟩⟩,λ _ k hk=>(by cases hk),λ _ _ _ hm=>(by cases hm),λ hm=>(by cases hm)⟩;exact step_skip ho hw _ _
   cases h
  cases hp
 |.mod i :: l, j, bL,grp,bad,seen,hp=>by
  intro A done F H Hs n m ou F' H' n' m' g hnf hs h;simp only[nI]at hp;simp only[gp]at h
  split at hp
  ·rename_i o ho;rw[ho]at h;dsimp only at h;simp only[dS]at hp;obtain⟨⟨⟨hp1,hp2⟩,hp4⟩,hp3⟩:=hp
   split at h
   ·rename_i pd oQ;obtain⟨hpg,hlt⟩:=C9 oQ;have hnext:=l9 hce hD hE l (j+1) (i::bL) [] [] _ hp3
    have hch:∀x l',bL=x::l'->tb (dP T i) x=true:=by
     intro x l' hx;subst hx;exact hp4
    have go:∀(v:AV) (n1:Nat) (H1:Hp),(gp P nt ops l (j+1)).f ce (pd.f v F) H1 (H1::Hs) n1 m=.mk ou F' H' n' m'->n<=n1 ->
      mG P r ops i o.dst ((cS (slotsOf ops o)).f F) H.get H1.get v n n1 ->
      ∃A' all j' iP jX bad' seen',Good P r nt ops T D F0 n0 A' all j' F' H' n' iP jX bad' seen'/\ou=.normal/\m'=m/\all.map (·.i)=done.map (·.i)++(fe.mod i::l).map idxOf/\A' 0=A 0:=by
     intro v n1 H1 hk hn hst;let A1:Nat->Hp:=λ q=>if q=j+1 then H1 else A q
     have hA1:∀q,q<=j->A1 q=A q:=λ q hq=>by simp only[A1];rw[ai ae]
     have hA2:A1 (j+1)=H1:=by simp[A1]
     let c:Rec:={i,v,lo:=n,hi:=n1,ph:=j,e:=0,dst:=o.dst,Fs:=(cS (slotsOf ops o)).f F,blk:=none,qG:=true,X:=H.get,hf:=false,jA:=none}
     have hok:rF P r ops A1 (j+1) c:=by
      refine⟨λ hm=>(by cases hm),λ hm=>(by cases hm),λ _ _ _ hm=>(by cases hm),λ _=>⟨rfl,Nat.lt_succ_self j,?_⟩⟩;show mG P r ops i o.dst ((cS (slotsOf ops o)).f F) H.get (A1 (j+1)).get v n n1;rw[hA2];exact hst
     refine rP (A':=A1) (Hs1:=H1::Hs) (c:=c) rfl hnext
      (good_step (A':=A1) (iP:=i::bL) (jX:=[]) (bad':=[]) (j':=j+1) (H1:=H1) (F1:=pd.f v F) g hnf c ho rfl hlt rfl hn rfl (λ t u hu=>qx hu) hp1 hD hE (λ t=>hpg v F t) hA1 hok rfl (.inr ⟨rfl,rfl,rfl,rfl,hA2,rfl,hp2,hch⟩)) hnf rfl
      ⟨Hs,by rw[hA2],hs.congr hA1⟩ (hA1 0 (Nat.zero_le _)) hk
    rcases pq (P:=P) h with⟨hw,h⟩|⟨hw,h⟩
    ·unfold inM at h
     split at h
     ·rename_i f args tys hop
      split at h
      ·rename_i ef hef;have heo:=iO hef;have hq:=dZ hef;simp only[Hg]at h
       split at h
       ·rename_i v hv;have:=eM (r:=r) ho hw heo hq hv ah;exact go v n H h (aK _) this
       ·rename_i v k hv;have:=eM (r:=r) ho hw heo hq hv ah;rw[tJ]at this;exact go v _ _ h (Nat.le_succ n) this
       ·rename_i v b k hv;have:=eM (r:=r) ho hw heo hq hv ah;rw[pM]at this;exact go v _ _ h (aK _) this
       ·rename_i v b k hv;have:=eM (r:=r) ho hw heo hq hv ah;rw[wS]at this;exact go v _ _ h (Nat.le_succ n) this
       cases h
      split at h
      ·rename_i gg as hg has;simp only[lK]at h
       split at h
       ·rename_i f' first cap hgv
        split at h
        ·rename_i vs hev
         split at h
         ·rename_i v H1 n1 hcall;have:=TD (r:=r) ho hw hop (.value rfl hg) has hce hgv hev hcall;exact go v n1 H1 h this.1 this
         cases h
        cases h
       ·rename_i q hgv
        split at h
        ·rename_i vs hev
         split at h
         ·rename_i v H1 n1 hy;have:=Jf (r:=r) ho hw hop (.value rfl hg) has hce hgv hev hy;exact go v n1 H1 h this.1 this
         cases h
        cases h
       cases h
      cases h
     split at h
     ·rename_i ef hef;have heo:=iO hef;have hq:=dZ hef;simp only[Hg]at h
      split at h
      ·rename_i v hv;have:=eM (r:=r) ho hw heo hq hv ah;exact go v n H h (aK _) this
      ·rename_i v k hv;have:=eM (r:=r) ho hw heo hq hv ah;rw[tJ]at this;exact go v _ _ h (Nat.le_succ n) this
      ·rename_i v b k hv;have:=eM (r:=r) ho hw heo hq hv ah;rw[pM]at this;exact go v _ _ h (aK _) this
      ·rename_i v b k hv;have:=eM (r:=r) ho hw heo hq hv ah;rw[wS]at this;exact go v _ _ h (Nat.le_succ n) this
      cases h
     cases h
    simp only[Uh]at h;exact go (.bo []) n H h (aK _) (step_skip ho hw _ _)
   cases h
  cases hp
end
end Go.Abs
