/- A part. -/
import Derived.Test.YtlhafglnokpioaaGreatAbs2
import Derived.Laws.StructEq
import Derived.ChangeKeysEq
import Derived.MapKept
import Derived.KernelRfl
import Derived.Laws.Externs
import Derived.Lib.Bytealg
import Derived.RangeFuncRecord
import Derived.DefersIn
import Derived.RecoverIn
noncomputable section
namespace Go.Abs
open List
section
variable {P:Program}
theorem Qr {t:TypeId}{d:TypeDesc}(hu:P.underlying t=some d)(h:∀fs,d≠.struct fs)(h2:∀n e,d≠.array n e):fJ P t=some false:=by
  unfold fJ;rw[hu];cases d<;>first | rfl | exact ai rfl (h _) | exact ai rfl (h2 _ _)
def pack (P:Program)(t:TypeId)(xs:List Value):Value:=match fJ P t with
  | some true=>.agg ⟨xs⟩
  | _=>xs.getD 0 undef
theorem oY {t:TypeId}{k off:Nat}{xs:List Value}(hk:bS P t=some k) (ha:fJ P t≠none) (h1:fJ P t=some false->k=1) (hle:off+k<=xs.length) (w:World):
    (part t ⟨xs⟩ off).run P w=.ok (pack P t ((xs.drop off).take k)) w:=by
  unfold pack
  cases hagg:fJ P t with
  | none=>exact ai hagg ha
  | some b =>
    cases b with
    | true =>
      cases hi:P.info? t with
      | none=>simp[bS,hi]at hk
      | some ti =>
        have:ti.size=k:=by simpa[bS,hi]using hk
        rw[v8 (P:=P) ⟨xs⟩ off hi hagg w,this]
        congr 2
        apply Array.ext'
        simp[extract]
    | false =>
      have hk1:=h1 hagg
      subst hk1
      have hlt:off<xs.length:=by omega
      rw[vZ (P:=P) ⟨xs⟩ off hagg (v:=xs[off]) (by simp[hlt]) w]
      congr 1
      simp[getD,hlt]
theorem HJ {φ:Ph}{D:Da}{q:LK}{a b:AV}{x y:Value}{r:Bool}(h:dH q a b=some r)(hx:VR φ D a x)(hy:VR φ D b y):
    (q=.i/\∃k i j,x=.int k i/\y=.int k j/\r=(i == j))∨(q=.b/\∃i j,x=.bool i/\y=.bool j/\r=(i == j))∨(q=.s/\∃i j,x=.string i/\y=.string j/\r=(i.toList == j.toList)):=by
  unfold dH at h
  split at h
  · split at h
    · rename_i e;subst e;injection h with h;subst h;cases hx;cases hy;exact .inl ⟨rfl,_,_,_,rfl,rfl,rfl⟩
    · cases h
  · injection h with h;subst h;cases hx;cases hy;exact .inr (.inl ⟨rfl,_,_,rfl,rfl,rfl⟩)
  · injection h with h;subst h
    cases hx with
    | str s _ hs=>cases hy with
      | str s' _ hs'=>exact .inr (.inr ⟨rfl,_,_,rfl,rfl,by rw[HM,<-toList_data,<-toList_data,hs,hs']⟩)
  · cases h
theorem lx:∀ {qs qs':List LK}{as bs:List AV}{r:Bool},bF (qs++qs') as bs=some r->qs.length<=as.length->qs.length<=bs.length->∃r1,bF qs (as.take qs.length) (bs.take qs.length)=some r1/\(r1=false->r=false)/\(r1=true->bF qs' (as.drop qs.length) (bs.drop qs.length)=some r)
  | [],qs',as,bs,r,h,_,_=>⟨true,by simp[bF],by simp,by intro _;simpa using h⟩
  | q::qs,qs',[],bs,r,h,hk,_=>by simp at hk
  | q::qs,qs',a::as,[],r,h,hk,hb=>by simp at hb
  | q :: qs,qs',a::as,b::bs,r,h,hk,hb=>by
    simp only[cons_append,bF]at h
    simp only[length_cons,take_succ_cons,drop_succ_cons,bF]
    cases hab:dH q a b with
    | none=>rw[hab]at h;cases h
    | some c =>
      rw[hab]at h
      cases c with
      | true=>exact lx h (by simpa using hk) (by simpa using hb)
      | false=>injection h with h;subst h;exact⟨false,rfl,λ _=>rfl,by simp⟩
def C3 (P:Program) (φ:Ph) (D:Da) (w:World) (dd:Nat) (t:TypeId) (k:List LK):Prop:=
  fJ P t≠none/\(fJ P t=some false->k.length=1)/\∀(as bs:List AV) (xs ys:List Value) (r:Bool),as.length=k.length->bs.length=k.length->bO φ D as xs->bO φ D bs ys->bF k as bs=some r ->
    (Op.equalIn dd t (pack P t xs) (pack P t ys)).run P w=.ok r w
theorem tR {φ : Ph}{D:Da}{rr:TypeId->Option (List LK)}{dd:Nat}(w:World) (ih:∀t k,rr t=some k->C3 P φ D w dd t k):
    ∀(fs:List Field) (s:Nat) (k:List LK) (as bs:List AV) (xs ys:List Value) (r:Bool),rC P rr fs s=some k->as.length=s+k.length->bs.length=s+k.length->bO φ D as xs->bO φ D bs ys->bF k (as.drop s) (bs.drop s)=some r ->
      (Op.eqFields dd ⟨xs⟩ ⟨ys⟩ fs).run P w=.ok r w
  | [],s,k,as,bs,xs,ys,r,h,ha,hb,hx,hy,he=>by
    simp only[rC]at h;injection h with h;subst h
    rw[drop_of_length_le (by simp at ha;omega),drop_of_length_le (by simp at hb;omega)]at he
    simp[bF]at he
    simp[Op.eqFields,he]
  | f :: fs, s, k,as,bs,xs,ys,r,h,ha,hb,hx,hy,he=>by
    simp only[rC]at h
    split at h
    · cases h
    · rename_i hname
      split at h
      · rename_i hoff
        split at h
        · rename_i kk hk
          split at h
          · rename_i hsz
            split at h
            · rename_i l hl
              injection h with h;subst h
              obtain⟨i1,i2,i3⟩:=ih f.type kk hk
              simp only[length_append]at ha hb
              have hlen:=hx.length
              have hlen':=hy.length
              obtain⟨r1,e1,e2,e3⟩:=lx he (by simp;omega) (by simp;omega)
              have p1:=oY (P:=P) (xs:=xs) (off:=s) hsz i1 i2 (by omega) w
              have p2:=oY (P:=P) (xs:=ys) (off:=s) hsz i1 i2 (by omega) w
              have q:=i3 ((as.drop s).take kk.length) ((bs.drop s).take kk.length) ((xs.drop s).take kk.length) ((ys.drop s).take kk.length) r1 (by simp;omega) (by simp;omega) ((hx.drop s).take kk.length) ((hy.drop s).take kk.length) e1
              simp only[Op.eqFields]
              rw[ao hname]
              simp only[bM,hoff,p1,p2,q,bJ]
              cases r1 with
              | false=>simp[e2 rfl]
              | true =>
                have e4:=e3 rfl
                rw[drop_drop,drop_drop]at e4
                simp only[Bool.not_true,Bool.false_eq_true,if_false]
                exact tR w ih fs (s+kk.length) l as bs xs ys r hl (by omega) (by omega) hx hy e4
            · cases h
          · cases h
        · cases h
      · cases h
theorem GU (n:Nat)(k:List LK):(nC n k).length=n*k.length:=by
  induction n with
  | zero=>simp[nC]
  | succ n ih=>simp[nC,ih,Nat.succ_mul];omega
theorem t_ {φ:Ph}{D:Da}{dd:Nat}{e:TypeId}{k:List LK}(w:World)(ih:C3 P φ D w dd e k)(hsz:bS P e=some k.length):
    ∀(m i:Nat) (as bs:List AV) (xs ys:List Value) (r:Bool),as.length=(i+m)*k.length->bs.length=(i+m)*k.length->bO φ D as xs->bO φ D bs ys->bF (nC m k) (as.drop (i*k.length)) (bs.drop (i*k.length))=some r ->
      (Op.eqItems dd e k.length ⟨xs⟩ ⟨ys⟩ (range' i m)).run P w=.ok r w
  | 0,i,as,bs,xs,ys,r,ha,hb,hx,hy,he=>by
    simp only[nC]at he
    rw[drop_of_length_le (by simp at ha;omega),drop_of_length_le (by simp at hb;omega)]at he
    simp[bF]at he
    simp[Op.eqItems,he]
  | m + 1,i,as,bs,xs,ys,r,ha,hb,hx,hy,he=>by
    obtain⟨i1,i2,i3⟩:=ih
    have hlen:=hx.length
    have hlen':=hy.length
    have hle:i*k.length+k.length<=as.length:=by rw[ha,<-Nat.succ_mul];exact Ai _ (by omega)
    have hle':i*k.length+k.length<=bs.length:=by rw[hb,<-Nat.succ_mul];exact Ai _ (by omega)
    simp only[nC]at he
    obtain⟨r1,e1,e2,e3⟩:=lx he (by simp;omega) (by simp;omega)
    have p1:=oY (P:=P) (xs:=xs) (off:=i*k.length) hsz i1 i2 (by omega) w
    have p2:=oY (P:=P) (xs:=ys) (off:=i*k.length) hsz i1 i2 (by omega) w
    have q:=i3 ((as.drop (i*k.length)).take k.length) ((bs.drop (i*k.length)).take k.length) ((xs.drop (i*k.length)).take k.length) ((ys.drop (i*k.length)).take k.length) r1 (by simp;omega) (by simp;omega) ((hx.drop _).take k.length) ((hy.drop _).take k.length) e1
    rw[range'_succ]
    simp only[Op.eqItems,bM,p1,p2,q,bJ]
    cases r1 with
    | false=>simp[e2 rfl]
    | true =>
      have e4:=e3 rfl
      rw[drop_drop,drop_drop,<-Nat.succ_mul]at e4
      simp only[Bool.not_true,Bool.false_eq_true,if_false]
      exact t_ w ⟨i1,i2,i3⟩ hsz m (i+1) as bs xs ys r (by rw[ha];congr 1;omega) (by rw[hb];congr 1;omega) hx hy e4
theorem qC {φ:Ph}{D:Da}(w:World):∀(d:Nat) (t:TypeId) (k:List LK),leaves P d t=some k->∀dd,d<=dd->C3 P φ D w dd t k
  | 0,t,k,h=>by simp[leaves]at h
  | d + 1,t,k,h=>by
    intro dd hdd
    obtain⟨dd,rfl⟩:∃e,dd=e+1:=⟨dd - 1,by omega⟩
    have leaf:∀zA q,P.underlying t=some zA->k=[q]->((zA=.bool/\q=.b)∨(zA=.string/\q=.s)∨∃kk,zA=.int kk/\q=.i)->C3 P φ D w (dd+1) t k:=by
      intro zA q hu hk hd
      subst hk
      have hagg:fJ P t=some false:=Qr hu (by rcases hd with⟨rfl,_⟩ | ⟨rfl,_⟩ | ⟨kk,rfl,_⟩<;>simp) (by rcases hd with⟨rfl,_⟩ | ⟨rfl,_⟩ | ⟨kk,rfl,_⟩<;>simp)
      refine⟨by rw[hagg];simp,λ _=>rfl,λ as bs xs ys r la lb hx hy he=>?_⟩
      match as,bs,la,lb with
      | [a],[b],_,_ =>
        cases hx with
        | cons _ x _ _ hx0 hx1 =>
        cases hx1
        cases hy with
        | cons _ y _ _ hy0 hy1 =>
        cases hy1
        simp only[bF]at he
        have he':dH q a b=some r:=by
          cases hab:dH q a b with
          | none=>rw[hab]at he;cases he
          | some c=>rw[hab]at he;cases c<;>simpa using he
        have hp:pack P t [x]=x/\pack P t [y]=y:=by unfold pack;rw[hagg];simp
        rw[hp.1,hp.2]
        rcases HJ he' hx0 hy0 with⟨rfl,kk,i,j,rfl,rfl,rfl⟩ | ⟨rfl,i,j,rfl,rfl,rfl⟩ | ⟨rfl,i,j,rfl,rfl,rfl⟩
        · rcases hd with⟨_,e⟩ | ⟨_,e⟩ | ⟨kk',rfl,_⟩
          · cases e
          · cases e
          · exact run_equalIn_int w dd t kk kk' i j hu
        · rcases hd with⟨rfl,_⟩ | ⟨_,e⟩ | ⟨kk',_,e⟩
          · exact run_equalIn_bool' w dd t i j hu
          · cases e
          · cases e
        · rcases hd with⟨_,e⟩ | ⟨rfl,_⟩ | ⟨kk',_,e⟩
          · cases e
          · exact run_equalIn_string w dd t i j hu
          · cases e
    unfold leaves at h
    split at h
    · rename_i hu;injection h with h;exact leaf _ _ hu h.symm (.inl ⟨rfl,rfl⟩)
    · rename_i kk hu;injection h with h;exact leaf _ _ hu h.symm (.inr (.inr ⟨kk,rfl,rfl⟩))
    · rename_i hu;injection h with h;exact leaf _ _ hu h.symm (.inr (.inl ⟨rfl,rfl⟩))
    · rename_i fs hu
      split at h
      · cases h
      · rename_i gw
        have hagg:fJ P t=some true:=by unfold fJ;rw[hu]
        refine⟨by rw[hagg];simp,by rw[hagg];simp,λ as bs xs ys r la lb hx hy he=>?_⟩
        have hp:pack P t xs=.agg ⟨xs⟩/\pack P t ys=.agg ⟨ys⟩:=by unfold pack;rw[hagg];exact⟨rfl,rfl⟩
        rw[hp.1,hp.2]
        have hfo:P.fieldsOf t=fs:=by unfold Program.fieldsOf;rw[hu]
        rw[run_equalIn_struct w dd t ⟨xs⟩ ⟨ys⟩ (by rw[hfo];exact hu) (by simpa using gw),hfo]
        exact tR (φ:=φ) (D:=D) (dd:=dd) w (λ t' k' h'=>qC (φ:=φ) (D:=D) w d t' k' h' dd (by omega)) fs.toList 0 k as bs xs ys r h (by omega) (by omega) hx hy (by simpa using he)
    · rename_i n e hu
      split at h
      · rename_i kk hk
        split at h
        · rename_i hsz
          injection h with h
          subst h
          have hagg:fJ P t=some true:=by unfold fJ;rw[hu]
          refine⟨by rw[hagg];simp,by rw[hagg];simp,λ as bs xs ys r la lb hx hy he=>?_⟩
          have hp:pack P t xs=.agg ⟨xs⟩/\pack P t ys=.agg ⟨ys⟩:=by unfold pack;rw[hagg];exact⟨rfl,rfl⟩
          rw[hp.1,hp.2]
          obtain⟨ti,hi,hcs⟩:∃ti,P.info? e=some ti/\P.cellsOf e=kk.length:=by
            unfold bS at hsz
            cases hi:P.info? e with
            | none=>rw[hi]at hsz;cases hsz
            | some ti=>rw[hi]at hsz;injection hsz with hsz;exact⟨ti,rfl,by simp[Program.cellsOf,hi,hsz]⟩
          rw[run_equalIn_array w dd ⟨xs⟩ ⟨ys⟩ hu hi,hcs,range_eq_range']
          rw[GU]at la lb
          exact t_ w (qC (φ:=φ) (D:=D) w d e kk hk dd (by omega)) hsz n 0 as bs xs ys r (by simpa using la) (by simpa using lb) hx hy (by simpa using he)
        · cases h
      · cases h
    · cases h
theorem SG {o:Oper}{op:BinOp}{t u:TypeId}{x y:Operand}{g k:G}{ks:List LK}(ho:o.op=.binOp op t x y u) (hg:bQ x=some g) (hk:bQ y=some k) (hop:isEq op=true) (hagg:fJ P t=some true) (hl:leaves P 20 t=some ks)
    (hgd:P.eqGuardType P.depth t=false):bC P o (e2 (ly (kR op) ks) g k):=by
  refine HN hg hk _ λ φ D h w n ρ v u xv yv hr hx hy hv huv hf hne=>?_
  unfold ly at hne ⊢
  split at hne
  · rename_i a na b nb
    split at hne
    · rename_i hn
      simp only[dN]at hn
      have hn1:=b9 hn.1
      have hn2:=b9 hn.2
      split at hne
      · rename_i r hr'
        cases hv with
        | agg _ xl _ hxs hxn =>
        cases huv with
        | agg _ yl _ hys hyn =>
        obtain⟨_,_,q3⟩:=qC (P:=P) (φ:=φ) (D:=D) w 20 t ks hl 10000 (by omega)
        have hp:pack P t xl=.agg ⟨xl⟩/\pack P t yl=.agg ⟨yl⟩:=by unfold pack;rw[hagg];exact⟨rfl,rfl⟩
        have q:=q3 a b xl yl r (by omega) (by omega) hxs hys hr'
        rw[hp.1,hp.2]at q
        refine Does.val hr (cv:=.bool (kR op != r)) ?_ (.bool _)
        simp only[execOp,ho,hx,hy,bM,run_eqGuard_agg w op t x y _ _ hgd,bJ]
        cases op<;>simp[isEq]at hop
        · simp only[run_eql_struct,q,bJ,cD,kR];cases r<;>rfl
        · simp only[run_neq_struct,q,bJ,cD,kR];cases r<;>rfl
      · exact ai rfl hne
    · exact ai rfl hne
  · exact ai rfl hne
theorem run_eq_of {op:BinOp}{t:TypeId}{x y:Value}{r:Bool}(w:World)(hop:isEq op=true)(he:binOp .eql t x y=(do pure (.bool (<-Op.equal t x y))))(hn:binOp .neq t x y=(do pure (.bool (!(<-Op.equal t x y)))))
    (h:∀d,(Op.equalIn (d+1) t x y).run P w=.ok r w):(binOp op t x y).run P w=.ok (.bool (kR op != r)) w:=by
  have h':(Op.equal t x y).run P w=.ok r w:=h 9999
  cases op<;>simp[isEq]at hop
  · rw[he];simp only[bM,h',bJ,cD,kR];cases r<;>rfl
  · rw[hn];simp only[bM,h',bJ,cD,kR];cases r<;>rfl
def lA (P:Program)(al:Bool)(q:EqK):TypeDesc->Prop
  | .int _=>q=.num
  | .string=>q=.num
  | .bool=>q=.bool
  | .pointer e=>q=.ptr/\∃k,bS P e=some (k+1)
  | .slice _=>q=.slice
  | .map _ _=>q=.map
  | .func _ _ _=>q=.func
  | .interface _=>(q=.qE/\al=true)∨q=.iface
  | _=>False
theorem HK {t:TypeId}{q:EqK}{al:Bool}(hq:wU P al t=some q):∃zA,P.underlying t=some zA/\lA P al q zA:=by
  unfold wU at hq
  split at hq
  · rename_i hu;injection hq with hq;exact⟨_,hu,hq.symm⟩
  · rename_i hu;injection hq with hq;exact⟨_,hu,hq.symm⟩
  · rename_i hu;injection hq with hq;exact⟨_,hu,hq.symm⟩
  · rename_i hu
    split at hq
    · rename_i hz
      injection hq with hq
      exact⟨_,hu,hq.symm,_,hz⟩
    · cases hq
  · rename_i hu;injection hq with hq;exact⟨_,hu,hq.symm⟩
  · rename_i hu;injection hq with hq;exact⟨_,hu,hq.symm⟩
  · rename_i hu;injection hq with hq;exact⟨_,hu,hq.symm⟩
  · rename_i hu
    injection hq with hq
    refine⟨_,hu,?_⟩
    show (q=.qE/\al=true)∨q=.iface
    rw[<-hq]
    cases al
    · exact .inr rfl
    · exact .inl ⟨rfl,rfl⟩
  · cases hq
theorem gV {op:BinOp}{t:TypeId}{xo yo:Operand}{x y:Value}(w:World)(hop:isEq op=true)(hagg:∀l,x≠.agg l)(hnil:x≠.nilIface∨y≠.nilIface∨(rD xo||rD yo)=true):
    (eqGuard op t xo yo x y).run P w=.ok () w:=by
  cases op<;>simp[isEq]at hop
  all_goals
    cases x<;>cases y<;>first
      | rfl
      | exact ai rfl (hagg _)
      | (rcases hnil with hnil | hnil | hnil
         · exact ai rfl hnil
         · exact ai rfl hnil
         · cases xo<;>cases yo<;>first | rfl | (simp[rD]at hnil))
theorem P8 {t el:TypeId}{k o1 o2 cb co:Nat}(w:World) (hu:P.underlying t=some (.pointer el)) (hk:bS P el=some (k+1)) (d:Nat):
    (Op.equalIn (d+1) t (.pointer (some ⟨cb,co+o1,none⟩)) (.pointer (some ⟨cb,co+o2,none⟩))).run P w=.ok (Nat.beq o1 o2) w:=by
  cases hi:P.info? el with
  | none=>simp[bS,hi]at hk
  | some ti =>
    have hsz:ti.size=k+1:=by simpa[bS,hi]using hk
    have hs:(sizeOf el).run P=λ w=>.ok (k+1) w:=by funext w;rw[run_sizeOf _ hi];simp[Program.cellsOf,hi,hsz]
    have heq:((⟨cb,co+o1,none⟩:Addr) ==⟨cb,co+o2,none⟩)=Nat.beq o1 o2:=by
      by_cases ho:o1=o2
      · subst ho;simp
      · have:(Nat.beq o1 o2)=false:=by
          cases hb:Nat.beq o1 o2 with
          | false=>rfl
          | true=>exact ai (b9 hb) ho
        rw[this];simp;exact ho
    simp only[Op.equalIn,bM,run_underlying hu,bJ,hs]
    simp[sameAddr,heq]
theorem sL {t:TypeId}{zA:TypeDesc}{x y:Value}{al:Bool}{q:EqK}(w:World)(hu:P.underlying t=some zA)(hm:lA P al q zA)(d:Nat)(r:Bool)
    (h:(q=.ptr/\((∃a,x=.pointer (some a)/\y=.pointer none/\r=false)∨(∃a,x=.pointer none/\y=.pointer (some a)/\r=false)∨(x=.pointer none/\y=.pointer none/\r=true))) ∨
      (q=.slice/\((∃a l c l' c',x=.slice (some a) l c/\y=.slice none l' c'/\r=false)∨(∃a l c l' c',x=.slice none l' c'/\y=.slice (some a) l c/\r=false)∨(∃l c l' c',x=.slice none l c/\y=.slice none l' c'/\r=true))) ∨
      (q=.map/\((∃a,x=.map (some a)/\y=.map none/\r=false)∨(∃a,x=.map none/\y=.map (some a)/\r=false)∨(x=.map none/\y=.map none/\r=true))) ∨
      (q=.func/\((∃f a b,x=.func f a b/\y=.nilFunc/\r=false)∨(∃f a b,x=.nilFunc/\y=.func f a b/\r=false)∨(x=.nilFunc/\y=.nilFunc/\r=true))) ∨
      ((q=.iface∨q=.qE)/\((∃a b,x=.iface a b/\y=.nilIface/\r=false)∨(∃a b,x=.nilIface/\y=.iface a b/\r=false)∨(x=.nilIface/\y=.nilIface/\r=true)))):
    (Op.equalIn (d+1) t x y).run P w=.ok r w:=by
  simp only[Op.equalIn,bM,run_underlying hu,bJ]
  rcases h with⟨rfl,h⟩ | ⟨rfl,h⟩ | ⟨rfl,h⟩ | ⟨rfl,h⟩ | ⟨h0,h⟩
  · cases zA<;>simp[lA]at hm
    rcases h with⟨_,rfl,rfl,rfl⟩ | ⟨_,rfl,rfl,rfl⟩ | ⟨rfl,rfl,rfl⟩<;>rfl
  · cases zA<;>simp[lA]at hm
    rcases h with⟨_,_,_,_,_,rfl,rfl,rfl⟩ | ⟨_,_,_,_,_,rfl,rfl,rfl⟩ | ⟨_,_,_,_,rfl,rfl,rfl⟩<;>rfl
  · cases zA<;>simp[lA]at hm
    rcases h with⟨_,rfl,rfl,rfl⟩ | ⟨_,rfl,rfl,rfl⟩ | ⟨rfl,rfl,rfl⟩<;>rfl
  · cases zA<;>simp[lA]at hm
    rcases h with⟨_,_,_,rfl,rfl,rfl⟩ | ⟨_,_,_,rfl,rfl,rfl⟩ | ⟨rfl,rfl,rfl⟩<;>rfl
  · rcases h0 with rfl | rfl<;>(cases zA<;>simp[lA]at hm) <;>
    rcases h with⟨_,_,rfl,rfl,rfl⟩ | ⟨_,_,rfl,rfl,rfl⟩ | ⟨rfl,rfl,rfl⟩<;>rfl
theorem P7 {φ:Ph}{D:Da}{op:BinOp}{t:TypeId}{q:EqK}{a b:AV}{xo yo:Operand}{x y:Value}{r:Bool}(w:World)(hop:isEq op=true)(h:fS q a b=some r)(hx:VR φ D a x)(hy:VR φ D b y)(hq:wU P (rD xo||rD yo) t=some q):
    (eqGuard op t xo yo x y).run P w=.ok () w/\(binOp op t x y).run P w=.ok (.bool (kR op != r)) w:=by
  obtain⟨zA,hu,hm⟩:=HK hq
  unfold fS at h
  split at h
  · split at h
    · rename_i hjk
      subst hjk;injection h with h;subst h;cases hx;cases hy
      refine⟨gV w hop (by simp) (by simp),?_⟩
      cases op<;>simp[isEq]at hop<;>simp[binOp,Op.intCmp,kR,bne]
    · cases h
  · injection h with h;subst h
    cases hx with
    | str s _ hs =>
    cases hy with
    | str s' _ hs' =>
    subst hs hs'
    have he:(s.toList == s'.toList)=eQ (s.data.toList.map UInt8.toNat) (s'.data.toList.map UInt8.toNat):=by rw[HM,<-toList_data,<-toList_data]
    refine⟨gV w hop (by simp) (by simp),?_⟩
    cases op<;>simp[isEq]at hop<;>simp[binOp,Op.stringOp,kR,bne,he]
  · injection h with h;subst h;cases hx;cases hy
    refine⟨gV w hop (by simp) (by simp),?_⟩
    cases zA<;>simp[lA]at hm
    exact run_eq_of w hop rfl rfl λ d=>by simp[Op.equalIn,run_underlying hu]
  · rename_i a1 o1 b1 o2
    split at h
    · rename_i hb
      have hb:=b9 hb
      subst hb;injection h with h;subst h
      cases hx with
      | ptr _ _ cb co cz hp =>
      cases hy with
      | ptr _ _ cb' co' cz' hp' =>
      rw[hp]at hp';injection hp' with hp';simp only[Prod.mk.injEq]at hp';obtain⟨rfl,rfl,rfl⟩:=hp'
      refine⟨gV w hop (by simp) (by simp),?_⟩
      cases zA<;>simp[lA]at hm
      obtain⟨k,hk⟩:=hm
      exact run_eq_of w hop rfl rfl (P8 w hu hk)
    · cases h
  all_goals first
    | (exfalso;cases h;done)
    | (injection h with h;subst h;cases hx<;>cases hy <;>
       exact⟨gV w hop (λ _=>Value.noConfusion) (.inl Value.noConfusion),run_eq_of w hop rfl rfl λ d=>sL w hu hm d _ (by simp)⟩)
    | (injection h with h;subst h;cases hx<;>cases hy <;>
       exact⟨gV w hop (λ _=>Value.noConfusion) (.inr (.inl Value.noConfusion)),run_eq_of w hop rfl rfl λ d=>sL w hu hm d _ (by simp)⟩)
    | skip
  · injection h with h;subst h;cases hx;cases hy
    refine⟨gV w hop (by simp) (.inr (.inr ?_)),run_eq_of w hop rfl rfl λ d=>sL w hu hm d _ (by simp)⟩
    cases zA<;>simp[lA]at hm
    simpa using hm
theorem ok_eq {o:Oper}{op:BinOp}{t u:TypeId}{x y:Operand}{g k:G}{q:EqK}(ho:o.op=.binOp op t x y u)(hg:bQ x=some g)(hk:bQ y=some k)(hop:isEq op=true)(hq:wU P (rD x||rD y) t=some q):bC P o (e2 (js (kR op) q) g k):=by
  refine HN hg hk _ λ φ D h w n ρ v u xv yv hr hx hy hv huv hf hne=>?_
  unfold js at hne ⊢
  cases he:fS q v u with
  | none=>rw[he]at hne;exact ai rfl hne
  | some r =>
    obtain⟨h1,h2⟩:=P7 (P:=P) w hop he hv huv hq
    exact Does.val hr (by simp only[execOp,ho,hx,hy,bM,h1,h2,bJ,cD]) (.bool _)
end
end Go.Abs
namespace Go.Abs
open List
section
variable {P:Program}
theorem tP {o:Oper}{c:Call}{t:TypeId}{x:Operand}{k:Nat}{d:TypeDesc}(ho:o.op=.call c)(hcb:c.callee=.builtin .len)(h0:c.argTypes[0]?=some t)(a0:c.args[0]?=some x)
  (hu:P.underlying t=some d)(hd:(∃e,d=.array k e)∨∃arr e,d=.pointer arr/\P.underlying arr=some (.array k e)):bC P o (λ _ _ _=>.val (.int .i64 (Int.ofNat k))):=by
 intro F H n φ D a w hr hF hf hne;obtain⟨cs,hrun⟩:=fO (P:=P) (ρ:=a.eval) ho hcb w;refine Does.val hr (cv:=.int .i64 k) ?_ (.int _ _);rw[hrun]
 rcases hd with⟨e,rfl⟩|⟨arr,e,rfl,ha⟩
 ·simp[builtin,Builtin.len_,h0,a0,run_underlying hu,goInt]
 simp[builtin,Builtin.len_,h0,a0,run_underlying hu,run_underlying ha,goInt]
theorem aa4 {o:Oper}{c:Call}{t:TypeId}{x:Operand}{g:G}(ho:o.op=.call c)(hcb:c.callee=.builtin .len)(h0:c.argTypes[0]?=some t)(a0:c.args[0]?=some x)(hg:bQ x=some g)
  (hu:P.underlying t=some .string):bC P o (e1 mY g):=by
 refine sM hg _ λ φ D h w n ρ v xv hr hx hv hf hne=>?_;obtain⟨cs,hrun⟩:=fO (P:=P) (ρ:=ρ) ho hcb w;unfold mY at hne ⊢
 split at hne
 ·cases hv with
  |str s _ hs =>
  have hl:dF (s.data.toList.map UInt8.toNat) 0=s.size:=by rw[bI,length_map];rfl
  subst hs;refine Does.val hr (cv:=.int .i64 s.size) ?_ (by rw[hl];exact .int _ _);rw[hrun];simp[builtin,Builtin.len_,h0,a0,run_underlying hu,hx,goInt]
 exact ai rfl hne
theorem aa5 {o:Oper}{c:Call}{t e:TypeId}{x:Operand}{g:G}(ho:o.op=.call c) (hcb:c.callee=.builtin .len) (h0:c.argTypes[0]?=some t) (a0:c.args[0]?=some x) (hg:bQ x=some g)
  (hu:P.underlying t=some (.slice e)):bC P o (e1 aZ g):=by
 refine sM hg _ λ φ D h w n ρ v xv hr hx hv hf hne=>?_;obtain⟨cs,hrun⟩:=fO (P:=P) (ρ:=ρ) ho hcb w
 have go:∀a k c,xv=.slice a k c->Does P (execOp ρ o) φ D h w n (.val (.int .i64 (Int.ofNat k))):=by
  intro a k c' e;refine Does.val hr (cv:=.int .i64 k) ?_ (.int _ _);rw[hrun];simp[builtin,Builtin.len_,h0,a0,run_underlying hu,hx,goInt,e]
 unfold aZ at hne ⊢
 split at hne
 ·cases hv;exact go _ _ _ rfl
 ·cases hv<;>exact go _ _ _ rfl
 ·rename_i p c
  split at hne
  ·cases hv with
   |al _ ha =>
   have:p=0:=by
    unfold atom at ha
    split at ha<;>simp_all
   subst this;exact go none 0 0 rfl
  exact ai rfl hne
 exact ai rfl hne
theorem KW {φ:Ph}{D:Da}{k:IntKind}(w:World):∀(l:List AV) (xs:List Value) (a:Int) (r:AV),bO φ D l xs->Ey k a l=some r->∃i,r=.int k i/\(xs.foldlM Builtin.min2 (.int k a)).run P w=.ok (.int k i) w
 |[],xs,a,r,hx,h=>by
  cases hx
  simp only[Ey]at h;injection h with h;subst h;exact⟨_,rfl,by simp⟩
 |v :: l,xs,a,r,hx,h=>by
  unfold Ey at h
  split at h
  ·rename_i e;cases e
  ·rename_i j b r' e;injection e with e1 e2;subst e1 e2
   split at h
   ·rename_i e;subst e
    cases hx with
    |cons _ y _ ys h1 h2 =>
    cases h1
    obtain⟨i,hi,hrun⟩:=KW w l ys _ _ h2 h;exact⟨i,hi,by simp only[List.foldlM_cons,Builtin.min2,bM,cD,bJ];exact hrun⟩
   cases h
  cases h
theorem KY {φ:Ph}{D:Da}{k:IntKind}(w:World):∀(l:List AV) (xs:List Value) (a:Int) (r:AV),bO φ D l xs->PL k a l=some r->∃i,r=.int k i/\(xs.foldlM Builtin.max2 (.int k a)).run P w=.ok (.int k i) w
 |[],xs,a,r,hx,h=>by
  cases hx
  simp only[PL]at h;injection h with h;subst h;exact⟨_,rfl,by simp⟩
 |v :: l,xs,a,r,hx,h=>by
  unfold PL at h
  split at h
  ·rename_i e;cases e
  ·rename_i j b r' e;injection e with e1 e2;subst e1 e2
   split at h
   ·rename_i e;subst e
    cases hx with
    |cons _ y _ ys h1 h2 =>
    cases h1
    obtain⟨i,hi,hrun⟩:=KY w l ys _ _ h2 h;exact⟨i,hi,by simp only[List.foldlM_cons,Builtin.max2,bM,cD,bJ];exact hrun⟩
   cases h
  cases h
theorem agv {o:Oper}{c:Call}{gs:List G}(ho:o.op=.call c) (hcb:c.callee=.builtin .min) (hg:iS c.args.toList=some gs):bC P o (wW PI gs):=by
 intro F H n φ D a w hr hF hf hne;obtain⟨cs,hrun⟩:=fO (P:=P) (ρ:=a.eval) ho hcb w;unfold wW at hf hne ⊢
 cases hv:evs F gs with
 |none=>rw[hv]at hne;exact ai rfl hne
 |some l =>
  rw[hv]at hne;have hl:=dh hg F φ D a hF l hv;dsimp only at hne ⊢
  cases hm:PI l with
  |none=>rw[hm]at hne;exact ai rfl hne
  |some r =>
   unfold PI at hm
   split at hm
   ·rename_i k i rest
    cases hxs:c.args.toList.map a.eval with
    |nil=>rw[hxs]at hl;cases hl
    |cons x xs =>
     rw[hxs]at hl
     cases hl with
     |cons _ _ _ _ h1 h2 =>
     cases h1
     obtain⟨j,rfl,hj⟩:=KW (P:=P) w rest xs i r h2 hm;refine Does.val hr (cv:=.int k j) ?_ (.int _ _);rw[hrun];simp[builtin,Builtin.min_,hxs,hj]
   cases hm
theorem agw {o:Oper}{c:Call}{gs:List G}(ho:o.op=.call c) (hcb:c.callee=.builtin .max) (hg:iS c.args.toList=some gs):bC P o (wW Hm gs):=by
 intro F H n φ D a w hr hF hf hne;obtain⟨cs,hrun⟩:=fO (P:=P) (ρ:=a.eval) ho hcb w;unfold wW at hf hne ⊢
 cases hv:evs F gs with
 |none=>rw[hv]at hne;exact ai rfl hne
 |some l =>
  rw[hv]at hne;have hl:=dh hg F φ D a hF l hv;dsimp only at hne ⊢
  cases hm:Hm l with
  |none=>rw[hm]at hne;exact ai rfl hne
  |some r =>
   unfold Hm at hm
   split at hm
   ·rename_i k i rest
    cases hxs:c.args.toList.map a.eval with
    |nil=>rw[hxs]at hl;cases hl
    |cons x xs =>
     rw[hxs]at hl
     cases hl with
     |cons _ _ _ _ h1 h2 =>
     cases h1
     obtain⟨j,rfl,hj⟩:=KY (P:=P) w rest xs i r h2 hm;refine Does.val hr (cv:=.int k j) ?_ (.int _ _);rw[hrun];simp[builtin,Builtin.max_,hxs,hj]
   cases hm
end
end Go.Abs
namespace Go.Abs
open List
open Go.MapKept (bytes_beq run_getObj_map run_setObj_map run_findKey)
section
variable {P:Program}
theorem tZ {a b:List Nat}(h:eQ a b=true):a=b:=by rw[eJ]at h;simpa using h
theorem E' (a:List Nat):eQ a a=true:=by rw[eJ];simp
def kindOk:LK->TypeDesc->Prop
 |.i,.int _=>True
 |.s,.string=>True
 |_,_=>False
theorem ze {t:TypeId}{q:LK}(h:PT P t=some q):∃d,P.underlying t=some d/\kindOk q d:=by
 unfold PT at h
 split at h
 ·rename_i hu;injection h with h;subst h;exact⟨_,hu,trivial⟩
 ·rename_i hu;injection h with h;subst h;exact⟨_,hu,trivial⟩
 cases h
theorem bytes_inj {s s':ByteArray}(h:s.data.toList.map UInt8.toNat=s'.data.toList.map UInt8.toNat):s=s':=by
 have h1:s.data.toList=s'.data.toList:=(List.map_inj_right (λ x y h=>UInt8.toNat_inj.1 h)).1 h
 cases s;cases s'
 congr 1
 exact Array.ext' h1
theorem lJ {φ : Ph}{D:Da}{q:LK}{d:TypeDesc}{a b:AV}{x y:Value}{r:Bool}(hd:kindOk q d) (h:dH q a b=some r) (hx:VR φ D a x) (hy:VR φ D b y):Instr.sameNow d x y=some r/\(r=true->x=y):=by
 unfold dH at h
 split at h
 ·split at h
  ·rename_i e;subst e;injection h with h;subst h
   cases hx;cases hy
   cases d<;>simp[kindOk]at hd
   exact⟨by simp[Instr.sameNow],by simp⟩
  cases h
 ·cases d<;>simp[kindOk]at hd
 ·injection h with h;subst h
  cases hx with
  |str s _ hs=>cases hy with
   |str s' _ hs' =>
    subst hs hs'
    cases d<;>simp[kindOk]at hd
    have he:(s == s')=eQ (s.data.toList.map UInt8.toNat) (s'.data.toList.map UInt8.toNat):=by
     cases hq:eQ (s.data.toList.map UInt8.toNat) (s'.data.toList.map UInt8.toNat)with
     |true =>
      have:=tZ hq;rw[bytes_inj this];exact(bytes_beq _ _).2 rfl
     |false =>
      cases hb:s == s' with
      |false=>rfl
      |true =>
       have:=(bytes_beq _ _).1 hb;subst this;rw[E']at hq;cases hq
    refine⟨by simp only[Instr.sameNow,he],λ hr=>by rw[bytes_inj (tZ hr)]⟩
 cases h
theorem adv {q:LK}{d:TypeDesc}{kt:TypeId}{x:Value}{w:World}(hu:P.underlying kt=some d)(hd:kindOk q d)(e:Bool)(n:Nat):(Instr.checkKey e (n+1) kt x).run P w=.ok () w:=by
 unfold Instr.checkKey;simp only[bM,run_underlying hu,bJ]
 cases q<;>cases d<;>simp[kindOk]at hd<;>cases x<;>rfl
theorem ag2 {φ:Ph}{D:Da}{q:LK}{k:AV}{x:Value}{w:World}(h:isKey q k=true)(hx:VR φ D k x):(Instr.keyThatStays x x).run P w=.ok x w:=by
 unfold isKey at h
 split at h
 ·cases hx;simp[Instr.keyThatStays,Instr.sameBits]
 ·cases hx;simp[Instr.keyThatStays,Instr.sameBits,(bytes_beq _ _).2]
 cases h
theorem mH {φ:Ph}{D:Da}{q:LK}{d:TypeDesc}{k:AV}{x:Value}(hd:kindOk q d)(hx:VR φ D k x):∀(es:List (AV×AV×Nat))(l:List MapEntry)(i:Nat)(r:Option AV),ve φ D es l->findKey q k es=some r ->
  (r=none/\Instr.findNow d x l i=some none)∨∃v j y,r=some v/\Instr.findNow d x l i=some (some (j,y))/\VR φ D v y
 |[],l,i,r,he,h=>by
  cases he
  simp only[findKey]at h;injection h with h;exact .inl ⟨h.symm,rfl⟩
 |e :: es,l,i,r,he,h=>by
  cases he with
  |cons kk v b y z _ l' h1 h2 h3 =>
  simp only[findKey]at h
  split at h
  ·rename_i hq;injection h with h;exact .inr ⟨v,i,z,h.symm,by simp[Instr.findNow,(lJ hd hq hx h1).1],h2⟩
  ·rename_i hq
   rcases mH hd hx es l' (i+1) r h3 h with⟨h4,h5⟩|⟨v',j,y',h4,h5,h6⟩
   ·exact .inl ⟨h4,by simp[Instr.findNow,(lJ hd hq hx h1).1,h5]⟩
   exact .inr ⟨v',j,y',h4,by simp[Instr.findNow,(lJ hd hq hx h1).1,h5],h6⟩
  cases h
theorem kO {φ:Ph}{D:Da}{q:LK}{d:TypeDesc}{k v:AV}{x z:Value}(hd:kindOk q d) (hx:VR φ D k x) (hz:VR φ D v z):∀(es:List (AV×AV×Nat)) (l:List MapEntry) (i:Nat) (r:Option (List (AV×AV×Nat))),ve φ D es l->iC q k v es=some r ->
  (r=none/\Instr.findNow d x l i=some none)∨∃es' j y e,r=some es'/\Instr.findNow d x l i=some (some (i+j,y))/\l[j]?=some e/\e.key=x/\ve φ D es' (l.modify j λ e=>{e with key:=x,val:=z})
 |[],l,i,r,he,h=>by
  cases he
  simp only[iC]at h;injection h with h;exact .inl ⟨h.symm,rfl⟩
 |e :: es,l,i,r,he,h=>by
  cases he with
  |cons kk u b y u' _ l' h1 h2 h3 =>
  simp only[iC]at h
  split at h
  ·rename_i hq;injection h with h;obtain⟨hs,heq⟩:=lJ hd hq hx h1;exact .inr ⟨_,0,u',_,h.symm,by simp[Instr.findNow,hs],rfl,(heq rfl).symm,.cons _ _ _ _ _ _ _ hx hz h3⟩
  ·rename_i hq;obtain⟨hs,_⟩:=lJ hd hq hx h1
   split at h
   ·rename_i r' hr';injection h with h
    rcases kO hd hx hz es l' (i+1) _ h3 hr' with⟨h4,_⟩|⟨es',j,y',e',h4,h5,h6,h7,h8⟩
    ·cases h4
    injection h4 with h4;subst h4;exact .inr ⟨_,j+1,y',e',h.symm,by simp[Instr.findNow,hs,h5];omega,by simpa using h6,h7,.cons _ _ _ _ _ _ _ h1 h2 h8⟩
   ·rename_i hr';injection h with h
    rcases kO hd hx hz es l' (i+1) _ h3 hr' with⟨_,h5⟩|⟨es',j,y',e',h4,_⟩
    ·exact .inl ⟨h.symm,by simp[Instr.findNow,hs,h5]⟩
    cases h4
   cases h
  cases h
theorem ve.push {φ:Ph}{D:Da}{k v:AV}{x z:Value}{b:Nat}(hx:VR φ D k x)(hz:VR φ D v z):∀ {es:List (AV×AV×Nat)}{l:List MapEntry},ve φ D es l->ve φ D (es++[(k,v,b)]) (l++[⟨x,z,b⟩])
 |_,_,.nil=>.cons _ _ _ _ _ _ _ hx hz .nil
 |_,_,.cons _ _ _ _ _ _ _ h1 h2 h3=>.cons _ _ _ _ _ _ _ h1 h2 (ve.push hx hz h3)
theorem World.Qq (w:World)(o:Obj):(World.newObj w o).heap[w.heap.size]?=some o:=by
 show (w.heap.push o)[w.heap.size]?=some o;simp
theorem Ek {o:Oper}{t:TypeId}{x:Option Operand}(ho:o.op=.makeMap t x)(hx:x=none∨((∃k n,x=some (.const (.int k n)))/\∃k e,P.underlying t=some (.map k e))):bC P o kD:=by
 intro F H n φ D a w hr hF hf hne;have hn:φ n=none:=hf n (aP _) (by simp[kD,sB]);obtain⟨h1,h2⟩:=mr hr (λ b x y=>hf b x (by simpa[kD,sB]using y)) (.map #[] 0) 0 (.map [] 0) ⟨#[],World.Qq w _,.nil⟩;refine⟨.value (.map (some w.heap.size)),_,_,_,?_,.value _,h2,h1,.map _ _ 0 0 (by simp[Ph.set])⟩
 rcases hx with rfl|⟨⟨k,m,rfl⟩,kt,et,hu⟩
 ·simp[execOp,ho,Instr.makeMap];rfl
 simp[execOp,ho,Instr.makeMap,run_underlying hu,Act.eval,asInt,asIntOf];rfl
theorem Pv {o : Oper}{t kt et:TypeId}{x y:Operand}{ok:Bool}{g k:G}{q:LK}{z:AV}{zv:Value}{ti:TypeInfo}(ho:o.op=.lookup t x y ok) (hg:bQ x=some g) (hk:bQ y=some k) (hu:P.underlying t=some (.map kt et)) (hq:PT P kt=some q)
  (hi:P.info? et=some ti)(h0:ti.zero=some zv)(hz:Iq zv=some z):bC P o (jq q z ok g k):=by
 obtain⟨d,hd,hkd⟩:=ze hq;intro F H n φ D a w hr hF hf hne;unfold jq at hf hne ⊢
 cases hv:g.f F with
 |none=>rw[hv]at hne;exact ai rfl hne
 |some m =>
  rw[hv]at hne;dsimp only at hne ⊢
  cases hkv:k.f F with
  |none=>rw[hkv]at hne;exact ai rfl hne
  |some kv =>
   rw[hkv]at hne;dsimp only at hne ⊢;have hm:=aH hg F φ D a hF m hv;have hky:=aH hk F φ D a hF kv hkv;unfold eW at hne ⊢
   split at hne
   ·rename_i b
    split at hne
    ·rename_i es clk hb
     split at hne
     ·rename_i amd;generalize hxv:a.eval x=xv at hm
      cases hm with
      |map _ cb co cz hp =>
      obtain⟨_,zF,hc1,hc2⟩:=hr.block hb hp;have hc1:w.heap[cb]?=some (.map zF clk):=hc1;have hck:=adv (P:=P) (x:=a.eval y) (w:=w) hd hkd zF.isEmpty 9999
      split at hne
      ·rename_i v hfk
       rcases mH hkd hky es zF.toList 0 _ hc2 hfk with⟨h,_⟩|⟨v',j,y',h1,h2,h3⟩
       ·cases h
       injection h1 with h1;subst h1;have hf2:=run_findKey (w:=w) hd h2;refine Does.val hr (cv:=if ok then .tuple #[y',.bool true]else y') ?_ ?_
       ·simp only[execOp,ho,hxv,Instr.lookup,bM,run_underlying hu,bJ,run_getObj_map hc1,cD,hck,hf2]
       cases ok
       ·exact h3
       exact .aX _ _ (.cons _ _ _ _ h3 (.cons _ _ _ _ (.bool _) .nil))
      ·rename_i hfk
       rcases mH hkd hky es zF.toList 0 _ hc2 hfk with⟨_,h2⟩|⟨v',j,y',h1,_⟩
       ·have hf2:=run_findKey (w:=w) hd h2;refine Does.val hr (cv:=if ok then .tuple #[zv,.bool false]else zv) ?_ ?_
        ·simp only[execOp,ho,hxv,Instr.lookup,bM,run_underlying hu,bJ,run_getObj_map hc1,cD,hck,hf2,nF hi h0]
        cases ok
        ·exact .uU hz
        exact .aX _ _ (.cons _ _ _ _ (.uU hz) (.cons _ _ _ _ (.bool _) .nil))
       cases h1
      exact ai rfl hne
     exact ai rfl hne
    exact ai rfl hne
   exact ai rfl hne
theorem KN {o : Oper}{t kt et:TypeId}{x y u:Operand}{g k l:G}{q:LK}(ho:o.op=.mapUpdate t x y u∨o.op=.insert t x y u) (hg:bQ x=some g) (hk:bQ y=some k) (hl:bQ u=some l) (hu:P.underlying t=some (.map kt et)) (hq:PT P kt=some q):
  bC P o (kC q g k l):=by
 obtain⟨d,hd,hkd⟩:=ze hq;intro F H n φ D a w hr hF hf hne;unfold kC at hf hne ⊢
 cases hv:g.f F with
 |none=>rw[hv]at hne;exact ai rfl hne
 |some m =>
  rw[hv]at hne;dsimp only at hne ⊢
  cases hkv:k.f F with
  |none=>rw[hkv]at hne;exact ai rfl hne
  |some kv =>
   rw[hkv]at hne;dsimp only at hne ⊢
   cases hlv:l.f F with
   |none=>rw[hlv]at hne;exact ai rfl hne
   |some lv =>
    rw[hlv]at hne;dsimp only at hne ⊢;have hm:=aH hg F φ D a hF m hv;have hky:=aH hk F φ D a hF kv hkv;have hly:=aH hl F φ D a hF lv hlv;unfold qh at hne ⊢
    split at hne
    ·rename_i b
     split at hne
     ·rename_i es clk hb
      split at hne
      ·rename_i amd;generalize hxv:a.eval x=xv at hm
       cases hm with
       |map _ cb co cz hp =>
       obtain⟨_,zF,hc1,hc2⟩:=hr.block hb hp;have hc1:w.heap[cb]?=some (.map zF clk):=hc1;have hck:=adv (P:=P) (x:=a.eval y) (w:=w) hd hkd false 9999;have hlt:cb<w.heap.size:=(nJ.1 hc1).1
       have hex:execOp a.eval o=(do Instr.mapUpdate t (a.eval x) (a.eval y) (a.eval u);pure .skip):=by
        rcases ho with ho|ho<;>simp[execOp,ho]
       split at hne
       ·rename_i es' hsk
        rcases kO hkd hky hly es zF.toList 0 _ hc2 hsk with⟨h,_⟩|⟨es2,j,y',e',h1,h2,h3,h4,h5⟩
        ·cases h
        injection h1 with h1;subst h1;have hf2:=run_findKey (w:=w) hd h2;have arN:=ag2 (P:=P) (w:=w) amd hky;have h3':zF[0+j]?=some e':=by rw[qw];simpa using h3
        refine Does.upd hr (by rw[hb];simp) hp (o:=.map (zF.modify (0+j) λ e=>{e with key:=a.eval y,val:=a.eval u}) clk) (nx:=.skip) (cv:=undef) ?_ .skip ?_ (.aX _ _ .nil)
        ·rw[hex];simp only[hxv,Instr.mapUpdate,bM,run_underlying hu,bJ,run_getObj_map hc1,hck,hf2,h3',Option.map_some,Option.getD_some,h4,arN,run_setObj_map _ hc1,cD,World.putObj]
        refine⟨zF.modify (0+j) λ e=>{e with key:=a.eval y,val:=a.eval u},by simp[World.putObj,hlt],?_⟩;rw[qw,Array.toList_modify];exact h5
       ·rename_i hsk
        rcases kO hkd hky hly es zF.toList 0 _ hc2 hsk with⟨_,h2⟩|⟨es2,j,y',e',h1,_⟩
        ·have hf2:=run_findKey (w:=w) hd h2;refine Does.upd hr (by rw[hb];simp) hp (o:=.map (zF.push {key:=a.eval y,val:=a.eval u,born:=clk}) (clk+1)) (nx:=.skip) (cv:=undef) ?_ .skip ?_ (.aX _ _ .nil)
         ·rw[hex];simp only[hxv,Instr.mapUpdate,bM,run_underlying hu,bJ,run_getObj_map hc1,hck,hf2,run_setObj_map _ hc1,cD,World.putObj]
         refine⟨zF.push {key:=a.eval y,val:=a.eval u,born:=clk},by simp[World.putObj,hlt],?_⟩;rw[Array.toList_push];exact hc2.push hky hly
        cases h1
       exact ai rfl hne
      exact ai rfl hne
     exact ai rfl hne
    exact ai rfl hne
end
end Go.Abs
namespace Go.Abs
open List
section
variable {P:Program}
theorem HE {w:World}{cb off:Nat}{c:Array Value}{e:TypeId}{fr:Nat×Nat}(h:w.heap[cb]?=some (.cells c e fr))(hf:Nfr c.size fr)(hc:c.size<=off):
  ∃fr',w.freeze ⟨cb,off,none⟩ 1=World.putObj w cb (.cells c e fr')/\Nfr c.size fr':=by
 obtain⟨lo,hi⟩:=fr;have hlt:=(nJ.1 h).1
 have hm:∀(f:Obj->Obj),w.heap.modify cb f=w.heap.setIfInBounds cb (f (.cells c e (lo,hi))):=by
  intro f;apply Array.ext
  ·simp
  intro i h1 h2;have hg:w.heap[cb]=.cells c e (lo,hi):=(nJ.1 h).2
  by_cases hi:cb=i
  ·subst hi;simp[Array.getElem_modify,hg]
  rw[Array.getElem_modify,ah hi,Array.getElem_setIfInBounds_ne (h:=hi)]
 refine⟨if lo == hi then (off,off+1)else (min lo off,max hi (off+1)),?_,?_⟩
 ·unfold World.freeze;rw[ah (by decide)];show ({w with heap:=w.heap.modify cb _}:World)=_;rw[hm];rfl
 unfold Nfr at hf ⊢
 by_cases h0:lo=hi
 ·subst h0;simp;omega
 have:lo≠hi:=h0;simp[h0];dsimp only at hf;omega
theorem agt {o:Oper}{s d e e':TypeId}{x:Operand}{g:G}(ho:o.op=.convert s d x) (hg:bQ x=some g) (hsd:s=d) (hs:P.underlying s=some (.slice e')) (hd:P.underlying d=some (.slice e)) (he:P.underlying e=some (.int .u8)):bC P o (ahR g):=by
 intro F H n φ D a w hr hF hf hne;unfold ahR at hf hne ⊢
 cases hv:g.f F with
 |none=>rw[hv]at hne;exact ai rfl hne
 |some v =>
  rw[hv]at hf hne;dsimp only at hf hne ⊢;have fD:=aH hg F φ D a hF v hv;unfold anH at hf hne ⊢
  split at hne
  ·rename_i b off len sz;dsimp only at hf ⊢
   split at hne
   ·rename_i u z bs t hb
    split at hne
    ·rename_i hl;have hl:=dE hl;generalize hxv:a.eval x=xv at fD
     cases fD with
     |sl _ _ _ _ cb co cz cap ad hp hle had =>
     obtain⟨rfl,hfit⟩:=had (by omega);obtain⟨_,c,ee,fr,q1,q2,q3,q4,q5,q6⟩:=hr.block hb hp;obtain⟨fr',hfz,hn⟩:=HE (off:=c.size) q1 q3 (aP _);have hlt:=(nJ.1 q1).1;refine Does.upd (P:=P) (nx:=.value (.slice (some ⟨cb,co+off,none⟩) len cap)) (o:=.cells c ee fr') hr (by rw[hb];simp) hp ?_ (.value _) ⟨c,ee,fr',oW _ hlt,q2,hn,q4,q5,q6⟩ (.sl _ _ _ _ cb co cz cap _ hp hle λ h=>⟨rfl,hfit⟩);have hsh:w.shape? cb=some (ee,c.size):=by unfold World.shape?;rw[q1]
     subst hsd;have hee:e'=e:=by rw[hs]at hd;injection hd with hd;injection hd
     subst hee;simp only[execOp,ho,hxv];dsimp only at hfz;rw[<-hfz];simp[convert,run_underlying hs,run_underlying he,markStringish,hsh]
    exact ai rfl hne
   exact ai rfl hne
  exact ai rfl hne
end
end Go.Abs
namespace Go.Abs
open List
open Go.MapKept (bytes_beq run_getObj_map run_setObj_map run_findKey)
section
variable {P:Program}
theorem zE:∀(a b:List UInt8),cmpL (a.map UInt8.toNat) (b.map UInt8.toNat) =
  match (List.range (min a.length b.length)).find? λ i=>a[i]! != b[i]! with
  |some i=>if a[i]! < b[i]! then -1 else 1
  |none=>if a.length<b.length then -1 else if a.length>b.length then 1 else 0
 |[],[]=>rfl
 |[],_::_=>by simp[cmpL]
 |_::_,[]=>by simp[cmpL]
 |x :: a,y::b=>by
  simp only[map_cons,cmpL]
  have hr:List.range (min (x::a).length (y::b).length)=0::(List.range (min a.length b.length)).map Nat.succ:=by
   rw[show min (x::a).length (y::b).length=min a.length b.length+1 by simp,List.range_succ_eq_map]
  rw[hr,find?_cons]
  by_cases e:x=y
  ·subst e;rw[show Nat.beq x.toNat x.toNat=true by simp];dsimp only;rw[zE a b,List.find?_map];simp only[List.getElem!_cons_zero,bne_self_eq_false]
   have:((λ i=>(x::a)[i]! !=(x::b)[i]!) ∘ Nat.succ)=λ i=>a[i]! != b[i]! := by
    funext i;simp
   rw[this]
   cases (List.range (min a.length b.length)).find? λ i=>a[i]! != b[i]! with
   |none=>simp
   |some i=>simp
  have h1:Nat.beq x.toNat y.toNat=false:=by
   cases h:Nat.beq x.toNat y.toNat with
   |false=>rfl
   |true=>exact ai (UInt8.toNat_inj.1 (b9 h)) e
  rw[h1];simp only[List.getElem!_cons_zero];rw[show (x != y)=true by simpa using e];dsimp only
  by_cases hlt:x<y
  ·rw[show Nat.blt x.toNat y.toNat=true by rw[Nat.blt_eq];exact hlt];simp[hlt]
  rw[show Nat.blt x.toNat y.toNat=false by
   cases h:Nat.blt x.toNat y.toNat with
   |false=>rfl
   |true=>exact ai (by rw[Nat.blt_eq]at h;exact h) hlt]
  simp[hlt]
theorem ET (a:ByteArray)(i:Nat):a[i]! = a.data.toList[i]! := by
 have hs:a.data.toList.length=a.size:=Array.length_toList
 by_cases h:i<a.size
 ·rw[getElem!_pos a i h,getElem!_pos a.data.toList i (by omega)];rfl
 rw[getElem!_neg a i h,getElem!_neg a.data.toList i (by omega)]
theorem FC (a b:ByteArray):Extern.BytealgCompare.cmp a b=cmpL (a.data.toList.map UInt8.toNat) (b.data.toList.map UInt8.toNat):=by
 rw[zE];unfold Extern.BytealgCompare.cmp;have h1:a.size=a.data.toList.length:=Array.length_toList.symm;have h2:b.size=b.data.toList.length:=Array.length_toList.symm;rw[h1,h2];simp only[ET];rfl
theorem Uc {fn : Func} (h : fn.name = "internal/bytealg.abigen_runtime_cmpstring") (h2 : fn.origin = "") : Extern.findNext fn = none ∧ Extern.find fn = some Extern.BytealgCompare.compare := by
 unfold Extern.findNext Extern.find;rw[h,h2];exact⟨by kernel_rfl,by kernel_rfl⟩
theorem aa_ {o:Oper}{c:Call}{f:FuncId}{fn:Func}{x y:Operand}{g k:G}(ho:o.op=.call c)(hc:c.callee=.value (.func f))(ha:c.args.toList=[x,y])(hf:P.funcs[f]?=some fn)(hb:fn.body=none)
  (hn : fn.name = "internal/bytealg.abigen_runtime_cmpstring") (h2 : fn.origin = "") (hg : bQ x = some g) (hk : bQ y = some k) : bC P o (e2 FK g k) := by
 intro F H n φ D a w hr hF hfr hne;unfold e2 at hfr hne ⊢
 cases hv:g.f F with
 |none=>rw[hv]at hne;exact ai rfl hne
 |some v =>
 rw[hv]at hne;dsimp only at hne ⊢
 cases hu:k.f F with
 |none=>rw[hu]at hne;exact ai rfl hne
 |some u =>
 rw[hu]at hne;dsimp only at hne ⊢;have fD:=aH hg F φ D a hF v hv;have hur:=aH hk F φ D a hF u hu;unfold FK at hne ⊢
 split at hne
 ·generalize hxv:a.eval x=xv at fD;generalize hyv:a.eval y=yv at hur
  cases fD with
  |str s _ hs =>
  cases hur with
  |str s' _ hs' =>
  subst hs hs';obtain⟨e1,e2⟩:=Uc hn h2
  have hargs:Array.map a.eval c.args=#[.string s,.string s']:=by
   apply Array.ext';simp[ha,hxv,hyv]
  refine Does.val hr (cv:=.int .i64 (cmpL (s.data.toList.map UInt8.toNat) (s'.data.toList.map UInt8.toNat))) ?_ (.int _ _)
  have hname : (fn.name == "runtime.NumGoroutine") = false := by rw [hn]; decide
  have hcf:=run_callFunc_extern (P:=P) hf hname (by rw[hb];rfl) e1 e2 #[.string s,.string s'] w;have h0:a.eval (.func f)=.func (.func f) #[] #[]:=rfl;simp only[execOp,ho,resolve,hc,h0,Deferred.ofValue,bM,cD,bJ,invoke,hargs];simp only[Array.append_empty,Array.empty_append];have hq:(Extern.BytealgCompare.compare #[.string s,.string s']).run P w=.ok (.int .i64 (Extern.BytealgCompare.cmp s s')) w:=rfl;rw[hcf,hq,FC];rfl
 exact ai rfl hne
theorem yK {w:World}{cb:Nat}:∀(ns:List Int)(o:Nat)(acc:ByteArray),(∀j n,ns[j]?=some n->w.cell? ⟨cb,o+j,none⟩=some (.int .u8 n)) ->
  ∃arr,(Extern.Bytes.loadBytes ⟨cb,o,none⟩ ns.length acc).run P w=.ok arr w/\arr.data.toList.map UInt8.toNat=acc.data.toList.map UInt8.toNat++ns.map λ n=>n.toNat % 256
 |[],o,acc,_=>⟨acc,by simp[Extern.Bytes.loadBytes],by simp⟩
 |n :: ns,o,acc,h=>by
  have h0:w.cell? ⟨cb,o,none⟩=some (.int .u8 n):=by simpa using h 0 n rfl
  have hadd:(⟨cb,o,none⟩:Addr).add 1=⟨cb,o+1,none⟩:=by unfold Addr.add;simp
  obtain⟨arr,h1,h2⟩:=yK ns (o+1) (acc.push n.toNat.toUInt8) (λ j m hj=>by
   have:=h (j+1) m (by simpa using hj);rw[<-this];congr 2;omega)
  refine⟨arr,?_,?_⟩
  ·simp only[length_cons,Extern.Bytes.loadBytes,bM,run_load,h0,Result.andThen,hadd];exact h1
  rw[h2];simp[ByteArray.push]
theorem Bo {φ : Ph}{D:Da}{H:Hp}{w:World}{v:AV}{x:Value}{bs:List Nat}(hr:Rel φ D H.get w) (hv:VR φ D v x) (h:byL v H=some bs):
  ∃arr:ByteArray,(Extern.Bytes.bytesOf x).run P w=.ok arr w/\arr.data.toList.map UInt8.toNat=bs:=by
 unfold byL at h
 split at h
 ·injection h with h;subst h
  cases hv with
  |str s _ hs=>exact⟨s,rfl,hs⟩
 ·rename_i b o len s
  split at h
  ·rename_i u z bs' t hb
   split at h
   ·rename_i l hg
    cases hv with
    |sl _ _ _ _ cb co cz cap ad hp hle hex =>
    obtain⟨_,c,e,fr,q1,q2,q3,q4,q5,q6⟩:=hr.block hb hp;dsimp only at q1 q2 q4;obtain⟨g1,g2⟩:=jb q5 hg
    rcases Nat.eq_zero_or_pos cap with h0|h0
    ·have hl0:len=0:=by
      rcases Nat.eq_zero_or_pos len with h1|h1
      ·exact h1
      omega
     subst hl0;have:l=[]:=eq_nil_of_length_eq_zero g1;subst this;simp only[bytesOf]at h;injection h with h;subst h;exact⟨.empty,by simp[Extern.Bytes.bytesOf,Extern.Bytes.loadBytes],rfl⟩
    obtain⟨rfl,_⟩:=hex h0
    have hxs:∃xs,bO φ D l xs/\∀i x,xs[i]?=some x->c[co+o+i]?=some x:=by
     have hx:∀i v,l[i]?=some v->∃x,c[co+o+i]?=some x/\VR φ D v x:=by
      intro i v hv;have hi:i<l.length:=(pS.1 hv).1;have:=q4 (o+i) v (by rw[g2 i (by omega)];exact hv);simpa[Nat.add_assoc]using this
     have hsz:co+o+l.length<=c.size∨l.length=0:=by
      rcases Nat.eq_zero_or_pos l.length with h0|h0
      ·exact .inr h0
      left
      obtain⟨x,hx',_⟩:=hx (l.length - 1) l[l.length - 1] (cE (by omega));have:=(nJ.1 hx').1;omega
     let xs:=(c.toList.drop (co+o)).take l.length;have hxl:xs.length=l.length:=by simp[xs];omega
     refine⟨xs,bO.mz (by omega) λ i v hv=>?_,λ i x hx'=>?_⟩
     ·obtain⟨x,hx1,hx2⟩:=hx i v hv;have hi:i<l.length:=(pS.1 hv).1;exact⟨x,by simp only[xs];rw[getElem?_take,ao (by omega),iV];simpa using hx1,hx2⟩
     simp only[xs]at hx';rw[getElem?_take]at hx'
     split at hx'
     ·rw[iV]at hx';simpa using hx'
     cases hx'
    obtain⟨xs,hxv,hxc⟩:=hxs;obtain⟨ns,rfl,rfl⟩:=mO hxv h;have hlen:ns.length=len:=by have:=hxv.length;simp at this;omega
    obtain⟨arr,r1,r2⟩:=yK (P:=P) (w:=w) (cb:=cb) ns (co+o) .empty (λ j n hj=>by
     rw[rM q1];exact hxc j _ (by simp[hj]))
    rw[hlen]at r1;exact⟨arr,by simpa[Extern.Bytes.bytesOf]using r1,by rw[r2];rfl⟩
   cases h
  cases h
 ·injection h with h;subst h
  cases hv with
  |al _ hat=>exact⟨.empty,rfl,rfl⟩
 cases h
theorem Ud {fn : Func} (h : fn.name = "internal/bytealg.Compare") (h2 : fn.origin = "") : Extern.findNext fn = none ∧ Extern.find fn = some Extern.BytealgCompare.compare := by
 unfold Extern.findNext Extern.find;rw[h,h2];exact⟨by kernel_rfl,by kernel_rfl⟩
theorem aa' {o:Oper}{c:Call}{f:FuncId}{fn:Func}{x y:Operand}{g k:G}(ho:o.op=.call c)(hc:c.callee=.value (.func f))(ha:c.args.toList=[x,y])(hf:P.funcs[f]?=some fn)(hb:fn.body=none)
  (hn : fn.name = "internal/bytealg.Compare") (h2 : fn.origin = "") (hg : bQ x = some g) (hk : bQ y = some k) : bC P o (Ut g k) := by
 intro F H n φ D a w hr hF hfr hne;unfold Ut at hfr hne ⊢
 cases hv:g.f F with
 |none=>rw[hv]at hne;exact ai rfl hne
 |some v =>
 rw[hv]at hne;dsimp only at hne ⊢
 cases hu:k.f F with
 |none=>rw[hu]at hne;exact ai rfl hne
 |some u =>
 rw[hu]at hne;dsimp only at hne ⊢;have fD:=aH hg F φ D a hF v hv;have hur:=aH hk F φ D a hF u hu
 cases hbv:byL v H with
 |none=>rw[hbv]at hne;exact ai rfl hne
 |some p =>
 rw[hbv]at hne;dsimp only at hne ⊢
 cases hbu:byL u H with
 |none=>rw[hbu]at hne;exact ai rfl hne
 |some q =>
 dsimp only;obtain⟨s,r1,rfl⟩:=Bo (P:=P) hr fD hbv;obtain⟨s',r2,rfl⟩:=Bo (P:=P) hr hur hbu;obtain⟨e1,e2⟩:=Ud hn h2
 have hargs:Array.map a.eval c.args=#[a.eval x,a.eval y]:=by
  apply Array.ext';simp[ha]
 refine Does.val hr (cv:=.int .i64 (cmpL (s.data.toList.map UInt8.toNat) (s'.data.toList.map UInt8.toNat))) ?_ (.int _ _)
 have hname : (fn.name == "runtime.NumGoroutine") = false := by rw [hn]; decide
 have hcf:=run_callFunc_extern (P:=P) hf hname (by rw[hb];rfl) e1 e2 #[a.eval x,a.eval y] w;have h0:a.eval (.func f)=.func (.func f) #[] #[]:=rfl;simp only[execOp,ho,resolve,hc,h0,Deferred.ofValue,bM,cD,bJ,invoke,hargs];simp only[Array.append_empty,Array.empty_append]
 have hq:(Extern.BytealgCompare.compare #[a.eval x,a.eval y]).run P w=.ok (.int .i64 (Extern.BytealgCompare.cmp s s')) w:=by
  have h9:Extern.BytealgCompare.compare #[a.eval x,a.eval y]=(do
   let s <-Extern.Bytes.bytesOf (a.eval x)
   let s' <-Extern.Bytes.bytesOf (a.eval y)
   pure (goInt (Extern.BytealgCompare.cmp s s'))):=rfl
  rw[h9];simp only[bM,r1,r2,bJ,cD];rfl
 rw[hcf,hq,FC];rfl
theorem sV (c:UInt8):∀(l:List UInt8) (n:Nat),FB c.toNat (l.map UInt8.toNat) n=n+Lib.countByte l c
 |[],n=>by simp[FB,Lib.countByte]
 |x :: l,n=>by
  simp only[map_cons,FB,Lib.countByte,List.count_cons]
  by_cases e:x=c
  ·subst e;rw[show Nat.beq x.toNat x.toNat=true by simp];dsimp only;rw[sV x l (n+1)];simp only[Lib.countByte,beq_self_eq_true,if_true];omega
  have h1:Nat.beq x.toNat c.toNat=false:=by
   cases h:Nat.beq x.toNat c.toNat with
   |false=>rfl
   |true=>exact ai (UInt8.toNat_inj.1 (b9 h)) e
  rw[h1];rw[show (x == c)=false by simpa using e];dsimp only;rw[sV c l n];simp[Lib.countByte]
theorem Ub {fn : Func} (h : fn.name = "internal/bytealg.CountString") (h2 : fn.origin = "") : Extern.findNext fn = none ∧ Extern.find fn = some Extern.BytealgCount.count := by
 unfold Extern.findNext Extern.find;rw[h,h2];exact⟨by kernel_rfl,by kernel_rfl⟩
theorem aa9 {o:Oper}{c:Call}{f:FuncId}{fn:Func}{x y:Operand}{g k:G}(ho:o.op=.call c)(hc:c.callee=.value (.func f))(ha:c.args.toList=[x,y])(hf:P.funcs[f]?=some fn)(hb:fn.body=none)
  (hn : fn.name = "internal/bytealg.CountString") (h2 : fn.origin = "") (hg : bQ x = some g) (hk : bQ y = some k) : bC P o (e2 UO g k) := by
 intro F H n φ D a w hr hF hfr hne;unfold e2 at hfr hne ⊢
 cases hv:g.f F with
 |none=>rw[hv]at hne;exact ai rfl hne
 |some v =>
 rw[hv]at hne;dsimp only at hne ⊢
 cases hu:k.f F with
 |none=>rw[hu]at hne;exact ai rfl hne
 |some u =>
 rw[hu]at hne;dsimp only at hne ⊢;have fD:=aH hg F φ D a hF v hv;have hur:=aH hk F φ D a hF u hu;unfold UO at hne ⊢
 split at hne
 ·rename_i l m
  cases hlt:Nat.blt m 256 with
  |false=>rw[hlt]at hne;exact ai rfl hne
  |true =>
  have hlt:m<256:=by rw[Nat.blt_eq]at hlt;exact hlt
  dsimp only;generalize hxv:a.eval x=xv at fD;generalize hyv:a.eval y=yv at hur
  cases fD with
  |str s _ hs =>
  cases hur with
  |int =>
  subst hs;obtain⟨e1,e2⟩:=Ub hn h2
  have hargs:Array.map a.eval c.args=#[.string s,.int .u8 (m:Int)]:=by
   apply Array.ext';simp[ha,hxv,hyv]
  refine Does.val hr (cv:=.int .i64 (Int.ofNat (FB m (s.data.toList.map UInt8.toNat) 0))) ?_ (.int _ _)
  have hname : (fn.name == "runtime.NumGoroutine") = false := by rw [hn]; decide
  have hcf:=run_callFunc_extern (P:=P) hf hname (by rw[hb];rfl) e1 e2 #[.string s,.int .u8 (m:Int)] w;have h0:a.eval (.func f)=.func (.func f) #[] #[]:=rfl;simp only[execOp,ho,resolve,hc,h0,Deferred.ofValue,bM,cD,bJ,invoke,hargs];simp only[Array.append_empty,Array.empty_append]
  have hm:(m:Int).toNat.toUInt8.toNat=m:=by
   simp;omega
  have hq:(Extern.BytealgCount.count #[.string s,.int .u8 (m:Int)]).run P w=.ok (.int .i64 (Int.ofNat (FB m (s.data.toList.map UInt8.toNat) 0))) w:=by
   have h3:=sV (m:Int).toNat.toUInt8 s.data.toList 0;rw[hm]at h3;rw[h3,qw];exact Lib.run_countString (P:=P) s (m:Int) w
  rw[hcf,hq];rfl
 exact ai rfl hne
theorem zi (c:Nat):∀(l:List Nat) (n:Nat),PY c l n=match (List.range l.length).find? (λ i=>l[i]! == c)with
  |some i=>(.ofNat (n+i):Int)
  |none=>.negSucc 0
 |[],n=>rfl
 |x :: l,n=>by
  simp only[PY,length_cons,List.range_succ_eq_map,find?_cons];have h0:(x::l)[0]! = x:=rfl;rw[h0]
  cases h:Nat.beq x c with
  |true =>
   have e:=b9 h;subst e;simp
  |false =>
   have e:(x == c)=false:=by
    cases h1:x == c with
    |false=>rfl
    |true=>rw[eq_of_beq h1,show Nat.beq c c=true by simp]at h;cases h
   rw[e];dsimp only;rw[zi c l (n+1),List.find?_map]
   have h2:((λ i=>(x::l)[i]! == c) ∘ Nat.succ)=λ i=>l[i]! == c:=by
    funext i;simp
   rw[h2]
   cases (List.range l.length).find? (λ i=>l[i]! == c)with
   |none=>rfl
   |some i =>
    show Int.ofNat (n+1+i)=Int.ofNat (n+(i+1));rw[Nat.add_assoc,Nat.add_comm 1 i]
theorem T9 {fn : Func} (h : fn.name = "internal/bytealg.IndexByteString" ∨ fn.name = "internal/bytealg.IndexByte") (h2 : fn.origin = "") : Extern.findNext fn = none ∧ Extern.find fn = some Extern.BytealgIndexByte.indexByte := by
 unfold Extern.findNext Extern.find
 rcases h with h|h
 ·rw[h,h2];exact⟨by kernel_rfl,by kernel_rfl⟩
 rw[h,h2];exact⟨by kernel_rfl,by kernel_rfl⟩
theorem aa6 {o:Oper}{c:Call}{f:FuncId}{fn:Func}{x y:Operand}{g k:G}(ho:o.op=.call c) (hc:c.callee=.value (.func f)) (ha:c.args.toList=[x,y]) (hf:P.funcs[f]?=some fn) (hb:fn.body=none)
  (hn : fn.name = "internal/bytealg.IndexByteString" ∨ fn.name = "internal/bytealg.IndexByte") (h2 : fn.origin = "") (hg : bQ x = some g) (hk : bQ y = some k) : bC P o (Ur g k) := by
 intro F H n φ D a w hr hF hfr hne;unfold Ur at hfr hne ⊢
 cases hv:g.f F with
 |none=>rw[hv]at hne;exact ai rfl hne
 |some v =>
 rw[hv]at hne;dsimp only at hne ⊢
 cases hu:k.f F with
 |none=>rw[hu]at hne;exact ai rfl hne
 |some u =>
 rw[hu]at hne;dsimp only at hne ⊢;have fD:=aH hg F φ D a hF v hv;have hur:=aH hk F φ D a hF u hu;unfold adC at hne ⊢
 split at hne
 ·rename_i m
  cases hlt:Nat.blt m 256 with
  |false=>rw[hlt]at hne;exact ai rfl hne
  |true =>
  rw[hlt]at hne;dsimp only at hne ⊢;have hlt:m<256:=by rw[Nat.blt_eq]at hlt;exact hlt
  cases hbv:byL v H with
  |none=>rw[hbv]at hne;exact ai rfl hne
  |some p =>
  dsimp only;obtain⟨s,r1,rfl⟩:=Bo (P:=P) hr fD hbv;obtain⟨e1,e2⟩:=T9 hn h2;generalize hyv:a.eval y=yv at hur
  cases hur with
  |int =>
  have hargs:Array.map a.eval c.args=#[a.eval x,.int .u8 (m:Int)]:=by
   apply Array.ext';simp[ha,hyv]
  refine Does.val hr (cv:=.int .i64 (PY m (s.data.toList.map UInt8.toNat) 0)) ?_ (.int _ _)
  have hname : (fn.name == "runtime.NumGoroutine") = false := by rcases hn with hn | hn <;> rw [hn] <;> decide
  have hcf:=run_callFunc_extern (P:=P) hf hname (by rw[hb];rfl) e1 e2 #[a.eval x,.int .u8 (m:Int)] w;have h0:a.eval (.func f)=.func (.func f) #[] #[]:=rfl;simp only[execOp,ho,resolve,hc,h0,Deferred.ofValue,bM,cD,bJ,invoke,hargs];simp only[Array.append_empty,Array.empty_append]
  have hm:(m:Int).toNat.toUInt8.toNat=m:=by
   simp;omega
  have hq:(Extern.BytealgIndexByte.indexByte #[a.eval x,.int .u8 (m:Int)]).run P w=.ok (.int .i64 (PY m (s.data.toList.map UInt8.toNat) 0)) w:=by
   have h9:Extern.BytealgIndexByte.indexByte #[a.eval x,.int .u8 (m:Int)]=(do
    let b <-Extern.Bytes.bytesOf (a.eval x)
    let c <-Extern.Bytes.asByte (.int .u8 (m:Int))
    match (List.range b.size).find? λ i=>b[i]! == c with
    |some i=>pure (goInt i)
    |none=>pure (goInt (-1))):=rfl
   rw[h9];have h10:Extern.Bytes.asByte (.int .u8 (m:Int))=pure (m:Int).toNat.toUInt8:=rfl;simp only[bM,r1,h10,bJ,cD];rw[zi]
   have h11:(λ i:Nat=>(s.data.toList.map UInt8.toNat)[i]! == m)=λ i:Nat=>s[i]! ==(m:Int).toNat.toUInt8:=by
    funext i
    rw[ET]
    by_cases hi:i<s.data.toList.length
    ·rw[getElem!_pos _ i (by simpa using hi),getElem!_pos _ i hi,List.getElem_map];rw[Bool.eq_iff_iff,beq_iff_eq,beq_iff_eq,<-UInt8.toNat_inj,hm]
    rw[getElem!_neg _ i (by simpa using hi),getElem!_neg _ i hi];rw[Bool.eq_iff_iff,beq_iff_eq,beq_iff_eq,<-UInt8.toNat_inj,hm];rfl
   have h12:(s.data.toList.map UInt8.toNat).length=s.size:=by rw[length_map,Array.length_toList];rfl
   rw[h11,h12]
   cases (List.range s.size).find? (λ i=>s[i]! ==(m:Int).toNat.toUInt8)with
   |none=>rfl
   |some i=>simp[cD];rfl
  rw[hcf,hq];rfl
 exact ai rfl hne
end
end Go.Abs
namespace Go.Abs
open List
section
variable {P:Program}
theorem y6 {x:Option Operand}{g:Option G}(h:nN x=some g):x.isSome=g.isSome:=by
 cases x with
 |none=>simp[nN]at h;subst h;rfl
 |some x=>simp[nN]at h;obtain⟨a,_,rfl⟩:=h;rfl
theorem alL {hi mx:Option Operand}{gh gm:Option G}(h:nN hi=some gh)(k:nN mx=some gm)(hc:(mx.isNone||hi.isSome)=true):gm=none∨gh≠none:=by
 have h1:=y6 h;have h2:=y6 k
 cases hi<;>cases mx<;>cases gh<;>cases gm<;>simp_all
theorem oh {s ft:TypeId}{f off:Nat}(h:pE P s f=some (off,ft)):∃fs fd ti k,P.underlying s=some (.struct fs)/\fs[f]?=some fd/\P.info? fd.type=some ti/\ti.size=k+1/\off=fd.offset/\ft=fd.type:=by
 unfold pE at h
 split at h
 ·rename_i fs hu
  split at h
  ·rename_i fd hf
   split at h
   ·rename_i k hk;simp only[Option.some.injEq,Prod.mk.injEq]at h
    cases hi:P.info? fd.type with
    |none=>simp[bS,hi]at hk
    |some ti=>exact⟨fs,fd,ti,k,hu,hf,hi,by simpa[bS,hi]using hk,h.1.symm,h.2.symm⟩
   cases h
  cases h
 cases h
theorem Qk {o : Oper}{op:BinOp}{t u:TypeId}{x y:Operand}{e:Eff}(ho:o.op=.binOp op t x y u) (h:Bj P op t x y=some e):bC P o e:=by
 unfold Bj at h
 split at h
 ·rename_i a ha
  split at h
  ·rename_i b hb
   split at h
   ·rename_i hop
    split at h
    ·rename_i fs hu
     split at h
     ·rename_i k hk
      split at h
      ·cases h
      rename_i hg;injection h with h;subst h;exact SG ho ha hb hop (by unfold fJ;rw[hu]) hk (by simpa using hg)
     cases h
    ·rename_i n e hu
     split at h
     ·rename_i k hk
      split at h
      ·cases h
      rename_i hg;injection h with h;subst h;exact SG ho ha hb hop (by unfold fJ;rw[hu]) hk (by simpa using hg)
     cases h
    split at h
    ·rename_i q hq;injection h with h;subst h;exact ok_eq ho ha hb hop hq
    cases h
   rename_i hop;injection h with h;subst h;exact agC ho ha hb (by cases op<;>simp[isEq]at hop ⊢)
  cases h
 cases h
theorem HV {o:Oper}{s d:TypeId}{x:Operand}{e:Eff}(ho:o.op=.convert s d x) (h:xb P s d x=some e):bC P o e:=by
 unfold xb at h
 cases ha:bQ x with
 |none=>rw[ha]at h;cases h
 |some a =>
  rw[ha]at h;simp only[iD,Option.bind_some]at h
  split at h
  ·rename_i hs hd;injection h with h;subst h;exact Sz ho ha hs hd
  ·rename_i hs hd;injection h with h;subst h;exact G_ ho ha hs hd
  ·rename_i hs hd
   split at h
   ·rename_i he;injection h with h;subst h;exact agu ho ha hs hd he
   cases h
  ·rename_i hs hd
   split at h
   ·rename_i he;injection h with h;subst h;exact agD ho ha hs hd he
   cases h
  ·rename_i hs hd
   split at h
   ·rename_i he
    split at h
    ·rename_i hsd;injection h with h;subst h;exact agt ho ha hsd hs hd he
    cases h
   cases h
  cases h
theorem yt {o : Oper}{c:Call}{b:Builtin}{e:Eff}(ho:o.op=.call c) (hc:c.callee=.builtin b) (h:oo P c b=some e):bC P o e:=by
 unfold oo at h
 split at h
 ·simp only[iD,fu]at h;obtain⟨t,ht,x,hx,h⟩:=h
  split at h
  ·rename_i n el hu;injection h with h;subst h;exact tP ho hc ht hx hu (.inl ⟨_,rfl⟩)
  ·rename_i arr hu
   split at h
   ·rename_i n el hu';injection h with h;subst h;exact tP ho hc ht hx hu (.inr ⟨_,_,rfl,hu'⟩)
   cases h
  ·rename_i hu;simp only[fu]at h;obtain⟨g,hg,h⟩:=h;injection h with h;subst h;exact aa4 ho hc ht hx hg hu
  ·rename_i el hu;simp only[fu]at h;obtain⟨g,hg,h⟩:=h;injection h with h;subst h;exact aa5 ho hc ht hx hg hu
  cases h
 ·simp only [iD,fu]at h;obtain⟨t,ht,u,hu,s,hs,x,hx,el,he,h⟩:=h
  split at h
  ·cases h
  ·cases h
  rename_i hn1 hn2
  cases hd:P.underlying u with
  |none=>exact ai hd hn2
  |some d =>
   split at h
   ·rename_i z hz
    split at h
    ·rename_i sz hsz
     split at h
     ·rename_i hl;simp only[fu]at h;obtain⟨fP,hb,g,hg,k,hk,h⟩:=h;injection h with h;subst h;exact agE ho hc ht hu hs hx hg hk he hd (λ k e=>hn1 k (by rw[hd,e])) hz hsz hb hl
     cases h
    cases h
   cases h
 ·simp only[iD,fu]at h;obtain⟨g,hg,h⟩:=h;injection h with h;subst h;exact agv ho hc hg
 ·simp only[iD,fu]at h;obtain⟨g,hg,h⟩:=h;injection h with h;subst h;exact agw ho hc hg
 cases h
theorem P3 {o : Oper}{c:Call}{f:FuncId}{e:Eff}(ho:o.op=.call c) (hc:c.callee=.value (.func f)) (h:Bi P f c.args.toList=some e):bC P o e:=by
 unfold Bi at h
 split at h
 ·rename_i fn hf
  split at h
  ·rename_i hb
   split at h
   ·rename_i hn
    split at h
    ·rename_i x y ha;simp only[iD,fu]at h;obtain⟨g,hg,k,hk,h⟩:=h;injection h with h;subst h;exact aa_ ho hc ha hf hb hn.1 hn.2 hg hk
    cases h
   split at h
   ·rename_i hn
    split at h
    ·rename_i x y ha;simp only[iD,fu]at h;obtain⟨g,hg,k,hk,h⟩:=h;injection h with h;subst h;exact aa' ho hc ha hf hb hn.1 hn.2 hg hk
    cases h
   split at h
   ·rename_i hn
    split at h
    ·rename_i x y ha;simp only[iD,fu]at h;obtain⟨g,hg,k,hk,h⟩:=h;injection h with h;subst h;exact aa9 ho hc ha hf hb hn.1 hn.2 hg hk
    cases h
   split at h
   ·rename_i hn
    split at h
    ·rename_i x y ha;simp only[iD,fu]at h;obtain⟨g,hg,k,hk,h⟩:=h;injection h with h;subst h;exact aa6 ho hc ha hf hb hn.1 hn.2 hg hk
    cases h
   cases h
  cases h
 cases h
theorem FN {o:Oper}{t:TypeId}{parts:Array (Nat×Operand)}{e:Eff}(ho:o.op=.build t parts)(h:dJ P o=some e):bC P o e:=by
 unfold dJ at h;rw[ho]at h;simp only[iD,fu]at h;obtain⟨z,hz,h⟩:=h
 split at h
 ·rename_i fs hu
  split at h
  ·rename_i places hp;simp only[Option.map_eq_some_iff]at h;obtain⟨l,hl,rfl⟩:=h;refine Em ho hz _ hl λ zv ti hi h0 ps=>?_;unfold Program.built;simp only[hi,hu,h0,hp]
   congr 1
   funext i
   simp
  cases h
 ·rename_i n el hu
  split at h
  ·rename_i ie hie;simp only[Option.map_eq_some_iff]at h;obtain⟨l,hl,rfl⟩:=h;refine Em ho hz _ hl λ zv ti hi h0 ps=>?_;unfold Program.built;simp only[hi,hu,h0,hie]
  cases h
 cases h
theorem gq {o:Oper}{e:Eff}(h:dJ P o=some e):bC P o e:=by
 have h0:=h;unfold dJ at h
 split at h
 ·rename_i ho;simp only[Option.map_eq_some_iff]at h;obtain⟨g,hg,rfl⟩:=h;exact SB (.inl ho) hg
 ·rename_i ho;simp only[Option.map_eq_some_iff]at h;obtain⟨g,hg,rfl⟩:=h;exact SB (.inr ho) hg
 ·rename_i ho;simp only[iD,fu]at h;obtain⟨g,hg,k,hk,l,hl,h⟩:=h;injection h with h;subst h;exact aaZ ho hg hk hl
 ·rename_i ho;simp only[Option.map_eq_some_iff]at h;obtain⟨z,hz,rfl⟩:=h;exact SI ho hz
 ·rename_i ho;simp only[Option.map_eq_some_iff]at h;obtain⟨g,hg,rfl⟩:=h;exact agB ho hg
 ·rename_i ho;exact FN ho h0
 ·rename_i ho;simp only[iD,fu]at h;obtain⟨el,he,k,hk,z,hz,l,hl,h⟩:=h
  split at h
  ·rename_i hc;simp only[dN,decide_eq_true_eq]at hc;injection h with h;subst h;exact Px ho he hk hz hl hc.1 hc.2
  cases h
 ·rename_i ho;simp only[iD,fu]at h;obtain⟨g,hg,b,hb,h⟩:=h
  split at h
  ·rename_i hbt;subst hbt;simp only[fu]at h;obtain⟨k,hk,h⟩:=h;injection h with h;subst h;exact SC ho hg hb hk
  rename_i hbt;injection h with h;subst h;exact SD ho hg (by rw[hb];simpa using hbt)
 ·rename_i ho;simp only[iD,fu]at h;obtain⟨k,hk,g,hg,l,hl,h⟩:=h;injection h with h;subst h;exact SA ho hg hl hk
 ·rename_i ho;simp only[Option.map_eq_some_iff]at h;obtain⟨g,hg,rfl⟩:=h;exact aa0 ho hg
 ·rename_i ho;exact Qk ho h
 ·rename_i ho;simp only[Option.map_eq_some_iff]at h;obtain⟨g,hg,rfl⟩:=h;exact alw ho hg
 ·rename_i ho;exact HV ho h
 ·rename_i ho
  split at h
  ·rename_i hu;simp only[Option.map_eq_some_iff]at h;obtain⟨g,hg,rfl⟩:=h;exact SH ho hg hu
  cases h
 ·rename_i t x ho
  split at h
  ·cases h
  ·cases h
  rename_i hn1 hn2;simp only[Option.map_eq_some_iff]at h;obtain⟨g,hg,rfl⟩:=h
  cases hd:P.underlying t with
  |none=>exact ai hd hn2
  |some d=>exact aa2 ho hg hd λ m e=>hn1 m (by rw[hd,e])
 ·rename_i x xt t ok ho
  split at h
  ·cases h
  ·cases h
  rename_i hn1 hn2;simp only[iD,fu]at h;obtain⟨zv,⟨ti,hi,hz⟩,z,haz,g,hg,h⟩:=h;injection h with h;subst h
  cases hd:P.underlying t with
  |none=>exact ai hd hn2
  |some d=>exact agr ho hg hd (λ m e=>hn1 m (by rw[hd,e])) hi hz λ φ D=>.uU haz
 ·rename_i ho;simp only[iD,fu]at h;obtain⟨g,hg,l,hl,h⟩:=h;injection h with h;subst h;exact aa3 ho hg hl
 ·rename_i ho;injection h with h;subst h;exact Ek ho (.inl rfl)
 ·rename_i ho
  split at h
  ·rename_i hu;injection h with h;subst h;exact Ek ho (.inr ⟨⟨_,_,rfl⟩,_,_,hu⟩)
  cases h
 ·rename_i ho
  split at h
  ·rename_i hu;simp only[iD,fu]at h;obtain⟨z,⟨ti,hi,hz⟩,q,hq,az,haz,g,hg,k,hk,h⟩:=h;injection h with h;subst h;exact Pv ho hg hk hu hq hi hz haz
  cases h
 ·rename_i ho
  split at h
  ·rename_i hu;simp only[iD,fu]at h;obtain⟨q,hq,g,hg,k,hk,l,hl,h⟩:=h;injection h with h;subst h;exact KN (.inl ho) hg hk hl hu hq
  cases h
 ·rename_i ho
  split at h
  ·rename_i hu;simp only[iD,fu]at h;obtain⟨q,hq,g,hg,k,hk,l,hl,h⟩:=h;injection h with h;subst h;exact KN (.inr ho) hg hk hl hu hq
  cases h
 ·rename_i ho;simp only[iD,fu]at h;obtain⟨el,he,z,hz,k,hk,h⟩:=h
  split at h
  ·rename_i hc;simp only[fu]at h;obtain⟨fP,hb,g,hg,l,hl,h⟩:=h;injection h with h;subst h;exact aa1 ho hg hl he hz hk hb hc
  cases h
 ·rename_i ho
  split at h
  ·rename_i el hu
   split at h
   ·rename_i hc;simp only[iD,fu]at h;obtain⟨sz,hs,g,hg,l,hl,k,hk,m,hm,h⟩:=h;injection h with h;subst h;exact ags ho hg hl hk hm hu hs (alL hk hm hc)
   cases h
  cases h
 ·rename_i ho;simp only[iD,fu]at h;obtain⟨⟨off,ft⟩,hf,g,hg,h⟩:=h;injection h with h;subst h;obtain⟨fs,fd,ti,k,h1,h2,h3,h4,rfl,rfl⟩:=oh hf;exact aba ho hg h1 h2 h3 h4
 ·rename_i ho;simp only[iD,fu]at h;obtain⟨⟨off,ft⟩,hf,g,hg,b,hb,h⟩:=h;obtain⟨fs,fd,ti,k,h1,h2,h3,h4,rfl,rfl⟩:=oh hf
  split at h
  ·rename_i hbt;subst hbt;simp only[fu]at h;obtain⟨k',hk,h⟩:=h;injection h with h;subst h;have:k'=ti.size:=by simpa[bS,h3]using hk.symm
   subst this;exact aa7 ho hg h1 h2 hb h3
  rename_i hbt;injection h with h;subst h;exact aa8 ho hg h1 h2 (by rw[hb];simpa using hbt)
 ·rename_i ho
  split at h
  ·rename_i hu;simp only[iD,fu]at h;obtain⟨sz,hs,g,hg,k,hk,h⟩:=h;injection h with h;subst h;exact agz ho hg hk hu hs
  ·rename_i hu;simp only[iD,fu]at h;obtain⟨sz,hs,g,hg,k,hk,h⟩:=h;injection h with h;subst h;exact SE ho hg hk hu hs
  cases h
 ·rename_i ho
  split at h
  ·rename_i hu;simp only[iD,fu]at h;obtain⟨g,hg,k,hk,h⟩:=h;injection h with h;subst h;exact agy ho hg hk hu
  ·rename_i hu;simp only[iD,fu]at h;obtain⟨sz,hs,ag,ha,g,hg,k,hk,h⟩:=h;injection h with h;subst h;exact agx ho hg hk hu hs ha
  cases h
 ·rename_i ho;simp only[iD,fu]at h;obtain⟨g,hg,h⟩:=h;injection h with h;subst h;exact agA ho hg
 ·rename_i ho
  split at h
  ·rename_i hc;exact yt ho hc h
  ·rename_i hc;exact P3 ho hc h
  cases h
 cases h
end
end Go.Abs
namespace Go.Abs
open List
def FW (r:Option Nat):Fence:={fn:=λ _=>True,depth:=none,alive:=false,round:=r}
def iG (x:Value):nz->Exit
 |.normal=>.normal
 |.exit i=>.exit i
 |.ret=>.ret
 |.panic _=>.panic [{v:=x,recovered:=false}]
def yz (φ:Ph)(D:Da)(x:Value):nz->Prop
 |.panic v=>VR φ D v x
 |_=>True
def iP (φ:Ph)(D:Da):List Dm->List Deferred->Prop
 |[],ds=>ds=[]
 |.dT m::ms,ds=>∃cb co cz r,φ m=some (cb,co,cz)/\ds={target:=.collected cb,args:=#[]}::r/\iP φ D ms r
 |.fn f vs::ms,ds=>∃fl cl r,bO φ D vs (fl++cl)/\ds={target:=.fn (.func f) ⟨cl⟩,args:=⟨fl⟩ }::r/\iP φ D ms r
def jG (φ:Ph)(D:Da):UM->FrameMode->Prop
 |.ret,u=>u=.returning
 |.qX v b,u=>∃x,VR φ D v x/\u=.panicking [{v:=x,recovered:=b}]
abbrev QT:=Exit->Act->World->Prop
structure St (nt:Nat)(φ:Ph)(D:Da)(F:Fr)(H:Hp)(m:List Dm)(a:Act)(w:World):Prop where
 rel:Rel φ D H.get w
 fr:FR φ D F.get a.tmps
 sz:a.tmps.size=nt
 uy:iP φ D m a.defers
def Sound (nt:Nat) (run:QT->Act->World->Prop) (f:Fr->Hp->Nat->List Dm->Mc):Prop:=
 ∀F H n m o F' H' n' m',f F H n m=.mk o F' H' n' m'->n<=n'/\∀ φ D a w,St nt φ D F H m a w->bW φ n n' ->
  ∀Q:QT,(∀ φ' D' a' w' px,Ext φ D H.get w n φ' D' H'.get w' n'->St nt φ' D' F' H' m' a' w'->yz φ' D' px o->Q (iG px o) a' w')->run Q a w
structure gX (P:Program)(ce:Ce):Prop where
 call : ∀ g args H n v H' n', ce.call g args H n = .mk v H' n' → (∃ fn b, P.funcs[g]? = some fn ∧ fn.body = some b ∧ (fn.name == "runtime.NumGoroutine") = false) ∧ n ≤ n' ∧
  ∀ φ D w xs,Rel φ D H.get w->bO φ D args xs->bW φ n n'->∀R:Ending->World->Prop,
   (∀ φ' D' w' x,Ext φ D H.get w n φ' D' H'.get w' n'->Rel φ' D' H'.get w'->VR φ' D' v x->R (.returned x) w')->CallsIn Fence.wide 0 P g ⟨xs⟩ w R
 qX : ∀ g args H n v H' n', ce.call g args H n = .qX v H' n' → (∃ fn b, P.funcs[g]? = some fn ∧ fn.body = some b ∧ (fn.name == "runtime.NumGoroutine") = false) ∧ n ≤ n' ∧
  ∀ φ D w xs,Rel φ D H.get w->bO φ D args xs->bW φ n n'->∀R:Ending->World->Prop,
   (∀ φ' D' w' x,Ext φ D H.get w n φ' D' H'.get w' n'->Rel φ' D' H'.get w'->VR φ' D' v x->R (.panicked [{v:=x,recovered:=false}]) w')->CallsIn Fence.wide 0 P g ⟨xs⟩ w R
 code:∀nt c F H n o F' H' n' m',ce.code nt c F H n=.mk o F' H' n' m'->n<=n'/\∀l φ D a w,St nt φ D F H [] a w->bW φ n n' ->
  ∀Q:QT,(∀ φ' D' a' w' px,Ext φ D H.get w n φ' D' H'.get w' n'->St nt φ' D' F' H' m' a' w'->yz φ' D' px o->Q (iG px o) a' w')->c.wpIn (FW (some l)) 0 P Q a w
 dcall : ∀ g args u H n u' H' n', ce.dcall g args u H n = .mk u' H' n' → (∃ fn b, P.funcs[g]? = some fn ∧ fn.body = some b ∧ (fn.name == "runtime.NumGoroutine") = false) ∧ n ≤ n' ∧
  ∀ φ D w xs mo,Rel φ D H.get w->bO φ D args xs->jG φ D u mo->bW φ n n'->∀R:Ending->FrameMode->World->Prop,
   (∀ φ' D' w' x rA,Ext φ D H.get w n φ' D' H'.get w' n'->Rel φ' D' H'.get w'->jG φ' D' u' rA->R (.returned x) rA w')->CallsDIn Fence.wide 0 P g ⟨xs⟩ mo w R
theorem iP.mono {φ φ':Ph}{D D':Da}(hφ:∀b x,φ b=some x->φ' b=some x)(hD:∀c x,D c=some x->D' c=some x):∀ {m ds},iP φ D m ds->iP φ' D' m ds
 |[],_,h=>h
 |.dT _::_,_,⟨cb,co,cz,r,h1,h2,h3⟩=>⟨cb,co,cz,r,hφ _ _ h1,h2,iP.mono hφ hD h3⟩
 |.fn _ _::_,_,⟨fl,cl,r,h1,h2,h3⟩=>⟨fl,cl,r,h1.mono hφ hD,h2,iP.mono hφ hD h3⟩
theorem jg {r:Option Nat}{n:Nat}{P:Program}{f:FuncId}{args:Array Value}{w:World}{R:Ending->World->Prop}(h:CallsIn Fence.wide 0 P f args w R):CallsIn (FW r) n P f args w R:=
 ⟨trivial,λ cs _=>h.2 cs (room_wide _)⟩
section
variable {P:Program}{ce:Ce}{nt:Nat}{r:Option Nat}
def yy (nt:Nat)(dst:Option Tmp)(pd:Pd):Prop:=∀v F φ D (a:Act) cv,FR φ D F.get a.tmps->a.tmps.size=nt->VR φ D v cv ->
 FR φ D (pd.f v F).get (a.put dst cv).tmps/\(a.put dst cv).tmps.size=nt
theorem put_defers (a:Act)(dst:Option Tmp)(cv:Value):(a.put dst cv).defers=a.defers:=by cases dst<;>rfl
theorem sT {dst:Option Tmp}{pd:Pd}(h:eV nt dst=some pd):yy nt dst pd:=by
 intro v F φ D a cv hF hs hv;unfold eV at h
 split at h
 ·injection h with h;subst h;exact⟨hF,hs⟩
 rename_i d
 split at h
 ·rename_i hd;injection h with h;subst h;refine⟨⟨λ t u hu=>?_,hF.2⟩,by simp[Act.put,hs]⟩;dsimp only at hu;rw[Tr.jz _ _ _ _ _ (Nat.lt_succ_self d)]at hu
  by_cases e:t=d
  ·subst e;rw[ao rfl]at hu;injection hu with hu;subst hu;exact⟨cv,by simp[Act.put,hs,hd],hv⟩
  rw[ah e]at hu;obtain⟨x,hx,tU⟩:=hF.1 t u hu;exact⟨x,by simp only[Act.put];rw[Array.getElem?_setIfInBounds_ne (Ne.symm e)];exact hx,tU⟩
 cases h
theorem nM (H:Hp)(n:Nat)(v:AV)(k:br):uw (.new v k) H.get n=(H.put n (some k)).get:=by
 funext b;simp only[uw,Hf.set,Tr.get_put]
theorem lM (H:Hp)(n:Nat)(v:AV)(b:Nat)(k:br):uw (.upd v b k) H.get n=(H.put b (some k)).get:=by
 funext c;simp only[uw,Hf.set,Tr.get_put]
theorem rm (H:Hp)(n:Nat)(v:AV)(b:Nat)(k:br):uw (.mv v b k) H.get n=((H.put b none).put n (some k)).get:=by
 funext c;simp only[uw,Hf.set,Tr.get_put]
def oV:Op->Bool
 |.defer _=>false
 |_=>true
theorem dQ {o:Oper}(h:oV o.op=true)(ro:Option Nat)(ρ:Operand->Value):o.semAt ro ρ=execOp ρ o:=
 Oper.semAt_eq ro ρ o λ c hc=>by rw[hc]at h;cases h
theorem dO {o:Oper}{e:Eff}(h:dJ P o=some e):oV o.op=true:=by
 cases ho:o.op<;>first|rfl|skip
 unfold dJ at h;rw[ho]at h;cases h
variable {ops:Array Oper}{rest:List Nat}
theorem aaU {o:Oper}{e:Eff}{pd:Pd}{next:K}(hq:oV o.op=true) (j7:yy nt o.dst pd)
  (hnext:Sound nt (λ Q a w=>wpOpsIn (FW r) 0 P ops Q rest a w) (next.f ce)){F:Fr}{H:Hp}{n:Nat}{m:List Dm}{ou:nz}{F':Fr}{H':Hp}{n':Nat}{m':List Dm}(hk:(opK pd e next).f ce F H n m=.mk ou F' H' n' m'):
  n<=n'/\e F H n≠.fail/\∀ φ D a w,St nt φ D F H m a w->bW φ n n'->(bW φ n (sB (e F H n) n)->Does P (execOp a.eval o) φ D H.get w n (e F H n))->∀Q:QT,(∀ φ' D' a' w' px,Ext φ D H.get w n φ' D' H'.get w' n'->St nt φ' D' F' H' m' a' w'->yz φ' D' px ou->Q (iG px ou) a' w') ->
   o.wpIn (FW r) 0 P a w (wpOpsIn (FW r) 0 P ops Q rest) Q:=by
 have key:∀(v:AV) (H1:Hp) (n1:Nat) (rr:bb),e F H n=rr->rr≠.fail->Pm rr=v->uw rr H.get n=H1.get->sB rr n=n1->n<=n1->next.f ce (pd.f v F) H1 n1 m=.mk ou F' H' n' m' ->
   n<=n'/\e F H n≠.fail/\∀ φ D a w,St nt φ D F H m a w->bW φ n n'->(bW φ n (sB (e F H n) n)->Does P (execOp a.eval o) φ D H.get w n (e F H n))->∀Q:QT,(∀ φ' D' a' w' px,Ext φ D H.get w n φ' D' H'.get w' n'->St nt φ' D' F' H' m' a' w'->yz φ' D' px ou->Q (iG px ou) a' w') ->
    o.wpIn (FW r) 0 P a w (wpOpsIn (FW r) 0 P ops Q rest) Q:=by
  intro v H1 n1 rr her hne hv hH hn hle hk1;obtain⟨hn1,hs⟩:=hnext _ _ _ _ _ _ _ _ _ hk1;refine⟨by omega,by rw[her];exact hne,λ φ D a w st hf hd Q hQ=>?_⟩;have hd:=hd (by rw[her,hn];exact hf.left hn1);rw[her]at hd;obtain⟨nx,cv,φ1,w1,hrun,hnx,aS,hrel,fD⟩:=hd;rw[hH]at aS hrel;rw[hn]at aS;rw[hv]at fD;have hfr:=j7 v F φ1 D a cv (st.fr.mono aS.phi (λ _ _ h=>h)) st.sz fD;have gw:St nt φ1 D (pd.f v F) H1 m (a.put o.dst cv) w1:=⟨hrel,hfr.1,hfr.2,by rw[put_defers];exact st.uy.mono aS.phi aS.ep⟩;have hgo:=hs φ1 D (a.put o.dst cv) w1 gw (hf.step aS) Q λ φ' D' a' w' px hx hst' pp=>hQ φ' D' a' w' px (aS.trans hx) hst' pp;refine⟨λ _ _=>trivial,?_⟩;rw[dQ hq,hrun]
  cases hnx with
  |value=>exact hgo
  |skip=>exact hgo
 unfold opK at hk;dsimp only at hk
 cases her:e F H n with
 |fail=>rw[her]at hk;cases hk
 |val v=>rw[her]at hk;rw[her]at key;exact key v H n _ rfl (by simp) rfl rfl rfl (aP _) hk
 |new v k=>rw[her]at hk;rw[her]at key;exact key v _ _ _ rfl (by simp) rfl (nM ..) rfl (Nat.le_succ n) hk
 |upd v b k=>rw[her]at hk;rw[her]at key;exact key v _ _ _ rfl (by simp) rfl (lM ..) rfl (aP _) hk
 |mv v b k=>rw[her]at hk;rw[her]at key;exact key v _ _ _ rfl (by simp) rfl (rm ..) rfl (Nat.le_succ n) hk
theorem yZ {o:Oper}{e:Eff}{pd:Pd}{next:K}(he:bC P o e)(hq:oV o.op=true)(j7:yy nt o.dst pd)
  (hnext:Sound nt (λ Q a w=>wpOpsIn (FW r) 0 P ops Q rest a w) (next.f ce)):
  Sound nt (λ Q a w=>o.wpIn (FW r) 0 P a w (wpOpsIn (FW r) 0 P ops Q rest) Q) ((opK pd e next).f ce):=by
 intro F H n m ou F' H' n' m' hk;obtain⟨h1,h2,h3⟩:=aaU hq j7 hnext hk;exact⟨h1,λ φ D a w st hf Q hQ=>h3 φ D a w st hf (λ hf'=>he F H n φ D a w st.rel st.fr hf' h2) Q hQ⟩
theorem vU {φ:Ph}{D:Da}:∀(ps:List Nat) (args:List AV) (xs:List Value) (F F1:Fr) (tmps:Array Value),nK nt ps args F=some F1->bO φ D args xs->FR φ D F.get tmps->tmps.size=nt ->
  ps.length=xs.length/\FR φ D F1.get ((ps.zip xs).foldl (λ t (x:Nat×Value)=>t.setIfInBounds x.1 x.2) tmps)/\((ps.zip xs).foldl (λ t (x:Nat×Value)=>t.setIfInBounds x.1 x.2) tmps).size=nt
 |[],[],xs,F,F1,tmps,h,hv,hF,hs=>by
  cases hv
  simp only[nK]at h;injection h with h;subst h;exact⟨rfl,hF,hs⟩
 |[],_::_,_,_,_,_,h,_,_,_=>by simp[nK]at h
 |_::_,[],_,_,_,_,h,_,_,_=>by simp[nK]at h
 |p :: ps,v::vs,xs,F,F1,tmps,h,hv,hF,hs=>by
  cases hv with
  |cons _ x _ xs h1 h2 =>
  simp only[nK]at h
  split at h
  ·rename_i hp;have hp:p<nt:=dE hp
   have hF':FR φ D (F.put p (some v)).get (tmps.setIfInBounds p x):=by
    refine⟨λ t u hu=>?_,hF.2⟩;rw[Tr.get_put]at hu
    split at hu
    ·rename_i e;subst e;injection hu with hu;subst hu;exact⟨x,by simp[hs,hp],h1⟩
    rename_i e;obtain⟨y,hy,hvy⟩:=hF.1 t u hu;exact⟨y,by rw[Array.getElem?_setIfInBounds_ne (Ne.symm e)];exact hy,hvy⟩
   obtain⟨i1,i2,i3⟩:=vU ps vs xs (F.put p (some v)) F1 (tmps.setIfInBounds p x) h h2 hF' (by simp[hs]);exact⟨by simp[i1],by simpa using i2,by simpa using i3⟩
  cases h
theorem kA (H:Hp)(b:Nat)(k:Option br):Hf.set H.get b k=(H.put b k).get:=by funext c;simp only[Hf.set,Tr.get_put]
theorem lL {φ D}{H:Hp}{w:World}{n q cb co cz:Nat}{rr:Loop}{k:br}(hr:Rel φ D H.get w)(hq:H.get q≠none)(hp:φ q=some (cb,co,cz))
  (hk:iQ φ D (Go.World.putObj w cb (.loop rr)) (cb,co,cz) k):Rel φ D (H.put q (some k)).get (Go.World.putObj w cb (.loop rr))/\Ext φ D H.get w n φ D (H.put q (some k)).get (Go.World.putObj w cb (.loop rr)) n:=by
 have:=Ky (n:=n) hr hq hp (Go.World.putObj w cb (.loop rr)) (λ c hc=>Go.World.putObj_heap_other hc) Go.World.putObj_size rfl rfl hk;rw[kA]at this;exact this
theorem vf {q : Nat}{vs:List AV}{H:Hp}{n:Nat}{v:AV}{H':Hp}{n':Nat}(hce:gX P ce) (hk:DD ce q vs H n=.mk v H' n'):
  n<=n'/\∀(o:Oper) (c:Call) φ D (a:Act) w x,o.op=.call c->c.callee=.value x->VR φ D (.jv q) (a.eval x)->bO φ D vs (c.args.toList.map a.eval)->Rel φ D H.get w->bW φ n n'->∀(K:Act->World->Prop) (Q:QT),
   (∀ φ' D' w' cv,Ext φ D H.get w n φ' D' H'.get w' n'->Rel φ' D' H'.get w'->VR φ' D' v cv->K (a.put o.dst cv) w')->o.wpIn (FW r) 0 P a w K Q:=by
 unfold DD at hk
 split at hk
 ·rename_i st0 j0 nt0 F0 ps ca cb' hq0
  split at hk
  ·rename_i F1 hF1
   split at hk
   ·rename_i F2 H2 n2 hc1;obtain⟨hn1,hs1⟩:=hce.code _ _ _ _ _ _ _ _ _ _ hc1
    split at hk
    ·rename_i j2 Hh G2 ps2 a2 b2 hq2
     split at hk
     ·rename_i j F3 H3 n3 m3 hc2;obtain⟨hn2,hs2⟩:=hce.code _ _ _ _ _ _ _ _ _ _ hc2
      split at hk
      ·rename_i st3 j3 GH G3 GF a3 b3 hq3
       have fin:∀(b:Bool) (st:LoopState) (jj:nz),iT.mk (.bool b) (H3.put q (some (.loop st jj GH G3 GF a3 b3))) n3=.mk v H' n'->(gu jj).isNone=b->(st=if b then .ready else .done)->j=jj->(∀v,jj≠.panic v) ->
         n<=n'/\∀(o:Oper) (c:Call) φ D (a:Act) w x,o.op=.call c->c.callee=.value x->VR φ D (.jv q) (a.eval x)->bO φ D vs (c.args.toList.map a.eval)->Rel φ D H.get w->bW φ n n'->∀(K:Act->World->Prop) (Q:QT),
          (∀ φ' D' w' cv,Ext φ D H.get w n φ' D' H'.get w' n'->Rel φ' D' H'.get w'->VR φ' D' v cv->K (a.put o.dst cv) w')->o.wpIn (FW r) 0 P a w K Q:=by
        intro b st jj hk1 hb gw hjj hnp;injection hk1 with e1 e2 e3;subst e1 e2 e3;refine⟨by omega,λ o c φ D a w x ho hc hyl hargs hrel hf K Q hK=>?_⟩;refine⟨λ _ _=>trivial,?_⟩;generalize hxv:a.eval x=xv at hyl
        cases hyl with
        |jv _ cb co cz hp =>
        obtain⟨_,rr,hr1,hr2,hr3,hr4,hr5,hr6,hr7,hr8⟩:=hrel.block hq0 hp;have hr1:w.heap[cb]?=some (.loop rr):=hr1;obtain⟨p1,p2,p3⟩:=vU ps vs _ F0 F1 rr.tmps hF1 hargs hr5 hr4
        have hsz:(c.args.map a.eval).size=rr.params.size:=by
         have e1:rr.params.size=ps.length:=by rw[<-hr6];simp
         rw[e1,p1];simp
        have hrun:(o.semAt (FW r).round a.eval).run P w=.ok (.round cb rr.fn ((rr.params.zip (c.args.map a.eval)).foldl (λ tmps (t,a)=>tmps.setIfInBounds t a) rr.tmps) rr.assign rr.body) w:=by
         rw[dQ (by rw[ho];rfl)];have hy:=run_yield (P:=P) (args:=(#[]:Array Value)++Array.map a.eval c.args) hr1 (by simpa using hsz);simp only[execOp,ho,resolve,hc,hxv,Deferred.ofValue,bM,cD,bJ,invoke,hy];simp
        have hfold:(rr.params.zip (c.args.map a.eval)).foldl (λ tmps (t,a)=>tmps.setIfInBounds t a) rr.tmps=((ps.zip (c.args.toList.map a.eval)).foldl (λ t (x:Nat×Value)=>t.setIfInBounds x.1 x.2) rr.tmps):=by
         rw[<-Array.foldl_toList,Array.toList_zip,hr6];simp
        rw[hrun,hfold,hr7,hr8];refine⟨λ h=>by simp[FW]at h,roundIn_of_wpIn trivial ?_⟩;refine hs1 cb φ D {tmps:=_,defers:=[]} w ⟨hrel,p2,p3,rfl⟩ (hf.left (by omega)) _ λ φ1 D1 a1 w1 px e1 st1 pp=>?_;have hp1:=e1.phi _ _ hp;obtain⟨hlt2,r2,HA,ahl,ahk,ahj,ahi,ahh,ahg,ahf⟩:=st1.rel.block hq2 hp1;have HA:w1.heap[cb]?=some (.loop r2):=HA;have hlt2:cb<w1.heap.size:=hlt2;refine⟨_,run_beginRound (P:=P) HA ahl,?_⟩;obtain⟨k1,k2⟩:=lL (n:=n2) (rr:={r2 with state:=.busy}) (k:=.loop .busy j2 Hh G2 ps2 a2 b2) st1.rel (by rw[hq2];simp) hp1 ⟨_,Go.World.putObj_heap_same hlt2,rfl,ahk,ahj,ahi,ahh,ahg,ahf⟩;have f2:=(hf.step e1).step k2;refine hs2 cb φ1 D1 a1 _ ⟨k1,st1.fr,st1.sz,?_⟩ f2 _ λ φ2 D2 a2' w2 px e2 st2 pp=>?_
        ·exact st1.uy
        have hp2:=e2.phi _ _ hp1;obtain⟨hlt3,r3,AH,arG,arF,TK,TJ,TI,TG,TF⟩:=st2.rel.block hq3 hp2;have AH:w2.heap[cb]?=some (.loop r3):=AH;have hlt3:cb<w2.heap.size:=hlt3;have hend:=run_endRound (P:=P) (gu jj) AH;rw[hb,<-gw]at hend;obtain⟨k3,k4⟩:=lL (n:=n3) (rr:={r3 with state:=st,pending:=gu jj}) (k:=.loop st jj GH G3 GF a3 b3) st2.rel (by rw[hq3];simp) hp2 ⟨_,Go.World.putObj_heap_same hlt3,rfl,rfl,TK,TJ,TI,TG,TF⟩;have sN:=((e1.trans k2).trans e2).trans k4;have hgo:=hK φ2 D2 _ (.bool b) sN k3 (.bool _);subst hjj
        cases j with
        |normal=>exact⟨_,_,hend,hgo⟩
        |exit i=>exact⟨_,_,hend,hgo⟩
        |ret=>exact⟨_,_,hend,hgo⟩
        |panic v=>exact ai rfl (hnp v)
       split at hk
       ·exact fin true .ready .normal hk rfl rfl rfl (λ _ e=>by cases e)
       ·exact fin false .done (.exit _) hk rfl rfl rfl (λ _ e=>by cases e)
       ·exact fin false .done .ret hk rfl rfl rfl (λ _ e=>by cases e)
       cases hk
      cases hk
     cases hk
    cases hk
   cases hk
  cases hk
 cases hk
structure rV (P:Program)(c:Call)(g:G):Prop where
 fn:∀(o:Oper) (a:Act) (F:Fr) (φ:Ph) (D:Da) (f:FuncId) (first cap:List AV),o.op=.call c->FR φ D F.get a.tmps->g.f F=some (.fn (.func f) first cap)->∃fl cl,bO φ D first fl/\bO φ D cap cl /\
  ∀ fn b w, P.funcs[f]? = some fn → (fn.name == "runtime.NumGoroutine") = false → fn.body = some b → (execOp a.eval o).run P w = .ok (.enter f ⟨fl ++ (c.args.toList.map a.eval ++ cl)⟩) w
 jv:∀(a:Act) (F:Fr) (φ:Ph) (D:Da) (q:Nat),FR φ D F.get a.tmps->g.f F=some (.jv q)->∃x,c.callee=.value x/\VR φ D (.jv q) (a.eval x)
theorem rV.value {c:Call}{x:Operand}{g:G}(hc:c.callee=.value x)(hg:bQ x=some g):rV P c g:=by
 refine⟨λ o a F φ D f first cap ho hF hgv=>?_,λ a F φ D q hF hgv=>⟨x,hc,aH hg F φ D a hF _ hgv⟩⟩;have hgr:=aH hg F φ D a hF _ hgv
 cases hxv:a.eval x with
 |func ff fx cx =>
  rw[hxv]at hgr
  cases hgr with
  |fn _ _ _ fl cl h1 h2 =>
  refine⟨fl,cl,h1,h2,λ fn b w hfn hname hb=>?_⟩;have harr:(⟨fl⟩:Array Value)++Array.map a.eval c.args++⟨cl⟩=⟨fl++(c.args.toList.map a.eval++cl)⟩:=by apply Array.ext';simp
  simp only[execOp,ho,resolve,hc,hxv,Deferred.ofValue,bM,cD,bJ,invoke,callFunc,run_program,hfn,hname,hb,harr];simp
 |_=>rw[hxv]at hgr;cases hgr
theorem PK {t : TypeId}{name:String}{f:FuncId}{v:Value}{w:World}{k:Nat}(h:SV P t name=some f):(method (k+1) t v name).run P w=.ok (f,v) w:=by
 unfold SV at h
 split at h
 ·rename_i ti hi
  split at h
  ·rename_i m hm
   split at h
   ·rename_i hp
    split at h
    ·rename_i f' pr hf;unfold method;simp only[bM,run_typeInfo w hi,bJ,hm,cD,hp,follow,hf]
     split at h
     ·rename_i e hu
      cases pr with
      |false=>simp at h
      |true =>
       have h:some f'=some f:=h;injection h with h;subst h;unfold receiverAt;simp[run_underlying hu,Place.get]
     ·rename_i d hu hd
      cases pr with
      |true=>cases h
      |false =>
       have h:some f'=some f:=h;injection h with h;subst h;unfold receiverAt;simp only[bM,run_underlying hd,bJ]
       cases d<;>first|(simp[Place.get];done)|(exact ai rfl (hu _))
     cases h
    cases h
   cases h
  cases h
 cases h
theorem rV.invoke {c:Call}{x:Operand}{name:String}{g:G}(hc:c.callee=.invoke x name) (hg:bQ x=some g):rV P c (Hw P name g):=by
 refine⟨λ o a F φ D f first cap ho hF hgv=>?_,λ a F φ D q hF hgv=>?_⟩
 ·simp only[Hw]at hgv
  split at hgv
  ·rename_i t v hgx
   split at hgv
   ·rename_i f' hm;injection hgv with hgv;injection hgv with e1 e2 e3;injection e1 with e1;subst e1 e2 e3;have hgr:=aH hg F φ D a hF _ hgx;generalize hxv:a.eval x=xv at hgr
    cases hgr with
    |kG _ _ y hy =>
    refine⟨[y],[],.cons _ _ _ _ hy .nil,.nil,λ fn b w hfn hname hb=>?_⟩
    have hrun:(method (P.types.size+Made.depth) t y name).run P w=.ok (f',y) w:=by
     rw[show P.types.size+Made.depth=(P.types.size+99)+1 from rfl];exact PK hm
    have harr:(#[Value.iface t y]++Array.map a.eval c.args)[0]?=some (.iface t y):=by
     rw[Array.getElem?_append_left (Nat.zero_lt_one)];rfl
    have aml:#[y]++(#[Value.iface t y]++Array.map a.eval c.args).extract 1 (#[Value.iface t y]++Array.map a.eval c.args).size=⟨y::(c.args.toList.map a.eval)⟩:=by
     apply Array.ext';simp[extract];exact eZ (by simp)
    simp only[execOp,ho,resolve,hc,hxv,bM,cD,bJ,Go.invoke,harr,callMethod,run_program,hrun,aml,callFunc,hfn,hname,hb];simp
   cases hgv
  cases hgv
 simp only[Hw]at hgv
 split at hgv
 ·split at hgv<;>cases hgv
 cases hgv
theorem uc {o:Oper}{c:Call}{pd:Pd}{g:G}{as:List G}{next:K}(ho:o.op=.call c) (hg:rV P c g) (has:iS c.args.toList=some as) (hce:gX P ce) (j7:yy nt o.dst pd)
  (hnext:Sound nt (λ Q a w=>wpOpsIn (FW r) 0 P ops Q rest a w) (next.f ce)):
  Sound nt (λ Q a w=>o.wpIn (FW r) 0 P a w (wpOpsIn (FW r) 0 P ops Q rest) Q) ((xg pd g as next).f ce):=by
 intro F H n m ou F' H' n' m' hk;unfold xg at hk;dsimp only at hk
 cases hgv:g.f F with
 |none=>rw[hgv]at hk;cases hk
 |some fv =>
  rw[hgv]at hk
  split at hk
  ·rename_i f first cap hfv;injection hfv with hfv;subst hfv
   cases hev:evs F as with
   |none=>rw[hev]at hk;cases hk
   |some vs =>
    rw[hev]at hk;dsimp only at hk
    cases hcall:ce.call f (first++(vs++cap)) H n with
    |fail=>rw[hcall]at hk;cases hk
    |qX v H1 n1 =>
     rw[hcall]at hk;cases hk;obtain⟨⟨fn,b,hfn,hb,hname⟩,hn1,hcs⟩:=hce.qX _ _ _ _ _ _ _ hcall;refine⟨hn1,λ φ D a w st hf Q hQ=>?_⟩;refine⟨λ _ _=>trivial,?_⟩;obtain⟨fl,cl,h1,h2,hrun0⟩:=hg.fn o a F φ D f first cap ho st.fr hgv;have h3:=dh has F φ D a st.fr vs hev
     have hrun:(o.semAt (FW r).round a.eval).run P w=.ok (.enter f ⟨fl++(c.args.toList.map a.eval++cl)⟩) w:=by
      rw[dQ (by rw[ho];rfl)];exact hrun0 fn b w hfn hname hb
     rw[hrun];refine⟨λ h=>by simp[FW]at h,jg (hcs φ D w _ st.rel (h1.append (h3.append h2)) hf _ λ φ1 D1 w1 cv aS hrel fD=>?_)⟩;exact hQ φ1 D1 a w1 cv aS ⟨hrel,st.fr.mono aS.phi aS.ep,st.sz,st.uy.mono aS.phi aS.ep⟩ fD
    |mk v H1 n1 =>
     rw[hcall]at hk;dsimp only at hk;obtain⟨⟨fn,b,hfn,hb,hname⟩,hn1,hcs⟩:=hce.call _ _ _ _ _ _ _ hcall;obtain⟨hn2,hs⟩:=hnext _ _ _ _ _ _ _ _ _ hk;refine⟨by omega,λ φ D a w st hf Q hQ=>?_⟩;refine⟨λ _ _=>trivial,?_⟩;obtain⟨fl,cl,h1,h2,hrun0⟩:=hg.fn o a F φ D f first cap ho st.fr hgv;have h3:=dh has F φ D a st.fr vs hev
     have hrun:(o.semAt (FW r).round a.eval).run P w=.ok (.enter f ⟨fl++(c.args.toList.map a.eval++cl)⟩) w:=by
      rw[dQ (by rw[ho];rfl)];exact hrun0 fn b w hfn hname hb
     rw[hrun];refine⟨λ h=>by simp[FW]at h,jg (hcs φ D w _ st.rel (h1.append (h3.append h2)) (hf.left hn2) _ λ φ1 D1 w1 cv aS hrel fD=>?_)⟩;have hfr:=j7 v F φ1 D1 a cv (st.fr.mono aS.phi aS.ep) st.sz fD;exact hs φ1 D1 (a.put o.dst cv) w1 ⟨hrel,hfr.1,hfr.2,by rw[put_defers];exact st.uy.mono aS.phi aS.ep⟩ (hf.step aS) Q λ φ' D' a' w' px hx hst' pp=>hQ φ' D' a' w' px (aS.trans hx) hst' pp
  ·rename_i q hfv;injection hfv with hfv;subst hfv
   cases hev:evs F as with
   |none=>rw[hev]at hk;cases hk
   |some vs =>
    rw[hev]at hk;dsimp only at hk
    cases hy:DD ce q vs H n with
    |fail=>rw[hy]at hk;cases hk
    |qX v H1 n1=>rw[hy]at hk;cases hk
    |mk v H1 n1 =>
     rw[hy]at hk;dsimp only at hk;obtain⟨hn1,hcs⟩:=vf (r:=r) hce hy;obtain⟨hn2,hs⟩:=hnext _ _ _ _ _ _ _ _ _ hk;refine⟨by omega,λ φ D a w st hf Q hQ=>?_⟩;obtain⟨x,hc,hyl⟩:=hg.jv a F φ D q st.fr hgv;refine hcs o c φ D a w x ho hc hyl (dh has F φ D a st.fr vs hev) st.rel (hf.left hn2) _ Q λ φ1 D1 w1 cv aS hrel fD=>?_;have hfr:=j7 v F φ1 D1 a cv (st.fr.mono aS.phi aS.ep) st.sz fD;exact hs φ1 D1 (a.put o.dst cv) w1 ⟨hrel,hfr.1,hfr.2,by rw[put_defers];exact st.uy.mono aS.phi aS.ep⟩ (hf.step aS) Q λ φ' D' a' w' px hx hst' pp=>hQ φ' D' a' w' px (aS.trans hx) hst' pp
  cases hk
theorem Am {o:Oper}{x:Operand}{g:G}(ho:o.op=.panic x)(hg:bQ x=some g):
  Sound nt (λ Q a w=>o.wpIn (FW r) 0 P a w (wpOpsIn (FW r) 0 P ops Q rest) Q) ((Ao g).f ce):=by
 intro F H n m ou F' H' n' m' hk;unfold Ao at hk;dsimp only at hk
 split at hk
 ·rename_i t v hgv;cases hk;refine⟨aP _,λ φ D a w st hf Q hQ=>⟨λ _ _=>trivial,?_⟩⟩;have h3:=aH hg F φ D a st.fr _ hgv;generalize hl:a.eval x=l at h3
  cases h3 with
  |kG _ _ y hy =>
  have hrun:(o.semAt (FW r).round a.eval).run P w=.halt (.panic (.iface t y)) w:=by
   rw[dQ (by rw[ho];rfl)];simp only[execOp,ho,hl,Instr.panic];simp[goPanic]
  rw[hrun];exact hQ φ D a w (.iface t y) (Ext.refl ..) st (.kG _ _ _ hy)
 cases hk
theorem Bf {o:Oper}{f:Operand}{args:Array Operand}{tys:Array TypeId}{pd:Pd}{g:G}{as:List G}{next:K}(hr:r=none) (ho:o.op=.defer {callee:=.value f,args:=args,argTypes:=tys}) (hg:bQ f=some g) (has:iS args.toList=some as) (j7:yy nt o.dst pd)
  (hnext:Sound nt (λ Q a w=>wpOpsIn (FW r) 0 P ops Q rest a w) (next.f ce)):
  Sound nt (λ Q a w=>o.wpIn (FW r) 0 P a w (wpOpsIn (FW r) 0 P ops Q rest) Q) ((Bg pd g as next).f ce):=by
 subst hr;intro F H n m ou F' H' n' m' hk;unfold Bg at hk;dsimp only at hk
 split at hk
 ·rename_i ff first cap hgv
  split at hk
  ·rename_i vs hev;obtain⟨hn,hs⟩:=hnext _ _ _ _ _ _ _ _ _ hk;refine⟨hn,λ φ D a w st hf Q hQ=>⟨λ _ _=>trivial,?_⟩⟩;have hgr:=aH hg F φ D a st.fr _ hgv;have h3:=dh has F φ D a st.fr vs hev;generalize hxv:a.eval f=xv at hgr
   cases hgr with
   |fn _ _ _ fl cl h1 h2 =>
   have hrun:(o.semAt (FW none).round a.eval).run P w=.ok (.defer {target:=.fn (.func ff) ⟨cl⟩,args:=⟨fl++args.toList.map a.eval⟩ }) w:=by
    have harr:(⟨fl⟩:Array Value)++Array.map a.eval args=⟨fl++args.toList.map a.eval⟩:=by apply Array.ext';simp
    show ((o.semAt none a.eval).run P w)=_;rw[Oper.semAt_none];simp only[execOp,ho,resolve,hxv,Deferred.ofValue,bM,cD,bJ,harr]
   rw[hrun];have hfr:=j7 (.aX []) F φ D {a with defers:={target:=.fn (.func ff) ⟨cl⟩,args:=⟨fl++args.toList.map a.eval⟩ }::a.defers} undef st.fr st.sz (.aX _ _ .nil);refine hs φ D _ w ⟨st.rel,hfr.1,hfr.2,?_⟩ hf Q hQ;rw[put_defers];exact⟨_,_,_,by simpa using h1.append (h3.append h2),rfl,st.uy⟩
  cases hk
 cases hk
theorem zS {φ:Ph}{D:Da}{v:AV}{b:Bool}(h:VR φ D v (.bool b)):v=.bool b:=by
 cases h with
 |bool=>rfl
 |al _ ha=>cases ha
end
end Go.Abs
namespace Go.Abs
open List
def over (X X' h:Hf):Hf:=λ b=>match X' b with
  | some k=>some k
  | none=>match X b with
    | some _=>none
    | none=>h b
def Sub (X h:Hf):Prop:=∀b k,X b=some k->h b=some k
theorem yW {X X' h:Hf}{b:Nat}{k:br}(h1:over X X' h b=some k):X' b=some k∨(X' b=none/\X b=none/\h b=some k):=by
  unfold over at h1
  cases e1:X' b with
  | some k'=>rw[e1]at h1;exact .inl h1
  | none =>
    rw[e1]at h1
    cases e2:X b with
    | some k'=>rw[e2]at h1;cases h1
    | none=>rw[e2]at h1;exact .inr ⟨rfl,rfl,h1⟩
theorem rj {X X' h:Hf}{b:Nat}(h1:over X X' h b≠none):X' b≠none∨(X' b=none/\X b=none/\h b≠none):=by
  cases e:over X X' h b with
  | none=>exact ai e h1
  | some k => rcases yW e with h | ⟨a,b,c⟩
              · exact .inl (by rw[h];simp)
              · exact .inr ⟨a,b,by rw[c];simp⟩
theorem v9 {X X' h:Hf}:Sub X' (over X X' h):=λ b k hb=>by unfold over;rw[hb]
theorem sA {X X' h:Hf}{b:Nat}(h1:X b=none)(h2:X' b=none):over X X' h b=h b:=by unfold over;rw[h1,h2]
theorem yX {X h:Hf}(hs:Sub X h):over X X h=h:=by
  funext b
  unfold over
  cases e:X b with
  | none=>rfl
  | some k=>exact(hs b k e).symm
theorem uJ {φ D h X w}(hr:Rel φ D h w)(hs:Sub X h):Rel φ D X w:=by
  have ne:∀b,X b≠none->h b≠none:=λ b hb=>by
    cases e:X b with
    | none=>exact ai e hb
    | some k=>rw[hs b k e];simp
  exact⟨λ b k hb=>hr.blk b k (hs b k hb),λ b c p q hb hc=>hr.inj b c p q (ne b hb) (ne c hc),λ b p hb=>hr.sep b p (ne b hb),hr.ep⟩
theorem qJ {φ D h w lo hi X X' φ' D' w'}(hr:Rel φ D h w) (hX:Sub X h) (e:Ext φ D X w lo φ' D' X' w' hi) (r:Rel φ' D' X' w'):
    Rel φ' D' (over X X' h) w'/\Ext φ D h w lo φ' D' (over X X' h) w' hi:=by
  have ne:∀b,X b≠none->h b≠none:=λ b hb=>by
    cases e:X b with
    | none=>exact ai e hb
    | some k=>rw[hX b k e];simp
  have apart:∀b p c q,X b=none->h b≠none->φ' b=some p->X' c≠none->φ' c=some q->p.1≠q.1:=by
    intro b p c q hXb hb hp hc hq eq
    cases hbk:h b with
    | none=>exact ai hbk hb
    | some k =>
      obtain⟨p',hp',hlt,_⟩:=hr.blk b k hbk
      have:=e.phi _ _ hp'
      rw[hp]at this;injection this with this;subst this
      rcases e.live c q hc hq with h1 | ⟨b0,p0,x,y,z⟩
      · omega
      · have:=hr.inj b0 b p0 p (ne b0 x) hb y hp' (by omega)
        subst this;exact x hXb
  refine⟨⟨?_,?_,?_,r.ep⟩,⟨e.le,e.phi,e.new,e.ep,e.size,?_,?_,?_,?_,e.os,e.out⟩⟩
  · intro b k hb
    rcases yW hb with h1 | ⟨h1,h2,h3⟩
    · exact r.blk b k h1
    · obtain⟨p,hp,hlt,hk⟩:=hr.blk b k h3
      refine⟨p,e.phi _ _ hp,Nat.lt_of_lt_of_le hlt e.size,hk.mono e.phi e.ep (e.keep _ hlt λ c q hc hq eq=>?_)⟩
      have:=hr.inj c b q p (ne c hc) (by rw[h3];simp) hq hp eq
      subst this;exact hc h2
  · intro b c p q hb hc hp hq eq
    rcases rj hb with h1 | ⟨h1,h2,h3⟩<;>rcases rj hc with k1 | ⟨k1,k2,k3⟩
    · exact r.inj b c p q h1 k1 hp hq eq
    · exact ai eq.symm (apart c q b p k2 k3 hq h1 hp)
    · exact ai eq (apart b p c q h2 h3 hp k1 hq)
    · cases hbk:h b with
      | none=>exact ai hbk h3
      | some kb=>cases hck:h c with
        | none=>exact ai hck k3
        | some kc =>
          obtain⟨p',hp',_⟩:=hr.blk b kb hbk
          obtain⟨q',hq',_⟩:=hr.blk c kc hck
          have e1:=e.phi _ _ hp'
          have e2:=e.phi _ _ hq'
          rw[hp]at e1;injection e1 with e1;subst e1
          rw[hq]at e2;injection e2 with e2;subst e2
          exact hr.inj b c p q h3 k3 hp' hq' eq
  · intro b p hb hp
    rcases rj hb with h1 | ⟨h1,h2,h3⟩
    · exact r.sep b p h1 hp
    · cases hD:D' p.1 with
      | none=>rfl
      | some x =>
        exfalso
        cases hbk:h b with
        | none=>exact ai hbk h3
        | some kb =>
          obtain⟨p',hp',hlt,_⟩:=hr.blk b kb hbk
          have e1:=e.phi _ _ hp'
          rw[hp]at e1;injection e1 with e1;subst e1
          rcases e.jW p.1 (by rw[hD];simp)with h4 | h4 | ⟨b0,p0,x0,y0,z0⟩
          · exact h4 (hr.sep b p h3 hp')
          · omega
          · have:=hr.inj b0 b p0 p (ne b0 x0) h3 y0 hp' z0
            subst this;exact x0 h2
  · exact λ c hc hn=>e.keep c hc λ b p hb=>hn b p (ne b hb)
  · intro b p hb hp
    rcases rj hb with h1 | ⟨h1,h2,h3⟩
    · rcases e.live b p h1 hp with h4 | ⟨b0,p0,x,y,z⟩
      · exact .inl h4
      · exact .inr ⟨b0,p0,ne b0 x,y,z⟩
    · cases hbk:h b with
      | none=>exact ai hbk h3
      | some kb =>
        obtain⟨p',hp',hlt,_⟩:=hr.blk b kb hbk
        have e1:=e.phi _ _ hp'
        rw[hp]at e1;injection e1 with e1;subst e1
        exact .inr ⟨b,p,h3,hp',rfl⟩
  · intro c hc
    rcases e.jW c hc with h1 | h1 | ⟨b0,p0,x,y,z⟩
    · exact .inl h1
    · exact .inr (.inl h1)
    · exact .inr (.inr ⟨b0,p0,ne b0 x,y,z⟩)
  · intro b hb
    rcases rj hb with h1 | ⟨h1,h2,h3⟩
    · rcases e.hid b h1 with h4 | h4
      · exact .inl (ne b h4)
      · exact .inr h4
    · exact .inl h3
section
variable {P:Program}{ce:Ce}{nt:Nat}{r:Option Nat}{ops:Array Oper}
def lz (P:Program) (r:Option Nat) (ops:Array Oper) (i:Nat) (dst:Option Tmp) (Fs:Fr) (X X':Hf) (v:AV) (lo hi:Nat):Prop:=
  lo<=hi/\∀ φ D h (a:Act) w,Rel φ D h w->Sub X h->FR φ D Fs.get a.tmps->bW φ lo hi->∀(K:Act->World->Prop) (Q:QT),
    (∀ φ' D' w' cv,Ext φ D h w lo φ' D' (over X X' h) w' hi->Rel φ' D' (over X X' h) w'->VR φ' D' v cv->K (a.put dst cv) w')->wpOpIn (FW r) 0 P ops Q i K a w
inductive oJ (P:Program)(ops:Array Oper)(o:Oper)(Fs:Fr):Bool->Prop
  | free:o.guard=none->oJ P ops o Fs true
  | tells (j d:Nat) (b c:Bool):o.guard=some (j,b)->(ops[j]?).bind (·.dst)=some d->Fs.get d=some (.bool c)->oJ P ops o Fs (c == b)
  | other (j d:Nat) (b:Bool) (v:AV):o.guard=some (j,b)->(ops[j]?).bind (·.dst)=some d->Fs.get d=some v->(∀c,v≠.bool c)->oJ P ops o Fs false
theorem oQ {o:Oper}{Fs:Fr}{b:Bool}(h:oJ P ops o Fs b){φ:Ph}{D:Da}{tmps:Array Value}(hF:FR φ D Fs.get tmps):Region.wanted o (yielded ops tmps)=b:=by
  cases h with
  | free h=>simp[Region.wanted,h]
  | tells j d b c h1 h2 h3 =>
    obtain⟨x,hx,hv⟩:=hF.1 d _ h3
    cases hv with
    | bool=>simp only[Region.wanted,h1,yielded,h2,Option.bind_some,hx];cases b<;>cases c<;>rfl
  | other j d b v h1 h2 h3 h4 =>
    obtain⟨x,hx,hv⟩:=hF.1 d _ h3
    simp only[Region.wanted,h1,yielded,h2,Option.bind_some,hx]
    cases x<;>first | rfl | exact ai (zS hv) (h4 _)
theorem step_skip {i:Nat}{o:Oper}{Fs:Fr}(ho:ops[i]?=some o)(hw:oJ P ops o Fs false)(X:Hf)(n:Nat):lz P r ops i o.dst Fs X X (.aX []) n n:=by
  refine⟨aP _,λ φ D h a w hr hX hF hf K Q hK=>?_⟩
  have hwr:=oQ hw hF
  unfold wpOpIn
  rw[yX hX]at hK
  simp only[ho,hwr]
  exact⟨λ _ _=>trivial,hK φ D w undef (Ext.refl ..) hr (.aX _ _ .nil)⟩
theorem eu {i:Nat}{o:Oper}{Fs:Fr}{e:Eff}{H:Hp}{n:Nat}{rr:bb}(ho:ops[i]?=some o)(hw:oJ P ops o Fs true)(he:bC P o e)(hq:oV o.op=true)(hrr:e Fs H n=rr)(hne:rr≠.fail):
    lz P r ops i o.dst Fs H.get (uw rr H.get n) (Pm rr) n (sB rr n):=by
  refine⟨by cases rr<;>simp[sB],λ φ D h a w hr hX hF hf K Q hK=>?_⟩
  have hwr:=oQ hw hF
  obtain⟨nx,cv,φ',w',hrun,hnx,aS,hrel,fD⟩:=by
    have:=he Fs H n φ D a w (uJ hr hX) hF (by rw[hrr];exact hf) (by rw[hrr];exact hne)
    rw[hrr]at this;exact this
  obtain⟨h1,h2⟩:=qJ hr hX aS hrel
  unfold wpOpIn
  simp only[ho,hwr,if_true]
  refine⟨λ _ _=>trivial,?_⟩
  rw[dQ hq,hrun]
  cases hnx with
  | value=>exact hK φ' D w' _ h2 h1 fD
  | skip=>exact hK φ' D w' _ h2 h1 fD
theorem yI {i:Nat}{o:Oper}{Fs:Fr}{c:Call}{g:G}{as:List G}{f:FuncId}{first cap vs:List AV}{H H':Hp}{n n':Nat}{v:AV}(ho:ops[i]?=some o)(hw:oJ P ops o Fs true)(hc:o.op=.call c)(hg:rV P c g)(has:iS c.args.toList=some as)
    (hce:gX P ce)(hgv:g.f Fs=some (.fn (.func f) first cap))(hev:evs Fs as=some vs)(hcall:ce.call f (first++(vs++cap)) H n=.mk v H' n'):lz P r ops i o.dst Fs H.get H'.get v n n':=by
  obtain⟨⟨fn,b,hfn,hb,hname⟩,hn,hcs⟩:=hce.call _ _ _ _ _ _ _ hcall
  refine⟨hn,λ φ D h a w hr hX hF hf K Q hK=>?_⟩
  have hwr:=oQ hw hF
  unfold wpOpIn
  simp only[ho,hwr,if_true]
  refine⟨λ _ _=>trivial,?_⟩
  obtain⟨fl,cl,h1,h2,hrun0⟩:=hg.fn o a Fs φ D f first cap hc hF hgv
  have h3:=dh has Fs φ D a hF vs hev
  have hrun:(o.semAt (FW r).round a.eval).run P w=.ok (.enter f ⟨fl++(c.args.toList.map a.eval++cl)⟩) w:=by
    rw[dQ (by rw[hc];rfl)]
    exact hrun0 fn b w hfn hname hb
  rw[hrun]
  refine⟨λ h=>by simp[FW]at h,jg (hcs φ D w _ (uJ hr hX) (h1.append (h3.append h2)) hf _ λ φ1 D1 w1 cv aS hrel fD=>?_)⟩
  obtain⟨k1,k2⟩:=qJ hr hX aS hrel
  exact hK φ1 D1 w1 cv k2 k1 fD
theorem vD {i:Nat}{o:Oper}{Fs:Fr}{c:Call}{g:G}{as:List G}{q:Nat}{vs:List AV}{H H':Hp}{n n':Nat}{v:AV}(ho:ops[i]?=some o)(hw:oJ P ops o Fs true)(hc:o.op=.call c)(hg:rV P c g)(has:iS c.args.toList=some as)
    (hce:gX P ce)(hgv:g.f Fs=some (.jv q))(hev:evs Fs as=some vs)(hy:DD ce q vs H n=.mk v H' n'):lz P r ops i o.dst Fs H.get H'.get v n n':=by
  obtain⟨hn,hcs⟩:=vf (r:=r) hce hy
  refine⟨hn,λ φ D h a w hr hX hF hf K Q hK=>?_⟩
  have hwr:=oQ hw hF
  unfold wpOpIn
  simp only[ho,hwr,if_true]
  obtain⟨x,hcx,hyl⟩:=hg.jv a Fs φ D q hF hgv
  refine hcs o c φ D a w x hc hcx hyl (dh has Fs φ D a hF vs hev) (uJ hr hX) hf K Q λ φ1 D1 w1 cv aS hrel fD=>?_
  obtain⟨k1,k2⟩:=qJ hr hX aS hrel
  exact hK φ1 D1 w1 cv k2 k1 fD
end
end Go.Abs
namespace Go.Abs
open List
theorem yG (m i:Nat):tb m i=m.testBit i:=by
 unfold tb;show Nat.beq ((m >>> i) &&& 1) 1=_;rw[Nat.testBit_eq_decide_div_mod_eq];rw[show (m >>> i) &&& 1=m / 2 ^ i % 2 by rw[Nat.shiftRight_eq_div_pow,Nat.and_one_is_mod]]
 cases h:Nat.beq (m / 2 ^ i % 2) 1 with
 |true=>have:=b9 h;simp[this]
 |false =>
  have:m / 2 ^ i % 2≠1:=λ e=>by rw[e]at h;simp at h
  simp[this]
theorem r_ (a b p:Nat):tb (Nat.lor a b) p=(tb a p||tb b p):=by
 rw[yG,yG,yG];exact Nat.testBit_or a b p
theorem vz (x p:Nat):tb (Nat.shiftLeft 1 x) p=decide (x=p):=by
 rw[yG];show (1 <<< x).testBit p=_;rw[Nat.one_shiftLeft,Nat.testBit_two_pow]
theorem zU (p:Nat):tb 0 p=false:=by rw[yG];exact Nat.zero_testBit p
theorem afR (n p:Nat):tb (Nat.sub (Nat.shiftLeft 1 n) 1) p=decide (p<n):=by
 rw[yG];show ((1 <<< n) - 1).testBit p=_;rw[Nat.one_shiftLeft,Nat.testBit_two_pow_sub_one]
structure Rec where
 i:Nat
 v:AV
 lo:Nat
 hi:Nat
 ph:Nat
 e:Nat
 dst:Option Tmp
 Fs:Fr
 blk:Option br
 pf:Bool
 X:Hf
 hf:Bool
 jd:Option (Nat×br×br)
def ux:Hf:=λ _=>none
section
variable {P:Program}{ce:Ce}{nt:Nat}{r:Option Nat}{ops:Array Oper}
structure qi (P:Program)(r:Option Nat)(ops:Array Oper)(A:Nat->Hp)(j:Nat)(c:Rec):Prop where
 val:c.pf=false->c.blk=none->c.jd=none->c.hi=c.lo/\∀q,c.e<=q->q<=c.ph->∃X,(c.hf=true->X=ux)/\Sub X (A q).get/\lz P r ops c.i c.dst c.Fs X X c.v c.lo c.lo
 new:c.pf=false->∀k,c.blk=some k->c.hi=c.lo+1/\lz P r ops c.i c.dst c.Fs ux (ux.set c.lo (some k)) c.v c.lo (c.lo+1)/\∀q,q<=c.ph->(A q).get c.lo=none
 TY:∀b x y,c.jd=some (b,x,y)->c.pf=false/\c.blk=none/\c.hi=c.lo/\(A c.ph).get b=some x/\lz P r ops c.i c.dst c.Fs (ux.set b (some x)) (ux.set b (some y)) c.v c.lo c.lo
 mod:c.pf=true->c.blk=none/\c.ph<j/\lz P r ops c.i c.dst c.Fs c.X (A (c.ph+1)).get c.v c.lo c.hi
structure Good (P:Program)(r:Option Nat)(nt:Nat)(ops:Array Oper)(T D:Tr Nat)(F0:Fr)(n0:Nat)(A:Nat->Hp)(done:List Rec)(j:Nat)(F:Fr)(H:Hp)(n:Nat)(bK grp bad:List Nat)(seen:Nat):Prop where
 nle:n0<=n
 ok:∀c∈done,qi P r ops A j c
 eA:∀c∈done,n0<=c.lo/\c.lo<=c.hi/\c.hi<=n
 pw:done.Pairwise (λ a b=>a.hi<=b.lo)
 op:∀c∈done,∃o,ops[c.i]?=some o/\c.dst=o.dst/\∀d,o.dst=some d->d<nt
 fs:∀c∈done,∀t u,c.Fs.get t=some u->(F0.get t=some u/\∀p,D.get t=some p->tb (dD T p) c.i=true)∨∃s∈done,s.dst=some t/\s.v=u/\tb (dD T c.i) s.i=true
 ft:∀t u,F.get t=some u->(F0.get t=some u/\∀s∈done,s.dst≠some t)∨∃s∈done,s.dst=some t/\s.v=u
 hg:∀b k,H.get b=some k->((A j).get b=some k/\∀s∈done,∀x y,s.jd≠some (b,x,y))∨(∃s∈done,s.pf=false/\s.blk=some k/\s.lo=b/\s.ph=j)∨∃s∈done,∃x,s.jd=some (b,x,k)
 mx:∀c∈done,c.pf=true->∀b k,c.X b=some k->(A c.ph).get b=some k∨∃s∈done,s.pf=false/\s.blk=some k/\s.lo=b/\s.ph=c.ph/\tb (dD T c.i) s.i=true
 ph:∀c∈done,c.ph<=j
 gr:∀c∈done,c.pf=false->(c.ph<j->∃s∈done,s.pf=true/\s.ph=c.ph/\tb (dD T s.i) c.i=true)/\(c.ph=j->c.i∈grp)
 ch:∀c∈done,c.pf=true->∀q,c.ph=q+1->∃s∈done,s.pf=true/\s.ph=q/\tb (dD T c.i) s.i=true
 ea:∀c∈done,c.pf=false->∀q,c.e=q+1->∃s∈done,s.pf=true/\s.ph=q/\tb (dD T c.i) s.i=true
 ml:bK.length=j
 md:∀q x,bK[q]?=some x->∃s∈done,s.pf=true/\s.ph+1+q=j/\s.i=x
 uq:∀c∈done,∀s∈done,c.pf=true->s.pf=true->c.ph=s.ph->c=s
 sn:∀c∈done,tb seen c.i=true
 nh:∀c∈done,c.pf=false->c.blk=none->c.jd=none->c.ph=j->c.i∈bad∨c.hf=true
 ff:∀c∈done,c.jd≠none->c.ph=j/\c.e=j/\bad=[]
 fd:∀c∈done,∀s∈done,∀b x y x' y',c.jd=some (b,x,y)->s.jd=some (b,x',y')->c=s
def rU (A:Nat->Hp):Nat->List Hp->Prop
 |0,Hs=>Hs=[A 0]
 |j+1,Hs=>∃l,Hs=A (j+1)::l/\rU A j l
theorem rU.congr {A B:Nat->Hp}:∀ {j:Nat}{Hs:List Hp},(∀q,q<=j->B q=A q)->rU A j Hs->rU B j Hs
 |0,_,h,e=>by unfold rU at *;rw[h 0 (aP _)];exact e
 |j+1,_,h,⟨l,e,k⟩=>⟨l,by rw[h _ (aP _)];exact e,rU.congr (λ q hq=>h q (by omega)) k⟩
theorem nP {A:Nat->Hp}{n:Nat}:∀ {j:Nat}{Hs:List Hp},rU A j Hs->iY n Hs=true->∀q,q<=j->(A q).get n=none
 |0,_,e,h,q,hq=>by
  unfold rU at e;subst e;have:q=0:=by omega
  subst this;simp only[iY]at h
  split at h
  ·assumption
  cases h
 |j + 1,_,⟨l,e,k⟩,h,q,hq=>by
  subst e;simp only[iY]at h
  split at h
  ·by_cases hqj:q=j+1
   ·subst hqj;assumption
   exact nP k h q (by omega)
  cases h
theorem zx:∀ {a b:List Nat},eQ a b=true->a=b
 |[],[],_=>rfl
 |[],_::_,h=>by simp[eQ]at h
 |_::_,[],h=>by simp[eQ]at h
 |x :: a,y::b,h=>by
  simp only[eQ]at h
  split at h
  ·rename_i hxy;rw[b9 hxy,zx h]
  cases h
theorem Uy {a b:Value}(h:Uz a b=true):a=b:=by
 unfold Uz at h
 split at h<;>first|rfl|cases h
theorem xy {a b:AV}(h:FX a b=true):a=b:=by
 unfold FX at h
 split at h
 ·simp only[dN,decide_eq_true_eq]at h;rw[h.1,h.2]
 ·simp at h;rw[h]
 ·rw[zx h]
 ·simp only[dN]at h;rw[b9 h.1,b9 h.2]
 ·simp only[dN]at h;rw[b9 h.1.1.1,b9 h.1.1.2,b9 h.1.2,b9 h.2]
 ·rw[b9 h]
 ·rw[Uy h]
 ·rw[b9 h]
 cases h
theorem FV {a b:AV}(h:LW a b=true):a=b:=by
 unfold LW at h
 split at h
 ·simp only[dN]at h;rw[b9 h.1,xy h.2]
 exact xy h
theorem FU:∀ {a b:List AV},zK a b=true->a=b
 |[],[],_=>rfl
 |[],_::_,h=>by simp[zK]at h
 |_::_,[],h=>by simp[zK]at h
 |x :: a,y::b,h=>by
  simp only[zK]at h
  split at h
  ·rename_i hxy;rw[FV hxy,FU h]
  cases h
theorem U4 {a b:AV}(h:U5 a b=true):a=b:=by
 unfold U5 at h
 split at h
 ·simp only[dN]at h;rw[b9 h.1,FU h.2]
 exact FV h
theorem mJ {f:AV->AV->Bool}(h:∀a b,f a b=true->a=b):∀ {a b:List AV},wT f a b=true->a=b
 |[],[],_=>rfl
 |[],_::_,e=>by simp[wT]at e
 |_::_,[],e=>by simp[wT]at e
 |x::a,y::b,e=>by
  simp only[wT]at e
  split at e
  ·rename_i hxy;rw[h _ _ hxy,mJ h e]
  cases e
theorem Uh:∀(k:Nat)(a b:AV),Ui k a b=true->a=b
 |0,_,_,h=>by simp[Ui]at h
 |k+1,a,b,h=>by
  have ih:=Uh k;unfold Ui at h
  split at h
  ·simp only[dN]at h;rw[b9 h.1,mJ ih h.2]
  ·rw[mJ ih h]
  ·simp only[dN]at h;rw[b9 h.1,ih _ _ h.2]
  ·simp only[dN]at h;rw[b9 h.1.1,mJ ih h.1.2,mJ ih h.2]
  ·rw[b9 h]
  ·simp only[dN]at h;rw[b9 h.1.1,b9 h.1.2,mJ ih h.2]
  ·rw[mJ ih h]
  exact xy h
theorem ack {a b:AV}(h:Ir a b=true):a=b:=by
 unfold Ir at h
 split at h
 ·rename_i h1;exact U4 h1
 split at h
 ·rename_i h1;exact Uh 8 _ _ h1
 exact(@decide_eq_true_iff _ (Classical.propDecidable _)).1 h
theorem Ql (a:AV):Ir a a=true:=by
 unfold Ir
 split
 ·rfl
 split
 ·rfl
 exact(@decide_eq_true_iff _ (Classical.propDecidable _)).2 rfl
theorem uf {A : Nat->Hp}{e:Eff}{F:Fr}{n:Nat}{v:AV}:∀ {k j:Nat}{Hs:List Hp},rU A j Hs->fg e F n k Hs=some v->∀q,q<=j->j<q+k->e F (A q) n=.val v
 |0,j,Hs,_,h,q,h1,h2=>by omega
 |k + 1, j, Hs,hk,h,q,h1,h2=>by
  obtain⟨l,rfl,hl⟩:∃l,Hs=A j::l/\(∀i,j=i+1->rU A i l):=by
   cases j with
   |zero=>unfold rU at hk;exact⟨[],hk,λ i hi=>by cases hi⟩
   |succ j=>obtain⟨l,e,hk'⟩:=hk;exact⟨l,e,λ i hi=>by cases hi;exact hk'⟩
  simp only[fg]at h
  split at h
  ·rename_i u hu
   split at h
   ·injection h with h;subst h;have:q=j:=by omega
    subst this;exact hu
   rename_i k'
   split at h
   ·rename_i u' hu'
    split at h
    ·rename_i heq;injection h with h;subst h;have:=ack heq;subst this
     by_cases hqj:q=j
     ·subst hqj;exact hu
     have hj:j=(j - 1)+1:=by omega
     exact uf (hl (j - 1) hj) hu' q (by omega) (by omega)
    cases h
   cases h
  cases h
end
end Go.Abs
namespace Go.Abs
open List
section
variable {P:Program}{ce:Ce}{nt:Nat}{r:Option Nat}{ops:Array Oper}{T D:Tr Nat}{F0:Fr}{n0:Nat}
def DOk (D:Tr Nat)(ops:Array Oper):Prop:=∀i o d,ops[i]?=some o->o.dst=some d->D.get d=some i
def EOk (D E:Tr Nat)(F0:Fr):Prop:=∀t p,D.get t=some p->E.get t=none->F0.get t=none
theorem eO {E:Tr Nat}{i seen:Nat}:∀ {l:List Nat},iz T D E i seen l=true->∀t,t∈l->∀p,D.get t=some p ->
  (E.get t=none/\tb (dD T i) p=true)∨(E.get t≠none/\tb (dD T p) i=true/\tb seen p=false)
 |[],_,t,ht=>by cases ht
 |s :: l, h,t,ht=>by
  intro p hp;simp only[iz]at h
  split at h
  ·rename_i hs
   rcases mem_cons.1 ht with rfl|ht
   ·rw[hp]at hs;cases hs
   exact eO h t ht p hp
  rename_i q hs
  split at h
  ·rename_i hE
   cases hq:tb (dD T i) q with
   |false=>rw[hq]at h;cases h
   |true =>
    rw[hq]at h
    rcases mem_cons.1 ht with rfl|ht
    ·rw[hp]at hs;injection hs with hs;subst hs;exact .inl ⟨hE,hq⟩
    exact eO h t ht p hp
  rename_i x hE
  cases hq:tb (dD T q) i&&!tb seen q with
  |false=>rw[hq]at h;cases h
  |true =>
   rw[hq]at h
   rcases mem_cons.1 ht with rfl|ht
   ·rw[hp]at hs;injection hs with hs;subst hs;simp only[dN,Bool.not_eq_true']at hq;exact .inr ⟨by rw[hE];simp,hq.1,hq.2⟩
   exact eO h t ht p hp
theorem qG {m:Nat}:∀ {l:List Nat},EP m l=true->∀p,p∈l->tb m p=true
 |[],_,p,hp=>by cases hp
 |s :: l,h,p,hp=>by
  simp only[EP]at h
  cases hq:tb m s with
  |false=>rw[hq]at h;cases h
  |true =>
   rw[hq]at h
   rcases mem_cons.1 hp with rfl|hp
   ·exact hq
   exact qG h p hp
theorem DZ:∀(l:List Nat)(F:Fr)(t:Nat),((cB l).f F).get t=if t∈l then F.get t else none
 |[],F,t=>rfl
 |s::l,F,t=>by
  show ((Tr.vW (Nat.succ s) s).f ((ar s).f F) ((cB l).f F)).get t=_;rw[Tr.jz _ _ _ _ _ (Nat.lt_succ_self s),DZ l,gi]
  by_cases h:t=s
  ·subst h;simp
  simp[h]
theorem oS {l:List Nat}{F:Fr}{t:Nat}{u:AV}(h:((cB l).f F).get t=some u):t∈l/\F.get t=some u:=by
 rw[DZ]at h
 split at h
 ·exact⟨by assumption,h⟩
 cases h
theorem Ak {dst:Option Tmp}{pd:Pd}(h:eV nt dst=some pd):(∀v (F:Fr) t,(pd.f v F).get t=if dst=some t then some v else F.get t)/\∀d,dst=some d->d<nt:=by
 unfold eV at h
 split at h
 ·injection h with h;subst h;exact⟨λ v F t=>by simp,λ d hd=>by cases hd⟩
 rename_i d
 split at h
 ·rename_i hd;injection h with h;subst h;refine⟨λ v F t=>?_,λ d' hd'=>by injection hd' with hd';subst hd';exact hd⟩;dsimp only;rw[Tr.jz _ _ _ _ _ (Nat.lt_succ_self d)]
  by_cases e:t=d
  ·subst e;simp
  simp[e,Ne.symm e]
 cases h
theorem qi.mono {A A':Nat->Hp}{j j':Nat}{c:Rec}(h:qi P r ops A j c)(hph:c.ph<=j)(hA:∀q,q<=j->A' q=A q)(hj:j<=j'):qi P r ops A' j' c:=
 ⟨λ a b d=>let ⟨x,y⟩:=h.val a b d;⟨x,λ q h1 h2=>by rw[hA q (by omega)];exact y q h1 h2⟩,
  λ a k b=>let ⟨x,y,z⟩:=h.new a k b;⟨x,y,λ q hq=>by rw[hA q (by omega)];exact z q hq⟩,
  λ b x y a=>let ⟨u,v,w,s,t⟩:=h.TY b x y a;⟨u,v,w,by rw[hA _ hph];exact s,t⟩,
  λ a=>let ⟨x,y,z⟩:=h.mod a;⟨x,by omega,by rw[hA (c.ph+1) (by omega)];exact z⟩⟩
theorem good_step {A A':Nat->Hp}{done:List Rec}{j j':Nat}{F F1:Fr}{H H1:Hp}{n:Nat}{bK iE grp jL bad bad':List Nat}{seen:Nat}{E:Tr Nat}(g:Good P r nt ops T D F0 n0 A done j F H n bK grp bad seen) (hnf:∀s∈done,s.jd=none) (c:Rec){o:Oper}(ho:ops[c.i]?=some o)
  (hdst:c.dst=o.dst)(hlt:∀d,o.dst=some d->d<nt)(hlo:c.lo=n)(hhi:n<=c.hi)(hph:c.ph=j)(hFs:∀t u,c.Fs.get t=some u->t∈slotsOf ops o/\F.get t=some u)
  (hsl:iz T D E c.i seen (slotsOf ops o)=true)(hD:DOk D ops)(hE:EOk D E F0)(hF1:∀t,F1.get t=if c.dst=some t then some c.v else F.get t)(hA:∀q,q<=j->A' q=A q)(hok:qi P r ops A' j' c)(hcf:c.jd=none)
  (hcase:(c.pf=false/\j'=j/\iE=bK/\jL=c.i::grp/\(bad'=c.i::bad∨(bad'=bad/\c.hf=true))/\(∀b k,H1.get b=some k->H.get b=some k∨(c.blk=some k/\c.lo=b)) /\
    (∀q,c.e=q+1->∃x,bK[bK.length - (q+1)]?=some x/\q+1<=bK.length/\tb (dD T c.i) x=true)) ∨
   (c.pf=true/\j'=j+1/\iE=c.i::bK/\jL=[]/\A' (j+1)=H1/\c.X=H.get/\EP (dD T c.i) grp=true/\(∀x l,bK=x::l->tb (dD T c.i) x=true))):
  Good P r nt ops T D F0 n0 A' (done++[c]) j' F1 H1 c.hi iE jL bad' (Nat.lor seen (Nat.shiftLeft 1 c.i)):=by
 have hjj:j<=j':=by rcases hcase with⟨_,h,_⟩|⟨_,h,_⟩<;>omega
 have mem:∀ {s},s∈done->s∈done++[c]:=λ h=>mem_append_left _ h;have Hl:c∈done++[c]:=by simp
 have nD:∀ {s},s∈done++[c]->s∈done∨s=c:=λ h=>by simpa using h
 have hAj:=hA j (aP _)
 have abM:∀s,s∈done++[c]->s.jd=none:=λ s hs=>by
  rcases nD hs with hs|rfl
  ·exact hnf s hs
  exact hcf
 refine⟨uo g.nle hhi,?_,?_,?_,?_,?_,?_,?_,?_,?_,?_,?_,?_,?_,?_,?_,?_,?_,?_,?_⟩
 ·intro s hs
  rcases nD hs with hs|rfl
  ·exact(g.ok s hs).mono (g.ph s hs) hA hjj
  exact hok
 ·intro s hs
  rcases nD hs with hs|rfl
  ·obtain⟨a,b,d⟩:=g.eA s hs;exact⟨a,b,uo d hhi⟩
  exact⟨by rw[hlo];exact g.nle,by omega,aP _⟩
 ·rw[pairwise_append];refine⟨g.pw,by simp,λ a ha b hb=>?_⟩;have:b=c:=by simpa using hb
  subst this;rw[hlo];exact(g.eA a ha).2.2
 ·intro s hs
  rcases nD hs with hs|rfl
  ·exact g.op s hs
  exact⟨o,ho,hdst,hlt⟩
 ·intro s hs t u hu
  rcases nD hs with hs|rfl
  ·rcases g.fs s hs t u hu with h|⟨x,hx,h⟩
   ·exact .inl h
   exact .inr ⟨x,mem hx,h⟩
  obtain⟨h1,h2⟩:=hFs t u hu
  rcases g.ft t u h2 with⟨h,_⟩|⟨x,hx,h3,h4⟩
  ·refine .inl ⟨h,λ p hp=>?_⟩
   rcases eO hsl t h1 p hp with⟨h5,_⟩|⟨_,h5,_⟩
   ·rw[hE t p hp h5]at h;cases h
   exact h5
  obtain⟨ox,hox,hdx,_⟩:=g.op x hx
  rcases eO hsl t h1 _ (hD _ _ _ hox (by rw[<-hdx];exact h3))with⟨_,h5⟩|⟨_,_,h5⟩
  ·exact .inr ⟨x,mem hx,h3,h4,h5⟩
  rw[g.sn x hx]at h5;cases h5
 ·intro t u hu;rw[hF1]at hu
  split at hu
  ·rename_i hd;injection hu with hu;exact .inr ⟨c,Hl,hd,hu⟩
  rename_i hnd
  rcases g.ft t u hu with⟨h,h'⟩|⟨x,hx,h⟩
  ·refine .inl ⟨h,λ s hs=>?_⟩
   rcases nD hs with hs|rfl
   ·exact h' s hs
   exact hnd
  exact .inr ⟨x,mem hx,h⟩
 ·intro b k hb
  rcases hcase with⟨h1,rfl,_,_,_,h2,_⟩|⟨h1,rfl,_,_,h2,_⟩
  ·rcases h2 b k hb with h3|⟨h3,h4⟩
   ·rcases g.hg b k h3 with h5|⟨s,hs,h5⟩|⟨s,hs,x,h5⟩
    ·exact .inl ⟨by rw[hAj];exact h5.1,λ s hs x y=>by rw[abM s hs];simp⟩
    ·exact .inr (.inl ⟨s,mem hs,h5⟩)
    rw[hnf s hs]at h5;cases h5
   exact .inr (.inl ⟨c,Hl,h1,h3,h4,hph⟩)
  exact .inl ⟨by rw[h2];exact hb,λ s hs x y=>by rw[abM s hs];simp⟩
 ·intro s hs hm b k hb
  rcases nD hs with hs|rfl
  ·rcases g.mx s hs hm b k hb with h|⟨x,hx,h⟩
   ·exact .inl (by rw[hA _ (g.ph s hs)];exact h)
   exact .inr ⟨x,mem hx,h⟩
  rcases hcase with⟨h1,_⟩|⟨_,_,_,_,_,h2,h3,_⟩
  ·rw[h1]at hm;cases hm
  rw[h2]at hb
  rcases g.hg b k hb with h5|⟨x,hx,h5,h6,h7,h8⟩|⟨s,hs,x,h5⟩
  rotate_left 2
  ·rw[hnf s hs]at h5;cases h5
  ·exact .inl (by rw[hph,hAj];exact h5.1)
  exact .inr ⟨x,mem hx,h5,h6,h7,by omega,qG h3 _ ((g.gr x hx h5).2 h8)⟩
 ·intro s hs
  rcases nD hs with hs|rfl
  ·have:=g.ph s hs;omega
  omega
 ·intro s hs hm
  rcases nD hs with hs|rfl
  ·obtain⟨h1,h2⟩:=g.gr s hs hm;have hp:=g.ph s hs
   rcases hcase with⟨_,rfl,_,rfl,_⟩|⟨hcm,rfl,_,_,_,_,h3,_⟩
   ·exact⟨λ h=>let ⟨x,hx,y⟩:=h1 h;⟨x,mem hx,y⟩,λ h=>mem_cons_of_mem _ (h2 h)⟩
   refine⟨λ _=>?_,λ h=>by omega⟩
   by_cases hj:s.ph<j
   ·obtain⟨x,hx,y⟩:=h1 hj;exact⟨x,mem hx,y⟩
   exact⟨c,Hl,hcm,by omega,qG h3 _ (h2 (by omega))⟩
  rcases hcase with⟨_,rfl,_,rfl,_⟩|⟨hcm,_⟩
  ·exact⟨λ h=>by omega,λ _=>by simp⟩
  rw[hcm]at hm;cases hm
 ·intro s hs hm q hq
  rcases nD hs with hs|rfl
  ·obtain⟨x,hx,y⟩:=g.ch s hs hm q hq;exact⟨x,mem hx,y⟩
  rcases hcase with⟨h1,_⟩|⟨_,_,_,_,_,_,_,h3⟩
  ·rw[h1]at hm;cases hm
  cases wE:bK with
  |nil=>have:=g.ml;rw[wE]at this;simp at this;omega
  |cons x l =>
   obtain⟨y,hy,h4,h5,h6⟩:=g.md 0 x (by rw[wE];rfl);exact⟨y,mem hy,h4,by omega,by rw[h6];exact h3 x l wE⟩
 ·intro s hs hm q hq
  rcases nD hs with hs|rfl
  ·obtain⟨x,hx,y⟩:=g.ea s hs hm q hq;exact⟨x,mem hx,y⟩
  rcases hcase with⟨_,_,_,_,_,_,h3⟩|⟨hcm,_⟩
  ·obtain⟨x,h4,h5,h6⟩:=h3 q hq;obtain⟨y,hy,h7,h8,h9⟩:=g.md _ x h4;have:=g.ml;exact⟨y,mem hy,h7,by omega,by rw[h9];exact h6⟩
  rw[hcm]at hm;cases hm
 ·have:=g.ml
  rcases hcase with⟨_,rfl,rfl,_⟩|⟨_,rfl,rfl,_⟩
  ·exact this
  simp[this]
 ·intro q x hx
  rcases hcase with⟨_,rfl,rfl,_⟩|⟨hcm,rfl,rfl,_⟩
  ·obtain⟨s,hs,y⟩:=g.md q x hx;exact⟨s,mem hs,y⟩
  cases q with
  |zero=>simp at hx;exact⟨c,Hl,hcm,by omega,hx⟩
  |succ q =>
   obtain⟨s,hs,y1,y2,y3⟩:=g.md q x (by simpa using hx);exact⟨s,mem hs,y1,by omega,y3⟩
 ·intro s hs u hu hsm hum hsu;have ac2:∀x,x∈done->x.pf=true->x.ph<j:=λ x hx hm=>((g.ok x hx).mod hm).2.1
  rcases nD hs with hs' |e1<;>rcases nD hu with hu' |e2
  ·exact g.uq s hs' u hu' hsm hum hsu
  ·have:=ac2 s hs' hsm;rw[e2]at hsu;omega
  ·have:=ac2 u hu' hum;rw[e1]at hsu;omega
  rw[e1,e2]
 ·intro s hs;rw[r_,vz]
  rcases nD hs with hs|rfl
  ·rw[g.sn s hs];rfl
  simp
 ·intro s hs h1 h2 h3 h4
  rcases hcase with⟨_,rfl,_,_,h5,_⟩|⟨hcm,rfl,_⟩
  ·rcases nD hs with hs|rfl
   ·rcases g.nh s hs h1 h2 h3 h4 with h6|h6
    ·rcases h5 with rfl|⟨rfl,_⟩
     ·exact .inl (mem_cons_of_mem _ h6)
     exact .inl h6
    exact .inr h6
   rcases h5 with rfl|⟨_,h5⟩
   ·exact .inl (by simp)
   exact .inr h5
  rcases nD hs with hs|rfl
  ·have:=g.ph s hs;omega
  rw[hcm]at h1;cases h1
 ·intro s hs h;exact ai (abM s hs) h
 intro s hs u hu b x y x' y' h;rw[abM s hs]at h;cases h
theorem TS {A:Nat->Hp}{done:List Rec}{j:Nat}{F F1:Fr}{H:Hp}{n:Nat}{bK grp:List Nat}{seen:Nat}{E:Tr Nat}(g:Good P r nt ops T D F0 n0 A done j F H n bK grp [] seen) (c:Rec){o:Oper}(ho:ops[c.i]?=some o)
  (hdst:c.dst=o.dst)(hlt:∀d,o.dst=some d->d<nt)(hlo:c.lo=n)(hhi:c.hi=n)(hph:c.ph=j)(hce:c.e=j)(hFs:∀t u,c.Fs.get t=some u->t∈slotsOf ops o/\F.get t=some u)
  (hsl:iz T D E c.i seen (slotsOf ops o)=true)(hD:DOk D ops)(hE:EOk D E F0)(hF1:∀t,F1.get t=if c.dst=some t then some c.v else F.get t)(hok:qi P r ops A j c)
  {b:Nat}{x y:br}(hcf:c.jd=some (b,x,y)) (hfr:∀s∈done,∀x y,s.jd≠some (b,x,y)) (hch:∀x l,bK=x::l->tb (dD T c.i) x=true):
  Good P r nt ops T D F0 n0 A (done++[c]) j F1 (H.put b (some y)) n bK (c.i::grp) [] (Nat.lor seen (Nat.shiftLeft 1 c.i)):=by
 have mem:∀ {s},s∈done->s∈done++[c]:=λ h=>mem_append_left _ h;have Hl:c∈done++[c]:=by simp
 have nD:∀ {s},s∈done++[c]->s∈done∨s=c:=λ h=>by simpa using h
 obtain⟨hcm,hcb,_,hAb,_⟩:=hok.TY b x y hcf;refine⟨g.nle,?_,?_,?_,?_,?_,?_,?_,?_,?_,?_,?_,?_,g.ml,?_,?_,?_,?_,?_,?_⟩
 ·intro s hs
  rcases nD hs with hs|rfl
  ·exact g.ok s hs
  exact hok
 ·intro s hs
  rcases nD hs with hs|rfl
  ·exact g.eA s hs
  exact⟨by rw[hlo];exact g.nle,by omega,by omega⟩
 ·rw[pairwise_append];refine⟨g.pw,by simp,λ a ha b hb=>?_⟩;have:b=c:=by simpa using hb
  subst this;rw[hlo];exact(g.eA a ha).2.2
 ·intro s hs
  rcases nD hs with hs|rfl
  ·exact g.op s hs
  exact⟨o,ho,hdst,hlt⟩
 ·intro s hs t u hu
  rcases nD hs with hs|rfl
  ·rcases g.fs s hs t u hu with h|⟨x,hx,h⟩
   ·exact .inl h
   exact .inr ⟨x,mem hx,h⟩
  obtain⟨h1,h2⟩:=hFs t u hu
  rcases g.ft t u h2 with⟨h,_⟩|⟨x,hx,h3,h4⟩
  ·refine .inl ⟨h,λ p hp=>?_⟩
   rcases eO hsl t h1 p hp with⟨h5,_⟩|⟨_,h5,_⟩
   ·rw[hE t p hp h5]at h;cases h
   exact h5
  obtain⟨ox,hox,hdx,_⟩:=g.op x hx
  rcases eO hsl t h1 _ (hD _ _ _ hox (by rw[<-hdx];exact h3))with⟨_,h5⟩|⟨_,_,h5⟩
  ·exact .inr ⟨x,mem hx,h3,h4,h5⟩
  rw[g.sn x hx]at h5;cases h5
 ·intro t u hu;rw[hF1]at hu
  split at hu
  ·rename_i hd;injection hu with hu;exact .inr ⟨c,Hl,hd,hu⟩
  rename_i hnd
  rcases g.ft t u hu with⟨h,h'⟩|⟨x,hx,h⟩
  ·refine .inl ⟨h,λ s hs=>?_⟩
   rcases nD hs with hs|rfl
   ·exact h' s hs
   exact hnd
  exact .inr ⟨x,mem hx,h⟩
 ·intro b1 k hb;rw[Tr.get_put]at hb
  split at hb
  ·rename_i e1;injection hb with hb;subst hb;subst e1;exact .inr (.inr ⟨c,Hl,x,hcf⟩)
  rename_i e1
  rcases g.hg b1 k hb with⟨h5,h6⟩|⟨s,hs,h5⟩|⟨s,hs,x,h5⟩
  ·refine .inl ⟨h5,λ s hs x' y' h=>?_⟩
   rcases nD hs with hs|rfl
   ·exact h6 s hs x' y' h
   rw[hcf]at h;injection h with h;injection h with h _;first|exact e1 h|exact e1 h.symm
  ·exact .inr (.inl ⟨s,mem hs,h5⟩)
  exact .inr (.inr ⟨s,mem hs,x,h5⟩)
 ·intro s hs hm b k hb
  rcases nD hs with hs|rfl
  ·rcases g.mx s hs hm b k hb with h|⟨x,hx,h⟩
   ·exact .inl h
   exact .inr ⟨x,mem hx,h⟩
  rw[hcm]at hm;cases hm
 ·intro s hs
  rcases nD hs with hs|rfl
  ·exact g.ph s hs
  omega
 ·intro s hs hm
  rcases nD hs with hs|rfl
  ·obtain⟨h1,h2⟩:=g.gr s hs hm;exact⟨λ h=>let ⟨x,hx,y⟩:=h1 h;⟨x,mem hx,y⟩,λ h=>mem_cons_of_mem _ (h2 h)⟩
  exact⟨λ h=>by omega,λ _=>by simp⟩
 ·intro s hs hm q hq
  rcases nD hs with hs|rfl
  ·obtain⟨x,hx,y⟩:=g.ch s hs hm q hq;exact⟨x,mem hx,y⟩
  rw[hcm]at hm;cases hm
 ·intro s hs hm q hq
  rcases nD hs with hs|rfl
  ·obtain⟨x,hx,y⟩:=g.ea s hs hm q hq;exact⟨x,mem hx,y⟩
  cases wE:bK with
  |nil=>have:=g.ml;rw[wE]at this;simp at this;omega
  |cons x l =>
   obtain⟨y,hy,h4,h5,h6⟩:=g.md 0 x (by rw[wE];rfl);exact⟨y,mem hy,h4,by omega,by rw[h6];exact hch x l wE⟩
 ·intro q x hx;obtain⟨s,hs,y⟩:=g.md q x hx;exact⟨s,mem hs,y⟩
 ·intro s hs u hu hsm hum hsu
  rcases nD hs with hs' |e1<;>rcases nD hu with hu' |e2
  ·exact g.uq s hs' u hu' hsm hum hsu
  ·rw[e2,hcm]at hum;cases hum
  ·rw[e1,hcm]at hsm;cases hsm
  rw[e1,e2]
 ·intro s hs;rw[r_,vz]
  rcases nD hs with hs|rfl
  ·rw[g.sn s hs];rfl
  simp
 ·intro s hs h1 h2 h3 h4
  rcases nD hs with hs|rfl
  ·exact g.nh s hs h1 h2 h3 h4
  rw[hcf]at h3;cases h3
 ·intro s hs h
  rcases nD hs with hs|rfl
  ·exact g.ff s hs h
  exact⟨hph,hce,rfl⟩
 intro s hs u hu b1 x1 y1 x2 y2 h1 h2
 rcases nD hs with hs' |e1<;>rcases nD hu with hu' |e2
 ·exact g.fd s hs' u hu' b1 x1 y1 x2 y2 h1 h2
 ·rw[e2,hcf]at h2;injection h2 with h2;injection h2 with h2 _;subst h2;exact ai h1 (hfr s hs' _ _)
 ·rw[e1,hcf]at h1;injection h1 with h1;injection h1 with h1 _;subst h1;exact ai h2 (hfr u hu' _ _)
 rw[e1,e2]
def Reads (P:Program) (ce:Ce) (r:Option Nat) (nt:Nat) (ops:Array Oper) (T D:Tr Nat) (F0:Fr) (n0:Nat) (l:List eN) (j:Nat) (bK grp bad:List Nat) (seen:Nat) (k:KR):Prop:=
 ∀(A:Nat->Hp) (done:List Rec) (F:Fr) (H:Hp) (Hs:List Hp) (n:Nat) (m:List Dm) (o:nz) (F':Fr) (H':Hp) (n':Nat) (m':List Dm),
  Good P r nt ops T D F0 n0 A done j F H n bK grp bad seen->(∀s∈done,s.jd=none)->rU A j Hs->k.f ce F H Hs n m=.mk o F' H' n' m' ->
  ∃A' all j' iE jL bad' seen',Good P r nt ops T D F0 n0 A' all j' F' H' n' iE jL bad' seen'/\o=.normal/\m'=m/\all.map (·.i)=done.map (·.i)++l.map idxOf/\A' 0=A 0
theorem nB {o:Oper}{rs:RS}{yes no:KR}{F F':Fr}{H H':Hp}{Hs:List Hp}{n n':Nat}{m m':List Dm}{ou:nz}(h:(guarded ops rs o yes no).f ce F H Hs n m=.mk ou F' H' n' m'):
  (oJ P ops o (rs.f F) true/\yes.f ce F H Hs n m=.mk ou F' H' n' m')∨(oJ P ops o (rs.f F) false/\no.f ce F H Hs n m=.mk ou F' H' n' m'):=by
 unfold guarded at h
 split at h
 ·rename_i hg;exact .inl ⟨.free hg,h⟩
 rename_i j b hg
 split at h
 ·rename_i d hd;simp only[wH]at h
  split at h
  ·rename_i c hv;rw[gi]at hv;have hw:=oJ.tells (P:=P) j d b c hg hd hv
   cases hcb:c == b with
   |true=>rw[hcb]at h hw;exact .inl ⟨hw,h⟩
   |false=>rw[hcb]at h hw;exact .inr ⟨hw,h⟩
  ·rename_i v hnb hv;rw[gi]at hv;exact .inr ⟨.other j d b v hg hd hv (λ c hc=>hnb c hc),h⟩
  cases h
 cases h
theorem qu {A A':Nat->Hp}{done:List Rec}{j':Nat}{F1 F':Fr}{H1 H':Hp}{Hs1:List Hp}{n1 n':Nat}{m m':List Dm}{o:nz}{l:List eN}{iE jL bad':List Nat}{seen:Nat}{k:KR}{c:Rec}{x:eN}(hc:c.i=idxOf x)(hnext:Reads P ce r nt ops T D F0 n0 l j' iE jL bad' seen k)
  (g:Good P r nt ops T D F0 n0 A' (done++[c]) j' F1 H1 n1 iE jL bad' seen)(hnf:∀s∈done,s.jd=none)(hcf:c.jd=none)(hs:rU A' j' Hs1)(hA:A' 0=A 0)(h:k.f ce F1 H1 Hs1 n1 m=.mk o F' H' n' m'):
  ∃A' all j' iE jL bad' seen',Good P r nt ops T D F0 n0 A' all j' F' H' n' iE jL bad' seen'/\o=.normal/\m'=m/\all.map (·.i)=done.map (·.i)++(x::l).map idxOf/\A' 0=A 0:=by
 obtain⟨A2,all,j2,alM,ar4,as0,akT,h1,h2,h3,h4,h5⟩:=hnext A' (done++[c]) F1 H1 Hs1 n1 m o F' H' n' m' g (λ s hs=>by
  rcases mem_append.1 hs with hs|hs
  ·exact hnf s hs
  have:s=c:=by simpa using hs
  subst this;exact hcf) hs h
 exact⟨A2,all,j2,alM,ar4,as0,akT,h1,h2,h3,by rw[h4];simp[hc],by rw[h5,hA]⟩
def HsF (A:Nat->Hp)(j:Nat)(done:List Rec)(Hs:List Hp):Prop:=∃B l,Hs=B::l/\∀b k,B.get b=some k->(A j).get b=some k/\∀s∈done,∀x y,s.jd≠some (b,x,y)
theorem OQ {k:Nat}{x v:G}{F:Fr}{H:Hp}{n:Nat}{w:AV}{b:Nat}{y old:br}(h:dm k x v F H n=.upd w b y) (hb:H.get b=some old):dm k x v F (Tr.put .nil b (some old)) n=.upd w b y:=by
 unfold dm at h ⊢
 split at h
 ·rename_i a ha
  split at h
  ·rename_i u hu;unfold fZ at h ⊢
   split at h
   ·rename_i b0 o
    split at h
    ·rename_i u' z bs t hg
     split at h
     ·rename_i hc;injection h with h1 h2 h3;subst h2;rw[Tr.get_put,ao rfl];rw[hb]at hg;injection hg with hg;subst hg;dsimp only;rw[hc,h1,h3]
     cases h
    cases h
   cases h
  cases h
 cases h
theorem Q5 {P:Program}{o:Oper}{t:TypeId}{a v:Operand}{e:Eff}(ho:o.op=.store t a v)(h:dJ P o=some e):∃k x y,e=dm k x y:=by
 unfold dJ at h;rw[ho]at h;simp only[iD,fu]at h;obtain⟨k,hk,g,hg,l,hl,h⟩:=h;injection h with h;exact⟨k,g,l,h.symm⟩
theorem aaE (b:Nat)(x:Option br):((Tr.nil:Hp).put b x).get=ux.set b x:=by
 funext c
 rw[Tr.get_put];unfold Hf.set ux
 by_cases h:c=b
 ·subst h;simp
 simp[h]
theorem Eb (b:Nat)(x y:Option br):(((Tr.nil:Hp).put b x).put b y).get=ux.set b y:=by
 funext c
 rw[Tr.get_put,Tr.get_put];unfold Hf.set ux
 by_cases h:c=b
 ·subst h;simp
 simp[h]
theorem zu {E : Tr Nat}(hD:DOk D ops)(hE:EOk D E F0)(bK:List Nat):∀(l:List eN)(j:Nat)(grp:List Nat)(seen:Nat),qL T D E ops bK l seen=true ->
  ∀(A:Nat->Hp) (done:List Rec) (F:Fr) (H:Hp) (Hs:List Hp) (n:Nat) (m:List Dm) (o:nz) (F':Fr) (H':Hp) (n':Nat) (m':List Dm),Good P r nt ops T D F0 n0 A done j F H n bK grp [] seen->HsF A j done Hs->(fV P nt ops l j).f ce F H Hs n m=.mk o F' H' n' m' ->
   ∃all jL seen',Good P r nt ops T D F0 n0 A all j F' H' n' bK jL [] seen'/\o=.normal/\m'=m/\all.map (·.i)=done.map (·.i)++l.map idxOf
 |[],j,grp,seen,_=>by
  intro A done F H Hs n m o F' H' n' m' g hs h;cases h;exact⟨done,grp,seen,g,rfl,rfl,by simp⟩
 |.op _ _::_,j,grp,seen,hp=>by simp[qL]at hp
 |.mod _::_,j,grp,seen,hp=>by simp[qL]at hp
 |.QI _::_,j,grp,seen,hp=>by simp[qL]at hp
 |.jd i :: l, j, grp, seen,hp=>by
  intro A done F H Hs n m ou F' H' n' m' g hs h;simp only[qL]at hp;simp only[fV]at h
  split at hp
  ·rename_i o ho;rw[ho]at h;dsimp only at h;simp only[dN]at hp;obtain⟨⟨hp1,hp2⟩,hp3⟩:=hp
   have hch:∀x l',bK=x::l'->tb (dD T i) x=true:=by
    intro x l' hx;subst hx;exact hp2
   split at h
   ·rename_i pd j7;obtain⟨hpg,hlt⟩:=Ak j7
    split at h
    ·rename_i hgd;unfold inF at h
     split at h
     ·rename_i t a v hop
      split at h
      ·rename_i ef hef;have heo:=gq hef;have hq:=dO hef;obtain⟨sz,gx,gy,rfl⟩:=Q5 hop hef;obtain⟨B,lB,rfl,hB⟩:=hs;simp only[TX]at h
       split at h
       ·rename_i u b k hk
        split at h
        ·rename_i x hx;obtain⟨hA,hfr⟩:=hB b x hx;have gw:=eu (r:=r) ho (.free hgd) heo hq (OQ hk hx) (by simp);rw[lM,Eb,aaE]at gw;let c:Rec:={i,v:=u,lo:=n,hi:=n,ph:=j,e:=j,dst:=o.dst,Fs:=(cB (slotsOf ops o)).f F,blk:=none,pf:=false,X:=ux,hf:=false,jd:=some (b,x,k)}
         have hok:qi P r ops A j c:=by
          refine⟨λ _ _ hf=>(by cases hf),λ _ k' hk=>(by cases hk),λ b' x' y' hf=>?_,λ hm=>(by cases hm)⟩;injection hf with hf;injection hf with h1 h2;injection h2 with h2 h3;subst h1;subst h2;subst h3;exact⟨rfl,rfl,rfl,hA,gw⟩
         have g':=TS (F1:=pd.f u F) g c ho rfl hlt rfl rfl rfl rfl (λ t u hu=>oS hu) hp1 hD hE (λ t=>hpg u F t) hok rfl hfr hch
         have hsf:HsF A j (done++[c]) (B.put b none::lB):=by
          refine⟨B.put b none,lB,rfl,λ b1 k1 hb1=>?_⟩;rw[Tr.get_put]at hb1
          split at hb1
          ·cases hb1
          rename_i hne;obtain⟨h5,h6⟩:=hB b1 k1 hb1;refine⟨h5,λ s hs x' y' hf=>?_⟩
          rcases mem_append.1 hs with hs|hs
          ·exact h6 s hs x' y' hf
          have:s=c:=by simpa using hs
          subst this;injection hf with hf;injection hf with hf _
          first|exact hne hf|exact hne hf.symm
         obtain⟨all,jL,seen',h1,h2,h3,h4⟩:=zu hD hE bK l j _ _ hp3 A (done++[c]) _ _ _ n m ou F' H' n' m' g' hsf h;exact⟨all,jL,seen',h1,h2,h3,by rw[h4];simp[c,idxOf]⟩
        cases h
       cases h
      cases h
     cases h
    cases h
   cases h
  cases hp
theorem kU {E : Tr Nat}(hce:gX P ce) (hD:DOk D ops) (hE:EOk D E F0):∀(l:List eN) (j:Nat) (bK grp bad:List Nat) (seen:Nat),my T D E ops l bK grp bad seen=true->Reads P ce r nt ops T D F0 n0 l j bK grp bad seen (fV P nt ops l j)
 |[],j,bK,grp,bad,seen,_=>by
  intro A done F H Hs n m o F' H' n' m' g hnf hs h;cases h;exact⟨A,done,j,bK,grp,bad,seen,g,rfl,rfl,by simp,rfl⟩
 |.jd i :: l,j,bK,grp,bad,seen,hp=>by
  intro A done F H Hs n m ou F' H' n' m' g hnf hs h;simp only[my]at hp
  split at hp
  ·have hsf:HsF A j done Hs:=by
    obtain⟨l',rfl⟩:∃l',Hs=A j::l':=by
     cases j with
     |zero=>unfold rU at hs;exact⟨[],hs⟩
     |succ j=>obtain⟨l,e,_⟩:=hs;exact⟨l,e⟩
    exact⟨A j,l',rfl,λ b k hb=>⟨hb,λ s hs x y=>by rw[hnf s hs];simp⟩⟩
   obtain⟨all,jL,seen',h1,h2,h3,h4⟩:=zu hD hE bK (.jd i::l) j grp seen hp A done F H Hs n m ou F' H' n' m' g hsf h;exact⟨A,all,j,bK,jL,[],seen',h1,h2,h3,h4,rfl⟩
  cases hp
 |.op i e :: l, j,bK,grp,bad,seen,hp=>by
  intro A done F H Hs n m ou F' H' n' m' g hnf hs h;simp only[my]at hp;simp only[fV]at h
  split at hp
  ·rename_i o ho;rw[ho]at h;dsimp only at h;simp only[dN]at hp;obtain⟨⟨hp1,hp2⟩,hp3⟩:=hp
   split at h
   ·rename_i pd j7;obtain⟨hpg,hlt⟩:=Ak j7;have hnext:=kU hce hD hE l j bK (i::grp) (i::bad) _ hp3
    have hea:∀q,e=q+1->∃x,bK[bK.length - (q+1)]?=some x/\q+1<=bK.length/\tb (dD T i) x=true:=by
     intro q hq;subst hq;simp only[dN]at hp2;have h1:=dE hp2.1;rw[bI]at h1
     cases hx:nth bK (Nat.sub (dF bK 0) (q+1))with
     |none=>rw[hx]at hp2;exact ai hp2.2 (by simp)
     |some x =>
      rw[hx]at hp2;rw[mA,bI]at hx;exact⟨x,hx,h1,hp2.2⟩
    have go:∀(v:AV) (n1:Nat) (H1:Hp) (blk:Option br),(fV P nt ops l j).f ce (pd.f v F) H1 Hs n1 m=.mk ou F' H' n' m'->n<=n1->(∀b k,H1.get b=some k->H.get b=some k∨(blk=some k/\n=b)) ->
      qi P r ops A j {i,v,lo:=n,hi:=n1,ph:=j,e,dst:=o.dst,Fs:=(cB (slotsOf ops o)).f F,blk,pf:=false,X:=ux,hf:=false,jd:=none} ->
      ∃A' all j' iE jL bad' seen',Good P r nt ops T D F0 n0 A' all j' F' H' n' iE jL bad' seen'/\ou=.normal/\m'=m/\all.map (·.i)=done.map (·.i)++(eN.op i e::l).map idxOf/\A' 0=A 0:=by
     intro v n1 H1 blk hk hn hH hok
     exact qu (c:={i,v,lo:=n,hi:=n1,ph:=j,e,dst:=o.dst,Fs:=(cB (slotsOf ops o)).f F,blk,pf:=false,X:=ux,hf:=false,jd:=none}) rfl hnext
      (good_step g hnf {i,v,lo:=n,hi:=n1,ph:=j,e,dst:=o.dst,Fs:=(cB (slotsOf ops o)).f F,blk,pf:=false,X:=ux,hf:=false,jd:=none} ho rfl hlt rfl hn rfl (λ t u hu=>oS hu) hp1 hD hE (λ t=>hpg v F t) (λ _ _=>rfl) hok rfl
       (.inl ⟨rfl,rfl,rfl,rfl,.inl rfl,hH,hea⟩)) hnf rfl hs rfl hk
    rcases nB (P:=P) h with⟨hw,h⟩|⟨hw,h⟩
    ·unfold inR at h
     split at h
     ·rename_i ef hef;have heo:=gq hef;have hq:=dO hef;simp only[opR]at h
      split at h
      ·rename_i v hv;refine go v n H none h (aP _) (λ b k hb=>.inl hb) ⟨λ _ _ _=>⟨rfl,λ q _ _=>⟨(Tr.nil:Hp).get,λ h=>(by cases h),λ b k hb=>by simp at hb,?_⟩⟩,λ _ k hk=>(by cases hk),λ _ _ _ hm=>(by cases hm),λ hm=>(by cases hm)⟩;exact eu ho hw heo hq hv (by simp)
      ·rename_i v k hv
       split at h
       ·rename_i hna;refine go v (n+1) _ (some k) h (Nat.le_succ n) (λ b k' hb=>?_) ⟨λ _ hb=>(by cases hb),λ _ k' hk=>?_,λ _ _ _ hm=>(by cases hm),λ hm=>by cases hm⟩
        ·rw[Tr.get_put]at hb
         split at hb
         ·rename_i e1;injection hb with hb;subst hb;exact .inr ⟨rfl,e1.symm⟩
         exact .inl hb
        injection hk with hk;subst hk;refine⟨rfl,?_,λ q hq=>nP hs hna q hq⟩;have:=eu (r:=r) ho hw heo hq hv (by simp);exact this
       cases h
      ·rename_i hv
       split at h
       ·rename_i v hall;refine go v n H none h (aP _) (λ b k hb=>.inl hb) ⟨λ _ _ _=>⟨rfl,λ q h1 h2=>⟨(A q).get,λ h=>(by cases h),λ b k hb=>hb,?_⟩⟩,λ _ k hk=>(by cases hk),λ _ _ _ hm=>(by cases hm),λ hm=>(by cases hm)⟩;dsimp only at h1 h2 ⊢;exact eu ho hw heo hq (uf hs hall q h2 (by simp only[Nat.succ_eq_add_one];show j<q+((j - e)+1);omega)) (by simp)
       cases h
      cases h
     cases h
    simp only[PG]at h;refine go (.aX []) n H none h (aP _) (λ b k hb=>.inl hb) ⟨λ _ _ _=>⟨rfl,λ q _ _=>⟨(Tr.nil:Hp).get,λ h=>(by cases h),λ b k hb=>by simp at hb,?_⟩⟩,λ _ k hk=>(by cases hk),λ _ _ _ hm=>(by cases hm),λ hm=>(by cases hm)⟩;exact step_skip ho hw _ _
   cases h
  cases hp
 |.QI i :: l, j,bK,grp,bad,seen,hp=>by
  intro A done F H Hs n m ou F' H' n' m' g hnf hs h;simp only[my]at hp;simp only[fV]at h
  split at hp
  ·rename_i o ho;rw[ho]at h;dsimp only at h;simp only[dN]at hp;obtain⟨hp1,hp3⟩:=hp
   split at h
   ·rename_i pd j7;obtain⟨hpg,hlt⟩:=Ak j7;have hnext:=kU hce hD hE l j bK (i::grp) bad _ hp3
    have go:∀(v:AV) (n1:Nat) (H1:Hp) (blk:Option br),(fV P nt ops l j).f ce (pd.f v F) H1 Hs n1 m=.mk ou F' H' n' m'->n<=n1->(∀b k,H1.get b=some k->H.get b=some k∨(blk=some k/\n=b)) ->
      qi P r ops A j {i,v,lo:=n,hi:=n1,ph:=j,e:=0,dst:=o.dst,Fs:=(cB (slotsOf ops o)).f F,blk,pf:=false,X:=ux,hf:=true,jd:=none} ->
      ∃A' all j' iE jL bad' seen',Good P r nt ops T D F0 n0 A' all j' F' H' n' iE jL bad' seen'/\ou=.normal/\m'=m/\all.map (·.i)=done.map (·.i)++(eN.QI i::l).map idxOf/\A' 0=A 0:=by
     intro v n1 H1 blk hk hn hH hok
     exact qu (c:={i,v,lo:=n,hi:=n1,ph:=j,e:=0,dst:=o.dst,Fs:=(cB (slotsOf ops o)).f F,blk,pf:=false,X:=ux,hf:=true,jd:=none}) rfl hnext
      (good_step g hnf {i,v,lo:=n,hi:=n1,ph:=j,e:=0,dst:=o.dst,Fs:=(cB (slotsOf ops o)).f F,blk,pf:=false,X:=ux,hf:=true,jd:=none} ho rfl hlt rfl hn rfl (λ t u hu=>oS hu) hp1 hD hE (λ t=>hpg v F t) (λ _ _=>rfl) hok rfl
       (.inl ⟨rfl,rfl,rfl,rfl,.inr ⟨rfl,rfl⟩,hH,λ q hq=>(by cases hq)⟩)) hnf rfl hs rfl hk
    rcases nB (P:=P) h with⟨hw,h⟩|⟨hw,h⟩
    ·unfold inR at h
     split at h
     ·rename_i ef hef;have heo:=gq hef;have hq:=dO hef;simp only[opR]at h
      split at h
      ·rename_i v hv;refine go v n H none h (aP _) (λ b k hb=>.inl hb) ⟨λ _ _ _=>⟨rfl,λ q _ _=>⟨(Tr.nil:Hp).get,λ _=>rfl,λ b k hb=>by simp at hb,?_⟩⟩,λ _ k hk=>(by cases hk),λ _ _ _ hm=>(by cases hm),λ hm=>(by cases hm)⟩;exact eu ho hw heo hq hv (by simp)
      ·rename_i v k hv
       split at h
       ·rename_i hna;refine go v (n+1) _ (some k) h (Nat.le_succ n) (λ b k' hb=>?_) ⟨λ _ hb=>(by cases hb),λ _ k' hk=>?_,λ _ _ _ hm=>(by cases hm),λ hm=>by cases hm⟩
        ·rw[Tr.get_put]at hb
         split at hb
         ·rename_i e1;injection hb with hb;subst hb;exact .inr ⟨rfl,e1.symm⟩
         exact .inl hb
        injection hk with hk;subst hk;refine⟨rfl,?_,λ q hq=>nP hs hna q hq⟩;have:=eu (r:=r) ho hw heo hq hv (by simp);exact this
       cases h
      ·rename_i hv;simp[fg]at h
      cases h
     cases h
    simp only[PG]at h;refine go (.aX []) n H none h (aP _) (λ b k hb=>.inl hb) ⟨λ _ _ _=>⟨rfl,λ q _ _=>⟨(Tr.nil:Hp).get,λ _=>rfl,λ b k hb=>by simp at hb,?_⟩⟩,λ _ k hk=>(by cases hk),λ _ _ _ hm=>(by cases hm),λ hm=>(by cases hm)⟩;exact step_skip ho hw _ _
   cases h
  cases hp
 |.mod i :: l, j, bK,grp,bad,seen,hp=>by
  intro A done F H Hs n m ou F' H' n' m' g hnf hs h;simp only[my]at hp;simp only[fV]at h
  split at hp
  ·rename_i o ho;rw[ho]at h;dsimp only at h;simp only[dN]at hp;obtain⟨⟨⟨hp1,hp2⟩,hp4⟩,hp3⟩:=hp
   split at h
   ·rename_i pd j7;obtain⟨hpg,hlt⟩:=Ak j7;have hnext:=kU hce hD hE l (j+1) (i::bK) [] [] _ hp3
    have hch:∀x l',bK=x::l'->tb (dD T i) x=true:=by
     intro x l' hx;subst hx;exact hp4
    have go:∀(v:AV) (n1:Nat) (H1:Hp),(fV P nt ops l (j+1)).f ce (pd.f v F) H1 (H1::Hs) n1 m=.mk ou F' H' n' m'->n<=n1 ->
      lz P r ops i o.dst ((cB (slotsOf ops o)).f F) H.get H1.get v n n1 ->
      ∃A' all j' iE jL bad' seen',Good P r nt ops T D F0 n0 A' all j' F' H' n' iE jL bad' seen'/\ou=.normal/\m'=m/\all.map (·.i)=done.map (·.i)++(eN.mod i::l).map idxOf/\A' 0=A 0:=by
     intro v n1 H1 hk hn gw;let A1:Nat->Hp:=λ q=>if q=j+1 then H1 else A q
     have hA1:∀q,q<=j->A1 q=A q:=λ q hq=>by simp only[A1];rw[ah (by omega)]
     have hA2:A1 (j+1)=H1:=by simp[A1]
     let c:Rec:={i,v,lo:=n,hi:=n1,ph:=j,e:=0,dst:=o.dst,Fs:=(cB (slotsOf ops o)).f F,blk:=none,pf:=true,X:=H.get,hf:=false,jd:=none}
     have hok:qi P r ops A1 (j+1) c:=by
      refine⟨λ hm=>(by cases hm),λ hm=>(by cases hm),λ _ _ _ hm=>(by cases hm),λ _=>⟨rfl,Nat.lt_succ_self j,?_⟩⟩;show lz P r ops i o.dst ((cB (slotsOf ops o)).f F) H.get (A1 (j+1)).get v n n1;rw[hA2];exact gw
     refine qu (A':=A1) (Hs1:=H1::Hs) (c:=c) rfl hnext
      (good_step (A':=A1) (iE:=i::bK) (jL:=[]) (bad':=[]) (j':=j+1) (H1:=H1) (F1:=pd.f v F) g hnf c ho rfl hlt rfl hn rfl (λ t u hu=>oS hu) hp1 hD hE (λ t=>hpg v F t) hA1 hok rfl (.inr ⟨rfl,rfl,rfl,rfl,hA2,rfl,hp2,hch⟩)) hnf rfl
      ⟨Hs,by rw[hA2],hs.congr hA1⟩ (hA1 0 (Nat.zero_le _)) hk
    rcases nB (P:=P) h with⟨hw,h⟩|⟨hw,h⟩
    ·unfold inM at h
     split at h
     ·rename_i f args tys hop
      split at h
      ·rename_i ef hef;have heo:=gq hef;have hq:=dO hef;simp only[Eu]at h
       split at h
       ·rename_i v hv;have:=eu (r:=r) ho hw heo hq hv (by simp);exact go v n H h (aP _) this
       ·rename_i v k hv;have:=eu (r:=r) ho hw heo hq hv (by simp);rw[nM]at this;exact go v _ _ h (Nat.le_succ n) this
       ·rename_i v b k hv;have:=eu (r:=r) ho hw heo hq hv (by simp);rw[lM]at this;exact go v _ _ h (aP _) this
       ·rename_i v b k hv;have:=eu (r:=r) ho hw heo hq hv (by simp);rw[rm]at this;exact go v _ _ h (Nat.le_succ n) this
       cases h
      split at h
      ·rename_i gg as hg has;simp only[jE]at h
       split at h
       ·rename_i f' first cap hgv
        split at h
        ·rename_i vs hev
         split at h
         ·rename_i v H1 n1 hcall;have:=yI (r:=r) ho hw hop (.value rfl hg) has hce hgv hev hcall;exact go v n1 H1 h this.1 this
         cases h
        cases h
       ·rename_i q hgv
        split at h
        ·rename_i vs hev
         split at h
         ·rename_i v H1 n1 hy;have:=vD (r:=r) ho hw hop (.value rfl hg) has hce hgv hev hy;exact go v n1 H1 h this.1 this
         cases h
        cases h
       cases h
      cases h
     ·rename_i f name args tys hop
      split at h
      ·rename_i gg as hg has;simp only[jE]at h
       split at h
       ·rename_i f' first cap hgv
        split at h
        ·rename_i vs hev
         split at h
         ·rename_i v H1 n1 hcall;have:=yI (r:=r) ho hw hop (.invoke rfl hg) has hce hgv hev hcall;exact go v n1 H1 h this.1 this
         cases h
        cases h
       ·rename_i q hgv
        split at h
        ·rename_i vs hev
         split at h
         ·rename_i v H1 n1 hy;have:=vD (r:=r) ho hw hop (.invoke rfl hg) has hce hgv hev hy;exact go v n1 H1 h this.1 this
         cases h
        cases h
       cases h
      cases h
     split at h
     ·rename_i ef hef;have heo:=gq hef;have hq:=dO hef;simp only[Eu]at h
      split at h
      ·rename_i v hv;have:=eu (r:=r) ho hw heo hq hv (by simp);exact go v n H h (aP _) this
      ·rename_i v k hv;have:=eu (r:=r) ho hw heo hq hv (by simp);rw[nM]at this;exact go v _ _ h (Nat.le_succ n) this
      ·rename_i v b k hv;have:=eu (r:=r) ho hw heo hq hv (by simp);rw[lM]at this;exact go v _ _ h (aP _) this
      ·rename_i v b k hv;have:=eu (r:=r) ho hw heo hq hv (by simp);rw[rm]at this;exact go v _ _ h (Nat.le_succ n) this
      cases h
     cases h
    simp only[PH]at h;exact go (.aX []) n H h (aP _) (step_skip ho hw _ _)
   cases h
  cases hp
end
end Go.Abs
