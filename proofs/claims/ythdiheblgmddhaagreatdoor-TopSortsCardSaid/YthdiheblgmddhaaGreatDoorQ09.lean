/- Part of the proof of TopSorts. -/
import Derived.Lib.AppendZeros
import Derived.Test.YthdiheblgmddhaaGreatDoorQ03
set_option linter.all false
set_option maxHeartbeats 4000000
namespace Rk.Bn
open Rk
variable{M r:Int}
abbrev BT:=Int×List It
def k0(l:List It):Int:=(lf l 0).1
def tD:Nat->List It->Bool
 |0,_=>true
 |k+1,l=>decide (k0 l<=k0 (l.drop 1))&&tD k ((l.drop 1).take (2 ^ k))&&tD k (l.take 1++l.drop (1+2 ^ k))
def VE(x:It)(l:List It):k0 (x::l)=x.1:=rfl
def pow_pos(k:Nat):0<2 ^ k:=Nat.pow_pos BYO
def BG(k:Nat)(x:It)(p q:List It)(hp:p.length=2 ^ k):tD (k+1) (x::(p++q))=(decide (x.1<=k0 p)&&tD k p&&tD k (x::q)):=by
 have h0:=pow_pos k;have e1:k0 (p++q)=k0 p:=by
  cases p with
  |nil=>simp at hp;omega
  |cons y p=>rfl
 have e2:(p++q).take (2 ^ k)=p:=by rw[<-hp];simp
 have e3:(x::(p++q)).drop (1+2 ^ k)=q:=by rw[aG2,aGn,<-hp];simp
 simp only[tD,aGn,aF1,VE,e1,e2,e3,aI5,List.take_zero,aD1]
def cut{k:Nat}{l:List It}(h:l.length=2 ^ (k+1)):∃x p q,l=x::(p++q)/\p.length=2 ^ k/\(x::q).length=2 ^ k:=by
 have h0:=pow_pos k;rw[aDW]at h;cases l with
 |nil=>simp at h;omega
 |cons x t=>
  refine⟨x,t.take (2 ^ k),t.drop (2 ^ k),by rw[aDk],?_,?_⟩
  .rw[aDn];simp at h;omega
  .rw[aBJ,aC6];simp at h;omega
def Uz:∀(k:Nat) (l:List It),l.length=2 ^ k->tD k l=true->∀y∈l,k0 l<=y.1:=by
 intro k;induction k with
 |zero=>
  intro l hl _ y hy;cases l with
  |nil=>simp at hl
  |cons x t=>
   have:t=[]:=aCQ (by simpa using hl);subst this;simp at hy;subst hy;exact aC0 _
 |succ k ih=>
  intro l hl hh y hy;obtain⟨x,p,q,rfl,hp,hq⟩:=cut hl;rw[BG k x p q hp]at hh;simp only[aBg,decide_eq_true_eq]at hh;rw[VE];rcases aBI.1 hy with rfl|hy
  .exact aC0 _
  .rcases aBR.1 hy with hy|hy
   .exact aDG hh.1.1 (ih p hp hh.1.2 y hy)
   .exact ih (x::q) hq hh.2 y (aBm _ hy)
def mkL(a b:BT):BT:=(a.1+1,a.2.take 1++b.2++a.2.drop 1)
def tV(a b:BT):BT:=if k0 b.2<k0 a.2 then mkL b a else mkL a b
structure GT(t:BT):Prop where
 ge:0<=t.1
 len:t.2.length=2 ^ t.1.toNat
 hol:tD t.1.toNat t.2=true
 ok:∀x∈t.2,iR x=true
def GT.ne{t:BT}(h:GT t):0<t.2.length:=by rw[h.len];exact pow_pos _
def Bw{a b:BT}(ha:GT a)(hb:GT b)(hr:a.1=b.1)(hk:k0 a.2<=k0 b.2):GT (mkL a b)/\(mkL a b).2.Perm (a.2++b.2):=by
 obtain⟨ra,la⟩:=a;obtain⟨rb,lb⟩:=b;dsimp only at hr hk;subst hr;have h1:=ha.len;have h2:=hb.len;have h3:=ha.hol;have h4:=hb.hol;have h5:=ha.ge;have h6:=ha.ne;dsimp only at h1 h2 h3 h4 h5 h6;cases la with
 |nil=>simp at h6
 |cons x t=>
  have e:(mkL (ra,x::t) (ra,lb)).2=x::(lb++t):=by simp[mkL]
  have e1:(ra+1).toNat=ra.toNat+1:=BYO;refine⟨⟨by show 0<=ra+1;omega,?_,?_,?_⟩,?_⟩
  .rw[e];show(x::(lb++t)).length=2 ^ (ra+1).toNat;rw[e1,aDW];simp only[aBJ,aBh]at h1 h2⊢;omega
  .rw[e];show tD (ra+1).toNat (x::(lb++t))=true;rw[e1,BG _ _ _ _ h2,h4,h3];simpa[VE] using hk
  .rw[e];intro y hy;rcases aBI.1 hy with e2|hy
   .rw[e2];exact ha.ok x BYS
   .rcases aBR.1 hy with hy|hy
    .exact hb.ok y hy
    .exact ha.ok y (aBm _ hy)
  .rw[e];show(x::(lb++t)).Perm (x::t++lb);rw[aCq];exact List.Perm.cons _ aDB
def wU{a b:BT}(ha:GT a)(hb:GT b)(hr:a.1=b.1):GT (tV a b)/\(tV a b).1=a.1+1/\(tV a b).2.Perm (a.2++b.2):=by
 unfold tV;split
 .rename_i h;obtain⟨h1,h2⟩:=Bw hb ha hr.symm BYO;exact⟨h1,by show b.1+1=_;rw[hr],h2.trans aDB⟩
 .rename_i h;obtain⟨h1,h2⟩:=Bw ha hb hr BYO;exact⟨h1,rfl,h2⟩
def bH(h:List BT):List It:=h.flatMap (·.2)
def fE(h:List BT):Nat:=(bH h).length
def vQ(t:BT)(h:List BT):bH (t::h)=t.2++bH h:=rfl
def tE(a b:List BT):bH (a++b)=bH a++bH b:=by simp[bH]
def zB(t:BT)(h:List BT):fE (t::h)=t.2.length+fE h:=by simp[fE,vQ]
def xH(M:Int):Int->List BT->Prop
 |_,[]=>True
 |r,t::h=>r<=t.1/\t.1<=M/\GT t/\xH M (t.1+1) h
def xH.weaken{s:Int}:∀{h:List BT},xH M r h->s<=r->xH M s h:=by
 intro h ha hs;cases h with
 |nil=>trivial
 |cons t h=>exact⟨by have:=ha.1;omega,ha.2⟩
def xH.all:∀{h:List BT},xH M r h->∀t∈h,GT t/\r<=t.1/\t.1<=M:=by
 intro h;induction h generalizing r with
 |nil=>intro _ t ht;cases ht
 |cons u h ih=>
  intro ha t ht;rcases aBI.1 ht with rfl|ht
  .exact⟨ha.2.2.1,ha.1,ha.2.1⟩
  .obtain⟨h1,h2,h3⟩:=ih ha.2.2.2 t ht;exact⟨h1,by have:=ha.1;omega,h3⟩
def xH.none{h:List BT}(ha:xH M r h)(hr:M<r):h=[]:=by
 cases h with
 |nil=>rfl
 |cons t h=>have:=ha.1;have:=ha.2.1;omega
def fst(r:Int)(a:List BT):List BT:=match a with
 |[]=>[]
 |t::_=>if t.1=r then [t] else []
def rest(r:Int)(a:List BT):List BT:=match a with
 |[]=>[]
 |t::h=>if t.1=r then h else t::h
def uD:List BT->List BT
 |[x]=>[x]
 |[x,_,_]=>[x]
 |_=>[]
def rU:List BT->List BT
 |[x,y]=>[tV x y]
 |[_,x,y]=>[tV x y]
 |_=>[]
def mK:Nat->Int->List BT->List BT->List BT->List BT
 |0,_,_,_,_=>[]
 |f+1,r,a,b,c=>if a.length+b.length+c.length=0 then [] else
  uD (c++fst r a++fst r b)++mK f (r+1) (rest r a) (rest r b) (rU (c++fst r a++fst r b))
def BH{a:List BT}(h:xH M r a):xH M (r+1) (rest r a)/\(bH (fst r a)++bH (rest r a)).Perm (bH a)/\(fst r a=[]\/∃t,fst r a=[t]/\GT t/\t.1=r):=by
 cases a with
 |nil=>exact⟨trivial,aBx _,.inl rfl⟩
 |cons t h'=>
  by_cases ht:t.1=r
  .simp only[fst,rest,if_pos ht];exact⟨by have:=h.2.2.2;rwa[ht]at this,by simp[bH],.inr ⟨t,rfl,h.2.2.1,ht⟩⟩
  .simp only[fst,rest,if_neg ht];exact⟨⟨by have:=h.1;omega,h.2⟩,by simp[bH],BYS⟩
def Pl{c p q:List BT}(hc:c=[]\/∃t,c=[t]/\GT t/\t.1=r)(hp:p=[]\/∃t,p=[t]/\GT t/\t.1=r)(hq:q=[]\/∃t,q=[t]/\GT t/\t.1=r):
  (uD (c++p++q)=[]\/∃t,uD (c++p++q)=[t]/\GT t/\t.1=r)/\(rU (c++p++q)=[]\/∃t,rU (c++p++q)=[t]/\GT t/\t.1=r+1/\(p≠[]\/q≠[]))/\
   (bH (uD (c++p++q))++bH (rU (c++p++q))).Perm (bH c++bH p++bH q):=by
 rcases hc with rfl|⟨x,rfl,hx,ex⟩<;>rcases hp with rfl|⟨y,rfl,hy,ey⟩<;>rcases hq with rfl|⟨z,rfl,hz,ez⟩
 .exact⟨.inl rfl,.inl rfl,aBx _⟩
 .exact⟨.inr ⟨z,rfl,hz,ez⟩,.inl rfl,by simp[bH,uD,rU]⟩
 .exact⟨.inr ⟨y,rfl,hy,ey⟩,.inl rfl,by simp[bH,uD,rU]⟩
 .obtain⟨h1,h2,h3⟩:=wU hy hz (ey.trans ez.symm);exact⟨.inl rfl,.inr ⟨_,rfl,h1,by rw[h2,ey],.inl BYS⟩,by simpa[bH,uD,rU] using h3⟩
 .exact⟨.inr ⟨x,rfl,hx,ex⟩,.inl rfl,by simp[bH,uD,rU]⟩
 .obtain⟨h1,h2,h3⟩:=wU hx hz (ex.trans ez.symm);exact⟨.inl rfl,.inr ⟨_,rfl,h1,by rw[h2,ex],.inr BYS⟩,by simpa[bH,uD,rU] using h3⟩
 .obtain⟨h1,h2,h3⟩:=wU hx hy (ex.trans ey.symm);exact⟨.inl rfl,.inr ⟨_,rfl,h1,by rw[h2,ex],.inl BYS⟩,by simpa[bH,uD,rU] using h3⟩
 .obtain⟨h1,h2,h3⟩:=wU hy hz (ey.trans ez.symm);exact⟨.inr ⟨x,rfl,hx,ex⟩,.inr ⟨_,rfl,h1,by rw[h2,ey],.inl BYS⟩,by simpa[bH,uD,rU] using aDC x.2 h3⟩
def Bx:∀(f:Nat) (r:Int) (a b c:List BT),0<=r->r+f=8->xH 5 r a->xH 5 r b->(c=[]\/∃t,c=[t]/\GT t/\t.1=r/\r<=6)->
  xH 6 r (mK f r a b c)/\(bH (mK f r a b c)).Perm (bH a++bH b++bH c):=by
 intro f;induction f with
 |zero=>
  intro r a b c h0 hr ha hb hc;obtain rfl:=ha.none BYO;obtain rfl:=hb.none BYO;obtain rfl:c=[]:=by
   rcases hc with h|⟨_,_,_,_,h⟩
   .exact h
   .omega
  exact⟨trivial,aBx _⟩
 |succ f ih=>
  intro r a b c h0 hr ha hb hc;simp only[mK];by_cases h:a.length+b.length+c.length=0
  .rw[if_pos h];obtain rfl:=aCQ (show a.length=0 by omega);obtain rfl:=aCQ (show b.length=0 by omega);obtain rfl:=aCQ (show c.length=0 by omega);exact⟨trivial,aBx _⟩
  .rw[if_neg h];obtain⟨a1,a2,a3⟩:=BH ha;obtain⟨b1,b2,b3⟩:=BH hb;have Ee:c=[]\/∃t,c=[t]/\GT t/\t.1=r:=hc.imp id λ⟨t,x,y,z,_⟩=>⟨t,x,y,z⟩;obtain⟨s1,s2,s3⟩:=Pl Ee a3 b3;have zM:(fst r a≠[]\/fst r b≠[])->r<=5:=λhh=>by
    rcases hh with hh|hh
    .cases a with
     |nil=>exact absurd rfl hh
     |cons t l=>have:=ha.1;have:=ha.2.1;omega
    .cases b with
     |nil=>exact absurd rfl hh
     |cons t l=>have:=hb.1;have:=hb.2.1;omega
   obtain⟨i1,i2⟩:=ih (r+1) (rest r a) (rest r b) (rU (c++fst r a++fst r b)) BYO BYO a1 b1 (s2.imp id λ⟨t,x,y,z,hh⟩=>⟨t,x,y,z,by have:=zM hh;omega⟩);refine⟨?_,?_⟩
   .rcases s1 with e|⟨t,e,ht,er⟩
    .rw[e];exact i1.weaken BYO
    .rw[e];refine⟨BYO,?_,ht,by rw[er];exact i1⟩;rcases hc with rfl|⟨_,_,_,_,h6⟩
     .by_cases hh:fst r a≠[]\/fst r b≠[]
      .have:=zM hh;omega
      .have h1:fst r a=[]:=aD0 λq=>hh (.inl q);have h2:fst r b=[]:=aD0 λq=>hh (.inr q);rw[h1,h2]at e;simp[uD]at e
     .omega
   .rw[tE];generalize mK f (r+1) (rest r a) (rest r b) (rU (c++fst r a++fst r b))=m at i2⊢;generalize uD (c++fst r a++fst r b)=o at s3⊢;generalize rU (c++fst r a++fst r b)=k at s3 i2;rw[aHD]at*;intro x;have q1:=s3 x;have q2:=i2 x;have q3:=a2 x;have q4:=b2 x;simp only[aIh]at*;omega
structure HG(h:List BT):Prop where
 XE:xH 5 0 h
 le:fE h<=60
def LB{h:List BT}{t:BT}(hm:t∈h):t.2.length<=fE h:=by
 induction h with
 |nil=>cases hm
 |cons u h ih=>
  rw[zB];rcases aBI.1 hm with rfl|hm
  .omega
  .have:=ih hm;omega
def xH.lower:∀{h:List BT},xH 6 r h->(∀t∈h,t.2.length<=60)->xH 5 r h:=by
 intro h;induction h generalizing r with
 |nil=>intro _ _;trivial
 |cons t h ih=>
  intro ha hl;refine⟨ha.1,?_,ha.2.2.1,ih ha.2.2.2 λu hu=>hl u (aBm _ hu)⟩;have h1:=hl t aBw;rw[ha.2.2.1.len]at h1;have h2:=ha.2.1;have h3:=ha.2.2.1.ge;rcases(show t.1=6\/t.1<=5 by omega) with e|e
  .rw[e]at h1;simp at h1
  .exact e
def HG.gZ{a b:List BT}(ha:HG a)(hb:HG b)(h:fE a+fE b<=60):HG (mK 8 0 a b [])/\(bH (mK 8 0 a b [])).Perm (bH a++bH b):=by
 obtain⟨h1,h2⟩:=Bx 8 0 a b [] BYO BYO ha.XE hb.XE (.inl rfl);have h3:(bH (mK 8 0 a b [])).Perm (bH a++bH b):=by simpa[bH] using h2
 have h4:fE (mK 8 0 a b [])<=60:=by
  have:=h3.length_eq;rw[aBh]at this;unfold fE at*;omega
 exact⟨⟨h1.lower λt ht=>aBS (LB ht) h4,h4⟩,h3⟩
def HG.nil:HG []:=⟨trivial,by simp[fE,bH]⟩
def HG.alone{x:It}(h:iR x=true):HG [(0,[x])]:=⟨⟨BYO,BYO,⟨BYS,rfl,rfl,λy hy=>by simp at hy;rw[hy];exact h⟩,trivial⟩,by simp[fE,bH]⟩
end Rk.Bn
namespace Rk
open Go Go.RowKit Go.Proofs
variable{n:Nat}{rt:TypeId}{α:Type}
section
variable{P:Program}{ops:Array Oper}{K:Env->World->Prop}{N d:Nat}{E:Env}{w:World}{rest:List Oper}{st tn e:TypeId}{agg:Bool}{k bytes:Nat}{z:Value}{t:TypeId}{pos:String}{after:Array Edge}{s x:Operand}
def Pm{A:Option Addr}{c:Nat}(ht:P.underlying st=some (.slice e))(hx:aM E x=some (.slice A n c)):
  aA P (.call {callee:=.builtin .cap,args:= #[x],argTypes:= #[st]}) rt E w (.int .i64 c) w:=λρ hρ _ _ _ _=>by
 simp[execOp,resolve,hρ _ _ hx,go_sem,invoke,builtin,Builtin.cap_,run_underlying ht,goInt]
def aQ3(enc:α->List Value)(f:Nat->α){kn kq:IntKind}(ht:P.underlying st=some (.slice e))(htn:P.underlying tn=some (.int kn))(ty:Ty P e agg k bytes z)(OW:0<k)(hd:Nat.blt d N=true)
  (hs:aM E s=some (.slice none 0 0))(hx:aM E x=some (.int kq (n:Int)))(h0:0<n)(hn:n<=maxLen)(hb:n*bytes<=281474976710656)
  (h:∀w' cap,n<=cap->cO enc k e w' w.heap.size w.heap.size 0 cap f->w.grownBy w' none->WL P ops K N ((d,.slice (some ⟨w.heap.size,0,none⟩) n cap)::E) rest w'):
  WL P ops K N E (⟨some d,.call {callee:=.builtin .append,args:= #[s,x],argTypes:= #[st,tn]},t,pos,after,none⟩::rest) w:=by
 obtain⟨i,hi,hz,oC,HA⟩:=ty.info;have hr:=Go.Lib.run_append_nil_zeros (P:=P) w st tn t e i z kq kn ht htn hi hz n h0 (by rw[oC];exact OW) (by unfold maxLen at hn;omega) (by rw[HA];exact hb);have CL:=grownCap_ge w n 0 e;refine WL.step (v:=.slice (some ⟨w.heap.size,0,none⟩) n (grownCap w n 0 e)) (λρ hρ _ _ _ _=>?_) hd (h (w.drew.alloc (.cells (Builtin.zeroCells z.cells n++Builtin.zeroCells z.cells (grownCap w n 0 e-n)) e)) (grownCap w n 0 e) CL ?_ ⟨rfl,rfl,rfl,BYS,λk hk _=>Go.heap_alloc_old w.drew _ hk⟩)
 .simp[execOp,resolve,hρ _ _ hs,hρ _ _ hx,invoke,builtin,hr]
 .refine⟨aAB _,aBt _,grownCap_le_maxLen w n 0 e hn,_,cN w.drew _ _,?_,λi hi=>absurd hi BYO⟩;have hzs:=ty.zsz;rw[aF3,Array.size_append,size_zeroCells,size_zeroCells,hzs,<-aCL]
  congr 1
  omega
end
abbrev jT:=Int×(Option Addr×Nat)×List It
def trS(t:jT):Value:=.slice t.2.1.1 t.2.2.length t.2.1.2
def gG(t:jT):List Value:=[.int .i64 t.1,trS t]
def dX(t:jT):(gG t).length=2:=rfl
def gU(t:jT):∀u∈gG t,u.oneCell'=true:=by simp[gG,trS,Value.oneCell']
abbrev VF(t:jT):Value:=.agg (gG t).toArray
def bt(t:jT):Bn.BT:=(t.1,t.2.2)
def nJ(w:World)(ts:List jT):Prop:=∀t∈ts,aE cB 2 w t.2.1.1 t.2.2.length (lf t.2.2)/\t.2.2.length<=t.2.1.2
def ApT(g:Nat)(ts:List jT):Prop:=∀t∈ts,∀p,t.2.1.1=some p->0<t.2.2.length->p.block≠g
section
variable{w w':World}{ts us:List jT}{g:Nat}{row:Option Nat}
def nJ.below(h:nJ w ts)(hb:Below w.heap.size w w'):nJ w' ts:=λt ht=>⟨(h t ht).1.below hb,(h t ht).2⟩
def nJ.lt(h:nJ w ts):∀t∈ts,∀p,t.2.1.1=some p->0<t.2.2.length->p.block<w.heap.size:=λt ht p hp h0=>by
 obtain⟨b,o,e,hb,_⟩:=(h t ht).1 h0;rw[e]at hp;injection hp with hp;subst hp;exact hb
def nJ.keep(h:nJ w ts)(hg:w.grownBy w' row)(ha:∀g,row=some g->ApT g ts):nJ w' ts:=λt ht=>⟨λh0=>by
 obtain⟨b,o,e,_⟩:=(h t ht).1 h0;exact(h t ht).1.grown hg (λp hp e2=>ha _ e2 t ht p hp h0 rfl) h0,(h t ht).2⟩
def nJ.sub(h:nJ w ts)(hs:∀t∈us,t∈ts):nJ w us:=λt ht=>h t (hs t ht)
def nJ.app(h:nJ w ts)(h':nJ w us):nJ w (ts++us):=λt ht=>by
 rcases aBR.1 ht with ht|ht
 .exact h t ht
 .exact h' t ht
def ApT.app(h:ApT g ts)(h':ApT g us):ApT g (ts++us):=λt ht=>by
 rcases aBR.1 ht with ht|ht
 .exact h t ht
 .exact h' t ht
def nJ.nil(w:World):nJ w []:=λt ht=>by cases ht
def ApT.nil(g:Nat):ApT g []:=λt ht=>by cases ht
def nJ.one{t:jT}(h:aE cB 2 w t.2.1.1 t.2.2.length (lf t.2.2))(hc:t.2.2.length<=t.2.1.2):nJ w [t]:=λu hu=>by simp at hu;subst hu;exact⟨h,hc⟩
end
def iA:tz.underlying 32=some (.slice 88):=BYK
def aF8:tz.underlying 88=some (.struct (tz.fieldsOf 88)):=BYK
def fK:Ty tz 88 true 2 32 (.agg #[.int .i64 0,.slice none 0 0]):=aLt BYK (λ_=>BYK) rfl
def rV:Ty tz 22 false 1 24 (.slice none 0 0):=aLt BYK (λ_=>BYK) rfl
def RB:Ty tz 32 false 1 24 (.slice none 0 0):=aLt BYK (λ_=>BYK) rfl
def b0:((tz.fieldsOf 88)[0]?).map (λf=>(f.offset,f.type))=some (0,3):=BYK
def b1:((tz.fieldsOf 88)[1]?).map (λf=>(f.offset,f.type))=some (1,22):=BYK
def Q5:tz.underlying 125=some (.slice 22):=BYK
def Q6:tz.underlying 150=some (.slice 32):=BYK
def yg:tz.underlying 3=some (.int .i64):=BYK
abbrev SlI:=(Option Addr×Nat)×List It
abbrev SlT:=(Option Addr×Nat)×List jT
def zC(s:(Option Addr×Nat)×List α):Value:=.slice s.1.1 s.2.length s.1.2
def eu(s:(Option Addr×Nat)×List α):List Value:=[zC s]
section
variable{E:Env}{w:World}{t:TypeId}{x y:Operand}{bk o c j i:Nat}{a:Int}{A:Option Addr}
def aOl(hx:aM E x=some (.pointer (some ⟨bk,o,none⟩)):=by with_unfolding_all exact rfl):aA tz (.fieldAddr 88 x 0) t E w (.pointer (some ⟨bk,o,none⟩)) w:=aA.fieldAddr (off:=0) aF8 b0 aN BYO hx
def aNy(hx:aM E x=some (.pointer (some ⟨bk,o,none⟩)):=by with_unfolding_all exact rfl):aA tz (.fieldAddr 88 x 1) t E w (.pointer (some ⟨bk,o+1,none⟩)) w:=aA.fieldAddr aF8 b1 rV BYO hx
def aPJ(hx:aM E x=some (.slice A n c):=by with_unfolding_all exact rfl):aA tz (.call {callee:=.builtin .len,args:= #[x],argTypes:= #[32]}) rt E w (.int .i64 n) w:=aL3 iA hx
def aRE(hx:aM E x=some (.slice A n c):=by with_unfolding_all exact rfl):aA tz (.call {callee:=.builtin .len,args:= #[x],argTypes:= #[125]}) rt E w (.int .i64 n) w:=aL3 Q5 hx
def aRG(hx:aM E x=some (.slice A n c):=by with_unfolding_all exact rfl):aA tz (.call {callee:=.builtin .len,args:= #[x],argTypes:= #[150]}) rt E w (.int .i64 n) w:=aL3 Q6 hx
def aOd(hx:aM E x=some (.slice (some ⟨bk,o,none⟩) n c):=by with_unfolding_all exact rfl)(hi:aM E y=some (.int .i64 (j:Int)):=by with_unfolding_all exact rfl)(hn:j<n:=by omega):
  aA tz (.indexAddr 32 x y) t E w (.pointer (some ⟨bk,o+j*2,none⟩)) w:=aA.indexAddr iA fK.size hx hi BYO BYO
def aOP(hx:aM E x=some (.slice (some ⟨bk,o,none⟩) n c):=by with_unfolding_all exact rfl)(hn:0<n:=by omega):
  aA tz (.indexAddr 32 x (.const (.int .i64 0))) t E w (.pointer (some ⟨bk,o+0*2,none⟩)) w:=aA.indexAddr (j:=0) iA fK.size hx rfl BYO BYO
def aPK(hx:aM E x=some (.slice (some ⟨bk,o,none⟩) n c):=by with_unfolding_all exact rfl)(hn:1<n:=by omega):
  aA tz (.indexAddr 32 x (.const (.int .i64 1))) t E w (.pointer (some ⟨bk,o+1*2,none⟩)) w:=aA.indexAddr (j:=1) iA fK.size hx rfl BYO BYO
def aQO(hx:aM E x=some (.slice (some ⟨bk,o,none⟩) n c):=by with_unfolding_all exact rfl)(hn:2<n:=by omega):
  aA tz (.indexAddr 32 x (.const (.int .i64 2))) t E w (.pointer (some ⟨bk,o+2*2,none⟩)) w:=aA.indexAddr (j:=2) iA fK.size hx rfl BYO BYO
def aPC(hx:aM E x=some (.slice (some ⟨bk,o,none⟩) n c):=by with_unfolding_all exact rfl)(hi:aM E y=some (.int .i64 (j:Int)):=by with_unfolding_all exact rfl)(hn:j<n:=by omega):
  aA tz (.indexAddr 125 x y) t E w (.pointer (some ⟨bk,o+j*1,none⟩)) w:=aA.indexAddr Q5 rV.size hx hi BYO BYO
def aPD(hx:aM E x=some (.slice (some ⟨bk,o,none⟩) n c):=by with_unfolding_all exact rfl)(hi:aM E y=some (.int .i64 (j:Int)):=by with_unfolding_all exact rfl)(hn:j<n:=by omega):
  aA tz (.indexAddr 150 x y) t E w (.pointer (some ⟨bk,o+j*1,none⟩)) w:=aA.indexAddr Q6 RB.size hx hi BYO BYO
def aQd(hx:aM E x=some (.int .i64 a):=by with_unfolding_all exact rfl)(hy:aM E y=some (.slice A n c):=by with_unfolding_all exact rfl):aA tz (.build 88 #[(0,x),(1,y)]) t E w (.agg #[.int .i64 a,.slice A n c]) w:=
 aA.build (parts:=[(0,x),(1,y)]) (ps:=[(0,.int .i64 a),(1,.slice A n c)]) (by simp[OA,hx,hy]) BYK
def aSo(hx:aM E x=some (.slice A n c):=by with_unfolding_all exact rfl):aA tz (.build 88 #[(1,x)]) t E w (.agg #[.int .i64 0,.slice A n c]) w:=
 aA.build (parts:=[(1,x)]) (ps:=[(1,.slice A n c)]) (by simp[OA,hx]) BYK
section
variable{ops:Array Oper}{K:Env->World->Prop}{N d_:Nat}{rest:List Oper}{pos:String}{after:Array Edge}{C:World->Prop}{R:Env->Prop}
end
end
section
variable{ops:Array Oper}{K:Env->World->Prop}{R:Env->Prop}{N:Nat}{E:Env}{rest:List Oper}{w:World}{t:TypeId}{pos:String}{after:Array Edge}{d:Nat}{x:Operand}{g j:Nat}{te:TypeId}{cs:List Value}{u:Value}
end
section
variable{ops:Array Oper}{K:Env->World->Prop}{R:Env->Prop}{N:Nat}{E:Env}{rest:List Oper}{w:World}{t:TypeId}{pos:String}{after:Array Edge}{d:Nat}{x:Operand}{g j:Nat}{te:TypeId}{cs:List Value}{u:Value}
end
section
variable{ops:Array Oper}{K:Env->World->Prop}{R:Env->Prop}{N:Nat}{E:Env}{rest:List Oper}{w:World}{t:TypeId}{pos:String}{after:Array Edge}{d:Nat}{x:Operand}{b o i:Nat}{f:Nat->jT}
def aSn(hx:aM E x=some (.pointer (some ⟨b,o+i*2,none⟩)):=by with_unfolding_all exact rfl)(hr:aE gG 2 w (some ⟨b,o,none⟩) n f:=by first|assumption|exact cO.bK (by assumption))(hi:i<n:=by omega):OpB tz (.load 88 x) t E w (.agg (gG (f i)).toArray):=λ_ hw=>aL5 (cs:=gG (f i)) fK hx (dX _) ((hr.bh hw).get hi)
end
section
variable{ops:Array Oper}{K:Env->World->Prop}{R:Env->Prop}{N:Nat}{E:Env}{rest:List Oper}{w:World}{t:TypeId}{pos:String}{after:Array Edge}{d:Nat}{x:Operand}{b o i:Nat}{f:Nat->SlI}
def aRW(hx:aM E x=some (.pointer (some ⟨b,o+i*1,none⟩)):=by with_unfolding_all exact rfl)(hr:aE eu 1 w (some ⟨b,o,none⟩) n f:=by first|assumption|exact cO.bK (by assumption))(hi:i<n:=by omega):OpB tz (.load 22 x) t E w (zC (f i)):=λ_ hw=>aJC rV hx ((hr.bh hw).get hi 0 _ rfl)
end
section
variable{ops:Array Oper}{K:Env->World->Prop}{R:Env->Prop}{N:Nat}{E:Env}{rest:List Oper}{w:World}{t:TypeId}{pos:String}{after:Array Edge}{d:Nat}{x:Operand}{b o i:Nat}{f:Nat->SlT}
def aRY(hx:aM E x=some (.pointer (some ⟨b,o+i*1,none⟩)):=by with_unfolding_all exact rfl)(hr:aE eu 1 w (some ⟨b,o,none⟩) n f:=by first|assumption|exact cO.bK (by assumption))(hi:i<n:=by omega):OpB tz (.load 32 x) t E w (zC (f i)):=λ_ hw=>aJC RB hx ((hr.bh hw).get hi 0 _ rfl)
end
end Rk
namespace Rk
open Go Go.RowKit Go.Proofs
attribute [local irreducible] aA jH OpC WL QL WC WX OL RL TL TM
def Kn(n:Nat)(w:World)(hn:n<=1000):Calls tz 116 #[.slice none 0 0,.int .i64 n] w (eT λv w'=>(∃B c,v=.slice B 0 c)/\bT cB 2 38 w' w.heap.size v []/\Below w.heap.size w w'):=by
 refine aI J8 rfl Tryz.ntmps116 rfl ?_;refine aB ?_;refine aJ6 rfl (λh=>absurd h BYO) (λ_=>?_);refine aZ λK hK=>?_;refine WL.step (Pm aY rfl) rfl ?_;refine u3 ?_;refine aJ6 rfl (λh=>?_) (λh=>?_)
 .refine aZ λK hK=>?_;refine WL.step (Pm aY rfl) rfl ?_;refine WL.step (aNH aY aL rfl rfl BYO BYO) rfl ?_;refine aB ?_;refine aQ3 cB (λ_=>default) (n:=n-(0-0)) aY yg aL BYO rfl rfl rfl BYO (by simp[maxLen];omega) BYO λw1 cap aHM ho hg=>?_;refine u3 ?_
  skip
  refine aB ?_;exact aLV rfl rfl ⟨⟨_,_,rfl⟩,by have:=ho.toL bN;simpa[aG] using this,aC hg⟩
 .refine aB ?_;exact aLV rfl rfl ⟨⟨_,_,rfl⟩,bT.nil _ _ _ _ _ _,Below.refl _ _⟩
def VG(A:Option Addr)(c:Nat)(ss:List SlI)(w:World)(hr:aE eu 1 w A ss.length (lf ss))(hs:∀s∈ss,aE cB 2 w s.1.1 s.2.length (lf s.2))(hm:ss.length<=10)(hl:(ss.flatMap (·.2)).length<=1000):
  Calls tz 103 #[.slice A ss.length c] w (eT λv w'=>bT cB 2 38 w' w.heap.size v (ss.flatMap (·.2))/\Below w.heap.size w w'):=by
 have eH:∀k,k<ss.length->(ss.take (k+1)).flatMap (·.2)=(ss.take k).flatMap (·.2)++(lf ss k).2:=λk hk=>by
  rw[aHw hk,aEZ,bU hk];simp
 have hle:∀k,((ss.take k).flatMap (·.2)).length<=1000:=λk=>by
  have h:=congrArg List.length (congrArg (List.flatMap (·.2)) (aDk k ss));rw[aEZ,aBh]at h;omega
 refine aI J6 rfl Tryz.ntmps103 rfl ?_;refine uV ?_;refine aMP (λ(k:Nat)=>[(0,.slice A ss.length c),(9,.slice A ss.length c),(10,.int .i64 (ss.length:Nat)),(11,.int .i64 k),(3,.int .i64 (((ss.take k).flatMap (·.2)).length:Nat))])
  (λk q wr=>k<=ss.length/\q=ss.length-k/\wr=w) ss.length 0 ⟨BYO,rfl,rfl⟩ aJA ?_
 rintro k q wr ⟨hk,rfl,rfl⟩;refine aB ?_;refine aJ6 rfl (λh=>?_) (λh=>?_)
 .have xA:k<ss.length:=BYO;have h1:=hle (k+1);rw[eH k xA,aBh]at h1;obtain⟨b,o,rfl,_⟩:=hr.ne BYO;refine Yz ?_;refine aB ?_;refine aJ6 rfl (λh=>absurd h BYO) (λ_=>?_);refine aB ?_;exact aMF (k+1) (ss.length-(k+1)) BYO ⟨BYO,rfl,rfl⟩ (by rw[eH k xA,aBh];exact aJA)
 .obtain rfl:k=ss.length:=BYO;rw[aFu];refine aZ λK hK=>?_;refine aKQ J8 (Kn _ _ hl) ?_;rintro v w1 ⟨_,Xp,cA⟩;refine uV ?_;refine aMK (λ(k:Nat) (v:Value)=>[(25,.slice A ss.length c),(26,.int .i64 (ss.length:Nat)),(27,.int .i64 k),(6,v)])
   (λk v q wr'=>k<=ss.length/\q=ss.length-k/\bT cB 2 38 wr' wr.heap.size v ((ss.take k).flatMap (·.2))/\Below wr.heap.size wr wr') ss.length 0 v ⟨BYO,rfl,by simpa using Xp,cA⟩ aJA ?_
  rintro k v q w2 ⟨hk,rfl,ho,hB⟩;refine aB ?_;refine aJ6 rfl (λh=>?_) (λh=>?_)
  .have xA:k<ss.length:=BYO;have h1:=hle (k+1);rw[eH k xA,aBh]at h1;have pT:=hr.below hB;obtain⟨b,o,rfl,_⟩:=pT.ne BYO;refine aUC λK hK=>?_;have hsk:=(hs (lf ss k) (by rw[bU xA];exact aCX _)).below hB;refine WL.append bN cJ BYO aY aL rfl rfl rfl ho hsk BYO (by simp only[maxLen];omega) hB.size λv3 w3 row yA iE Y0 XA hv3=>?_;rw[dE,<-eH k xA]at yA;refine aB ?_;exact aLm (k+1) v3 (ss.length-(k+1)) BYO ⟨BYO,rfl,yA,hB.rM iE XA⟩ aJA
  .obtain rfl:k=ss.length:=BYO;rw[aFu]at ho;refine aB ?_;exact aLV rfl rfl ⟨ho,hB⟩
def Ko(n:Nat)(w:World)(hn:n<=1000):Calls tz 76 #[.slice none 0 0,.int .i64 n] w (eT λv w'=>(∃B c,v=.slice B 0 c)/\bT gG 2 88 w' w.heap.size v []/\Below w.heap.size w w'):=by
 refine aI xp rfl Tryz.ntmps76 rfl ?_;refine aB ?_;refine aJ6 rfl (λh=>absurd h BYO) (λ_=>?_);refine aZ λK hK=>?_;refine WL.step (Pm iA rfl) rfl ?_;refine Gp ?_;refine aJ6 rfl (λh=>?_) (λh=>?_)
 .refine aZ λK hK=>?_;refine WL.step (Pm iA rfl) rfl ?_;refine WL.step (aNH iA fK rfl rfl BYO BYO) rfl ?_;refine aB ?_;refine aQ3 gG (λ_=>default) (n:=n-(0-0)) iA yg fK BYO rfl rfl rfl BYO (by simp[maxLen];omega) BYO λw1 cap aHM ho hg=>?_;refine Gp ?_;refine WL.step (aNH iA fK (j:=((0:Nat):Int)) rfl rfl BYO BYO) rfl ?_;refine aB ?_;exact aLV rfl rfl ⟨⟨_,_,rfl⟩,by have:=ho.toL dX;simpa[aG] using this,aC hg⟩
 .refine aB ?_;exact aLV rfl rfl ⟨⟨_,_,rfl⟩,bT.nil _ _ _ _ _ _,Below.refl _ _⟩
def VH(A:Option Addr)(c:Nat)(ss:List SlT)(w:World)(hr:aE eu 1 w A ss.length (lf ss))(hs:∀s∈ss,aE gG 2 w s.1.1 s.2.length (lf s.2))(hm:ss.length<=10)(hl:(ss.flatMap (·.2)).length<=1000):
  Calls tz 43 #[.slice A ss.length c] w (eT λv w'=>bT gG 2 88 w' w.heap.size v (ss.flatMap (·.2))/\Below w.heap.size w w'):=by
 have eH:∀k,k<ss.length->(ss.take (k+1)).flatMap (·.2)=(ss.take k).flatMap (·.2)++(lf ss k).2:=λk hk=>by
  rw[aHw hk,aEZ,bU hk];simp
 have hle:∀k,((ss.take k).flatMap (·.2)).length<=1000:=λk=>by
  have h:=congrArg List.length (congrArg (List.flatMap (·.2)) (aDk k ss));rw[aEZ,aBh]at h;omega
 refine aI xd rfl Tryz.ntmps43 rfl ?_;refine u4 ?_;refine aMP (λ(k:Nat)=>[(0,.slice A ss.length c),(9,.slice A ss.length c),(10,.int .i64 (ss.length:Nat)),(11,.int .i64 k),(3,.int .i64 (((ss.take k).flatMap (·.2)).length:Nat))])
  (λk q wr=>k<=ss.length/\q=ss.length-k/\wr=w) ss.length 0 ⟨BYO,rfl,rfl⟩ aJA ?_
 rintro k q wr ⟨hk,rfl,rfl⟩;refine aB ?_;refine aJ6 rfl (λh=>?_) (λh=>?_)
 .have xA:k<ss.length:=BYO;have h1:=hle (k+1);rw[eH k xA,aBh]at h1;obtain⟨b,o,rfl,_⟩:=hr.ne BYO;refine u5 ?_;refine aB ?_;refine aJ6 rfl (λh=>absurd h BYO) (λ_=>?_);refine aB ?_;exact aMF (k+1) (ss.length-(k+1)) BYO ⟨BYO,rfl,rfl⟩ (by rw[eH k xA,aBh];exact aJA)
 .obtain rfl:k=ss.length:=BYO;rw[aFu];refine aZ λK hK=>?_;refine aKQ xp (Ko _ _ hl) ?_;rintro v w1 ⟨_,Xp,cA⟩;refine u4 ?_;refine aMK (λ(k:Nat) (v:Value)=>[(25,.slice A ss.length c),(26,.int .i64 (ss.length:Nat)),(27,.int .i64 k),(6,v)])
   (λk v q wr'=>k<=ss.length/\q=ss.length-k/\bT gG 2 88 wr' wr.heap.size v ((ss.take k).flatMap (·.2))/\Below wr.heap.size wr wr') ss.length 0 v ⟨BYO,rfl,by simpa using Xp,cA⟩ aJA ?_
  rintro k v q w2 ⟨hk,rfl,ho,hB⟩;refine aB ?_;refine aJ6 rfl (λh=>?_) (λh=>?_)
  .have xA:k<ss.length:=BYO;have h1:=hle (k+1);rw[eH k xA,aBh]at h1;have pT:=hr.below hB;obtain⟨b,o,rfl,_⟩:=pT.ne BYO;refine Zc λK hK=>?_;have hsk:=(hs (lf ss k) (by rw[bU xA];exact aCX _)).below hB;refine WL.append dX gU BYO iA fK rfl rfl rfl ho hsk BYO (by simp only[maxLen];omega) hB.size λv3 w3 row yA iE Y0 XA hv3=>?_;rw[dE,<-eH k xA]at yA;refine aB ?_;exact aLm (k+1) v3 (ss.length-(k+1)) BYO ⟨BYO,rfl,yA,hB.rM iE XA⟩ aJA
  .obtain rfl:k=ss.length:=BYO;rw[aFu]at ho;refine aB ?_;exact aLV rfl rfl ⟨ho,hB⟩
variable{α:Type}{m c:Nat}{w:World}{A:Option Addr}{l:List It}
def lfT [Inhabited α]{l:List α}{i:Nat}(h:i<m):lf (l.take m) i=lf l i:=by simp[lf,List.getD,aGr,h]
def lfD [Inhabited α](l:List α)(m i:Nat):lf (l.drop m) i=lf l (m+i):=by simp[lf,List.getD]
def aE.aF9(h:aE cB 2 w A l.length (lf l))(hm:m<=l.length):aE cB 2 w A (l.take m).length (lf (l.take m)):=by
 rw[aDn,Nat.min_eq_left hm];exact(h.sub hm).congr λi hi=>lfT hi
def aE.aFa(h:aE cB 2 w A l.length (lf l))(hm:m<=l.length)(hc:l.length<=c):aE cB 2 w (if c=m then A else A.map (·.add (m*2))) (l.drop m).length (lf (l.drop m)):=by
 rw[aC6];exact(h.cut (l:=m) (m:=l.length-m) BYO hc).congr λi _=>lfD l m i
def aE.aFb(h:aE cB 2 w A l.length (lf l)){a:Nat}(hm:a+m<=l.length)(hc:l.length<=c):aE cB 2 w (if c=a then A else A.map (·.add (a*2))) m (lf ((l.drop a).take m)):=
 (h.cut (l:=a) (m:=m) hm hc).congr λi hi=>by rw[lfT hi,lfD]
def RD{ts:List jT}{k:Nat}(hk:k<ts.length):Bn.fE ((ts.take (k+1)).map bt)=Bn.fE ((ts.take k).map bt)+(lf ts k).2.2.length:=by
 rw[aHw hk,aDp,bU hk];unfold Bn.fE;rw[Bn.tE,aBh];simp[Bn.bH,bt]
def Va{ts:List jT}(k:Nat):Bn.fE ((ts.take k).map bt)<=Bn.fE (ts.map bt):=by
 have h:=congrArg (λl:List jT=>Bn.fE (l.map bt)) (aDk k ts);simp only[aDp]at h;unfold Bn.fE at*;rw[Bn.tE,aBh]at h;omega
def DU(A:Option Addr)(c:Nat)(ts:List jT)(w:World)(hr:aE gG 2 w A ts.length (lf ts))(hn:ts.length<=1000000)(hz:Bn.fE (ts.map bt)<=1000000):
  Calls tz 69 #[.slice A ts.length c] w (eT λv w'=>v=.int .i64 (Bn.fE (ts.map bt):Nat)/\Below w.heap.size w w'):=by
 refine aI Oj rfl Tryz.ntmps69 rfl ?_;refine Gp ?_;refine aMP (λ(k:Nat)=>[(6,.slice A ts.length c),(7,.int .i64 (ts.length:Nat)),(8,.int .i64 k),(3,.int .i64 (Bn.fE ((ts.take k).map bt):Nat))])
  (λk q wr=>k<=ts.length/\q=ts.length-k/\Below w.heap.size w wr) ts.length 0 ⟨BYO,rfl,Below.refl _ _⟩ aJA ?_
 rintro k q wr ⟨hk,rfl,hB⟩;refine aB ?_;refine aJ6 rfl (λh=>?_) (λh=>?_)
 .have xA:k<ts.length:=BYO;have h1:=Va (ts:=ts) (k+1);rw[RD xA]at h1;have GI:=hr.below hB;obtain⟨b,o,rfl,_⟩:=GI.ne BYO;obtain⟨x,hx⟩:∃x,x=lf ts k:=⟨_,rfl⟩;refine CR λK hK=>?_;rw[<-hx]at h1⊢;refine WL.box fK rfl rfl rfl (gU x) λw1 fQ dM mP=>?_;replace dM:Bk w1 wr.heap.size 88 (gG x):=dM;have cA:=hB.tr (aC fQ);refine aTq λK hK=>?_;refine aLP (aLN rV (g:=wr.heap.size) (j:=1) (u:=trS x)) ?_;refine WL.step (aL3 aY (A:=x.2.1.1) (n:=x.2.2.length) (c:=x.2.1.2) rfl) rfl ?_;refine aB ?_;exact aMF (k+1) (ts.length-(k+1)) BYO ⟨BYO,rfl,cA⟩ (by rw[RD xA,<-hx];exact aJA)
 .obtain rfl:k=ts.length:=BYO;rw[aFu];refine aB ?_;exact aLV rfl rfl ⟨rfl,hB⟩
def Vb(k:Nat):∀(l:List It) (A:Option Addr) (c:Nat) (w:World),k<=6->l.length=2 ^ k->l.length<=c->aE cB 2 w A l.length (lf l)->
  Calls tz 75 #[.int .i64 k,.slice A l.length c] w (eT λv w'=>v=.bool (Bn.tD k l)/\Below w.heap.size w w'):=by
 induction k using Nat.strongRecOn with
 |ind k ih=>
 intro l A c w hk6 hl hc hr;have nA:0<l.length:=by rw[hl];exact Bn.pow_pos k
 have h64:l.length<=64:=by rw[hl];exact(show(2:Nat) ^ k<=2 ^ 6 from aDm BYO hk6)
 obtain⟨b,o,rfl,_⟩:=hr.ne nA;refine aI J3 rfl Tryz.ntmps75 rfl ?_;refine aB ?_;refine aMK (λ(j:Nat) (a:Nat)=>[(1,.slice (some ⟨b,o,none⟩) l.length c),(5,.int .i64 a),(6,.int .i64 ((j:Int)-1))])
  (λj a q wr=>q=j/\j<=k/\a+2 ^ j=l.length+1/\Bn.tD k l=Bn.tD j (l.take 1++l.drop a)/\Below w.heap.size w wr) k k 1
  ⟨rfl,aAB _,BYO,by rw[aDk],Below.refl _ _⟩ aJA ?_
 rintro j a q wr ⟨rfl,Es,ha,hh,hB⟩;refine aB ?_;refine aJ6 rfl (λh=>?_) (λh=>?_)
 .obtain⟨r,rfl⟩:∃r,q=r+1:=⟨q-1,BYO⟩;have hp:=Bn.pow_pos r;have hpp:2 ^ (r+1)=2 ^ r+2 ^ r:=by rw[aDW];omega
  obtain⟨Q,hQ⟩:∃Q,Q=2 ^ r:=⟨_,rfl⟩;rw[hpp,<-hQ]at ha;rw[<-hQ]at hp;have GI:=hr.below hB;have b9:=GI.aFb (a:=a) (m:=Q) BYO hc;have hlp:((l.drop a).take Q).length=Q:=by rw[aDn,aC6];omega
  obtain⟨p,Z6⟩:∃p,p=(l.drop a).take Q:=⟨_,rfl⟩;rw[<-Z6]at b9 hlp;have hsp:l.take 1++l.drop a=lf l 0::(p++l.drop (a+Q)):=by
   have e1:l.take 1=[lf l 0]:=by
    cases l with
    |nil=>simp at nA
    |cons x t=>rfl
   rw[e1,Z6,show l.drop (a+Q)=(l.drop a).drop Q from by rw[List.drop_drop],aDk];rfl
  have hho:=Bn.BG r (lf l 0) p (l.drop (a+Q)) (by rw[hlp,hQ]);rw[hsp,hho]at hh;have GL:lf l 0::l.drop (a+Q)=l.take 1++l.drop (a+Q):=by
   cases l with
   |nil=>simp at nA
   |cons x t=>rfl
  rw[GL]at hh;rw[show(((r+1:Nat):Int)-1)=(r:Int) from by omega];have h6:Q<=64:=BYO;refine aZ λK hK=>?_;refine WL.step (aPN (j:=r) rfl rfl BYO) rfl ?_;rw[<-hQ];refine aB ?_;rw[show((a:Int)+(Q:Int))=((a+Q:Nat):Int) from by omega];refine WL.step (aOS aY aL (j1:=a) (j2:=a+Q) rfl rfl rfl BYO BYO) rfl ?_;refine aB ?_;rw[show a+Q-a=Q from by omega];obtain⟨bp,op,hAp,_⟩:=b9.ne BYO;rw[hAp]at b9⊢;refine WC.tm (λw'=>Below wr.heap.size wr w') [] (.pure 0 (.pure 1 (.pure 2 (.pure 4 (.pure 5 (.pure 6 (.read 3 (.read 7 (.pure 8 (.pure 9 (.pure 10 (.pure 11 (.act 12 (.pure 13 (.pure 14 .fin))))))))))))))) mixed BYK rfl BYK (λw' hb _=>hb) λK hK w1 cA fo=>?_;refine Ze ?_;have mL:∀w',Below w.heap.size w w'->Bn.tD k l=false->(Value.bool false=Value.bool (Bn.tD k l)/\Below w.heap.size w w'):=λw' hw he=>⟨by rw[he],hw⟩;by_cases dD:(lf p 0).1<(lf l 0).1
  .rw[decide_eq_true dD];refine uU ?_;refine TM.act rfl ?_;refine aB ?_;refine WL.nil ⟨cA,?_⟩;refine uU ?_;refine TM.fin (hK _ _ ?_);clear hK K;refine aB ?_;refine aLO rfl ?_;refine aB ?_;exact aLV rfl rfl (mL _ (hB.tr cA) (by rw[hh,decide_eq_false (by show¬(lf l 0).1<=(lf p 0).1;omega)];rfl))
  .rw[decide_eq_false dD];have hd:decide ((lf l 0).1<=Bn.k0 p)=true:=decide_eq_true (by show(lf l 0).1<=(lf p 0).1;omega);rw[hd,aHf]at hh;refine uU ?_;refine TM.act rfl ?_;refine aPa ?_;have Wh:aE cB 2 w1 (some ⟨bp,op,none⟩) p.length (lf p):=by rw[hlp];exact b9.below cA
   have ON:=ih r BYO p (some ⟨bp,op,none⟩) (c-a) w1 BYO (by rw[hlp,hQ]) BYO Wh;rw[hlp]at ON;refine aKQ J3 ON ?_;rintro v w2 ⟨rfl,bM⟩;refine WL.nil ⟨cA.tr bM,?_⟩;refine uU ?_;refine TM.fin (hK _ _ ?_);clear hK K;have gF:=hB.tr (cA.tr bM);cases hv:Bn.tD r p with
   |false=>
    refine aB ?_;refine aLO rfl ?_;refine aB ?_;exact aLV rfl rfl (mL _ gF (by rw[hh,hv];rfl))
   |true=>
    rw[hv,aHf]at hh;refine aB ?_;refine aJh rfl ?_;refine aZ λK hK=>?_;refine WL.step (aPN (j:=r) rfl rfl BYO) rfl ?_;rw[<-hQ];refine aB ?_;exact aLm r (a+Q) r BYO ⟨rfl,BYO,BYO,hh,gF⟩ aJA
 .obtain rfl:q=0:=BYO;refine aB ?_;exact aLV rfl rfl ⟨by rw[hh];rfl,hB⟩
end Rk
namespace Rk.Bn
open Rk
def kF:Int->List BT->Nat
 |_,[]=>0
 |last,t::h=>if t.1<0\/5<t.1 then 1 else if t.1<=last\/t.2.length≠2 ^ t.1.toNat then 3 else kF t.1 h
def nX:List BT->Nat
 |[]=>0
 |t::h=>if aH t.2.length (lf t.2)≠0 then aH t.2.length (lf t.2) else nX h
def Kp(t:BT):Bool:=tD t.1.toNat t.2
def jI(h:List BT):Nat:=if kF (-1) h≠0 then kF (-1) h else if nX h≠0 then nX h else if 60<fE h then 4 else if h.all Kp=true then 0 else 3
def DV:∀{h:List BT} {last:Int},kF last h=0->∀t∈h,0<=t.1/\t.1<=5/\t.2.length=2 ^ t.1.toNat:=by
 intro h;induction h with
 |nil=>intro last _ t ht;cases ht
 |cons u h ih=>
  intro last hs t ht;simp only[kF]at hs;split at hs
  .cases hs
  .split at hs
   .cases hs
   .rename_i h1 h2;rcases aBI.1 ht with rfl|ht
    .exact⟨BYO,BYO,aD0 λq=>h2 (.inr q)⟩
    .exact ih hs t ht
def RF:∀{h:List BT} {last:Int},kF last h=0->last<=5->(h.length:Int)<=5-last:=by
 intro h;induction h with
 |nil=>intro last _ hl;simp;omega
 |cons u h ih=>
  intro last hs hl;simp only[kF]at hs;split at hs
  .cases hs
  .split at hs
   .cases hs
   .rename_i h1 h2;have:=ih hs BYO;rw[aBJ];omega
def size_le{m:Nat}:∀{h:List BT},(∀t∈h,t.2.length<=m)->fE h<=h.length*m:=by
 intro h;induction h with
 |nil=>intro _;simp[fE,bH]
 |cons t h ih=>
  intro ha;have h1:=ih λu hu=>ha u (aBm _ hu);have h2:=ha t aBw;rw[zB,aBJ,aCL];omega
def aFc{t:BT}(h:0<=t.1/\t.1<=5/\t.2.length=2 ^ t.1.toNat):t.2.length<=32:=by
 rw[h.2.2];exact(show(2:Nat) ^ t.1.toNat<=2 ^ 5 from aDm BYO BYO)
def Kq{h:List BT}(hs:kF (-1) h=0):fE h<=200/\h.length<=6:=by
 have h1:=RF hs BYO;have h2:=size_le (m:=32) λt ht=>aFc (DV hs t ht);have h3:h.length*32<=6*32:=aC1 _ BYO;omega
def RG:∀{h:List BT} {r last:Int},xH 5 r h->last<r->kF last h=0:=by
 intro h;induction h with
 |nil=>intro _ _ _ _;rfl
 |cons t h ih=>
  intro r last ha hl;have h1:=ha.1;have h2:=ha.2.1;have h3:=ha.2.2.1;simp only[kF];rw[if_neg (by have:=h3.ge;omega),if_neg (by have:=h3.len;omega)];exact ih ha.2.2.2 BYO
def GT.err{t:BT}(h:GT t)(hl:t.2.length<=60):aH t.2.length (lf t.2)=0:=by
 unfold aH;rw[if_neg BYO,if_pos];rw[dE,aCJ];exact h.ok
def Kr:∀{h:List BT},(∀t∈h,aH t.2.length (lf t.2)=0)->nX h=0:=by
 intro h;induction h with
 |nil=>intro _;rfl
 |cons t h ih=>
  intro ha;simp only[nX];rw[if_neg (by rw[ha t aBw];omega)];exact ih λu hu=>ha u (aBm _ hu)
def HG.check{h:List BT}(hg:HG h):jI h=0:=by
 have hs:=RG (last:= -1) hg.XE BYO;have ha:=hg.XE.all;have hi:nX h=0:=Kr λt ht=>(ha t ht).1.err (aBS (LB ht) hg.le);unfold jI;rw[if_neg BYO,if_neg BYO,if_neg (by have:=hg.le;omega),if_pos];rw[aCJ];exactλt ht=>(ha t ht).1.hol
end Rk.Bn
namespace Rk
open Go Go.RowKit Go.Proofs
attribute [local irreducible] aA jH OpC WL QL WC WX OL RL TL TM
def VI{ts:List jT}{k:Nat}(hk:k<ts.length):(ts.drop k).map bt=bt (lf ts k)::(ts.drop (k+1)).map bt:=by
 rw[aDf hk,bU hk];rfl
def zD(A:Option Addr)(c:Nat)(ts:List jT)(w:World)(hr:aE gG 2 w A ts.length (lf ts))(bY:nJ w ts)(hm:ts.length<=maxLen):
  Calls tz 42 #[.slice A ts.length c] w (eT λv w'=>v=cI (Bn.jI (ts.map bt))/\Below w.heap.size w w'):=by
 simp only[maxLen]at hm;have aHs:∀k,k<ts.length->aE cB 2 w (lf ts k).2.1.1 (lf ts k).2.2.length (lf (lf ts k).2.2)/\(lf ts k).2.2.length<=(lf ts k).2.1.2:=λk hk=>bY _ (by rw[bU hk];exact aCX _);refine aI Of rfl Tryz.ntmps42 rfl ?_;refine Gp ?_;refine aMK (λ(k:Nat) (last:Int)=>[(0,.slice A ts.length c),(11,.slice A ts.length c),(12,.int .i64 (ts.length:Nat)),(13,.int .i64 k),(3,.int .i64 last)])
  (λk last q wr=>k<=ts.length/\q=ts.length-k/\Bn.kF (-1) (ts.map bt)=Bn.kF last ((ts.drop k).map bt)/\Below w.heap.size w wr) ts.length 0 (-1) ⟨BYO,rfl,rfl,Below.refl _ _⟩ aJA ?_
 rintro k last q wr ⟨hk,rfl,lI,hB⟩;refine aB ?_;refine aJ6 rfl (λh=>?_) (λh=>?_)
 .have xA:k<ts.length:=BYO;have GI:=hr.below hB;rw[VI xA]at lI;obtain⟨b,o,rfl,_⟩:=GI.ne BYO;refine CR λK hK=>?_;generalize lf ts k=x at lI⊢;refine WL.box fK rfl rfl rfl (gU x) λw1 fQ dM mP=>?_;replace dM:Bk w1 wr.heap.size 88 (gG x):=dM;have cA:=hB.tr (aC fQ);have mL:∀e w',Bn.kF (-1) (ts.map bt)=e->e≠0->Below w.heap.size w w'->(λv w'=>v=cI (Bn.jI (ts.map bt))/\Below w.heap.size w w') (.iface 68 (.int .i64 e)) w':=λe w' he h0 hw=>⟨by
   have:Bn.jI (ts.map bt)=e:=by unfold Bn.jI;rw[if_pos BYO,he]
   rw[this,bO h0],hw⟩
  simp only[Bn.kF]at lI;rw[show(bt x).1=x.1 from rfl,show(bt x).2=x.2.2 from rfl]at lI;refine aTg λK hK=>?_;refine aLP (aLN aN (g:=wr.heap.size) (j:=0) (u:=.int .i64 x.1)) ?_;refine aB ?_;refine WL.guard rfl rfl (λh0=>?_) (λh0=>?_)
  .have Ds:=of_decide_eq_true h0;rw[if_pos (.inl Ds)]at lI;refine aB ?_;refine aLO rfl ?_;refine aB ?_;exact aLV rfl rfl (mL 1 _ lI BYO cA)
  .have Ds:=of_decide_eq_false h0;refine Zg ?_;refine aLP (aLN aN (g:=wr.heap.size) (j:=0) (u:=.int .i64 x.1)) ?_;refine aB ?_;refine aJ6 rfl (λh1=>?_) (λh1=>?_)
   .rw[if_pos (.inr h1)]at lI;refine aB ?_;exact aLV rfl rfl (mL 1 _ lI BYO cA)
   .rw[if_neg BYO]at lI;obtain⟨r,hr0⟩:∃r:Nat,x.1=(r:Int):=⟨x.1.toNat,BYO⟩;have hrt:x.1.toNat=r:=BYO;rw[hrt]at lI;by_cases h2:x.1<=last
    .rw[if_pos (.inl h2)]at lI;refine aB ?_;refine aLh mixed BYK ?_;refine Zh ?_;refine aMC (aLN aN (g:=wr.heap.size) (j:=0) (u:=.int .i64 x.1)) ?_;refine Zh ?_;rw[decide_eq_true h2];refine Zh ?_;refine QL.done λw2 bM=>?_;refine aB ?_;refine aLO rfl ?_;refine aB ?_;exact aLV rfl rfl (mL 3 _ lI BYO (cA.tr bM))
    .refine aB ?_;refine aLh mixed BYK ?_;refine Zh ?_;refine aMC (aLN aN (g:=wr.heap.size) (j:=0) (u:=.int .i64 x.1)) ?_;refine Zh ?_;rw[decide_eq_false h2];refine Zh ?_;refine aMC (aLN rV (g:=wr.heap.size) (j:=1) (u:=trS x)) ?_;refine aM9 ?_;refine QL.step (λ_ _=>aL3 aY (A:=x.2.1.1) (n:=x.2.2.length) (c:=x.2.1.2) rfl) rfl ?_;refine Zh ?_;refine aMC (aLN aN (g:=wr.heap.size) (j:=0) (u:=.int .i64 x.1)) ?_;refine aM9 ?_;refine QL.step (λ_ _=>aPN (j:=r) rfl (by rw[<-hr0];rfl) BYO) rfl ?_;refine Zh ?_;refine QL.done λw2 bM=>?_;have gF:=cA.tr bM;have iW:=dM.below bM;refine aB ?_;refine aJ6 rfl (λh3=>?_) (λh3=>?_)
     .rw[if_pos (.inr BYO)]at lI;refine aB ?_;exact aLV rfl rfl (mL 3 _ lI BYO gF)
     .rw[if_neg BYO]at lI;refine aTg λK hK=>?_;refine aLP (aLN aN (g:=wr.heap.size) (j:=0) (u:=.int .i64 x.1)) ?_;refine aB ?_;exact aLm (k+1) x.1 (ts.length-(k+1)) BYO ⟨BYO,rfl,lI,gF⟩ aJA
 .obtain rfl:k=ts.length:=BYO;have hs0:Bn.kF (-1) (ts.map bt)=0:=by rw[lI,aIk];rfl
  clear lI;have hsa:=Bn.DV hs0;obtain⟨oC,hsn⟩:=Bn.Kq hs0;rw[aCN]at hsn;clear h;refine Gp ?_;refine aMP (λ(k:Nat)=>[(0,.slice A ts.length c),(43,.slice A ts.length c),(44,.int .i64 (ts.length:Nat)),(45,.int .i64 k)])
   (λk q wr=>k<=ts.length/\q=ts.length-k/\Bn.nX (ts.map bt)=Bn.nX ((ts.drop k).map bt)/\Below w.heap.size w wr) ts.length 0 ⟨BYO,rfl,rfl,hB⟩ aJA ?_
  clear hB;rintro k q wr ⟨hk,rfl,lI,hB⟩;refine aB ?_;refine aJ6 rfl (λh=>?_) (λh=>?_)
  .have xA:k<ts.length:=BYO;have GI:=hr.below hB;rw[VI xA]at lI;obtain⟨dw,zn⟩:=aHs k xA;obtain⟨b,o,rfl,_⟩:=GI.ne BYO;refine CR λK hK=>?_;generalize lf ts k=x at lI dw zn⊢;refine WL.box fK rfl rfl rfl (gU x) λw1 fQ dM mP=>?_;replace dM:Bk w1 wr.heap.size 88 (gG x):=dM;have cA:=hB.tr (aC fQ);simp only[Bn.nX]at lI;rw[show(bt x).2=x.2.2 from rfl]at lI;refine aTq λK hK=>?_;refine aLP (aLN rV (g:=wr.heap.size) (j:=1) (u:=trS x)) ?_;refine aKQ xT (jJ x.2.1.1 x.2.2.length x.2.1.2 _ _ (dw.below cA)) ?_;rintro v w2 ⟨rfl,bM⟩;have gF:=cA.tr bM;by_cases he:aH x.2.2.length (lf x.2.2)=0
   .rw[if_neg BYO]at lI;rw[he,eN];refine aB ?_;refine aJh rfl ?_;refine aB ?_;exact aMF (k+1) (ts.length-(k+1)) BYO ⟨BYO,rfl,lI,gF⟩ aJA
   .rw[if_pos he]at lI;rw[bO he];refine aB ?_;refine aLO rfl ?_;refine aB ?_;rw[<-bO he];refine aLV rfl rfl ⟨?_,gF⟩;unfold Bn.jI;rw[if_neg BYO,if_pos BYO,lI]
  .obtain rfl:k=ts.length:=BYO;have hi0:Bn.nX (ts.map bt)=0:=by rw[lI,aIk];rfl
   clear lI h;refine aZ λK hK=>?_;refine aKQ Oj (DU A c ts _ (hr.below hB) BYO BYO) ?_;rintro v w1 ⟨rfl,cA⟩;replace hB:=hB.tr cA;clear cA;refine aB ?_;refine aJ6 rfl (λh=>?_) (λh=>?_)
   .refine aB ?_;refine aLV rfl rfl ⟨?_,hB⟩;unfold Bn.jI;rw[if_neg BYO,if_neg BYO,if_pos BYO,bO BYO];rfl
   .have SB:¬60<Bn.fE (ts.map bt):=BYO;clear h;refine Gp ?_;refine aMP (λ(k:Nat)=>[(60,.slice A ts.length c),(61,.int .i64 (ts.length:Nat)),(62,.int .i64 k)])
     (λk q wr=>k<=ts.length/\q=ts.length-k/\(ts.map bt).all Bn.Kp=((ts.drop k).map bt).all Bn.Kp/\Below w.heap.size w wr) ts.length 0 ⟨BYO,rfl,rfl,hB⟩ aJA ?_
    clear hB;rintro k q wr ⟨hk,rfl,lI,hB⟩;refine aB ?_;refine aJ6 rfl (λh=>?_) (λh=>?_)
    .have xA:k<ts.length:=BYO;have GI:=hr.below hB;rw[VI xA]at lI;obtain⟨dw,zn⟩:=aHs k xA;have hxs:=hsa (bt (lf ts k)) (aER (by rw[bU xA];exact aCX _));obtain⟨b,o,rfl,_⟩:=GI.ne BYO;refine CR λK hK=>?_;generalize lf ts k=x at lI dw zn hxs⊢;refine WL.box fK rfl rfl rfl (gU x) λw1 fQ dM mP=>?_;replace dM:Bk w1 wr.heap.size 88 (gG x):=dM;have cA:=hB.tr (aC fQ);rw[aCR]at lI;obtain⟨h0,h5,hl⟩:=hxs;rw[show(bt x).1=x.1 from rfl]at h0 h5 hl;rw[show(bt x).2=x.2.2 from rfl]at hl;obtain⟨r,hr0⟩:∃r:Nat,x.1=(r:Int):=⟨x.1.toNat,BYO⟩;have hho:Bn.Kp (bt x)=Bn.tD r x.2.2:=by unfold Bn.Kp;rw[show(bt x).1=x.1 from rfl,show(bt x).2=x.2.2 from rfl,hr0];rfl
     refine aTg λK hK=>?_;refine aLP (aLN aN (g:=wr.heap.size) (j:=0) (u:=.int .i64 x.1)) ?_;refine Zd ?_;refine aLP (aLN rV (g:=wr.heap.size) (j:=1) (u:=trS x)) ?_;have ON:=Vb r x.2.2 x.2.1.1 x.2.1.2 w1 BYO (by rw[hl,hr0];rfl) zn (dw.below cA);rw[<-hr0]at ON;refine aKQ J3 ON ?_;rintro v w2 ⟨rfl,bM⟩;have gF:=cA.tr bM;cases hv:Bn.tD r x.2.2 with
     |true=>
      refine aB ?_;refine aJh rfl ?_;refine aB ?_;exact aMF (k+1) (ts.length-(k+1)) BYO ⟨BYO,rfl,by rw[lI,hho,hv,aHf],gF⟩ aJA
     |false=>
      refine aB ?_;refine aLO rfl ?_;refine aB ?_;refine aLV rfl rfl ⟨?_,gF⟩;unfold Bn.jI;rw[if_neg BYO,if_neg BYO,if_neg SB,lI,hho,hv,if_neg BYS,bO BYO];rfl
    .obtain rfl:k=ts.length:=BYO;have ha:(ts.map bt).all Bn.Kp=true:=by rw[lI,aIk];rfl
     refine aB ?_;refine aLV rfl rfl ⟨?_,hB⟩;unfold Bn.jI;rw[if_neg BYO,if_neg BYO,if_neg SB,if_pos ha];rfl
def aFd(a b:jT)(w:World)(v:Value)(w':World):Prop:=∃t:jT,v=VF t/\bt t=Bn.tV (bt a) (bt b)/\aE cB 2 w' t.2.1.1 t.2.2.length (lf t.2.2)/\(∀p,t.2.1.1=some p->0<t.2.2.length->w.heap.size<=p.block)/\t.2.2.length<=t.2.1.2/\Below w.heap.size w w'
def By(a b:jT)(w:World)(ha:aE cB 2 w a.2.1.1 a.2.2.length (lf a.2.2))(hb:aE cB 2 w b.2.1.1 b.2.2.length (lf b.2.2))(ha0:0<a.2.2.length)(XQ:0<b.2.2.length)(vX:a.2.2.length<=100)(dM:b.2.2.length<=100)
  (ON:a.2.2.length<=a.2.1.2)(Qq:b.2.2.length<=b.2.1.2)(WS:0<=a.1/\a.1<=100)(zS:0<=b.1/\b.1<=100):
  Calls tz 77 #[VF a,VF b] w (eT (aFd a b w)):=by
 obtain⟨ra,⟨Aa,ca⟩,la⟩:=a;obtain⟨rb,⟨Ab,cb⟩,lb⟩:=b;dsimp only at ha hb ha0 XQ vX dM ON Qq WS zS;obtain⟨ga,oa,rfl,_⟩:=ha.ne ha0;obtain⟨gb,ob,rfl,_⟩:=hb.ne XQ;refine aI J4 rfl Tryz.ntmps77 rfl ?_;refine aZ λK hK=>?_;refine aM3 rfl rfl λw1 fQ HT mP=>?_;have cA:=aC fQ;replace HT:Bk w1 w.heap.size 88 (gG (ra,(some ⟨ga,oa,none⟩,ca),la)):=HT;refine aB ?_;refine aM3 rfl rfl λw2 eB uQ qO=>?_;have bM:=aC eB;replace uQ:Bk w2 w1.heap.size 88 (gG (rb,(some ⟨gb,ob,none⟩,cb),lb)):=uQ;refine aB ?_;refine WL.alloc fK rfl λw3 iE Ek EL=>?_;have dZ:=aC iE;have iT:=cA.tr (bM.tr dZ);have hka:=(HT.below bM).below dZ;have Wc:=uQ.below dZ;have aNe:=ha.below iT;have aKw:=hb.below iT;refine CO ?_;refine aPx (λ(_ _:jT)=>[(2,.pointer (some ⟨w.heap.size,0,none⟩)),(3,.pointer (some ⟨w1.heap.size,0,none⟩)),(4,.pointer (some ⟨w2.heap.size,0,none⟩))])
  (λx y w'=>Bk w' w.heap.size 88 (gG x)/\Bk w' w1.heap.size 88 (gG y)/\(∃cs:List Value,cs.length=2/\Bk w' w2.heap.size 88 cs)/\Bn.tV (ra,la) (rb,lb)=Bn.mkL (bt x) (bt y)/\
   aE cB 2 w' x.2.1.1 x.2.2.length (lf x.2.2)/\aE cB 2 w' y.2.1.1 y.2.2.length (lf y.2.2)/\0<x.2.2.length/\x.2.2.length<=100/\y.2.2.length<=100/\x.2.2.length<=x.2.1.2/\0<=x.1/\x.1<=100/\Below w.heap.size w w') ?_ ?_
 .refine aB ?_;refine aLh mixed BYK ?_;refine Zi ?_;refine aMC (aLN rV (g:=w1.heap.size) (j:=1) (u:=.slice (some ⟨gb,ob,none⟩) lb.length cb)) ?_;refine u6 ?_;refine aMC (aLN rV (g:=w.heap.size) (j:=1) (u:=.slice (some ⟨ga,oa,none⟩) la.length ca)) ?_;refine u6 ?_;refine QL.done λw4 jR=>?_;have kN:=iT.tr jR;have aBz:=hka.below jR;have aCy:=Wc.below jR;have aIO:=Ek.below jR;have aN5:=aNe.below jR;have aLT:=aKw.below jR;refine aB ?_;refine aJ6 rfl (λh=>?_) (λh=>?_)
  .refine aZ λK hK=>?_;refine WL.step (aL5 (cs:=gG (rb,(some ⟨gb,ob,none⟩,cb),lb)) fK rfl (dX _) (λj u hu=>by rw[aAn];exact aCy.cell hu)) rfl ?_;refine aB ?_;refine WL.step (aL5 (cs:=gG (ra,(some ⟨ga,oa,none⟩,ca),la)) fK rfl (dX _) (λj u hu=>by rw[aAn];exact aBz.cell hu)) rfl ?_;refine aB ?_;refine WL.store (v:=VF (rb,(some ⟨gb,ob,none⟩,cb),lb)) fK rfl rfl rfl (gU _) aBz (aAB 2) λw5 fU SF zT=>?_;replace SF:Bk w5 w.heap.size 88 (gG (rb,(some ⟨gb,ob,none⟩,cb),lb)):=SF;have aNJ:=aCy.keep fU BYT;refine aB ?_;refine WL.store (v:=VF (ra,(some ⟨ga,oa,none⟩,ca),la)) fK rfl rfl rfl (gU _) aNJ (aAB 2) λw6 gL hk6 FW=>?_;replace hk6:Bk w6 w1.heap.size 88 (gG (ra,(some ⟨ga,oa,none⟩,ca),la)):=hk6;have vZ:=(kN.rM fU (by intro b hb;cases hb;exact aAB _)).rM gL (by intro b hb;cases hb;omega);refine aB ?_;exact aOn (rb,(some ⟨gb,ob,none⟩,cb),lb) (ra,(some ⟨ga,oa,none⟩,ca),la) ⟨SF.keep gL BYT,hk6,⟨_,rfl,(aIO.keep fU BYT).keep gL BYT⟩,if_pos h,hb.below vZ,ha.below vZ,XQ,dM,vX,Qq,zS.1,zS.2,vZ⟩ aJA
  .refine aB ?_;exact aOn (ra,(some ⟨ga,oa,none⟩,ca),la) (rb,(some ⟨gb,ob,none⟩,cb),lb) ⟨aBz,aCy,⟨_,rfl,aIO⟩,if_neg h,aN5,aLT,ha0,vX,dM,ON,WS.1,WS.2,kN⟩ aJA
 .rintro⟨rx,⟨Ax,cx⟩,lx⟩ ⟨ry,⟨Ay,cy⟩,ly⟩ w4 ⟨uu,hky,⟨cs,XN,hkr⟩,he,bu,hry,Ea,HV,hy1,gm,aN3,aMu,jR⟩;dsimp only at bu hry Ea HV hy1 gm aN3 aMu;have WT:(lx.take 1).length=1:=by rw[aDn];omega
  have sf:(lx.drop 1).length=lx.length-1:=aC6;refine aB ?_;refine WC.tm (λw'=>Bk w' w.heap.size 88 (gG (rx,(Ax,cx),lx))/\Bk w' w1.heap.size 88 (gG (ry,(Ay,cy),ly))) [14] (.pure 0 (.pure 3 (.pure 6 (.pure 8 (.read 1 (.pure 2 (.read 4 (.pure 5 (.read 7 (.read 9 (.pure 10 (.act 11 (.act 12 (.pure 13 (.last 14 .fin))))))))))))))) mixed BYK rfl BYK (λw' hb _=>⟨uu.below hb,hky.below hb⟩) λK hK w5 gO de=>?_;have hH:Bk w5 w.heap.size 88 (gG (rx,(Ax,cx),lx))/\Bk w5 w1.heap.size 88 (gG (ry,(Ay,cy),ly)):=⟨uu.below gO,hky.below gO⟩;refine Zj ?_;refine RL.step (λw' dY=>aJC aN rfl (dY.1.cell (u:=.int .i64 rx) rfl)) rfl ?_;refine uU ?_;refine RL.step (λw' dY=>aJC rV rfl (dY.1.cell (u:=.slice Ax lx.length cx) rfl)) rfl ?_;refine uU ?_;refine RL.step (λw' dY=>aJC rV rfl (dY.2.cell (u:=.slice Ay ly.length cy) rfl)) rfl ?_;refine uU ?_;refine RL.step (λw' dY=>aJC rV rfl (dY.1.cell (u:=.slice Ax lx.length cx) rfl)) rfl ?_;refine uU ?_;have uP:Value.slice Ax (1:Int).toNat cx=zC (α:=It) ((Ax,cx),lx.take 1):=by unfold zC;rw[WT];rfl
  have GN:Value.slice (if cx=(1:Int).toNat then Ax else Ax.map (·.add ((1:Int).toNat*2))) (lx.length-(1:Int).toNat) (cx-(1:Int).toNat)=zC (α:=It) ((if cx=1 then Ax else Ax.map (·.add (1*2)),cx-1),lx.drop 1):=by unfold zC;rw[sf];rfl
  obtain⟨ss,Et⟩:∃ss:List SlI,ss=[((Ax,cx),lx.take 1),((Ay,cy),ly),((if cx=1 then Ax else Ax.map (·.add (1*2)),cx-1),lx.drop 1)]:=⟨_,rfl⟩;refine TM.act rfl (WL.lit (xs:=[.tmp 23,.tmp 25,.tmp 28]) (vs:=ss.map zC) Q5 rV rfl (by rw[Et];simp only[aC9,aG3,<-uP,<-GN];rfl) (by rw[Et];simp[zC,Value.cells]) rfl (by rw[Et];rfl) BYO λw6 gL hk6 FW=>WL.nil ?_);have gH:=aC gL;refine⟨⟨hH.1.below gH,hH.2.below gH⟩,?_⟩;have OS:=gO.tr gH;have vZ:=jR.tr OS;have Xi:ss.length=3:=by rw[Et];rfl
  have Fi:aE eu 1 w6 (some ⟨w5.heap.size,0,none⟩) ss.length (lf ss):=hk6.bK (enc:=eu) (k:=1) (f:=lf ss) 0 λi hi j u hu=>by
   rw[Xi]at hi;rw[Et]at hu⊢;rcases j with _|j
   .rcases(show i=0\/i=1\/i=2 by omega) with rfl|rfl|rfl<;>exact hu
   .simp[eu]at hu
  have yC:∀s∈ss,aE cB 2 w6 s.1.1 s.2.length (lf s.2):=λs hs=>by
   rw[Et]at hs;simp only[aBI,aDU,or_false]at hs;rcases hs with rfl|rfl|rfl
   .exact(bu.aF9 BYO).below OS
   .exact hry.below OS
   .exact(bu.aFa BYO gm).below OS
  have Dr:ss.flatMap (·.2)=lx.take 1++ly++lx.drop 1:=by rw[Et];simp
  have Xu:(ss.flatMap (·.2)).length=lx.length+ly.length:=by rw[Dr,aBh,aBh,WT,sf];omega
  have Y6:=VG (some ⟨w5.heap.size,0,none⟩) 3 ss w6 Fi yC BYO BYO;rw[Xi]at Y6;refine TM.act rfl (aKQ J6 Y6 ?_);rintro v w7 ⟨BZ,lD⟩;refine WL.nil ⟨⟨(hH.1.below gH).below lD,(hH.2.below gH).below lD⟩,?_⟩;obtain⟨A7,c7,rfl,hc7⟩:=BZ.form;obtain⟨_,_,hr7⟩:=BZ.bK bN;have OT:=BZ.rO (aC8.1 BYO);refine Gv ?_;have aL6:=((hkr.below gO).below gH).below lD;have Ew:=vZ.tr lD;refine TM.last rfl (WL.store (v:=VF (rx+1,(A7,c7),ss.flatMap (·.2))) fK rfl rfl rfl (gU _) aL6 (by rw[XN];exact aAB 2) λw8 SG fu b8=>WL.nil ?_);refine TM.fin (hK _ _ ?_);clear hK K;have aNM:Bk w8 w2.heap.size 88 (gG (rx+1,(A7,c7),ss.flatMap (·.2))):=by
   obtain⟨c0,c1,rfl⟩:∃c0 c1,cs=[c0,c1]:=by
    rcases cs with _|⟨c0,_|⟨c1,_|⟨c2,cs⟩⟩⟩
    .simp at XN
    .simp at XN
    .exact⟨c0,c1,rfl⟩
    .simp at XN
   exact fu
  refine aB ?_;refine aPg fK rfl rfl aNM (dX _) ⟨(rx+1,(A7,c7),ss.flatMap (·.2)),rfl,?_,?_,?_,hc7,Ew.rM SG (by intro b hb;cases hb;omega)⟩
  .show(rx+1,ss.flatMap (·.2))=_;rw[show bt ((ra,(some ⟨ga,oa,none⟩,ca),la):jT)=(ra,la) from rfl,show bt ((rb,(some ⟨gb,ob,none⟩,cb),lb):jT)=(rb,lb) from rfl,he,Dr];rfl
  .refine hr7.grown SG λp hp e=>?_;have h1:=OT p.block (by rw[hp];rfl);have h2:=hkr.lt;have h3:=OS.size;injection e with e;omega
  .intro p hp _;have ND:A7=some p:=hp;have h1:=OT p.block (by rw[ND];rfl);have h3:=vZ.size;omega
end Rk
