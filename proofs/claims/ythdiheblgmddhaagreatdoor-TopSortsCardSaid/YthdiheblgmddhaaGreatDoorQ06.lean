/- Part of the proof of TopSorts. -/
import Derived.Test.YthdiheblgmddhaaGreatDoorQ02
set_option linter.all false
namespace Rk
open Go Go.RowKit Go.Proofs
def OG(x:Int):List Value:=[.int .i64 x]
def oM(x:Int):(OG x).length=1:=rfl
def HP(x:Int):∀u∈OG x,u.oneCell'=true:=by simp[OG,Value.oneCell']
def tG:tz.underlying 55=some (.slice 3):=BYK
section
variable{E:Env}{w:World}{t:TypeId}{x y:Operand}{bk o n c:Nat}{j:Int}
def aOs{y:Operand}{j:Nat}(hx:aM E x=some (.slice (some ⟨bk,o,none⟩) n c):=by with_unfolding_all exact rfl)(hi:aM E y=some (.int .i64 (j:Int)):=by with_unfolding_all exact rfl)(hn:j<n:=by omega):
  aA tz (.indexAddr 55 x y) t E w (.pointer (some ⟨bk,o+j*1,none⟩)) w:=aA.indexAddr tG aN.size hx hi BYO BYO
def aQD{A:Option Addr}(hx:aM E x=some (.slice A n c):=by with_unfolding_all exact rfl){rt:TypeId}:aA tz (.call {callee:=.builtin .len,args:= #[x],argTypes:= #[55]}) rt E w (.int .i64 n) w:=aL3 tG hx
section
variable{ops:Array Oper}{K:Env->World->Prop}{N d_:Nat}{rest:List Oper}{pos:String}{after:Array Edge}{C:World->Prop}{R:Env->Prop}
end
end
section
variable{ops:Array Oper}{K:Env->World->Prop}{R:Env->Prop}{N:Nat}{E:Env}{rest:List Oper}{w:World}{t:TypeId}{pos:String}{after:Array Edge}{d:Nat}{x:Operand}{b o i n:Nat}{f:Nat->Int}
def aQ9(hx:aM E x=some (.pointer (some ⟨b,o+i*1,none⟩)):=by with_unfolding_all exact rfl)(hr:aE OG 1 w (some ⟨b,o,none⟩) n f:=by first|assumption|exact cO.bK (by assumption))(hi:i<n:=by omega):OpB tz (.load 3 x) t E w (.int .i64 (f i)):=λ_ hw=>aJC aN hx ((hr.bh hw).get hi 0 _ rfl)
end
abbrev LU(w:World)(B:Nat)(v:Value)(l:List Int):Prop:=bT OG 1 3 w B v l
end Rk
namespace Rk.G
variable{a b i j n:Nat}
class Key(α:Type) where
 key:α->Int
section
variable{α:Type}
def iU(f:Nat->α)(a b:Nat):List α:=(List.range' a (b-a)).map f
def aW(f:Nat->α){m:Nat}(h1:a<=m)(h2:m<=b):iU f a b=iU f a m++iU f m b:=by
 unfold iU;have e:b-a=(m-a)+(b-m):=BYO;rw[e,<-aDp]
 congr 1
 have:=List.range'_append (s:=a) (m:=m-a) (n:=b-m) (step:=1);rw[<-this]
 congr 2
 omega
def dJ{f g:Nat->α}(h:∀i,a<=i->i<b->f i=g i):iU f a b=iU g a b:=by
 unfold iU;refine aGm λi hi=>?_;have:=aH2.1 hi;exact h i BYO BYO
def gQ(f:Nat->α)(a:Nat):iU f a (a+1)=[f a]:=by
 unfold iU;rw[show a+1-a=1 from by omega];rfl
def aP(f:Nat->α)(i j:Nat):Nat->α:=λk=>if k=i then f j else if k=j then f i else f k
def iJ(f:Nat->α){k:Nat}(h1:k≠i)(h2:k≠j):aP f i j k=f k:=by simp[aP,h1,h2]
def sV(f:Nat->α)(hi:i<n)(hj:j<n):(iU (aP f i j) 0 n).Perm (iU f 0 n):=by
 rcases aFS i j with h|h|h
 .have key:∀(i j:Nat),i<j->j<n->(iU (aP f i j) 0 n).Perm (iU f 0 n):=by
   intro i j h hj;rw[aW _ (aBt i) (by omega:i<=n),aW _ (by omega:i<=i+1) (by omega:i+1<=n),aW _ (by omega:i+1<=j) (by omega:j<=n),aW _ (by omega:j<=j+1) (by omega:j+1<=n)];rw[aW f (aBt i) (by omega:i<=n),aW f (by omega:i<=i+1) (by omega:i+1<=n),aW f (by omega:i+1<=j) (by omega:j<=n),aW f (by omega:j<=j+1) (by omega:j+1<=n)];rw[gQ,gQ,gQ,gQ];have e0:aP f i j i=f j:=by simp[aP]
   have e1:aP f i j j=f i:=by simp[aP];intro h;rw[h]
   rw[e0,e1,dJ (f:=aP f i j) (g:=f) (a:=0) (b:=i) λk _ hk=>iJ f BYO BYO,
    dJ (f:=aP f i j) (g:=f) (a:=i+1) (b:=j) λk HU hk=>iJ f BYO BYO,
    dJ (f:=aP f i j) (g:=f) (a:=j+1) (b:=n) λk HU hk=>iJ f BYO BYO]
   refine aDC _ ?_;have p1:([f j]++(iU f (i+1) j++([f i]++iU f (j+1) n))).Perm ([f i]++([f j]++(iU f (i+1) j++iU f (j+1) n))):=by
    simp only[aD1];refine(List.Perm.cons _ aH5).trans (List.Perm.swap _ _ _)
   refine p1.trans ?_;simp only[aD1];refine List.Perm.cons _ List.perm_middle.symm
  exact key i j h hj
 .subst h;rw[dJ (f:=aP f i i) (g:=f) λk _ _=>by simp only[aP];split<;>simp_all]
 .have key:aP f i j=aP f j i:=by
   funext k;simp only[aP];split<;>split<;>simp_all
  rw[key];rw[aW _ (aBt j) (by omega:j<=n),aW _ (by omega:j<=j+1) (by omega:j+1<=n),aW _ (by omega:j+1<=i) (by omega:i<=n),aW _ (by omega:i<=i+1) (by omega:i+1<=n)];rw[aW f (aBt j) (by omega:j<=n),aW f (by omega:j<=j+1) (by omega:j+1<=n),aW f (by omega:j+1<=i) (by omega:i<=n),aW f (by omega:i<=i+1) (by omega:i+1<=n)];rw[gQ,gQ,gQ,gQ];have e0:aP f j i j=f i:=by simp[aP]
  have e1:aP f j i i=f j:=by simp[aP];intro h;rw[h]
  rw[e0,e1,dJ (f:=aP f j i) (g:=f) (a:=0) (b:=j) λk _ hk=>iJ f BYO BYO,
   dJ (f:=aP f j i) (g:=f) (a:=j+1) (b:=i) λk HU hk=>iJ f BYO BYO,
   dJ (f:=aP f j i) (g:=f) (a:=i+1) (b:=n) λk HU hk=>iJ f BYO BYO]
  refine aDC _ ?_;have p1:([f i]++(iU f (j+1) i++([f j]++iU f (i+1) n))).Perm ([f j]++([f i]++(iU f (j+1) i++iU f (i+1) n))):=by
   simp only[aD1];refine(List.Perm.cons _ aH5).trans (List.Perm.swap _ _ _)
  refine p1.trans ?_;simp only[aD1];refine List.Perm.cons _ List.perm_middle.symm
variable [Key α]
def hZ(f:Nat->α)(n:Nat):Prop:=∀i,0<i->i<n->(Key.key (f ((i-1)/2)))<=(Key.key (f i))
def UK(f:Nat->α)(n s p:Nat):Prop:=
 (∀i,0<i->i<n->s<=(i-1)/2->(i-1)/2≠p->(Key.key (f ((i-1)/2)))<=(Key.key (f i)))
def nK(f:Nat->α)(n s:Nat):Prop:=∀i,0<i->i<n->s<=(i-1)/2->(Key.key (f ((i-1)/2)))<=(Key.key (f i))
def fN(f:Nat->α)(n i:Nat):Nat:=if 2*i+2<n/\(Key.key (f (2*i+2)))<(Key.key (f (2*i+1))) then 2*i+2 else 2*i+1
def dA(n:Nat):Nat->Nat->(Nat->α)->(Nat->α)
 |0,_,f=>f
 |k+1,i,f=>if n<=2*i+1 then f else if(Key.key (f i))<=(Key.key (f (fN f n i))) then f else dA n k (fN f n i) (aP f i (fN f n i))
def pH{f:Nat->α}(h:2*i+1<n):fN f n i<n:=by unfold fN;split<;>omega
def pI(f:Nat->α)(n i:Nat):i<fN f n i:=by unfold fN;split<;>omega
def Iy(f:Nat->α)(n i:Nat):(fN f n i-1)/2=i:=by unfold fN;split<;>omega
def Iz(n:Nat):∀(k m i:Nat) (f:Nat->α),n<=i+k->n<=i+m->dA n k i f=dA n m i f:=by
 intro k;induction k with
 |zero=>
  intro m i f h _;cases m with
  |zero=>rfl
  |succ m=>simp only[dA];rw[if_pos BYO]
 |succ k ih=>
  intro m i f h h';cases m with
  |zero=>simp only[dA];rw[if_pos BYO]
  |succ m=>
   simp only[dA];have:=pI f n i;rw[ih m (fN f n i) _ BYO BYO]
def pJ(n:Nat):∀(k i:Nat) (f:Nat->α),i<n->(iU (dA n k i f) 0 n).Perm (iU f 0 n):=by
 intro k;induction k with
 |zero=>intro i f _;exact aBx _
 |succ k ih=>
  intro i f hi;simp only[dA];split
  .exact aBx _
  .split
   .exact aBx _
   .have:=pH (f:=f) (n:=n) (i:=i) BYO;exact(ih _ _ this).trans (sV f hi this)
def Ts(n:Nat):∀(k i:Nat) (f:Nat->α) (j:Nat),i<n->(j<i\/n<=j)->dA n k i f j=f j:=by
 intro k;induction k with
 |zero=>intro i f j _ _;rfl
 |succ k ih=>
  intro i f j hi h;simp only[dA];split
  .rfl
  .split
   .rfl
   .have h1:=pI f n i;have h2:=pH (f:=f) (n:=n) (i:=i) BYO;rw[ih _ _ _ h2 BYO];simp only[aP];rw[if_neg BYO,if_neg BYO]
def sW(n s:Nat):∀(k p:Nat) (f:Nat->α),n<=p+k->s<=p->p<n->UK f n s p->
  (∀i,0<i->i<n->(i-1)/2=p->0<p->s<=(p-1)/2->(Key.key (f ((p-1)/2)))<=(Key.key (f i)))->nK (dA n k p f) n s:=by
 intro k;induction k with
 |zero=>intro p f h _ hp _ _;omega
 |succ k ih=>
  intro p f h hs hp hb hg;simp only[dA];split
  .intro i hi iD XF;by_cases e:(i-1)/2=p
   .omega
   .exact hb i hi iD XF e
  .rename_i yD;have HT:=pI f n p;have uQ:=pH (f:=f) (n:=n) (i:=p) BYO;have Ek:=Iy f n p;have Mb:∀i,0<i->i<n->(i-1)/2=p->(Key.key (f (fN f n p)))<=(Key.key (f i)):=by
    intro i hi iD e;have uK:i=2*p+1\/i=2*p+2:=BYO;unfold fN;split
    .rename_i hc;rcases uK with rfl|rfl
     .omega
     .exact aC0 _
    .rename_i hc;rcases uK with rfl|rfl
     .exact aC0 _
     .by_cases h2:(Key.key (f (2*p+2)))<(Key.key (f (2*p+1)))
      .exact absurd ⟨iD,h2⟩ hc
      .omega
   split
   .rename_i hle;intro i hi iD XF;by_cases e:(i-1)/2=p
    .have:=Mb i hi iD e;rw[e];omega
    .exact hb i hi iD XF e
   .rename_i hle;generalize aMB:fN f n p=c at*;refine ih c (aP f p c) BYO BYO uQ ?_ ?_
    .intro i hi iD XF cQ;by_cases e1:(i-1)/2=p
     .by_cases e2:i=c
      .rw[e1,e2];simp only[aP];simp;rw[if_neg BYO];omega
      .rw[e1];simp only[aP];simp;rw[if_neg BYO,if_neg e2];exact Mb i hi iD e1
     .by_cases e2:i=p
      .have:=hg c BYO uQ Ek BYO (by rw[<-e2];exact XF);rw[e2]at e1 cQ⊢;simp only[aP];simp;rw[if_neg BYO,if_neg BYO];exact this
      .by_cases e3:i=c
       .omega
       .simp only[aP];rw[if_neg e1,if_neg cQ,if_neg e2,if_neg e3];exact hb i hi iD XF e1
    .intro i hi iD e hc0 _;rw[Ek];simp only[aP];simp;rw[if_neg BYO,if_neg BYO];have:=hb i hi iD BYO BYO;rw[e]at this;exact this
def oG(n:Nat):Nat->(Nat->α)->(Nat->α)
 |0,f=>f
 |i+1,f=>oG n i (dA n n i f)
def KC(n:Nat):∀(i:Nat) (f:Nat->α),i<=n->(iU (oG n i f) 0 n).Perm (iU f 0 n):=by
 intro i;induction i with
 |zero=>intro f _;exact aBx _
 |succ i ih=>intro f hi;exact(ih _ BYO).trans (pJ n n i f BYO)
def nE{f:Nat->α}(h:nK f n 0):hZ f n:=λi hi hn=>h i hi hn (aBt _)
def sX{f:Nat->α}(h:hZ f n):∀i,i<n->(Key.key (f 0))<=(Key.key (f i)):=by
 intro i;induction i using Nat.strongRecOn with
 |_ i ih=>
  intro hi;by_cases e:i=0
  .subst e;exact aC0 _
  .exact aDG (ih ((i-1)/2) BYO BYO) (h i BYO hi)
def oH:Nat->Nat->(Nat->α)->(Nat->α)
 |0,_,f=>f
 |k+1,i,f=>if 0<i/\(Key.key (f i))<(Key.key (f ((i-1)/2))) then oH k ((i-1)/2) (aP f i ((i-1)/2)) else f
def Li(n:Nat):∀(k i:Nat) (f:Nat->α),i<n->(iU (oH k i f) 0 n).Perm (iU f 0 n):=by
 intro k;induction k with
 |zero=>intro i f _;exact aBx _
 |succ k ih=>
  intro i f hi;simp only[oH];split
  .exact(ih _ _ BYO).trans (sV f hi BYO)
  .exact aBx _
def KD(n:Nat):∀(k p:Nat) (f:Nat->α),p<k->p<n->(∀i,0<i->i<n->i≠p->(Key.key (f ((i-1)/2)))<=(Key.key (f i)))->
  (∀i,0<i->i<n->(i-1)/2=p->0<p->(Key.key (f ((p-1)/2)))<=(Key.key (f i)))->hZ (oH k p f) n:=by
 intro k;induction k with
 |zero=>intro p f h;omega
 |succ k ih=>
  intro p f hk hp hb hg;simp only[oH];split
  .rename_i hc;generalize hq:(p-1)/2=q at*;have hqp:q<p:=BYO;refine ih q (aP f p q) BYO BYO ?_ ?_
   .intro i hi iD cQ;by_cases e1:i=p
    .rw[e1,hq];simp only[aP];simp;rw[if_neg BYO];omega
    .by_cases e2:(i-1)/2=p
     .rw[e2];simp only[aP];simp;rw[if_neg e1,if_neg cQ];exact hg i hi iD e2 hc.1
     .by_cases e3:(i-1)/2=q
      .rw[e3];simp only[aP];simp;rw[if_neg BYO,if_neg e1,if_neg cQ];have:=hb i hi iD e1;rw[e3]at this;omega
      .simp only[aP];rw[if_neg e2,if_neg e3,if_neg e1,if_neg cQ];exact hb i hi iD e1
   .intro i hi iD e si;have hqq:(Key.key (f ((q-1)/2)))<=(Key.key (f q)):=hb q si BYO BYO;have hgo:aP f p q ((q-1)/2)=f ((q-1)/2):=by
     simp only[aP];rw[if_neg BYO,if_neg BYO]
    rw[hgo];by_cases e1:i=p
    .rw[e1];simp only[aP];simp;exact hqq
    .simp only[aP];rw[if_neg e1,if_neg BYO];have:=hb i hi iD e1;rw[e]at this;omega
  .rename_i hc;intro i hi iD;by_cases e:i=p
   .rw[e];by_cases h0:(Key.key (f p))<(Key.key (f ((p-1)/2)))
    .exact absurd ⟨BYO,h0⟩ hc
    .omega
   .exact hb i hi iD e
end
section
variable{α:Type}
def lX(f:Nat->α)(i c:Nat)(cQ:i≠c):(λj=>if j=c then f i else(λj=>if j=i then f c else f j) j)=aP f i c:=by
 funext j;simp only[aP];by_cases h1:j=c
 .subst h1;simp[Ne.symm cQ]
 .simp[h1]
def BN(f:Nat->α)(n:Nat):aG f n=iU f 0 n:=by simp[aG,iU,aGz]
def RQ(f:Nat->α)(m:Nat):aG f (m+1)=f 0::aG (λi=>f (i+1)) m:=by
 simp[aG,aIN,Function.comp_def]
def put(f:Nat->α)(n:Nat)(x:α):Nat->α:=λi=>if i=n then x else f i
def BO(f:Nat->α)(n:Nat)(x:α):aG f n++[x]=aG (put f n x) (n+1):=by
 rw[gM];have e1:aG (put f n x) n=aG f n:=lM λi hi=>if_neg BYO;rw[e1];simp[put]
variable [Key α]
def hZ.congr{f g:Nat->α}(h:hZ f n)(e:∀i,i<n->g i=f i):hZ g n:=λi h0 hi=>by rw[e i hi,e _ BYO];exact h i h0 hi
def FO(f:Nat->α)(n:Nat)(x:α):Nat->α:=oH (n+1) n (put f n x)
def DY{f:Nat->α}{x:α}(h:hZ f n):hZ (FO f n x) (n+1):=by
 refine KD (n+1) (n+1) n (put f n x) BYO BYO (λi h0 hi cQ=>?_) (λi h0 hi he hp=>BYO);have e1:put f n x i=f i:=if_neg cQ;have e2:put f n x ((i-1)/2)=f ((i-1)/2):=if_neg BYO;rw[e1,e2];exact h i h0 BYO
def DZ(f:Nat->α)(n:Nat)(x:α):(aG (FO f n x) (n+1)).Perm (x::aG f n):=by
 rw[BN];refine(Li (n+1) (n+1) n (put f n x) BYO).trans ?_;rw[<-BN,<-BO];exact aDB
def OH(f:Nat->α)(n:Nat):Nat->α:=dA (n-1) (n-1) 0 (λj=>if j=0 then f (n-1) else f j)
def LV{f:Nat->α}(h:hZ f n):hZ (OH f n) (n-1):=by
 rcases aCl (n-1) with e|hp
 .intro i _ hi;omega
 .refine nE (sW (n-1) 0 (n-1) 0 _ BYO (aAB _) hp (λi h0 hi _ cQ=>?_) (λi _ _ _ h00=>BYO));rw[if_neg (by omega:¬i=0),if_neg cQ];exact h i h0 BYO
def BP(f:Nat->α)(hn:0<n):(aG f n).Perm (f 0::aG (OH f n) (n-1)):=by
 rcases aCl (n-1) with e|hp
 .obtain rfl:n=1:=BYO;simp[aG]
 .have h1:(aG (OH f n) (n-1)).Perm (aG (λj=>if j=0 then f (n-1) else f j) (n-1)):=by
   rw[BN,BN];exact pJ _ _ _ _ hp
  refine List.Perm.trans ?_ (List.Perm.cons _ h1.symm);obtain⟨m,rfl⟩:∃m,n=m+2:=⟨n-2,BYO⟩;have e1:aG f (m+2)=f 0::(aG (λi=>f (i+1)) m++[f (m+1)]):=by rw[RQ,gM]
  have e2:aG (λj=>if j=0 then f (m+2-1) else f j) (m+2-1)=f (m+1)::aG (λi=>f (i+1)) m:=by
   rw[show m+2-1=m+1 from BYO,RQ];rfl
  rw[e1,e2];exact List.Perm.cons _ aDB
def EA{f:Nat->α}(h:hZ f n)(hn:0<n):∀y∈aG (OH f n) (n-1),Key.key (f 0)<=Key.key y:=by
 intro y hy;have:y∈aG f n:=(BP f hn).mem_iff.2 (aBm _ hy);simp only[aG,aCc,aC5]at this;obtain⟨i,hi,rfl⟩:=this;exact sX h i hi
variable [Inhabited α]
def hZ.list{f:Nat->α}(h:hZ f n):hZ (lf (aG f n)) (aG f n).length:=by
 rw[aF];exact h.congr λi hi=>kU f hi
end
end Rk.G
