/- Part of the proof of TopSorts. -/
import Derived.Test.YthdiheblgmddhaaGreatDoorQ07
set_option linter.all false
namespace Rk
open Go Go.RowKit
structure LG(L:List Nd)(t:Ln.T Ln.It):Prop where
 list:L=Ln.xG t 0
 lR:Ln.Good Ln.kI t
 ok:∀x,x∈t.items->iR x=true
 le:t.size<=60
def LG.len{L:List Nd}{t:Ln.T Ln.It}(h:LG L t):L.length=t.size:=by rw[h.list,Ln.jP]
def LG.items{L:List Nd}{t:Ln.T Ln.It}(h:LG L t):L.map Ln.ep=t.items:=by rw[h.list,Ln.QW]
def LG.rd{L:List Nd}{t:Ln.T Ln.It}(h:LG L t):Ln.Fe L=some t:=by rw[h.list];exact Ln.nj h.lR
def LG.Xg{L:List Nd}{t:Ln.T Ln.It}(h:LG L t):Rk.Xg L=t:=Bu h.rd
def LG.read{L:List Nd}{t:Ln.T Ln.It}(h:LG L t):gS L=0:=by
 have hl:=h.len;have SB:=h.le;unfold gS;rw[if_neg BYO,if_pos,h.rd]
 .rfl
 .rw[aCJ];intro x hx;refine h.ok (Ln.ep x) ?_;rw[<-h.items];exact aER hx
def LG.nil:LG [] .nil:=⟨rfl,Ln.BD _,λx hx=>(by cases hx),by simp[Ln.T.size]⟩
def LG.alone{x:Ln.It}(h:iR x=true):LG (Rk.alone x) (.node x .nil .nil):=
 ⟨rfl,⟨⟨trivial,trivial,trivial,trivial⟩,⟨aAB _,trivial,trivial⟩⟩,λy hy=>by simp[Ln.T.items]at hy;rw[hy];exact h,by simp[Ln.T.size]⟩
def LG.gZ{a b:List Nd}{s t:Ln.T Ln.It}(ha:LG a s)(hb:LG b t)(h:s.size+t.size<=60):tU a b=0/\LG (Pj a b) (Ln.gZ Ln.kI s t):=by
 refine⟨?_,?_⟩
 .unfold tU;rw[if_neg (by rw[ha.read];omega),if_neg (by rw[hb.read];omega),if_neg (by rw[ha.len,hb.len];omega)]
 .unfold Pj;rw[ha.Xg,hb.Xg];exact⟨rfl,Ln.QV _ _ _ ha.lR hb.lR,λx hx=>by
   rcases aBR.1 ((Ln.mX _ _ _).mem_iff.1 hx) with h1|h1
   .exact ha.ok x h1
   .exact hb.ok x h1,by rw[Ln.rS];exact h⟩
def LG.pop{L:List Nd}{x:Ln.It}{l r:Ln.T Ln.It}(h:LG L (.node x l r)):LG (Us L) (Ln.gZ Ln.kI l r):=by
 have e:Us L=Ln.xG (Ln.gZ Ln.kI l r) 0:=by unfold Us;rw[h.Xg]
 have hs:=h.le;simp only[Ln.T.size]at hs;exact⟨e,Ln.QV _ _ _ h.lR.left h.lR.right,λy hy=>h.ok y (aBm _ ((Ln.mX _ _ _).mem_iff.1 hy)),by rw[Ln.rS];omega⟩
def LG.root{L:List Nd}{x:Ln.It}{l r:Ln.T Ln.It}(h:LG L (.node x l r)):Ln.ep (lf L 0)=x:=by rw[h.list];rfl
end Rk
namespace Rk
open Go Go.RowKit Go.Proofs
attribute [local irreducible] aA jH OpC WL QL WC WX OL RL
abbrev Kl(w:World)(B g n cap:Nat)(f:Nat->It):Prop:=cO cB 2 38 w B g n cap f
def lX(f:Nat->It)(i c:Nat)(cQ:i≠c):(λj=>if j=c then f i else(λj=>if j=i then f c else f j) j)=aP f i c:=by
 funext j;simp only[aP];by_cases h1:j=c
 .subst h1;simp[Ne.symm cQ]
 .simp[h1]
def Bv(g n cap B i:Nat)(f:Nat->It)(w:World)(ho:Kl w B g n cap f)(hn:n<=1000)(hi:i<=1000):
  Calls tz 28 #[.slice (some ⟨g,0,none⟩) n cap,.int .i64 i] w (eT λv w'=>Kl w' B g n cap (dA n n i f)/\w.grownBy w' (some g)):=by
 refine aI I3 rfl Tryz.ntmps28 rfl ?_;refine bB ?_;refine WC.loop (λm a wr=>∃(i':Nat) (f':Nat->It),i'<=1000/\n<=i'+m/\dA n m i' f'=dA n n i f/\Kl wr B g n cap f'/\w.grownBy wr (some g)/\Ag a 59 [(0,.slice (some ⟨g,0,none⟩) n cap),(1,.int .i64 i')]) n ?_ ?_
 .intro a ha;exact⟨i,f,hi,BYO,rfl,ho,World.grownBy.refl _ _,(ha.nil.keep ha rfl).keep ha rfl⟩
 .rintro m a wr ⟨i',f',uK,hm,heq,lJ,hg,ha⟩;refine WC.at ?_ ha;clear ha a;refine bB ?_;rw[show(2*(i':Int)+1)=((2*i'+1:Nat):Int) from by omega];refine WC.cond rfl (λh=>?_) (λh=>?_)
  .have CL:n<=2*i'+1:=by have:=of_decide_eq_true h;omega
   refine bB ?_;refine aPe rfl ⟨?_,hg⟩;have:dA n m i' f'=f':=by cases m<;>simp[dA,CL]
   rw[<-heq,this];exact lJ
  .have dD:2*i'+1<n:=by have:=of_decide_eq_false h;omega
   obtain⟨m',rfl⟩:∃m',m=m'+1:=⟨m-1,BYO⟩;have eH:dA n (m'+1) i' f'=if(f' i').1<=(f' (fN f' n i')).1 then f' else dA n m' (fN f' n i') (aP f' i' (fN f' n i')):=by
    rw[dA,if_neg BYO]
   refine uw ?_;refine aRM (λa w'=>Below wr.heap.size wr w'/\Ag a 59 [(0,.slice (some ⟨g,0,none⟩) n cap),(1,.int .i64 i'),(4,.int .i64 (fN f' n i'))]) ?_ ?_
   .refine bB ?_;refine WC.quiet mixed BYK λK hK=>?_;refine Yy ?_;refine QL.guard rfl rfl (λh1=>?_) (λh1=>?_)
    .have PD:2*i'+2<n:=by have:=of_decide_eq_true h1;omega
     refine Yy ?_;refine QL.step (λw' dY=>aJC aN rfl ((lJ.below dY).cell (i:=2*i'+2) PD 0 _ rfl)) rfl ?_;refine Yy ?_;refine QL.step (λw' dY=>aJC aN rfl ((lJ.below dY).cell (i:=2*i'+1) BYO 0 _ rfl)) rfl ?_;refine Yy ?_;refine QL.nil (hK _ λw' NL=>?_);clear hK K;refine bB ?_;refine WC.cond rfl (λh2=>?_) (λh2=>?_)
     .have hk:fN f' n i'=2*i'+2:=if_pos ⟨PD,of_decide_eq_true h2⟩;refine bB ?_;rw[show(((2*i'+1:Nat):Int)+1)=((2*i'+2:Nat):Int) from by omega];refine aOE λa ha=>⟨NL,?_⟩;rw[hk];exact((ha.nil.keep ha rfl).keep ha rfl).keep ha rfl
     .have hk:fN f' n i'=2*i'+1:=if_neg (λhh=>of_decide_eq_false h2 hh.2);refine bB ?_;refine aOE λa ha=>⟨NL,?_⟩;rw[hk];exact((ha.nil.keep ha rfl).keep ha rfl).keep ha rfl
    .have PD:¬2*i'+2<n:=by have:=of_decide_eq_false h1;omega
     have hk:fN f' n i'=2*i'+1:=if_neg (λhh=>PD hh.1);refine Yy ?_;refine QL.nil (hK _ λw' NL=>?_);clear hK K;refine bB ?_;refine aJh rfl ?_;refine bB ?_;refine aOE λa ha=>⟨NL,?_⟩;rw[hk];exact((ha.nil.keep ha rfl).keep ha rfl).keep ha rfl
   .rintro a w2 ⟨bM,ha⟩;refine WC.at ?_ ha;clear ha a;have XB:=pH (f:=f') (n:=n) (i:=i') dD;have hkg:=pI f' n i';have kT:=lJ.below bM;generalize fN f' n i'=c at*;refine bB ?_;refine WC.quiet mixed BYK λK hK=>?_;refine Yy ?_;refine QL.step (λw' dY=>aJC aN rfl ((kT.below dY).cell (i:=c) XB 0 _ rfl)) rfl ?_;refine Yy ?_;refine QL.step (λw' dY=>aJC aN rfl ((kT.below dY).cell (i:=i') BYO 0 _ rfl)) rfl ?_;refine Yy ?_;refine QL.nil (hK _ λw3 dZ=>?_);clear hK K;have yA:=kT.below dZ;have iE:w.grownBy w3 (some g):=aU (aU hg (cP bM _)) (cP dZ _);refine bB ?_;refine WC.cond rfl (λh2=>?_) (λh2=>?_)
    .rw[if_pos (of_decide_eq_true h2)]at eH;refine bB ?_;refine aPe rfl ⟨?_,iE⟩;rw[<-heq,eH];exact yA
    .rw[if_neg (of_decide_eq_false h2)]at eH;refine bB ?_;refine WC.ord [13,15] [(0,0),(1,0),(2,0),(3,0),(4,0),(5,0),(6,0),(8,0),(9,0),(10,0),(7,1),(11,1),(12,0),(13,2),(14,0),(15,2)] mixed BYK rfl BYK λK hK w4 jR hh4=>?_;refine EV ?_;refine OL.read hh4 rfl (RL.step (λw' dY=>aL5 (cs:=cB (f' c)) aL rfl rfl ((yA.heap dY).cell (i:=c) XB)) rfl ?_);refine EV ?_;refine OL.read hh4 rfl (RL.step (λw' dY=>aL5 (cs:=cB (f' i')) aL rfl rfl ((yA.heap dY).cell (i:=i') BYO)) rfl ?_);refine EV ?_;refine OL.act rfl (aML bN cJ aL (i:=i') (a:=f' c) rfl BYS rfl rfl (yA.heap hh4) BYO λw5 fU rC zT=>WL.nil ?_);refine EV ?_;refine OL.act rfl (aML bN cJ aL (i:=c) (a:=f' i') rfl BYS rfl rfl rC XB λw6 gL RZ FW=>WL.nil ?_);refine OL.nil (hK _ _ ?_);clear hK K;have BZ:Kl w6 B g n cap (aP f' i' c):=RZ.congr λj _=>by rw[<-lX f' i' c BYO]
     have uO:w.grownBy w6 (some g):=aU (aU (aU iE (cP jR _)) fU) gL;refine bB ?_;refine WX.again (m:=m') BYO λa ha=>⟨c,aP f' i' c,BYO,BYO,by rw[<-eH,heq],BZ,uO,(ha.nil.keep ha rfl).keep ha rfl⟩
def DR(n:Nat)(f:Nat->It):Bool:=(List.range n).all λi=>decide (i=0)||decide ((f ((i-1)/2)).1<=(f i).1)
def tC{n:Nat}{f:Nat->It}:DR n f=true↔hZ f n:=by
 simp only[DR,aCJ,aC5,aDc,decide_eq_true_eq,hZ];constructor
 .intro h i hi hn;rcases h i hn with e|e
  .omega
  .exact e
 .intro h i hn;by_cases e:i=0
  .exact .inl e
  .exact .inr (h i BYO hn)
def kZ(n:Nat)(f:Nat->It):Nat:=if aH n f=0 then(if DR n f then 0 else 3) else aH n f
def OF(A:Option Addr)(n c:Nat)(f:Nat->It)(w:World)(hr:aE cB 2 w A n f):
  Calls tz 38 #[.slice A n c] w (eT λv w'=>v=cI (kZ n f)/\Below w.heap.size w w'):=by
 refine aI xc rfl Tryz.ntmps38 rfl ?_;refine lA λK hK=>?_;refine aKQ xT (jJ A n c f _ hr) ?_;rintro v w1 ⟨rfl,cA⟩;by_cases he:aH n f=0
 .have hn:=gR he;have hE:kZ n f=if DR n f then 0 else 3:=by simp[kZ,he]
  rw[he,eN];refine bB ?_;refine aJh rfl ?_;refine bB ?_;refine WC.loop (λm a wr=>∃k:Nat,1<=k/\k<=n+1/\m=n+1-k/\(∀i,0<i->i<k->i<n->(f ((i-1)/2)).1<=(f i).1)/\Below w.heap.size w wr/\Ag a 30 [(0,.slice A n c),(4,.int .i64 k)]) n ?_ ?_
  .intro a ha;exact⟨1,BYO,BYO,BYO,λi h1 h2=>BYO,cA,(ha.nil.keep ha rfl).keep ha rfl⟩
  .rintro m a wr ⟨k,HT,hk,rfl,bY,hB,ha⟩;refine WC.at ?_ ha;clear ha a;refine bB ?_;refine WC.cond rfl (λh=>?_) (λh=>?_)
   .have dD:k<n:=by have:=of_decide_eq_true h;omega
    obtain⟨b,o,rfl,hb,hc⟩:=(hr.below hB).at_ BYO;refine bB ?_;refine WC.quiet mixed BYK λK hK=>?_;refine Yy ?_;refine QL.step (λw' dY=>aJC aN rfl (hc w' dY k dD 0 _ rfl)) rfl ?_;refine Yy ?_;refine QL.step (λw' dY=>aJC aN rfl (hc w' dY (((k:Int)-1)/2).toNat BYO 0 _ rfl)) rfl ?_;refine Yy ?_;refine QL.nil (hK _ λw2 bM=>?_);clear hK K;have hup:(((k:Int)-1)/2).toNat=(k-1)/2:=BYO;have dZ:Below w.heap.size w w2:=hB.tr bM;refine bB ?_;refine WC.cond rfl (λh2=>?_) (λh2=>?_)
    .have Xw:=of_decide_eq_true h2;rw[hup]at Xw;have CK:¬DR n f=true:=λhh=>by
      have:=tC.1 hh k BYO dD;omega
     refine bB ?_;exact aLV rfl rfl ⟨by rw[hE,if_neg CK];rfl,dZ⟩
    .have Xw:=of_decide_eq_false h2;rw[hup]at Xw;refine bB ?_;refine WX.again (m:=n+1-(k+1)) BYO λa ha=>⟨k+1,BYO,BYO,rfl,λi h1 h2 h3=>?_,dZ,(ha.nil.keep ha rfl).keep ha rfl⟩;rcases aDg.1 h2 with h4|h4
     .exact bY i h1 h4 h3
     .rw[h4];omega
   .have fM:DR n f=true:=tC.2 λi h1 h2=>bY i h1 (by have:=of_decide_eq_false h;omega) h2;refine bB ?_;exact aLV rfl rfl ⟨by rw[hE,if_pos fM];rfl,hB⟩
 .have hE:kZ n f=aH n f:=by simp[kZ,he]
  rw[bO he];refine bB ?_;refine aLO rfl ?_;refine bB ?_;exact aLV rfl rfl ⟨by rw[hE,bO he],cA⟩
def P9(A:Option Addr)(n c:Nat)(f:Nat->It)(w:World)(hr:aE cB 2 w A n f):
  Calls tz 6 #[.slice A n c] w (eT λv w'=>Below w.heap.size w w'/\(aH n f≠0->v=.tuple #[.slice none 0 0,cI (aH n f)])/\
   (aH n f=0->∃v',v=.tuple #[v',.nilIface]/\mU w' w.heap.size v' (aG (oG n (n/2) f) n))):=by
 refine aI aEs rfl Tryz.ntmps6 rfl ?_;refine lA λK hK=>?_;refine aKQ xT (jJ A n c f _ hr) ?_;rintro v w1 ⟨rfl,cA⟩;by_cases he:aH n f=0
 .have hn:=gR he;rw[he,eN];refine bB ?_;refine aJh rfl ?_;refine lA λK hK=>?_;refine aKQ JQ (wP A n c f _ (hr.below cA) BYO) ?_;rintro v w2 ⟨kT,bM⟩;replace kT:=bT.lower kT cA.size;obtain⟨A2,c2,rfl,Xr⟩:=kT.form;rw[aF]at*;have tM:Below w.heap.size w w2:=cA.tr bM;have oA:∀w',Below w.heap.size w w'->mU w' w.heap.size (.slice A2 n c2) (aG (oG n (n/2) f) n)->
    (λ(v:Value) (w':World)=>Below w.heap.size w w'/\(aH n f≠0->v=.tuple #[.slice none 0 0,cI (aH n f)])/\(aH n f=0->∃v',v=.tuple #[v',.nilIface]/\mU w' w.heap.size v' (aG (oG n (n/2) f) n)))
     (.tuple #[.slice A2 n c2,.nilIface]) w':=λw' h1 h2=>⟨h1,λh=>absurd he h,λ_=>⟨_,rfl,h2⟩⟩
  refine bB ?_;by_cases Mw:n=0
  .subst Mw;refine WC.loop (λm a wr=>wr=w2/\Ag a 26 [(5,.slice A2 0 c2),(6,.int .i64 (-1))]) 0 ?_ ?_
   .intro a ha;exact⟨rfl,(ha.nil.keep ha rfl).keep ha rfl⟩
   .rintro m a wr ⟨rfl,ha⟩;refine WC.at ?_ ha;clear ha a;refine bB ?_;refine aJh rfl ?_;refine bB ?_;exact aLe rfl rfl rfl (oA _ tM kT)
  .obtain⟨g,cap,hv,hS⟩:=kT.toS bN (λh=>Mw (by have:=congrArg List.length h;rw[aF]at this;exact this));rw[aF]at hv hS;cases hv;have Ma:Kl w2 w.heap.size g n c2 f:=(cO.congr hS (f':=f) λi hi=>(kU f hi).symm);refine WC.loop (λm a wr=>∃(k:Nat) (f':Nat->It),m=k/\k<=n/2/\oG n k f'=oG n (n/2) f/\Kl wr w.heap.size g n c2 f'/\Below w.heap.size w wr/\
    Ag a 26 [(5,.slice (some ⟨g,0,none⟩) n c2),(6,.int .i64 (k-1))]) (n/2) ?_ ?_
   .intro a ha;exact⟨n/2,f,rfl,BYO,rfl,Ma,tM,(ha.nil.keep ha (by simp[look])).keep ha rfl⟩
   .rintro m a wr ⟨k,f',rfl,hk,heq,ho,hB,ha⟩;refine WC.at ?_ ha;clear ha a;refine bB ?_;refine WC.cond rfl (λh=>?_) (λh=>?_)
    .obtain⟨k,rfl⟩:∃k',m=k'+1:=⟨m-1,by have:=of_decide_eq_true h;omega⟩;rw[show(((k+1:Nat):Int)-1)=(k:Int) from by omega];refine lA λK hK=>?_;refine aKQ I3 (Bv g n c2 w.heap.size k f' _ ho BYO BYO) ?_;rintro v w3 ⟨yA,iE⟩;refine bB ?_;refine WX.again (m:=k) BYO λa ha=>⟨k,_,rfl,BYO,heq,yA,hB.rM iE (by intro b hb;cases hb;exact ho.base),(ha.nil.keep ha rfl).keep ha rfl⟩
    .have OW:m=0:=by have:=of_decide_eq_false h;omega
     subst OW;refine bB ?_;refine aLe rfl rfl rfl (oA _ hB ?_);have:=ho.toL bN;rw[<-heq];exact this
 .rw[bO he];refine bB ?_;refine aLO rfl ?_;refine bB ?_;exact aLe rfl rfl rfl ⟨cA,λ_=>by rw[bO he],λh=>absurd h he⟩
end Rk
namespace Rk
open Go Go.RowKit Go.Proofs
attribute [local irreducible] aA jH OpC WL QL WC WX OL RL TL
def Km(n:Nat)(f:Nat->It):Nat->It:=dA (n-1) (n-1) 0 (λj=>if j=0 then f (n-1) else f j)
def nu(A:Option Addr)(n c:Nat)(f:Nat->It)(w:World)(hr:aE cB 2 w A n f):
  Calls tz 13 #[.slice A n c] w (eT λv w'=>Below w.heap.size w w'/\(kZ n f≠0->v=.tuple #[mV (0,0),.slice none 0 0,cI (kZ n f)])/\
   (kZ n f=0->n=0->v=.tuple #[mV (0,0),.slice none 0 0,cI 5])/\
   (kZ n f=0->n≠0->∃v',v=.tuple #[mV (f 0),v',.nilIface]/\mU w' w.heap.size v' (aG (Km n f) (n-1)))):=by
 refine aI wc rfl Tryz.ntmps13 rfl ?_;refine lA λK hK=>?_;refine WL.alloc aL rfl λw1 fQ dM mP=>?_;have cA:Below w.heap.size w w1:=aC fQ;refine lA λK hK=>?_;refine aKQ xc (OF A n c f _ (hr.below cA)) ?_;rintro v w2 ⟨rfl,bM⟩;have tM:Below w.heap.size w w2:=cA.tr bM;have iW:=dM.below bM;by_cases he:kZ n f=0
 .rw[he,eN];refine bB ?_;refine aJh rfl ?_;refine bB ?_;by_cases Mw:n=0
  .subst Mw;refine aLO rfl ?_;refine lA λK hK=>?_;refine WL.store (v:=mV (0,0)) aL rfl rfl rfl (cJ _) iW (aAB 2) λw3 iE mM EL=>?_;refine bB ?_;exact aNa aL rfl rfl rfl rfl mM rfl ⟨tM.rM iE (by intro b hb;cases hb;exact aAB _),λh=>absurd he h,λ_ _=>rfl,λ_ h=>absurd rfl h⟩
  .refine WC.cond rfl (λh=>absurd (of_decide_eq_true h) BYO) λ_=>?_;refine lA λK hK=>?_;have hn:=gR (n:=n) (f:=f) (by unfold kZ at he;split at he<;>simp_all)
   refine aKQ JQ (wP A n c f _ (hr.below tM) BYO) ?_;rintro v w3 ⟨yA,dZ⟩;have OV:Below w.heap.size w w3:=tM.tr dZ;have aSU:w.heap.size<w2.heap.size:=iW.lt;obtain⟨g,cap,rfl,hS⟩:=yA.toS bN (λh=>Mw (by have:=congrArg List.length h;rw[aF]at this;exact this));rw[aF]at hS⊢;have Ma:Kl w3 w.heap.size g n cap f:=(hS.congr (f':=f) λi hi=>(kU f hi).symm).lower BYO;have aHM:=hS.le;have CL:w2.heap.size<=g:=hS.base;have mM:=iW.below dZ;refine lA λK hK=>?_;rw[show((n:Int)-1)=((n-1:Nat):Int) from by omega];refine WL.step (aL5 (cs:=cB (f (n-1))) aL rfl rfl (Ma.cell (i:=n-1) BYO)) rfl ?_;refine bB ?_;refine aML bN cJ aL (i:=0) (a:=f (n-1)) rfl BYS rfl rfl Ma BYO λw4 kO sB RY=>?_;have rE:=mM.keep kO BYT;have aLp:Below w.heap.size w w4:=OV.rM kO (by intro b hb;cases hb;omega);refine lA λK hK=>?_;refine aKQ I3 (Bv g (n-1) cap w.heap.size 0 _ _ (sB.shorter BYO) BYO BYO) ?_;rintro v w5 ⟨rC,fU⟩;have pZ:=rE.keep fU BYT;have OX:Below w.heap.size w w5:=aLp.rM fU (by intro b hb;cases hb;omega);refine lA λK hK=>?_;obtain⟨b,o,rfl,_,hc⟩:=hr.below OX BYO;refine bB ?_;refine WL.step (aL5 (cs:=cB (f 0)) aL rfl rfl (hc 0 BYO)) rfl ?_;refine bB ?_;refine WL.store (v:=mV (f 0)) aL rfl rfl rfl (cJ _) pZ (aAB 2) λw6 gL pU FW=>?_;refine bB ?_;have cQ:(some w.heap.size:Option Nat)≠some g:=BYT;exact aNa aL rfl rfl rfl rfl pU rfl ⟨OX.rM gL (by intro b hb;cases hb;exact aAB _),λh=>absurd he h,λ_ h=>absurd h Mw,λ_ _=>⟨_,rfl,(rC.keep gL cQ).toL bN⟩⟩
 .rw[bO he];refine bB ?_;refine aLO rfl ?_;refine lA λK hK=>?_;refine WL.store (v:=mV (0,0)) aL rfl rfl rfl (cJ _) iW (aAB 2) λw3 iE mM EL=>?_;refine bB ?_;exact aNa aL rfl rfl rfl rfl mM rfl ⟨tM.rM iE (by intro b hb;cases hb;exact aAB _),λ_=>by rw[bO he];rfl,λh=>absurd h he,λh=>absurd h he⟩
variable{n:Nat}{f:Nat->It}
def QY(f:Nat->It):(iU (oG n (n/2) f) 0 n).Perm (iU f 0 n):=KC n (n/2) f BYO
def QZ(f:Nat->It):hZ (oG n (n/2) f) n:=nE (Ja n (n/2) f BYO (OB f n _ BYO))
def VD:kZ n f=0↔aH n f=0/\hZ f n:=by
 unfold kZ;constructor
 .intro h;split at h
  .rename_i h0;split at h
   .rename_i h1;exact⟨h0,tC.1 h1⟩
   .cases h
  .rename_i h0;exact absurd h h0
 .rintro⟨h0,h1⟩;rw[if_pos h0,if_pos (tC.2 h1)]
def nv(f:Nat->It)(n:Nat):iU f 0 n=aG f n:=by simp[iU,aG,aGz]
def Uv(f:Nat->It)(hn:0<n):(f 0::aG (Km n f) (n-1)).Perm (aG f n):=by
 obtain⟨m,rfl⟩:∃m,n=m+1:=⟨n-1,BYO⟩;rw[aHH,Km,aHH];by_cases hm:m=0
 .subst hm;simp[aG]
 .have h1:=pJ m m 0 (λj=>if j=0 then f m else f j) BYO;rw[nv,nv]at h1;have h2:(f 0::aG (λj=>if j=0 then f m else f j) m).Perm (aG f (m+1)):=by
   obtain⟨k,rfl⟩:∃k,m=k+1:=⟨m-1,BYO⟩;have e1:aG (λj=>if j=0 then f (k+1) else f j) (k+1)=f (k+1)::(List.range k).map (λi=>f (i+1)):=by
    simp[aG,aIN,aDd,Function.comp]
   have e2:aG f (k+1+1)=f 0::(List.range k).map (λi=>f (i+1))++[f (k+1)]:=by
    rw[gM];simp[aG,aIN,aDd,Function.comp]
   rw[e1,e2,aCq];refine List.Perm.cons _ ?_;exact(aDr _ _).symm
  exact(List.Perm.cons _ h1).trans h2
def Uw(h:hZ f n):hZ (Km n f) (n-1):=by
 by_cases hn:n-1=0
 .intro i hi iD;omega
 .refine nE (sW (n-1) 0 (n-1) 0 _ BYO (aAB _) BYO (λi hi iD _ cQ=>?_) (λi _ _ _ h0=>absurd h0 BYO));show(if(i-1)/2=0 then f (n-1) else f ((i-1)/2)).1<=(if i=0 then f (n-1) else f i).1;rw[if_neg cQ,if_neg BYO];exact h i hi BYO
end Rk
namespace Rk
open Go Go.RowKit Go.Proofs
variable{α:Type}{k B n:Nat}{e:TypeId}{w w':World}{v:Value}{F F':Nat->Prop}{f:Nat->It}
attribute [local irreducible] aA jH OpC WL QL WC WX OL RL
def DT(w:World)(F:Nat->Prop)(v:Value):Prop:=(∃A,v=.slice A 0 0)\/∀g,v.ownBlock=some g->g<w.heap.size/\¬F g
def lC(w:World)(F:Nat->Prop)(v:Value)(l:List It):Prop:=∃L t B,Bp w B v L/\LG L t/\t.items.Perm l/\DT w F v
def HL{enc:α->List Value}{l:List α}(h:bT enc k e w B v l)(hF:∀g,F g->g<B):DT w F v:=by
 rcases h.2 with⟨A,rfl,h0⟩|⟨g',cap,cur,rfl,h1,h2,_⟩
 .exact .inl ⟨A,rfl⟩
 .refine .inr λg hg=>?_;simp[Value.ownBlock]at hg;subst hg;exact⟨(aCH.1 h2).1,λh3=>by have:=hF _ h3;omega⟩
def Pk{enc:α->List Value}{l:List α}(h:bT enc k e w B v l)(hc:bF w w' F F')(hn:DT w F v):bT enc k e w' B v l:=by
 refine⟨h.1,?_⟩;rcases hn with⟨A,rfl⟩|hn
 .rcases h.2 with⟨A',e,h0⟩|⟨g,cap,cur,e,_⟩
  .exact .inl ⟨A',e,h0⟩
  .injection e with _ e _;exact .inl ⟨A,rfl,e.symm⟩
 .refine h.2.imp id ?_;rintro⟨g,cap,cur,rfl,h1,h2,h3⟩;refine⟨g,cap,cur,rfl,h1,?_,h3⟩;rw[hc.block g (aCH.1 h2).1 (hn g rfl).2];exact h2
def DT.dG(h:DT w F v)(hc:bF w w' F F'):DT w' F' v:=h.imp id λh g hg=>⟨aAx (h g hg).1 hc.size,λh1=>by
 rcases(hc.next g h1).1 with h2|h2
 .exact(h g hg).2 h2
 .have:=(h g hg).1;omega⟩
def DT.below(h:DT w F v)(hb:Below w.heap.size w w'):DT w' F v:=h.imp id λh g hg=>⟨aAx (h g hg).1 hb.size,(h g hg).2⟩
section
variable{l:List It}
def lC.dG(h:lC w F v l)(hc:bF w w' F F'):lC w' F' v l:=by
 obtain⟨L,t,B,ho,hG,hp,hf⟩:=h;exact⟨L,t,B,Pk ho hc hf,hG,hp,hf.dG hc⟩
def lC.below(h:lC w F v l)(hb:Below w.heap.size w w'):lC w' F v l:=by
 obtain⟨L,t,B,ho,hG,hp,hf⟩:=h;exact⟨L,t,B,ho.below hb,hG,hp,hf.below hb⟩
def lC.nil:lC w F (.slice none 0 0) []:=⟨[],.nil,0,bT.nil _ _ _ _ _ none,LG.nil,aBx _,.inl ⟨none,rfl⟩⟩
def Ux(h:lC w F v l){x:It}(hx:iR x=true)(hl:l.length<60)(hF:∀g,F g->g<w.heap.size):
  Calls tz 9 #[v,mV x] w (eT λr w'=>Below w.heap.size w w'/\∃v',r=.tuple #[v',.nilIface]/\lC w' F v' (x::l)):=by
 obtain⟨L,t,B,ho,hG,hp,hf⟩:=h;have oC:t.size=l.length:=by rw[<-Ln.aOT,hp.length_eq]
 obtain⟨A,c,rfl,_⟩:=ho.form;obtain⟨_,_,hr⟩:=ho.bK nF;have hm:L.length<=maxLen:=by have:=hG.len;simp[maxLen];omega
 refine(Uu L x c A w hr hm).mono λe w' h=>?_;cases e<;>first|exact h.elim|skip
 obtain⟨hB,_,h2⟩:=h;obtain⟨he,hG'⟩:=hG.gZ (LG.alone hx) (by simp[Ln.T.size];omega);obtain⟨v',rfl,lJ⟩:=h2 he;refine⟨hB,v',rfl,_,_,_,lJ,hG',?_,HL lJ hF⟩
 .refine(Ln.mX _ _ _).trans ?_;refine(aDB).trans ?_;simpa[Ln.T.items] using hp.cons x
def Q0(h:lC w F v l)(hl:l≠[])(hF:∀g,F g->g<w.heap.size):
  Calls tz 14 #[v] w (eT λr w'=>Below w.heap.size w w'/\∃x v' l',r=.tuple #[mV x,v',.nilIface]/\l.Perm (x::l')/\(∀y∈l',x.1<=y.1)/\lC w' F v' l'):=by
 obtain⟨L,t,B,ho,hG,hp,hf⟩:=h;have oC:t.size=l.length:=by rw[<-Ln.aOT,hp.length_eq]
 cases t with
 |nil=>simp[Ln.T.size]at oC;exact absurd (aCQ oC.symm) hl
 |node x a b=>
  obtain⟨A,c,rfl,_⟩:=ho.form;obtain⟨_,_,hr⟩:=ho.bK nF;have hm:L.length<=maxLen:=by have:=hG.len;have:=hG.le;simp[maxLen];omega
  have cQ:L≠[]:=λe=>by have:=hG.len;rw[e]at this;simp[Ln.T.size]at this
  refine(P8 L c A w hr hm).mono λe w' h=>?_;cases e<;>first|exact h.elim|skip
  obtain⟨hB,_,_,h2⟩:=h;obtain⟨v',rfl,lJ⟩:=h2 hG.read cQ;rw[hG.root];have hG':=hG.pop;have hpm:=Ln.mX Ln.kI a b;refine⟨hB,x,v',(Ln.gZ Ln.kI a b).items,rfl,?_,λy hy=>?_,_,_,w.heap.size,lJ,hG',aBx _,HL lJ hF⟩
  .refine hp.symm.trans ?_;simp only[Ln.T.items];exact hpm.symm.cons x
  .exact Ln.least hG.lR.1 y (by simp only[Ln.T.items];exact aBm _ (hpm.mem_iff.1 hy))
def lS(w:World)(F:Nat->Prop)(v:Value)(l:List It):Prop:=∃f B,mU w B v (aG f l.length)/\hZ f l.length/\(aG f l.length).Perm l/\(∀x∈l,iR x=true)/\DT w F v
def lS.dG(h:lS w F v l)(hc:bF w w' F F'):lS w' F' v l:=by
 obtain⟨f,B,ho,hG,hp,hk,hf⟩:=h;exact⟨f,B,Pk ho hc hf,hG,hp,hk,hf.dG hc⟩
def lS.below(h:lS w F v l)(hb:Below w.heap.size w w'):lS w' F v l:=by
 obtain⟨f,B,ho,hG,hp,hk,hf⟩:=h;exact⟨f,B,ho.below hb,hG,hp,hk,hf.below hb⟩
def Q3(SB:n<=60)(h:∀i,i<n->iR (f i)=true):aH n f=0:=by
 unfold aH;rw[if_neg BYO,if_pos (vM.2 h)]
def LA{f:Nat->α}{x:α}:x∈aG f n↔∃i,i<n/\f i=x:=by
 simp[aG]
def Uy{A:Option Addr}{c:Nat}(hr:aE cB 2 w A n f)(he:aH n f=0)(hF:∀g,F g->g<w.heap.size):
  Calls tz 6 #[.slice A n c] w (eT λr w'=>Below w.heap.size w w'/\∃v',r=.tuple #[v',.nilIface]/\lS w' F v' (aG f n)):=by
 refine(P9 A n c f w hr).mono λe w' h=>?_;cases e<;>first|exact h.elim|skip
 obtain⟨hB,_,h2⟩:=h;obtain⟨v',rfl,ho⟩:=h2 he;have hmp:=QY (n:=n) f;rw[nv,nv]at hmp;have hl:(aG f n).length=n:=aF _ _;refine⟨hB,v',rfl,oG n (n/2) f,w.heap.size,by rw[hl];exact ho,by rw[hl];exact QZ f,by rw[hl];exact hmp,λx hx=>?_,HL ho hF⟩;obtain⟨i,hi,rfl⟩:=LA.1 hx;exact sY he i hi
def Q4(h:lS w F v l)(hl:l≠[])(SB:l.length<=60)(hF:∀g,F g->g<w.heap.size):
  Calls tz 13 #[v] w (eT λr w'=>Below w.heap.size w w'/\∃x v' l',r=.tuple #[mV x,v',.nilIface]/\l.Perm (x::l')/\(∀y∈l',x.1<=y.1)/\lS w' F v' l'):=by
 obtain⟨f,B,ho,hH,hp,hk,hf⟩:=h;have nA:0<l.length:=aC8.2 hl;obtain⟨A,c,rfl,_⟩:=ho.form;obtain⟨_,_,hr⟩:=bT.bK bN ho;rw[aF]at hr⊢;replace hr:aE cB 2 w A l.length f:=hr.congr λi hi=>(kU _ hi).symm;have bY:∀i,i<l.length->iR (f i)=true:=λi hi=>hk _ (hp.mem_iff.1 (LA.2 ⟨i,hi,rfl⟩));refine(nu A l.length c f w hr).mono λe w' h=>?_;cases e<;>first|exact h.elim|skip
 obtain⟨hB,_,_,h2⟩:=h;obtain⟨v',rfl,lJ⟩:=h2 (VD.2 ⟨Q3 SB bY,hH⟩) BYO;have hpp:=Uv f nA;have hlen:(aG (Km l.length f) (l.length-1)).length=l.length-1:=aF _ _;refine⟨hB,f 0,v',aG (Km l.length f) (l.length-1),rfl,hp.symm.trans hpp.symm,λy hy=>?_,Km l.length f,w.heap.size,by rw[hlen];exact lJ,by rw[hlen];exact Uw hH,by rw[hlen],λx hx=>?_,HL lJ hF⟩
 .obtain⟨j,hj,rfl⟩:=LA.1 (hpp.mem_iff.1 (aBm _ hy));exact sX hH j hj
 .exact hk x (hp.mem_iff.1 (hpp.mem_iff.1 (aBm _ hx)))
end
end Rk
