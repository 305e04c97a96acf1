/- Part of the proof of TopSorts. -/
import Derived.Test.YthdiheblgmddhaaGreatDoorQ09
set_option linter.all false
set_option maxHeartbeats 8000000
namespace Rk
open Go Go.RowKit Go.Proofs
variable{a b ts l:List jT}{g c:Nat}{w w':World}{F F':Nat->Prop}{A:Option Addr}{r:Int}
def aBV:Ty tz 152 false 1 8 (.pointer none):=aLt BYK (λ_=>BYK) rfl
def Q8:tz.underlying 153=some (.slice 152):=BYK
section
variable{E:Env}{t:TypeId}{x y:Operand}{bk o n j:Nat}
def aRH(hx:aM E x=some (.slice A n c):=by with_unfolding_all exact rfl){rt:TypeId}:aA tz (.call {callee:=.builtin .len,args:= #[x],argTypes:= #[153]}) rt E w (.int .i64 n) w:=aL3 Q8 hx
def aQG(hx:aM E x=some (.slice (some ⟨bk,o,none⟩) n c):=by with_unfolding_all exact rfl)(hi:aM E y=some (.int .i64 (j:Int)):=by with_unfolding_all exact rfl)(hn:j<n:=by omega):
  aA tz (.indexAddr 153 x y) t E w (.pointer (some ⟨bk,o+j*1,none⟩)) w:=aA.indexAddr Q8 aBV.size hx hi BYO BYO
section
variable{ops:Array Oper}{K:Env->World->Prop}{N d_:Nat}{rest:List Oper}{pos:String}{after:Array Edge}{C:World->Prop}{R:Env->Prop}
end
end
section
variable{ops:Array Oper}{K:Env->World->Prop}{R:Env->Prop}{N:Nat}{E:Env}{rest:List Oper}{t:TypeId}{pos:String}{after:Array Edge}{d:Nat}{x:Operand}{j:Nat}{te:TypeId}{cs:List Value}{u:Value}
end
attribute [local irreducible] aA jH OpC WL QL WC WX OL RL TL TM
abbrev TSL:TypeId:=32
abbrev Bz(w:World)(B:Nat)(v:Value)(l:List jT):Prop:=bT gG 2 88 w B v l
def TF(ts:List jT):Nat->Prop:=λg=>∃t∈ts,∃p,t.2.1.1=some p/\0<t.2.2.length/\p.block=g
def TF.app(h:TF (a++b) g):TF a g\/TF b g:=by
 obtain⟨t,ht,r⟩:=h;rcases aBR.1 ht with ht|ht
 .exact .inl ⟨t,ht,r⟩
 .exact .inr ⟨t,ht,r⟩
def TF.sub(h:TF a g)(hs:∀t∈a,t∈b):TF b g:=by
 obtain⟨t,ht,r⟩:=h;exact⟨t,hs t ht,r⟩
def nJ.tf(h:nJ w ts):∀g,TF ts g->g<w.heap.size:=by
 rintro g ⟨t,ht,p,hp,h0,rfl⟩;exact h.lt t ht p hp h0
def nJ.dG(h:nJ w ts)(hc:bF w w' F F')(ha:Apart F (TF ts)):nJ w' ts:=λt ht=>⟨λh0=>by
 obtain⟨b,o,e,_⟩:=(h t ht).1 h0;exact(h t ht).1.dG hc (λp hp hf=>ha _ hf ⟨t,ht,p,hp,h0,rfl⟩) h0,(h t ht).2⟩
structure MI(w wr:World)(ga gb:Nat)(al bs hs os:List jT)(hv ov:Value):Prop where
 ia:∃A c,Bk wr ga TSL [.slice A al.length c]/\aE gG 2 w A al.length (lf al)/\al.length<=c
 ib:∃A c,Bk wr gb TSL [.slice A bs.length c]/\aE gG 2 w A bs.length (lf bs)/\bs.length<=c
 oa:nJ w al
 ob:nJ w bs
 ok:nJ wr (hs++os)
 ho:Bz wr w.heap.size hv hs
 oo:Bz wr w.heap.size ov os
 h1:∀g,pK hv g->gb<g/\g<wr.heap.size
 o1:∀g,pK ov g->gb<g/\g<wr.heap.size
 ap:Apart (pK hv) (pK ov)
 ht:Apart (pK hv) (TF (hs++os))
 ot:Apart (pK ov) (TF (hs++os))
 ta:∀g,TF (hs++os) g->g<w.heap.size\/gb<g
 below:Below w.heap.size w wr
 Ks:w.heap.size<=ga
 Po:ga<gb
section
variable{wr:World}{ga gb:Nat}{al bs hs os:List jT}{hv ov v':Value}{row:Option Nat}{t:jT}
def MI.qX(h:MI w wr ga gb al bs hs os hv ov)(hB:Below wr.heap.size wr w'):MI w w' ga gb al bs hs os hv ov:=by
 obtain⟨⟨A,c,a1,a2,a3⟩,⟨A',c',b1,b2,b3⟩,oa,ob,ok,ho,oo,h1,o1,ap,ht,ot,ta,below,Ks,Po⟩:=h;exact⟨⟨A,c,a1.below hB,a2,a3⟩,⟨A',c',b1.below hB,b2,b3⟩,oa,ob,ok.below hB,ho.below hB,oo.below hB,λg hg=>⟨(h1 g hg).1,aAx (h1 g hg).2 hB.size⟩,
  λg hg=>⟨(o1 g hg).1,aAx (o1 g hg).2 hB.size⟩,ap,ht,ot,ta,below.tr hB,Ks,Po⟩
def Pp{v v':Value}{row:Option Nat}(hg:w.grownBy w' row)(eE:row=none\/row=v.ownBlock)(XO:v'.ownBlock=v.ownBlock\/v'.ownBlock=some w.heap.size)(hl:∀g,v'.ownBlock=some g->g<w'.heap.size):bF w w' (pK v) (pK v'):=
 bF.grown hg eE λg uA=>⟨by
  rcases XO with e|e
  .exact .inl (e▸uA)
  .rw[e]at uA;injection uA with uA;exact .inr BYO,hl g uA⟩
def Pq{gb:Nat}(hc:bF w w' F F')(h1:∀g,F g->gb<g/\g<w.heap.size)(hb:gb<w.heap.size):∀g,F' g->gb<g/\g<w'.heap.size:=λg hg=>by
 obtain⟨h2,h3⟩:=hc.next g hg;refine⟨?_,h3⟩;rcases h2 with h2|h2
 .exact(h1 g h2).1
 .omega
def MI.aFf(h:MI w wr ga gb al bs hs os hv ov)(CC:nJ w [t])(hg:wr.grownBy w' row)(eE:row=none\/row=hv.ownBlock)(XO:v'.ownBlock=hv.ownBlock\/v'.ownBlock=some wr.heap.size)(lJ:Bz w' w.heap.size v' (hs++[t])):
  MI w w' ga gb al bs (hs++[t]) os v' ov:=by
 have hl:∀g,v'.ownBlock=some g->g<w'.heap.size:=λg uA=>(lJ.rO BYS g uA).1;have hc:=Pp hg eE XO hl;obtain⟨⟨A,c,a1,a2,a3⟩,⟨A',c',b1,b2,b3⟩,oa,ob,ok,ho,oo,h1,o1,ap,ht,ot,ta,below,Ks,Po⟩:=h;have Wp:=b1.lt;have hga:=a1.lt;have XK:=Pq hc h1 Wp;have htf:=ok.tf;have NL:Below w.heap.size w w':=hc.below below (λg hg=>by have:=(h1 g hg).1;omega);have iD:∀g,TF ((hs++[t])++os) g->TF (hs++os) g\/TF [t] g:=λg hg=>by
  rcases TF.app hg with hg|hg
  .rcases TF.app hg with hg|hg
   .exact .inl (hg.sub λt ht=>aBR.2 (.inl ht))
   .exact .inr hg
  .exact .inl (hg.sub λt ht=>aBR.2 (.inr ht))
 have htw:=CC.tf;refine⟨⟨A,c,a1.dG hc (λhf=>by have:=(h1 _ hf).1;omega),a2,a3⟩,⟨A',c',b1.dG hc (λhf=>by have:=(h1 _ hf).1;omega),b2,b3⟩,oa,ob,?_,lJ,oo.dG hc ap (λg hg=>(o1 g hg).2),XK,λg hg=>⟨(o1 g hg).1,aAx (o1 g hg).2 hc.size⟩,
  hc.apart ap (λg hg=>(o1 g hg).2),λg hf hT=>?_,λg hf hT=>?_,λg hT=>?_,NL,Ks,Po⟩
 .have k1:=ok.dG hc ht;refine nJ.app (nJ.app (k1.sub λt ht=>aBR.2 (.inl ht)) (CC.below NL)) (k1.sub λt ht=>aBR.2 (.inr ht))
 .rcases iD g hT with hT|hT
  .exact hc.apart ht htf g hf hT
  .have:=htw g hT;have:=(XK g hf).1;omega
 .rcases iD g hT with hT|hT
  .exact ot g hf hT
  .have:=htw g hT;have:=(o1 g hf).1;omega
 .rcases iD g hT with hT|hT
  .exact ta g hT
  .exact .inl (htw g hT)
def MI.aFg(h:MI w wr ga gb al bs hs os hv ov)(hm:t∈hs)(hg:wr.grownBy w' row)(eE:row=none\/row=ov.ownBlock)(XO:v'.ownBlock=ov.ownBlock\/v'.ownBlock=some wr.heap.size)(lJ:Bz w' w.heap.size v' (os++[t])):
  MI w w' ga gb al bs hs (os++[t]) hv v':=by
 have hl:∀g,v'.ownBlock=some g->g<w'.heap.size:=λg uA=>(lJ.rO BYS g uA).1;have hc:=Pp hg eE XO hl;obtain⟨⟨A,c,a1,a2,a3⟩,⟨A',c',b1,b2,b3⟩,oa,ob,ok,ho,oo,h1,o1,ap,ht,ot,ta,below,Ks,Po⟩:=h;have Wp:=b1.lt;have XK:=Pq hc o1 Wp;have htf:=ok.tf;have NL:Below w.heap.size w w':=hc.below below (λg hg=>by have:=(o1 g hg).1;omega);have uG:∀u∈hs++(os++[t]),u∈hs++os:=λu hu=>by
  rcases aBR.1 hu with hu|hu
  .exact aBR.2 (.inl hu)
  .rcases aBR.1 hu with hu|hu
   .exact aBR.2 (.inr hu)
   .simp at hu;subst hu;exact aBR.2 (.inl hm)
 exact⟨⟨A,c,a1.dG hc (λhf=>by have:=(o1 _ hf).1;omega),a2,a3⟩,⟨A',c',b1.dG hc (λhf=>by have:=(o1 _ hf).1;omega),b2,b3⟩,oa,ob,(ok.dG hc ot).sub uG,ho.dG hc ap.symm (λg hg=>(h1 g hg).2),lJ,λg hg=>⟨(h1 g hg).1,aAx (h1 g hg).2 hc.size⟩,XK,
  (hc.apart ap.symm (λg hg=>(h1 g hg).2)).symm,λg hf hT=>ht g hf (hT.sub uG),λg hf hT=>hc.apart ot htf g hf (hT.sub uG),λg hT=>ta g (hT.sub uG),NL,Ks,Po⟩
def MI.aK1{al':List jT}(h:MI w wr ga gb al bs hs os hv ov)(hg:wr.grownBy w' (some ga))(hk:Bk w' ga TSL [.slice A al'.length c])(hr:aE gG 2 w A al'.length (lf al'))(Ee:al'.length<=c)(MO:∀t∈al',t∈al):MI w w' ga gb al' bs hs os hv ov:=by
 obtain⟨⟨A1,c1,a1,a2,a3⟩,⟨A',c',b1,b2,b3⟩,oa,ob,ok,ho,oo,h1,o1,ap,ht,ot,ta,below,Ks,Po⟩:=h;have hc:bF wr w' (one ga) (one ga):=bF.one hg a1.lt;have NL:Below w.heap.size w w':=hc.below below (λg hg=>by cases hg;exact Ks);exact⟨⟨A,c,hk,hr,Ee⟩,⟨A',c',b1.dG hc (λhf=>by cases hf;omega),b2,b3⟩,oa.sub MO,ob,ok.dG hc (λg hf hT=>by cases hf;have:=ta _ hT;omega),ho.dG hc (λg hf hT=>by cases hf;have:=(h1 _ hT).1;omega) (λg hg=>(h1 g hg).2),
  oo.dG hc (λg hf hT=>by cases hf;have:=(o1 _ hT).1;omega) (λg hg=>(o1 g hg).2),λg hg=>⟨(h1 g hg).1,aAx (h1 g hg).2 hc.size⟩,λg hg=>⟨(o1 g hg).1,aAx (o1 g hg).2 hc.size⟩,ap,ht,ot,ta,NL,Ks,Po⟩
def MI.aK2{bs':List jT}(h:MI w wr ga gb al bs hs os hv ov)(hg:wr.grownBy w' (some gb))(hk:Bk w' gb TSL [.slice A bs'.length c])(hr:aE gG 2 w A bs'.length (lf bs'))(Ee:bs'.length<=c)(MO:∀t∈bs',t∈bs):MI w w' ga gb al bs' hs os hv ov:=by
 obtain⟨⟨A1,c1,a1,a2,a3⟩,⟨A',c',b1,b2,b3⟩,oa,ob,ok,ho,oo,h1,o1,ap,ht,ot,ta,below,Ks,Po⟩:=h;have hc:bF wr w' (one gb) (one gb):=bF.one hg b1.lt;have NL:Below w.heap.size w w':=hc.below below (λg hg=>by cases hg;omega);exact⟨⟨A1,c1,a1.dG hc (λhf=>by cases hf;omega),a2,a3⟩,⟨A,c,hk,hr,Ee⟩,oa,ob.sub MO,ok.dG hc (λg hf hT=>by cases hf;have:=ta _ hT;omega),ho.dG hc (λg hf hT=>by cases hf;have:=(h1 _ hT).1;omega) (λg hg=>(h1 g hg).2),
  oo.dG hc (λg hf hT=>by cases hf;have:=(o1 _ hT).1;omega) (λg hg=>(o1 g hg).2),λg hg=>⟨(h1 g hg).1,aAx (h1 g hg).2 hc.size⟩,λg hg=>⟨(o1 g hg).1,aAx (o1 g hg).2 hc.size⟩,ap,ht,ot,ta,NL,Ks,Po⟩
def MI.Q9(h:MI w wr ga gb al bs hs os hv ov):MI w wr ga gb al bs [] os (.slice none 0 0) ov:=by
 obtain⟨ia,ib,oa,ob,ok,ho,oo,h1,o1,ap,ht,ot,ta,below,Ks,Po⟩:=h;have uG:∀u∈[]++os,u∈hs++os:=λu hu=>aBR.2 (.inr hu);exact⟨ia,ib,oa,ob,ok.sub uG,bT.nil _ _ _ _ _ _,oo,λg hg=>(by cases hg),o1,λg hg _=>(by cases hg),λg hg _=>(by cases hg),λg hf hT=>ot g hf (hT.sub uG),λg hT=>ta g (hT.sub uG),below,Ks,Po⟩
def MI.carry(h:MI w wr ga gb al bs hs os hv ov)(hg:wr.grownBy w' none)(hz:w'.heap.size=wr.heap.size+1)(CC:nJ wr [t])(hta:∀g,TF [t] g->gb<g)(hot:Apart (pK ov) (TF [t]))(lJ:Bz w' w.heap.size (.slice (some ⟨wr.heap.size,0,none⟩) 1 1) [t]):
  MI w w' ga gb al bs [t] os (.slice (some ⟨wr.heap.size,0,none⟩) 1 1) ov:=by
 have hB:=aC hg;have h':=h.Q9.qX hB;have htf:=h.ok.tf;have htt:=CC.tf;have Wp:=h.ib;obtain⟨ia,ib,oa,ob,ok,ho,oo,h1,o1,ap,ht,ot,ta,below,Ks,Po⟩:=h';obtain⟨_,_,b1,_⟩:=Wp;have aBs:=b1.lt;have pX:∀g,pK (.slice (some ⟨wr.heap.size,0,none⟩) 1 1) g->g=wr.heap.size:=λg hg=>by
  have:(Value.slice (some ⟨wr.heap.size,0,none⟩) 1 1).ownBlock=some g:=hg;simp[Value.ownBlock]at this;omega
 refine⟨ia,ib,oa,ob,nJ.app (CC.below hB) (ok.sub λu hu=>aBR.2 (.inr hu)),lJ,oo,λg hg=>by have:=pX g hg;omega,o1,λg hf ho=>by have:=pX g hf;have:=h.o1 g ho;omega,λg hf hT=>?_,λg hf hT=>?_,λg hT=>?_,below,Ks,Po⟩
 .have e:=pX g hf;rcases TF.app hT with hT|hT
  .have:=htt g hT;omega
  .have:=htf g (hT.sub λu hu=>aBR.2 (.inr hu));omega
 .rcases TF.app hT with hT|hT
  .exact hot g hf hT
  .exact ot g hf (hT.sub λu hu=>aBR.2 (.inr hu))
 .rcases TF.app hT with hT|hT
  .exact .inr (hta g hT)
  .exact ta g (hT.sub λu hu=>aBR.2 (.inr hu))
end
def aFh(r:Nat)(cs:List Bn.BT):Prop:=cs=[]\/∃t,cs=[t]/\Bn.GT t/\t.1=r/\(r:Int)<=6
def aBW(al bs:List jT)(w:World)(v:Value)(w':World):Prop:=∃A c os,v=.slice A os.length c/\aE gG 2 w' A os.length (lf os)/\nJ w' os/\os.map bt=Bn.mK 8 0 (al.map bt) (bs.map bt) []/\Below w.heap.size w w'
def aE.yh{t:jT}(h:aE gG 2 w A (t::l).length (lf (t::l)))(hc:(t::l).length<=c):aE gG 2 w (if c=1 then A else A.map (·.add (1*2))) l.length (lf l):=by
 rw[aBJ]at h hc;exact(h.cut (l:=1) (m:=l.length) BYO hc).congr λi _=>by rw[aG2];rfl
def Ca{t:jT}(h:t.1=r):Bn.fst r ((t::l).map bt)=[bt t]/\Bn.rest r ((t::l).map bt)=l.map bt:=by
 constructor
 .simp only[aC9,Bn.fst];rw[if_pos (show(bt t).1=r from h)]
 .simp only[aC9,Bn.rest];rw[if_pos (show(bt t).1=r from h)]
def Pr{t:jT}(h:¬t.1=r):Bn.fst r ((t::l).map bt)=[]/\Bn.rest r ((t::l).map bt)=(t::l).map bt:=by
 constructor
 .simp only[aC9,Bn.fst];rw[if_neg (show¬(bt t).1=r from h)]
 .simp only[aC9,Bn.rest];rw[if_neg (show¬(bt t).1=r from h)]
def Ps{l:List Bn.BT}(h:Bn.xH 5 r l)(h0:0<=r):l.length<=6:=by
 have h1:=Bn.RG (last:= -1) (h.weaken h0) BYO;have h2:=Bn.RF h1 BYO;omega
def aBX{t:Bn.BT}{r:Nat}(h:Bn.GT t/\t.1=r)(hr:r<=6):0<t.2.length/\t.2.length<=100:=by
 have h1:=h.1.len;have h2:(2:Nat) ^ t.1.toNat<=2 ^ 6:=aDm BYO BYO;have h3:=h.1.ne;omega
def RH(A B:Option Addr)(ca cb:Nat)(al bs:List jT)(w:World)(WS:aE gG 2 w A al.length (lf al))(zS:aE gG 2 w B bs.length (lf bs))(ON:al.length<=ca)(Qq:bs.length<=cb)(zR:nJ w al)(yY:nJ w bs)
  (hAa:Bn.xH 5 0 (al.map bt))(hAb:Bn.xH 5 0 (bs.map bt)):Calls tz 45 #[.slice A al.length ca,.slice B bs.length cb] w (eT (aBW al bs w)):=by
 refine aI I7 rfl Tryz.ntmps45 rfl ?_;refine aZ λK hK=>?_;refine aM3 rfl rfl λw1 fQ HT mP=>?_;have cA:=aC fQ;replace HT:Bk w1 w.heap.size TSL [.slice A al.length ca]:=HT;refine aB ?_;refine aM3 rfl rfl λw2 eB uQ qO=>?_;have bM:=aC eB;replace uQ:Bk w2 w1.heap.size TSL [.slice B bs.length cb]:=uQ;refine aB ?_;refine aPU (λ(r:Nat) (ab:List jT×List jT) (cv:Value×List jT) (ov:Value×List jT)=>[(2,.pointer (some ⟨w.heap.size,0,none⟩)),(3,.pointer (some ⟨w1.heap.size,0,none⟩)),(5,ov.1),(6,cv.1),(7,.int .i64 r)])
  (λr ab cv ov q wr=>q=8-r/\r<=8/\MI w wr w.heap.size w1.heap.size ab.1 ab.2 cv.2 ov.2 cv.1 ov.1/\Bn.xH 5 r (ab.1.map bt)/\Bn.xH 5 r (ab.2.map bt)/\aFh r (cv.2.map bt)/\
   Bn.mK 8 0 (al.map bt) (bs.map bt) []=ov.2.map bt++Bn.mK (8-r) r (ab.1.map bt) (ab.2.map bt) (cv.2.map bt)/\ov.2.length<=r) 8 0 (al,bs) (.slice none 0 0,[]) (.slice none 0 0,[])
  ⟨rfl,BYO,⟨⟨A,ca,HT.below bM,WS,ON⟩,⟨B,cb,uQ,zS,Qq⟩,zR,yY,nJ.nil _,bT.nil _ _ _ _ _ _,bT.nil _ _ _ _ _ _,λg hg=>(by cases hg),λg hg=>(by cases hg),λg hg _=>(by cases hg),λg hg _=>(by cases hg),λg hg _=>(by cases hg),
   λg hg=>(by obtain⟨t,ht,_⟩:=hg;cases ht),cA.tr bM,aAB _,BYO⟩,hAa,hAb,.inl rfl,rfl,aAB 0⟩ aJA ?_
 rintro r ⟨xs,ys⟩ ⟨cv,cs⟩ ⟨ov,os⟩ q wr ⟨rfl,gp,hM,hax,Fj,Mi,aCt,oP⟩;dsimp only at hM hax Fj Mi aCt oP⊢;have hlx:=Ps hax BYO;have hly:=Ps Fj BYO;rw[aCN]at hlx hly;have hlc:cs.length<=1:=by
  rcases Mi with h|⟨_,h,_⟩
  .have:=congrArg List.length h;simp only[aCN,aBv]at this;omega
  .have:=congrArg List.length h;simp only[aCN,aHu]at this;omega
 obtain⟨Ax,cx,uu,bu,gm⟩:=hM.ia;obtain⟨Ay,cy,hky,hry,hcy⟩:=hM.ib;obtain⟨Ac,cc,rfl,Y6⟩:=hM.ho.form;refine aZ λK hK=>?_;refine aLP (aLN RB (g:=w.heap.size) (j:=0) (u:=.slice Ax xs.length cx)) ?_;refine Gp ?_;refine aLP (aLN RB (g:=w1.heap.size) (j:=0) (u:=.slice Ay ys.length cy)) ?_;refine Gp ?_;refine aJ6 rfl (λh=>?_) (λh=>?_)
 .have Fi:r<=6:=by
   rcases aCD 6 r with h7|h7
   .have e1:=congrArg List.length (hax.none BYO);have e2:=congrArg List.length (Fj.none BYO);simp only[aCN,aBv]at e1 e2;rcases Mi with e3|⟨_,_,_,_,e3⟩
    .have e3:=congrArg List.length e3;simp only[aCN,aBv]at e3;omega
    .omega
   .exact h7
  have cQ:¬(xs.map bt).length+(ys.map bt).length+(cs.map bt).length=0:=by simp only[aCN];omega
  have GJ:Bn.mK 8 0 (al.map bt) (bs.map bt) []=os.map bt++(Bn.uD (cs.map bt++Bn.fst r (xs.map bt)++Bn.fst r (ys.map bt))++Bn.mK (8-(r+1)) ((r:Int)+1) (Bn.rest r (xs.map bt)) (Bn.rest r (ys.map bt)) (Bn.rU (cs.map bt++Bn.fst r (xs.map bt)++Bn.fst r (ys.map bt)))):=by
   rw[aCt,show 8-r=(8-(r+1))+1 from by omega];simp only[Bn.mK];rw[if_neg cQ]
  obtain⟨ax1,_,ax3⟩:=Bn.BH hax;obtain⟨ay1,_,ay3⟩:=Bn.BH Fj;have Qr:cs.map bt=[]\/∃t,cs.map bt=[t]/\Bn.GT t/\t.1=r:=Mi.imp id λ⟨t,x,y,z,_⟩=>⟨t,x,y,z⟩;have b6:((r+1:Nat):Int)=(r:Int)+1:=BYO;rw[<-b6]at ax1 ay1 GJ;obtain⟨_,so2,_⟩:=Bn.Pl Qr ax3 ay3;have fM:∀t∈cs.map bt++Bn.fst r (xs.map bt)++Bn.fst r (ys.map bt),Bn.GT t/\t.1=r:=by
   have h1:∀{l:List Bn.BT},(l=[]\/∃t,l=[t]/\Bn.GT t/\t.1=r)->∀t∈l,Bn.GT t/\t.1=r:=by
    rintro l (rfl|⟨u,rfl,hu⟩) t ht
    .cases ht
    .simp at ht;subst ht;exact hu
   intro t ht;rcases aBR.1 ht with ht|ht
   .rcases aBR.1 ht with ht|ht
    .exact h1 Qr t ht
    .exact h1 ax3 t ht
   .exact h1 ay3 t ht
  have da:aFh (r+1) (Bn.rU (cs.map bt++Bn.fst r (xs.map bt)++Bn.fst r (ys.map bt))):=by
   rcases so2 with e|⟨t,e,g,er,hnn⟩
   .exact .inl e
   .refine .inr ⟨t,e,g,by rw[er];omega,?_⟩;have zM:(r:Int)<=5:=by
     rcases hnn with hh|hh
     .cases xs with
      |nil=>exact absurd rfl hh
      |cons t l=>have:=hax.1;have:=hax.2.1;omega
     .cases ys with
      |nil=>exact absurd rfl hh
      |cons t l=>have:=Fj.1;have:=Fj.2.1;omega
    omega
  have aSf:=uu.lt;have aQi:=hky.lt;clear uu hky bu hry gm hcy h;refine aZ λK hK=>?_;refine WL.lit (xs:=[.tmp 2,.tmp 3]) (vs:=[.pointer (some ⟨w.heap.size,0,none⟩),.pointer (some ⟨w1.heap.size,0,none⟩)]) Q8 aBV rfl rfl (by simp[Value.cells]) rfl rfl BYO λw3 iE Ek EL=>?_;replace Ek:Bk w3 wr.heap.size 152 [.pointer (some ⟨w.heap.size,0,none⟩),.pointer (some ⟨w1.heap.size,0,none⟩)]:=Ek;have hM3:=hM.qX (aC iE);refine Zk ?_;refine aPT (λ(k:Nat) (ab:List jT×List jT) (hv:Value×List jT)=>[(2,.pointer (some ⟨w.heap.size,0,none⟩)),(3,.pointer (some ⟨w1.heap.size,0,none⟩)),(5,ov),(6,.slice none 0 0),(7,.int .i64 r),(8,hv.1),(23,.slice (some ⟨wr.heap.size,0,none⟩) 2 2),(24,.int .i64 (2:Nat)),(25,.int .i64 k)])
   (λk ab hv q wi=>q=2-k/\MI w wi w.heap.size w1.heap.size ab.1 ab.2 hv.2 os hv.1 ov/\Bk wi wr.heap.size 152 [.pointer (some ⟨w.heap.size,0,none⟩),.pointer (some ⟨w1.heap.size,0,none⟩)]/\(∀g,pK hv.1 g->g≠wr.heap.size)/\hv.2.length<=1+k/\
    ((k=0/\ab.1=xs/\ab.2=ys/\hv.2=cs)\/(k=1/\ab.1.map bt=Bn.rest r (xs.map bt)/\ab.2=ys/\hv.2.map bt=cs.map bt++Bn.fst r (xs.map bt))\/
     (k=2/\ab.1.map bt=Bn.rest r (xs.map bt)/\ab.2.map bt=Bn.rest r (ys.map bt)/\hv.2.map bt=cs.map bt++Bn.fst r (xs.map bt)++Bn.fst r (ys.map bt)))) 2 0 (xs,ys) (.slice Ac cs.length cc,cs)
   ⟨rfl,hM3,Ek,λg hg e=>by have:=(hM.h1 g hg).2;omega,BYO,.inl ⟨rfl,rfl,rfl,rfl⟩⟩ aJA ?_
  rintro k ⟨Fv,Fz⟩ ⟨hv,hs⟩ q w4 ⟨rfl,hN,XB,WB,hhl,hph⟩;dsimp only at hN XB WB hhl hph⊢;rcases hph with⟨rfl,rfl,rfl,rfl⟩|⟨rfl,dw,rfl,hhs⟩|⟨rfl,dw,hyr,hhs⟩
  .obtain⟨Ax,cx,uu,bu,gm⟩:=hN.ia;have WJ:=bu.below hN.below;refine aB ?_;refine aJ6 rfl (λ_=>?_) (λh=>absurd BYD h);refine aTr λK hK=>?_;refine aLP (aLN aBV (g:=wr.heap.size) (j:=0+0*1) (u:=.pointer (some ⟨w.heap.size,0,none⟩))) ?_;refine aTc λK hK=>?_;refine aLP (aLN RB (g:=w.heap.size) (j:=0) (u:=.slice Ax Fv.length cx)) ?_;refine Gp ?_;rcases Fv with _|⟨t,xt⟩
   .rw[decide_eq_false (show¬(0:Int)<((([]:List jT).length:Nat):Int) by simp)];refine aB ?_;refine aJh rfl ?_;refine aB ?_;exact aMq 1 ([],Fz) (hv,hs) 1 BYO ⟨rfl,hN,XB,WB,(by show hs.length<=_;omega),.inr (.inl ⟨rfl,rfl,rfl,by simp[Bn.fst]⟩)⟩ aJA
   .have aIR:(t::xt).length=xt.length+1:=rfl;rw[decide_eq_true (show(0:Int)<(((t::xt).length:Nat):Int) by omega)];obtain⟨bx,ox,rfl,_⟩:=WJ.ne BYS;refine yI ?_;refine aLP (aLN RB (g:=w.heap.size) (j:=0) (u:=.slice (some ⟨bx,ox,none⟩) (t::xt).length cx)) ?_;refine Gw ?_;refine WL.step (aJC aN rfl (WJ.get (i:=0) BYS 0 (.int .i64 t.1) rfl)) rfl ?_;refine aB ?_;refine aJ6 rfl (λheq=>?_) (λaCz=>?_)
    .obtain⟨zO,HR⟩:=Ca (r:=r) (l:=xt) heq;refine aTc λK hK=>?_;refine aLP (aLN RB (g:=w.heap.size) (j:=0) (u:=.slice (some ⟨bx,ox,none⟩) (t::xt).length cx)) ?_;refine SQ ?_;refine WL.step (aL5 (cs:=gG t) fK rfl (dX _) (WJ.get (i:=0) BYS)) rfl ?_;refine WL.lit (xs:=[.tmp 49]) (vs:=[VF t]) iA fK rfl rfl (by simp[gG,Value.cells]) rfl rfl BYO λw5 fU SF zT=>?_;have gO:=aC fU;have zM:aE gG 2 w5 (some ⟨w4.heap.size,0,none⟩) 1 (λ_=>t):=SF.bK (enc:=gG) (k:=2) (f:=λ_=>t) 0 λi hi j u hu=>by
      obtain rfl:i=0:=BYO;simpa[gG,Value.cells] using hu
     have pY:=hN.qX gO;refine WL.append dX gU BYO iA fK rfl rfl rfl pY.ho zM BYO (by simp only[maxLen];omega) pY.below.size λv6 w6 row RZ gL CH Me ru=>?_;rw[show aG (λ_=>t) 1=[t] from rfl]at RZ;have ua:nJ w [t]:=hN.oa.sub λu hu=>by simp at hu;subst hu;exact aBw
     have xC:=pY.aFf ua gL CH ru RZ;have OU:∀q,row=some q->w1.heap.size<q/\q≠wr.heap.size:=λq hq=>by
      rcases CH with e|e
      .rw[e]at hq;cases hq
      .rw[e]at hq;exact⟨(hN.h1 q hq).1,WB q hq⟩
     have aCh:=(uu.below gO).keep gL (λe=>by have:=(OU _ e).1;omega);have aBl:=(XB.below gO).keep gL (λe=>(OU _ e).2 rfl);have aBr:∀q,pK v6 q->q≠wr.heap.size:=λq hq e=>by
      rcases ru with e2|e2
      .exact WB q (show hv.ownBlock=some q by rw[<-e2];exact hq) e
      .have gq:v6.ownBlock=some q:=hq;rw[e2]at gq;injection gq with gq;have:=XB.lt;have:=gO.size;omega
     refine aTc λK hK=>?_;refine aLP (aLN RB (g:=w.heap.size) (j:=0) (u:=.slice (some ⟨bx,ox,none⟩) (t::xt).length cx)) ?_;refine aB ?_;refine WL.step (aMi iA fK rfl rfl BYO BYT) rfl ?_;refine yI ?_;refine WL.store RB rfl rfl rfl (by simp[Value.cells,Value.oneCell']) aCh BYS λw7 uO hk7 hz7=>?_;have NO:=xC.aK1 (al':=xt) uO (A:=if cx=1 then some ⟨bx,ox,none⟩ else(some ⟨bx,ox,none⟩:Option Addr).map (λx:Addr=>x.add (1*2))) (c:=cx-1) hk7 (bu.yh gm) (by simp only[aBJ]at gm;omega) (λu hu=>aBm _ hu);have aCY:=aBl.keep uO BYT;refine aB ?_;exact aMq 1 (xt,Fz) (v6,hs++[t]) 1 BYO ⟨rfl,NO,aCY,aBr,by rw[aBh,aHu];omega,.inr (.inl ⟨rfl,HR.symm,rfl,by rw[aDp,zO];rfl⟩)⟩ aJA
    .obtain⟨zO,HR⟩:=Pr (r:=r) (l:=xt) aCz;refine aB ?_;exact aMq 1 (t::xt,Fz) (hv,hs) 1 BYO ⟨rfl,hN,XB,WB,(by show hs.length<=_;omega),.inr (.inl ⟨rfl,HR.symm,rfl,by rw[zO,aDD]⟩)⟩ aJA
  .obtain⟨Ax,cx,uu,bu,gm⟩:=hN.ib;have WJ:=bu.below hN.below;refine aB ?_;refine aJ6 rfl (λ_=>?_) (λh=>absurd BYD h);refine aTr λK hK=>?_;refine aLP (aLN aBV (g:=wr.heap.size) (j:=0+1*1) (u:=.pointer (some ⟨w1.heap.size,0,none⟩))) ?_;refine aTc λK hK=>?_;refine aLP (aLN RB (g:=w1.heap.size) (j:=0) (u:=.slice Ax Fz.length cx)) ?_;refine Gp ?_;rcases Fz with _|⟨t,xt⟩
   .rw[decide_eq_false (show¬(0:Int)<((([]:List jT).length:Nat):Int) by simp)];refine aB ?_;refine aJh rfl ?_;refine aB ?_;exact aMq 2 (Fv,[]) (hv,hs) 0 BYO ⟨rfl,hN,XB,WB,(by show hs.length<=_;omega),.inr (.inr ⟨rfl,dw,rfl,by simpa[Bn.fst] using hhs⟩)⟩ aJA
   .have aIR:(t::xt).length=xt.length+1:=rfl;rw[decide_eq_true (show(0:Int)<(((t::xt).length:Nat):Int) by omega)];obtain⟨bx,ox,rfl,_⟩:=WJ.ne BYS;refine yI ?_;refine aLP (aLN RB (g:=w1.heap.size) (j:=0) (u:=.slice (some ⟨bx,ox,none⟩) (t::xt).length cx)) ?_;refine Gw ?_;refine WL.step (aJC aN rfl (WJ.get (i:=0) BYS 0 (.int .i64 t.1) rfl)) rfl ?_;refine aB ?_;refine aJ6 rfl (λheq=>?_) (λaCz=>?_)
    .obtain⟨zO,HR⟩:=Ca (r:=r) (l:=xt) heq;refine aTc λK hK=>?_;refine aLP (aLN RB (g:=w1.heap.size) (j:=0) (u:=.slice (some ⟨bx,ox,none⟩) (t::xt).length cx)) ?_;refine SQ ?_;refine WL.step (aL5 (cs:=gG t) fK rfl (dX _) (WJ.get (i:=0) BYS)) rfl ?_;refine WL.lit (xs:=[.tmp 49]) (vs:=[VF t]) iA fK rfl rfl (by simp[gG,Value.cells]) rfl rfl BYO λw5 fU SF zT=>?_;have gO:=aC fU;have zM:aE gG 2 w5 (some ⟨w4.heap.size,0,none⟩) 1 (λ_=>t):=SF.bK (enc:=gG) (k:=2) (f:=λ_=>t) 0 λi hi j u hu=>by
      obtain rfl:i=0:=BYO;simpa[gG,Value.cells] using hu
     have pY:=hN.qX gO;refine WL.append dX gU BYO iA fK rfl rfl rfl pY.ho zM BYO (by simp only[maxLen];omega) pY.below.size λv6 w6 row RZ gL CH Me ru=>?_;rw[show aG (λ_=>t) 1=[t] from rfl]at RZ;have ua:nJ w [t]:=hN.ob.sub λu hu=>by simp at hu;subst hu;exact aBw
     have xC:=pY.aFf ua gL CH ru RZ;have OU:∀q,row=some q->w1.heap.size<q/\q≠wr.heap.size:=λq hq=>by
      rcases CH with e|e
      .rw[e]at hq;cases hq
      .rw[e]at hq;exact⟨(hN.h1 q hq).1,WB q hq⟩
     have aCh:=(uu.below gO).keep gL (λe=>by have:=(OU _ e).1;omega);have aBl:=(XB.below gO).keep gL (λe=>(OU _ e).2 rfl);have aBr:∀q,pK v6 q->q≠wr.heap.size:=λq hq e=>by
      rcases ru with e2|e2
      .exact WB q (show hv.ownBlock=some q by rw[<-e2];exact hq) e
      .have gq:v6.ownBlock=some q:=hq;rw[e2]at gq;injection gq with gq;have:=XB.lt;have:=gO.size;omega
     refine aTc λK hK=>?_;refine aLP (aLN RB (g:=w1.heap.size) (j:=0) (u:=.slice (some ⟨bx,ox,none⟩) (t::xt).length cx)) ?_;refine aB ?_;refine WL.step (aMi iA fK rfl rfl BYO BYT) rfl ?_;refine yI ?_;refine WL.store RB rfl rfl rfl (by simp[Value.cells,Value.oneCell']) aCh BYS λw7 uO hk7 hz7=>?_;have NO:=xC.aK2 (bs':=xt) uO (A:=if cx=1 then some ⟨bx,ox,none⟩ else(some ⟨bx,ox,none⟩:Option Addr).map (λx:Addr=>x.add (1*2))) (c:=cx-1) hk7 (bu.yh gm) (by simp only[aBJ]at gm;omega) (λu hu=>aBm _ hu);have aCY:=aBl.keep uO BYT;refine aB ?_;exact aMq 2 (Fv,xt) (v6,hs++[t]) 0 BYO ⟨rfl,NO,aCY,aBr,by rw[aBh,aHu];omega,.inr (.inr ⟨rfl,dw,HR.symm,by rw[aDp,hhs,zO];rfl⟩)⟩ aJA
    .obtain⟨zO,HR⟩:=Pr (r:=r) (l:=xt) aCz;refine aB ?_;exact aMq 2 (Fv,t::xt) (hv,hs) 0 BYO ⟨rfl,hN,XB,WB,(by show hs.length<=_;omega),.inr (.inr ⟨rfl,dw,HR.symm,by rw[zO,aDD];exact hhs⟩)⟩ aJA
  .refine aB ?_;refine aJ6 rfl (λh=>absurd h BYD) (λ_=>?_);rw[<-hhs]at GJ fM da;rw[<-dw]at GJ ax1;rw[<-hyr]at GJ ay1;obtain⟨Ah,ch,rfl,hch⟩:=hN.ho.form;obtain⟨_,_,dx⟩:=hN.ho.bK dX;have MX:∀t∈hs,(0<t.2.2.length/\t.2.2.length<=100)/\t.1=r:=λt ht=>⟨aBX (fM (bt t) (aER ht)) Fi,(fM (bt t) (aER ht)).2⟩;refine Gp ?_;rcases hs with _|⟨x,_|⟨y,_|⟨z,_|⟨u,hs⟩⟩⟩⟩
   .refine aJ6 rfl (λh=>absurd h BYS) (λ_=>?_);refine aB ?_;refine aJ6 rfl (λh=>absurd h BYS) (λ_=>?_);refine aB ?_;refine aJ6 rfl (λh=>absurd h BYS) (λ_=>?_);refine aB ?_;exact aMz (r+1) (Fv,Fz) (.slice none 0 0,[]) (ov,os) (8-(r+1)) BYO ⟨rfl,BYO,hN.Q9,ax1,ay1,.inl rfl,by simpa[Bn.uD,Bn.rU] using GJ,(by show os.length<=_;omega)⟩ aJA
   .refine aJ6 rfl (λ_=>?_) (λh=>absurd BYS h);obtain⟨bh,oh,rfl,_⟩:=dx.ne BYS;have aHl:0<[x].length:=BYS;refine aTs λK hK=>?_;refine WL.step (aL5 (cs:=gG x) fK rfl (dX _) (dx.get (i:=0) BYS)) rfl ?_;refine WL.lit (xs:=[.tmp 66]) (vs:=[VF x]) iA fK rfl rfl (by simp[gG,Value.cells]) rfl rfl BYO λw5 fU SF zT=>?_;have gO:=aC fU;have zM:aE gG 2 w5 (some ⟨w4.heap.size,0,none⟩) 1 (λ_=>x):=SF.bK (enc:=gG) (k:=2) (f:=λ_=>x) 0 λi hi j u hu=>by
     obtain rfl:i=0:=BYO;simpa[gG,Value.cells] using hu
    have pY:=hN.qX gO;refine WL.append dX gU BYO iA fK rfl rfl rfl pY.oo zM BYO (by simp only[maxLen];omega) pY.below.size λv6 w6 row RZ gL CH Me ru=>?_;rw[show aG (λ_=>x) 1=[x] from rfl]at RZ;have xC:=pY.aFg (t:=x) aBw gL CH ru RZ;refine aB ?_;exact aMz (r+1) (Fv,Fz) (.slice none 0 0,[]) (v6,os++[x]) (8-(r+1)) BYO ⟨rfl,BYO,xC.Q9,ax1,ay1,.inl rfl,by simpa[Bn.uD,Bn.rU] using GJ,by rw[aBh,aHu];omega⟩ aJA
   .refine aJ6 rfl (λh=>absurd h BYS) (λ_=>?_);refine aB ?_;refine aJ6 rfl (λ_=>?_) (λh=>absurd BYS h);have xC:=hN;have We:=dx;refine aB ?_;have aHh:[x,y].length=2:=rfl;obtain⟨bl,ol,rfl,_⟩:=We.ne BYS;refine WC.tm (λw'=>Below w4.heap.size w4 w') [] (.pure 0 (.pure 1 (.pure 3 (.pure 4 (.read 2 (.read 5 (.act 6 (.act 7 (.pure 8 .fin))))))))) mixed BYK rfl BYK (λw' hb _=>hb) λK hK w7 lD hh7=>?_;refine u7 ?_;refine RL.step (λw' dY=>aL5 (cs:=gG x) fK rfl (dX _) ((We.below dY).get (i:=0) BYS)) rfl ?_;refine u7 ?_;refine RL.step (λw' dY=>aL5 (cs:=gG y) fK rfl (dX _) ((We.below dY).get (i:=1) BYS)) rfl ?_;refine uU ?_;have NO:=xC.qX lD;have Xm:=MX x BYS;have hgy:=MX y BYS;have td:=NO.ok x BYS;have hoy:=NO.ok y BYS;refine TM.act rfl (aKQ J4 (By x y w7 td.1 hoy.1 Xm.1.1 hgy.1.1 Xm.1.2 hgy.1.2 td.2 hoy.2 BYO BYO) ?_);rintro v w8 ⟨t',rfl,XG,hrt,pX,hct,mN⟩;have cz:=NO.qX mN;refine WL.nil ⟨lD.tr mN,?_⟩;refine TM.act rfl (WL.lit (xs:=[.tmp 77]) (vs:=[VF t']) iA fK rfl rfl (by simp[gG,Value.cells]) rfl rfl BYO λw9 CI hk9 ba=>WL.nil ?_);refine⟨(lD.tr mN).tr (aC CI),?_⟩;obtain⟨_,_,aCV,_⟩:=NO.ib;have aL4:=aCV.lt;have Ej:∀g,TF [t'] g->w7.heap.size<=g:=λg hg=>by
     obtain⟨u,hu,p,hp,h0,rfl⟩:=hg;simp at hu;subst hu;exact pX p hp h0
    have hN9:=cz.carry (t:=t') CI ba (nJ.one hrt hct) (λg hg=>by have:=Ej g hg;omega) (λg hf hT=>by have:=Ej g hT;have:=(NO.o1 g hf).2;omega) (bT.lit (l:=[t']) dX hk9 cz.below.size (by simp[maxLen]) rfl);refine uU ?_;refine TM.fin (hK _ _ ?_);clear hK K;refine aB ?_;exact aMz (r+1) (Fv,Fz) (.slice (some ⟨w8.heap.size,0,none⟩) 1 1,[t']) (ov,os) (8-(r+1)) BYO ⟨rfl,BYO,hN9,ax1,ay1,by rw[show List.map bt [t']=[Bn.tV (bt x) (bt y)] from by rw[<-XG];rfl];exact da,by rw[show List.map bt [t']=[Bn.tV (bt x) (bt y)] from by rw[<-XG];rfl];simpa[Bn.uD,Bn.rU] using GJ,(by show os.length<=_;omega)⟩ aJA
   .refine aJ6 rfl (λh=>absurd h BYS) (λ_=>?_);refine aB ?_;refine aJ6 rfl (λh=>absurd h BYS) (λ_=>?_);refine aB ?_;refine aJ6 rfl (λ_=>?_) (λh=>absurd BYS h);obtain⟨bh,oh,rfl,_⟩:=dx.ne BYS;have aHl:0<[x,y,z].length:=BYS;refine aTs λK hK=>?_;refine WL.step (aL5 (cs:=gG x) fK rfl (dX _) (dx.get (i:=0) BYS)) rfl ?_;refine WL.lit (xs:=[.tmp 84]) (vs:=[VF x]) iA fK rfl rfl (by simp[gG,Value.cells]) rfl rfl BYO λw5 fU SF zT=>?_;have gO:=aC fU;have zM:aE gG 2 w5 (some ⟨w4.heap.size,0,none⟩) 1 (λ_=>x):=SF.bK (enc:=gG) (k:=2) (f:=λ_=>x) 0 λi hi j u hu=>by
     obtain rfl:i=0:=BYO;simpa[gG,Value.cells] using hu
    have pY:=hN.qX gO;refine WL.append dX gU BYO iA fK rfl rfl rfl pY.oo zM BYO (by simp only[maxLen];omega) pY.below.size λv6 w6 row RZ gL CH Me ru=>?_;rw[show aG (λ_=>x) 1=[x] from rfl]at RZ;have xC:=pY.aFg (t:=x) aBw gL CH ru RZ;refine aB ?_;have We:aE gG 2 w6 (some ⟨bh,oh,none⟩) [x,y,z].length (lf [x,y,z]):=(xC.ho.bK dX).2.2;refine aB ?_;have aHh:[x,y,z].length=3:=rfl
    skip
    refine WC.tm (λw'=>Below w6.heap.size w6 w') [] (.pure 0 (.pure 1 (.pure 3 (.pure 4 (.read 2 (.read 5 (.act 6 (.act 7 (.pure 8 .fin))))))))) mixed BYK rfl BYK (λw' hb _=>hb) λK hK w7 lD hh7=>?_;refine u9 ?_;refine RL.step (λw' dY=>aL5 (cs:=gG y) fK rfl (dX _) ((We.below dY).get (i:=1) BYS)) rfl ?_;refine u9 ?_;refine RL.step (λw' dY=>aL5 (cs:=gG z) fK rfl (dX _) ((We.below dY).get (i:=2) BYS)) rfl ?_;refine uU ?_;have NO:=xC.qX lD;have Xm:=MX y BYS;have hgy:=MX z BYS;have td:=NO.ok y BYS;have hoy:=NO.ok z BYS;refine TM.act rfl (aKQ J4 (By y z w7 td.1 hoy.1 Xm.1.1 hgy.1.1 Xm.1.2 hgy.1.2 td.2 hoy.2 BYO BYO) ?_);rintro v w8 ⟨t',rfl,XG,hrt,pX,hct,mN⟩;have cz:=NO.qX mN;refine WL.nil ⟨lD.tr mN,?_⟩;refine TM.act rfl (WL.lit (xs:=[.tmp 93]) (vs:=[VF t']) iA fK rfl rfl (by simp[gG,Value.cells]) rfl rfl BYO λw9 CI hk9 ba=>WL.nil ?_);refine⟨(lD.tr mN).tr (aC CI),?_⟩;obtain⟨_,_,aCV,_⟩:=NO.ib;have aL4:=aCV.lt;have Ej:∀g,TF [t'] g->w7.heap.size<=g:=λg hg=>by
     obtain⟨u,hu,p,hp,h0,rfl⟩:=hg;simp at hu;subst hu;exact pX p hp h0
    have hN9:=cz.carry (t:=t') CI ba (nJ.one hrt hct) (λg hg=>by have:=Ej g hg;omega) (λg hf hT=>by have:=Ej g hT;have:=(NO.o1 g hf).2;omega) (bT.lit (l:=[t']) dX hk9 cz.below.size (by simp[maxLen]) rfl);refine uU ?_;refine TM.fin (hK _ _ ?_);clear hK K;refine aB ?_;exact aMz (r+1) (Fv,Fz) (.slice (some ⟨w8.heap.size,0,none⟩) 1 1,[t']) (v6,os++[x]) (8-(r+1)) BYO ⟨rfl,BYO,hN9,ax1,ay1,by rw[show List.map bt [t']=[Bn.tV (bt y) (bt z)] from by rw[<-XG];rfl];exact da,by rw[show List.map bt [t']=[Bn.tV (bt y) (bt z)] from by rw[<-XG];rfl];simpa[Bn.uD,Bn.rU] using GJ,by rw[aBh,aHu];omega⟩ aJA
   .simp only[aBJ]at hhl;omega
 .have e1:xs=[]:=aCQ BYO;have e2:ys=[]:=aCQ BYO;have e3:cs=[]:=aCQ BYO;subst e1 e2 e3;obtain⟨Ao,co,rfl,_⟩:=hM.oo.form;obtain⟨_,_,hro⟩:=hM.oo.bK dX;refine aB ?_;refine aLV rfl rfl ⟨Ao,co,os,rfl,hro,hM.ok.sub λt ht=>aBR.2 (.inr ht),?_,hM.below⟩;rw[aCt];cases h8:8-r<;>simp[Bn.mK]
end Rk
namespace Rk.Bn
open Rk
variable{M:Int}
def aBY:∀{h:List BT} {last:Int},kF last h=0->nX h=0->h.all Kp=true->xH 5 (last+1) h:=by
 intro h;induction h with
 |nil=>intro _ _ _ _;trivial
 |cons t h ih=>
  intro last hs hi hh;have ha:=DV hs t aBw;simp only[kF]at hs;split at hs
  .cases hs
  .split at hs
   .cases hs
   .rename_i h1 h2;simp only[nX]at hi;split at hi
    .rename_i h3;exact absurd hi h3
    .rename_i h3;rw[aCR,aBg]at hh;refine⟨BYO,BYO,⟨ha.1,ha.2.2,hh.1,?_⟩,ih hs hi hh.2⟩;have h4:aH t.2.length (lf t.2)=0:=aD0 h3;unfold aH at h4;split at h4
     .cases h4
     .split at h4
      .rename_i h5;rw[dE,aCJ]at h5;exact h5
      .cases h4
def HG.of{h:List BT}(hb:jI h=0):HG h:=by
 unfold jI at hb;split at hb
 .rename_i h1;exact absurd hb h1
 .rename_i h1;split at hb
  .rename_i h2;exact absurd hb h2
  .rename_i h2;split at hb
   .cases hb
   .rename_i h3;split at hb
    .rename_i h4;exact⟨(aBY (aD0 h1) (aD0 h2) h4).weaken BYO,BYO⟩
    .cases hb
def kG:Nat->List It->List BT
 |0,_=>[]
 |k+1,l=>kG k (l.take 1++l.drop (1+2 ^ k))++[((k:Int),(l.drop 1).take (2 ^ k))]
def R2{r:Int}{h:List BT}{t:BT}(ha:xH M r h)(hl:∀u∈h,u.1<t.1)(ht:GT t)(h1:r<=t.1)(h2:t.1<=M):xH M r (h++[t]):=by
 induction h generalizing r with
 |nil=>exact⟨h1,h2,ht,trivial⟩
 |cons u h ih=>
  exact⟨ha.1,ha.2.1,ha.2.2.1,ih ha.2.2.2 (λv hv=>hl v (aBm _ hv)) (by have:=hl u aBw;omega)⟩
def R3:∀(k:Nat) (l:List It),k<=6->l.length=2 ^ k->tD k l=true->(∀x∈l,iR x=true)->xH 5 0 (kG k l)/\(∀u∈kG k l,u.1<k)/\(bH (kG k l)).Perm (l.drop 1):=by
 intro k;induction k with
 |zero=>
  intro l _ hl _ _;refine⟨trivial,λu hu=>(by cases hu),?_⟩;rw[aIo (by rw[hl];exact aAB _)];exact aBx _
 |succ k ih=>
  intro l hk hl hh bY;obtain⟨x,p,q,rfl,hp,hq⟩:=cut hl;rw[BG k x p q hp]at hh;simp only[aBg,decide_eq_true_eq]at hh;have e1:(x::(p++q)).take 1++(x::(p++q)).drop (1+2 ^ k)=x::q:=by
   rw[aG2,aGn,<-hp];simp
  have e2:((x::(p++q)).drop 1).take (2 ^ k)=p:=by rw[aGn,aF1,<-hp];simp
  obtain⟨h1,h2,h3⟩:=ih (x::q) BYO hq hh.2 (λy hy=>bY y (by
   rcases aBI.1 hy with rfl|hy
   .exact aBw
   .exact aBm _ (aBR.2 (.inr hy))))
  simp only[kG,e1,e2];refine⟨R2 h1 h2 ⟨BYO,by simpa using hp,by simpa using hh.1.2,λy hy=>bY y (aBm _ (aBR.2 (.inl hy)))⟩ BYO (by show(k:Int)<=5;omega),λu hu=>?_,?_⟩
  .rcases aBR.1 hu with hu|hu
   .have:=h2 u hu;omega
   .simp at hu;subst hu;show(k:Int)<((k+1:Nat):Int);omega
  .rw[tE];have e3:bH [((k:Int),p)]=p:=by simp[bH]
   rw[e3];exact((aDi p h3).trans aDB)
def lT(h:List BT):Nat->Nat
 |0=>0
 |n+1=>if k0 (lf h n).2<k0 (lf h (lT h n)).2 then n else lT h n
def RI(h:List BT):∀n,0<h.length->n<=h.length->lT h n<h.length:=by
 intro n h0;induction n with
 |zero=>intro _;exact h0
 |succ n ih=>
  intro hn;simp only[lT];split
  .omega
  .exact ih BYO
def Kt(h:List BT):∀n i,i<n->k0 (lf h (lT h n)).2<=k0 (lf h i).2:=by
 intro n;induction n with
 |zero=>intro i hi;omega
 |succ n ih=>
  intro i hi;simp only[lT];split
  .rename_i dD;rcases aDg.1 hi with h1|rfl
   .have:=ih i h1;omega
   .exact aC0 _
  .rename_i dD;rcases aDg.1 hi with h1|rfl
   .exact ih i h1
   .omega
def RJ:∀{h:List BT} {r:Int} (i:Nat),xH M r h->xH M r (h.take i++h.drop (i+1)):=by
 intro h;induction h with
 |nil=>intro r i _;simp;trivial
 |cons t h ih=>
  intro r i ha;cases i with
  |zero=>exact ha.2.2.2.weaken (by have:=ha.1;omega)
  |succ i=>exact⟨ha.1,ha.2.1,ha.2.2.1,ih i ha.2.2.2⟩
def Cb:∀(h:List BT) (i:Nat),i<h.length->(bH h).Perm ((lf h i).2++bH (h.take i++h.drop (i+1))):=by
 intro h;induction h with
 |nil=>intro i hi;simp at hi
 |cons t h ih=>
  intro i hi;cases i with
  |zero=>exact aBx _
  |succ i=>
   have h1:=ih i (by simp at hi;omega);rw[vQ];show(t.2++bH h).Perm ((lf h i).2++bH (t::(h.take i++h.drop (i+1))));rw[vQ];refine(aDC _ h1).trans ?_;rw[<-aCb,<-aCb];exact aDi _ aDB
def xY(h:List BT):Nat:=lT h h.length
def Cc(h:List BT):It:=lf (lf h (xY h)).2 0
def LC(h:List BT):List BT:=h.take (xY h)++h.drop (xY h+1)
def VJ(h:List BT):List BT:=mK 8 0 (LC h) (kG (lf h (xY h)).1.toNat (lf h (xY h)).2) []
def HG.at_{h:List BT}(hg:HG h)(cQ:h≠[]):xY h<h.length/\GT (lf h (xY h))/\(lf h (xY h)).1<=5:=by
 have h0:=RI h h.length (aC8.2 cQ) (aAB _);have h1:=hg.XE.all (lf h (xY h)) (by unfold xY;rw[bU h0];exact aCX _);exact⟨h0,h1.1,h1.2.2⟩
def HG.parts{h:List BT}(hg:HG h)(cQ:h≠[]):xH 5 0 (kG (lf h (xY h)).1.toNat (lf h (xY h)).2)/\(Cc h::bH (kG (lf h (xY h)).1.toNat (lf h (xY h)).2)).Perm (lf h (xY h)).2:=by
 obtain⟨_,h1,h2⟩:=hg.at_ cQ;obtain⟨p1,_,p3⟩:=R3 (lf h (xY h)).1.toNat (lf h (xY h)).2 BYO h1.len h1.hol h1.ok;refine⟨p1,?_⟩;unfold Cc;have h3:=h1.ne;generalize (lf h (xY h)).2=l at p3 h3;cases l with
 |nil=>simp at h3
 |cons x t=>exact List.Perm.cons _ p3
def HG.pop{h:List BT}(hg:HG h)(cQ:h≠[]):HG (VJ h)/\(Cc h::bH (VJ h)).Perm (bH h)/\∀y∈bH h,(Cc h).1<=y.1:=by
 obtain⟨h0,h1,h2⟩:=hg.at_ cQ;obtain⟨p1,p2⟩:=hg.parts cQ;have hr:=RJ (xY h) hg.XE;have hi:=Cb h (xY h) h0;obtain⟨m1,m2⟩:=Bx 8 0 (LC h) (kG (lf h (xY h)).1.toNat (lf h (xY h)).2) [] BYO BYO hr p1 (.inl rfl);have m3:(bH (VJ h)).Perm (bH (LC h)++bH (kG (lf h (xY h)).1.toNat (lf h (xY h)).2)):=by simpa[bH,VJ] using m2
 have hp:(Cc h::bH (VJ h)).Perm (bH h):=by
  refine(List.Perm.cons _ m3).trans (List.Perm.trans ?_ hi.symm);refine List.perm_middle.symm.trans ?_;exact(aDC _ p2).trans aDB
 have hl:=hp.length_eq;have hle:fE (VJ h)<=60:=by
  have:=hg.le;unfold fE at*;rw[aBJ]at hl;omega
 refine⟨⟨m1.lower λt ht=>aBS (LB ht) hle,hle⟩,hp,λy hy=>?_⟩;obtain⟨t,ht,hyt⟩:=aGQ.1 hy;obtain⟨i,uK,rfl⟩:=aI7 ht;have h3:=Kt h h.length i uK;rw[bU uK]at h3;have h4:=(hg.XE.all h[i] ht).1;have h5:=Uz _ _ h4.len h4.hol y hyt;exact aDG h3 h5
def aFi:∀{h:List BT} {r:Nat},xH 5 r h->∃q,fE h=q*2 ^ r:=by
 intro h;induction h with
 |nil=>intro r _;exact⟨0,by simp[fE,bH]⟩
 |cons t h ih=>
  intro r ha;obtain⟨k,hk⟩:∃k:Nat,t.1=k:=⟨t.1.toNat,by have:=ha.2.2.1.ge;omega⟩;have h1:=ha.1;have h2:=ha.2.2.2;rw[hk,show(k:Int)+1=((k+1:Nat):Int) from by omega]at h2;obtain⟨q,hq⟩:=ih h2;have h3:=ha.2.2.1.len;rw[hk,aD3]at h3;obtain⟨d,rfl⟩:∃d,k=r+d:=⟨k-r,BYO⟩;rw[zB,hq,h3];refine⟨2 ^ d+q*(2 ^ d*2),?_⟩;rw[aDW,Nat.pow_add,aCL,aDX (2 ^ d) (2 ^ r)]
  congr 1
  simp only[Nat.mul_assoc,aDX,Nat.mul_left_comm]
end Rk.Bn
namespace Rk
open Go Go.RowKit Go.Proofs
variable{w w':World}
section
variable{P:Program}{ops:Array Oper}{K:Env->World->Prop}{N d:Nat}{E:Env}{rest:List Oper}{st e:TypeId}{agg:Bool}{k bytes:Nat}{z:Value}{t:TypeId}{pos:String}{after:Array Edge}{lo ca:Operand}
def aR8{α:Type}(enc:α->List Value)(a0:α){kl kc:IntKind}{n:Nat}(ht:P.underlying st=some (.slice e))(ty:Ty P e agg k bytes z)(OW:0<k)(hk:(enc a0).length=k)(he:z.cells.toList=enc a0)(hd:Nat.blt d N=true)(hl:aM E lo=some (.int kl (n:Int)))(hc:aM E ca=some (.int kc (n:Int)))
  (hb:bytes*n<=281474976710656)(hm:n<=maxLen)
  (h:∀w',cO enc k e w' w.heap.size w.heap.size n n (λ_=>a0)->w.grownBy w' none->w'.heap.size=w.heap.size+1->WL P ops K N ((d,.slice (some ⟨w.heap.size,0,none⟩) n n)::E) rest w'):
  WL P ops K N E (⟨some d,.makeSlice st lo ca,t,pos,after,none⟩::rest) w:=by
 obtain⟨i,hi,hz,oC,HA⟩:=ty.info;have rD:(i.bytes:Int)*(n:Int)<=281474976710656:=by
  have h:((i.bytes*n:Nat):Int)<=281474976710656:=by rw[HA];omega
  rwa[Int.natCast_mul]at h
 have hr:=run_make (P:=P) w st e i z ht hi hz kl kc n n BYO (aC0 _) rD (by unfold maxLen at hm;omega);simp only[aD3]at hr;have hzs:=ty.zsz;refine WL.step (w':=w.alloc (.cells (madeCells z.cells (n*i.size)) e)) (v:=.slice (some ⟨w.heap.size,0,none⟩) n n) (λρ hρ _ _ _ _=>?_) hd (h _ ⟨aAB _,aAB _,hm,_,cN w _ _,?_,λi' uK j u hu=>?_⟩ (World.grownBy_alloc w _ none) BYS)
 .simp[execOp,hρ _ _ hl,hρ _ _ hc,hr]
 .rw[aF3,size_madeCells,oC]
 .have hj:j<k:=by
   rcases aCD j k with h|h
   .exact h
   .rw[aCU (by rw[hk];exact h)]at hu;cases hu
  have dD:i'*k+j<n*i.size:=by
   rw[oC];have:=aC1 k (show i'+1<=n from uK);rw[aCL,aDH]at this;omega
  have OK:(i'*k+j) % z.cells.size=j:=by rw[hzs,aDX,Nat.mul_add_mod,Nat.mod_eq_of_lt hj]
  rw[<-he]at hu;have hu2:z.cells[j]?=some u:=by rw[<-aIW];exact hu
  have hu3:z.cells[j]! =u:=by rw[getElem!_def,hu2]
  simp only[madeCells,aIW,aIb,Array.getElem?_range];simp[dD,OK,hu3]
end
attribute [local irreducible] aA jH OpC WL QL WC WX OL RL TL TM
def Pt:jT:=(0,(none,0),[])
def LD(w:World)(w':World)(v:Value)(h:List Bn.BT):Prop:=∃A c us,v=.slice A us.length c/\us.length<=c/\aE gG 2 w' A us.length (lf us)/\nJ w' us/\us.map bt=h/\Below w.heap.size w w'/\(∀p,A=some p->0<us.length->w.heap.size<=p.block)/\∀t∈us,∀p,t.2.1.1=some p->0<t.2.2.length->w.heap.size<=p.block
def LD.mono{w0:World}{v:Value}{h:List Bn.BT}(hg:LD w w' v h)(hb:Below w0.heap.size w0 w):LD w0 w' v h:=by
 obtain⟨A,c,us,h1,h2,h3,h4,h5,h6,h7,h8⟩:=hg;exact⟨A,c,us,h1,h2,h3,h4,h5,hb.tr h6,λp hp h0=>aBS hb.size (h7 p hp h0),λt ht p hp h0=>aBS hb.size (h8 t ht p hp h0)⟩
def RM(A:Option Addr)(c:Nat)(ts:List jT)(w:World)(hr:aE gG 2 w A ts.length (lf ts))(bY:nJ w ts)(hn:ts.length<=1000)(hl:∀t∈ts,t.2.2.length<=1000):
  Calls tz 44 #[.slice A ts.length c] w (eT λv w'=>LD w w' v (ts.map bt)):=by
 refine aI I6 rfl Tryz.ntmps44 rfl ?_;refine aUD λK hK=>?_;refine aR8 gG Pt iA fK BYO rfl rfl rfl rfl rfl BYO (by simp[maxLen];omega) λw1 hO1 fQ mP=>?_;have cA:=aC fQ;refine Gp ?_;refine aMK (λ(k:Nat) (F:Nat->jT)=>[(0,.slice A ts.length c),(3,.slice (some ⟨w.heap.size,0,none⟩) ts.length ts.length),(9,.slice A ts.length c),(10,.int .i64 (ts.length:Nat)),(11,.int .i64 k)])
  (λk F q wr=>k<=ts.length/\q=ts.length-k/\cO gG 2 88 wr w.heap.size w.heap.size ts.length ts.length F/\(∀i,i<k->bt (F i)=bt (lf ts i)/\aE cB 2 wr (F i).2.1.1 (F i).2.2.length (lf (F i).2.2)/\(F i).2.2.length<=(F i).2.1.2/\
   ∀p,(F i).2.1.1=some p->0<(F i).2.2.length->w.heap.size<p.block)/\Below w.heap.size w wr) ts.length 0 (λ_=>Pt) ⟨BYO,rfl,hO1,λi hi=>BYO,cA⟩ aJA ?_
 rintro k F q wr ⟨hk,rfl,hO,hF,hB⟩;refine aB ?_;refine aJ6 rfl (λh=>?_) (λh=>?_)
 .have xA:k<ts.length:=BYO;have GI:=hr.below hB;obtain⟨b,o,rfl,_⟩:=GI.ne BYO;have hxm:lf ts k∈ts:=by rw[bU xA];exact aCX _
  have HV:=bY _ hxm;have pP:=hl _ hxm;obtain⟨x,hx⟩:∃x,x=lf ts k:=⟨_,rfl⟩;refine CR λK hK=>?_;rw[<-hx]at HV pP⊢;obtain⟨rx,⟨Ax,cx⟩,lx⟩:=x;dsimp only at HV pP;refine WL.alloc fK rfl λw2 eB iW qO=>?_;have bM:=hB.tr (aC eB);have hO2:=hO.keep eB BYS;refine aB ?_;refine WL.store (v:=VF (rx,(Ax,cx),lx)) fK rfl rfl rfl (gU _) iW (aAB 2) λw3 iE mM EL=>?_;replace mM:Bk w3 wr.heap.size 88 (gG (rx,(Ax,cx),lx)):=mM;have hwr:=hO.lt;have dZ:=bM.rM iE (by intro b hb;cases hb;omega);have aHF:Below wr.heap.size wr w3:=(aC eB).rM iE (by intro b hb;cases hb;exact aAB _);have hO3:=hO2.keep iE BYT;refine aB ?_;refine WC.tm (λw'=>Bk w' wr.heap.size 88 (gG (rx,(Ax,cx),lx))) [9] (.pure 0 (.pure 1 (.pure 2 (.pure 4 (.read 3 (.read 5 (.act 6 (.pure 7 (.pure 8 (.last 9 .fin)))))))))) mixed BYK rfl BYK (λw' hb _=>mM.below hb) λK hK w4 jR hh4=>?_;have rE:=mM.below jR;refine Zj ?_;refine RL.step (λw' dY=>aJC aN rfl (dY.cell (u:=.int .i64 rx) rfl)) rfl ?_;refine Zj ?_;refine RL.step (λw' dY=>aJC rV rfl (dY.cell (u:=.slice Ax lx.length cx) rfl)) rfl ?_;refine uU ?_;have kN:=dZ.tr jR;refine TM.act rfl (aKQ JQ (wP Ax lx.length cx (lf lx) w4 (HV.1.below kN) pP) ?_);rintro v w5 ⟨rC,gO⟩;rw[dE]at rC;refine WL.nil ⟨rE.below gO,?_⟩;obtain⟨A5,c5,rfl,hc5⟩:=rC.form;obtain⟨_,_,zM⟩:=rC.bK bN;have hO5:=(hO3.below jR).below gO;have XD:=kN.tr gO;refine SS ?_;refine TM.last rfl (aML dX gU fK (i:=k) (a:=(rx,(A5,c5),lx)) rfl BYO rfl rfl hO5 xA λw6 gL hO6 FW=>WL.nil ?_);refine TM.fin (hK _ _ ?_);clear hK K;have vZ:=XD.rM gL (by intro b hb;cases hb;exact aAB _);have aNo:=aHF.tr (jR.tr gO);refine aB ?_;refine aLm (k+1) (λq=>if q=k then(rx,(A5,c5),lx) else F q) (ts.length-(k+1)) BYO ⟨BYO,rfl,hO6,λi hi=>?_,vZ⟩ aJA;by_cases hik:i=k
  .subst hik;dsimp only;rw[if_pos rfl];have bz:∀p,A5=some p->0<lx.length->w.heap.size<p.block:=λp hp h0=>by
    have:=rC.rO (aC8.1 h0) p.block (by rw[hp];rfl);have:=kN.size;have:=aHF.size;have:=jR.size;omega
   refine⟨by rw[<-hx];rfl,λh0=>?_,hc5,bz⟩;obtain⟨b',o',e',_⟩:=zM h0;exact zM.grown gL (λp hp e=>by have:=bz p hp h0;injection e with e;omega) h0
  .dsimp only;rw[if_neg hik];obtain⟨f1,f2,f3,f4⟩:=hF i BYO;exact⟨f1,λh0=>(f2.below aNo).grown gL (λp hp e=>by have:=f4 p hp h0;injection e with e;omega) h0,f3,f4⟩
 .obtain rfl:k=ts.length:=BYO;have WI:(aG F ts.length).length=ts.length:=aF _ _;refine aB ?_;refine aLV rfl rfl ⟨some ⟨w.heap.size,0,none⟩,ts.length,aG F ts.length,by rw[WI],by rw[WI];exact aAB _,?_,λt ht=>?_,?_,hB,λp hp _=>by injection hp with hp;subst hp;exact aAB _,λt ht p hp h0=>?_⟩
  .rw[WI];exact hO.bK.congr λi hi=>kU _ hi
  .obtain⟨i,hi,rfl⟩:=aCc.1 ht;obtain⟨_,f2,f3,_⟩:=hF i (aC5.1 hi);exact⟨f2,f3⟩
  .have h9:ts.map bt=(aG (lf ts) ts.length).map bt:=by rw[dE]
   rw[h9];unfold aG;rw[aDd,aDd];exact aGm λi hi=>(hF i (aC5.1 hi)).1
  .obtain⟨i,hi,rfl⟩:=aCc.1 ht;exact Nat.le_of_lt ((hF i (aC5.1 hi)).2.2.2 p hp h0)
def nY(a b:List Bn.BT):Nat:=if Bn.jI a≠0 then Bn.jI a else if Bn.jI b≠0 then Bn.jI b else if 60<Bn.fE a+Bn.fE b then 4 else 0
def VK(a b:List Bn.BT):List Bn.BT:=Bn.mK 8 0 a b []
def Ku(a b:List Bn.BT)(w:World)(v:Value)(w':World):Prop:=Below w.heap.size w w'/\(nY a b≠0->v=.tuple #[.slice none 0 0,cI (nY a b)])/\
 (nY a b=0->∃u,v=.tuple #[u,.nilIface]/\LD w w' u (VK a b))
def tF{a b:List Bn.BT}{e:Nat}(h:nY a b=e)(he:e≠0)(hB:Below w.heap.size w w'):Ku a b w (.tuple #[.slice none 0 0,cI e]) w':=
 ⟨hB,λ_=>by rw[h],λh0=>absurd (h.symm.trans h0) he⟩
def Kv{h:List Bn.BT}{M r:Int}(ha:Bn.xH M r h)(h0:0<=r)(hM:M<=8):h.length<=9:=by
 suffices hh:(h.length:Int)<=M+1-r\/h=[] from by
  rcases hh with hh|rfl
  .omega
  .simp
 induction h generalizing r with
 |nil=>exact .inr rfl
 |cons t h ih=>
  have h1:=ha.1;have h2:=ha.2.1;rcases ih ha.2.2.2 BYO with h3|rfl
  .left;rw[aBJ];omega
  .left;simp;omega
def Kw(A B:Option Addr)(ca cb:Nat)(ta tb:List jT)(w:World)(WS:aE gG 2 w A ta.length (lf ta))(zS:aE gG 2 w B tb.length (lf tb))(ON:ta.length<=ca)(Qq:tb.length<=cb)(zR:nJ w ta)(yY:nJ w tb)(hma:ta.length<=maxLen)(zp:tb.length<=maxLen):
  Calls tz 32 #[.slice A ta.length ca,.slice B tb.length cb] w (eT (Ku (ta.map bt) (tb.map bt) w)):=by
 refine aI wz rfl Tryz.ntmps32 rfl ?_;refine aZ λK hK=>?_;refine aKQ Of (zD A ca ta w WS zR hma) ?_;rintro v w1 ⟨rfl,cA⟩;by_cases Fy:Bn.jI (ta.map bt)=0
 .rw[Fy,eN];refine aB ?_;refine aJh rfl ?_;refine aZ λK hK=>?_;refine aKQ Of (zD B cb tb _ (zS.below cA) (yY.below cA) zp) ?_;rintro v w2 ⟨rfl,bM⟩;have gF:=cA.tr bM;by_cases Fq:Bn.jI (tb.map bt)=0
  .have hga:=Bn.HG.of Fy;have Wp:=Bn.HG.of Fq;have hla:=Kv hga.XE BYO BYO;have Wu:=Kv Wp.XE BYO BYO;rw[aCN]at hla Wu;have aNE:=hga.le;have aNZ:=Wp.le;rw[Fq,eN];refine aB ?_;refine aJh rfl ?_;refine aZ λK hK=>?_;refine aKQ Oj (DU A ca ta _ (WS.below gF) BYO BYO) ?_;rintro v w3 ⟨rfl,dZ⟩;refine aB ?_;refine aKQ Oj (DU B cb tb _ ((zS.below gF).below dZ) BYO BYO) ?_;rintro v w4 ⟨rfl,jR⟩;have kN:=gF.tr (dZ.tr jR);refine aB ?_;refine aJ6 rfl (λh=>?_) (λh=>?_)
   .refine aB ?_;exact aLe rfl rfl rfl (tF (e:=4) (by unfold nY;rw[if_neg BYO,if_neg BYO,if_pos BYO]) BYO kN)
   .have hm0:nY (ta.map bt) (tb.map bt)=0:=by unfold nY;rw[if_neg BYO,if_neg BYO,if_neg BYO]
    refine aZ λK hK=>?_;refine aKQ I7 (RH A B ca cb ta tb _ (WS.below kN) (zS.below kN) ON Qq (zR.below kN) (yY.below kN) hga.XE Wp.XE) ?_;rintro v w5 ⟨A5,c5,os,rfl,zM,rC,XG,gO⟩;obtain⟨hgm,_⟩:=hga.gZ Wp BYO;have hlm:=Kv hgm.XE BYO BYO;rw[<-XG,aCN]at hlm;refine aB ?_;refine aKQ I6 (RM A5 c5 os _ zM rC BYO (λt ht=>?_)) ?_
    .have:=Bn.LB (h:=os.map bt) (aER ht);have h9:=hgm.le;rw[<-XG]at h9;rw[show(bt t).2=t.2.2 from rfl]at this;omega
    rintro v w6 NH;rw[XG]at NH;have vZ:=kN.tr gO;have hg0:=NH.mono vZ;obtain⟨_,_,_,_,_,_,_,_,gH,_⟩:=hg0;refine aB ?_;exact aLe rfl rfl rfl ⟨gH,λh=>absurd hm0 h,λ_=>⟨v,rfl,NH.mono vZ⟩⟩
  .rw[bO Fq];refine aB ?_;refine aLO rfl ?_;refine aB ?_;rw[<-bO Fq];exact aLe rfl rfl rfl (tF (e:=Bn.jI (tb.map bt)) (by unfold nY;rw[if_neg BYO,if_pos Fq]) Fq gF)
 .rw[bO Fy];refine aB ?_;refine aLO rfl ?_;refine aB ?_;rw[<-bO Fy];exact aLe rfl rfl rfl (tF (e:=Bn.jI (ta.map bt)) (by unfold nY;rw[if_pos Fy]) Fy cA)
def Vd(A:Option Addr)(c:Nat)(ts:List jT)(x:It)(w:World)(hr:aE gG 2 w A ts.length (lf ts))(hc:ts.length<=c)(bY:nJ w ts)(hm:ts.length<=maxLen):
  Calls tz 10 #[.slice A ts.length c,mV x] w (eT (Ku (ts.map bt) [(0,[x])] w)):=by
 refine aI vz rfl Tryz.ntmps10 rfl ?_;refine aZ λK hK=>?_;refine aM3 rfl rfl λw1 fQ dM mP=>?_;have cA:Below w.heap.size w w1:=aC fQ;replace dM:Bk w1 w.heap.size 38 (cB x):=dM;refine aZ λK hK=>?_;refine WL.step (aL5 (cs:=cB x) aL rfl (bN _) (λj u hu=>by rw[aAn];exact dM.cell hu)) rfl ?_;refine WL.lit (xs:=[.tmp 7]) (vs:=[mV x]) aY aL rfl rfl (by simp[cB,Value.cells]) rfl rfl BYO λw2 eB iW qO=>?_;have bM:=aC eB;have pT:aE cB 2 w2 (some ⟨w1.heap.size,0,none⟩) 1 (lf [x]):=iW.bK (enc:=cB) (k:=2) (f:=lf [x]) 0 λi hi j u hu=>by
  obtain rfl:i=0:=BYO;rw[show lf [x] 0=x from rfl]at hu;simpa[cB,Value.cells] using hu
 refine Zm ?_;refine WL.lit (xs:=[.tmp 9]) (vs:=[VF (0,(some ⟨w1.heap.size,0,none⟩,1),[x])]) iA fK rfl rfl (by simp[gG,Value.cells]) rfl rfl BYO λw3 iE mM EL=>?_;have dZ:=aC iE;have iT:=cA.tr (bM.tr dZ);have hr3:aE gG 2 w3 (some ⟨w2.heap.size,0,none⟩) 1 (lf [((0,(some ⟨w1.heap.size,0,none⟩,1),[x]):jT)]):=mM.bK (enc:=gG) (k:=2) (f:=lf [((0,(some ⟨w1.heap.size,0,none⟩,1),[x]):jT)]) 0 λi hi j u hu=>by
  obtain rfl:i=0:=BYO;rw[show lf [((0,(some ⟨w1.heap.size,0,none⟩,1),[x]):jT)] 0=(0,(some ⟨w1.heap.size,0,none⟩,1),[x]) from rfl]at hu;simpa[gG,Value.cells] using hu
 refine aKQ wz (Kw A _ c 1 ts [((0,(some ⟨w1.heap.size,0,none⟩,1),[x]):jT)] w3 (hr.below iT) hr3 hc (aAB _) (bY.below iT) (nJ.one (pT.below dZ) (aAB _)) hm (by simp[maxLen])) ?_;rintro v w4 ⟨jR,mL,Qt⟩;have kN:=iT.tr jR;rw[show List.map bt [((0,(some ⟨w1.heap.size,0,none⟩,1),[x]):jT)]=[(0,[x])] from rfl]at mL Qt;by_cases he:nY (ts.map bt) [(0,[x])]=0
 .obtain⟨u,rfl,hg⟩:=Qt he;refine aB ?_;exact aLe rfl rfl rfl ⟨kN,λh=>absurd he h,λ_=>⟨u,rfl,hg.mono iT⟩⟩
 .rw[mL he];refine aB ?_;exact aLe rfl rfl rfl (tF rfl he kN)
end Rk
namespace Rk
open Go Go.RowKit Go.Proofs
variable{w:World}{A:Option Addr}{l:List jT}{m:Nat}
attribute [local irreducible] aA jH OpC WL QL WC WX OL RL TL TM
def R4{ts:List jT}{i:Nat}(h:i<ts.length):lf (ts.map bt) i=bt (lf ts i):=by
 rw[bU (by rw[aCN];exact h),aH7,bU h]
def aFj(h:List Bn.BT)(w:World)(v:Value)(w':World):Prop:=Below w.heap.size w w'/\(Bn.jI h≠0->v=.tuple #[mV (0,0),.slice none 0 0,cI (Bn.jI h)])/\
 (Bn.jI h=0->h=[]->v=.tuple #[mV (0,0),.slice none 0 0,cI 5])/\(Bn.jI h=0->h≠[]->∃u,v=.tuple #[mV (Bn.Cc h),u,.nilIface]/\LD w w' u (Bn.VJ h))
def aE.aFk(h:aE gG 2 w A l.length (lf l))(hm:m<=l.length):aE gG 2 w A (l.take m).length (lf (l.take m)):=by
 rw[aDn,Nat.min_eq_left hm];exact(h.sub hm).congr λi hi=>lfT hi
def aE.aFl(h:aE gG 2 w A l.length (lf l)){c:Nat}(hm:m<=l.length)(hc:l.length<=c):aE gG 2 w (if c=m then A else A.map (·.add (m*2))) (l.drop m).length (lf (l.drop m)):=by
 rw[aC6];exact(h.cut (l:=m) (m:=l.length-m) BYO hc).congr λi _=>lfD l m i
def Ve{r n:Nat}{F G:Nat->jT}(hr:r<n)(h:∀i,r<i->G i=F i):(List.range' r (n-r)).map (λi=>bt (G i))=bt (G r)::(List.range' (r+1) (n-(r+1))).map (λi=>bt (F i)):=by
 rw[show n-r=(n-(r+1))+1 from BYO,List.range'_succ,aC9]
 congr 1
 exact aGm λi hi=>by
  have:=(aH2.1 hi).1;rw[h i BYO]
def R5(A:Option Addr)(c:Nat)(ts:List jT)(w:World)(hr:aE gG 2 w A ts.length (lf ts))(hc:ts.length<=c)(bY:nJ w ts)(hm:ts.length<=maxLen):
  Calls tz 15 #[.slice A ts.length c] w (eT (aFj (ts.map bt) w)):=by
 refine aI wh rfl Tryz.ntmps15 rfl ?_;refine aZ λK hK=>?_;refine WL.alloc aL rfl λw1 fQ dM mP=>?_;have cA:Below w.heap.size w w1:=aC fQ;replace dM:Bk w1 w.heap.size 38 (cB (0,0)):=dM;refine aZ λK hK=>?_;refine aKQ Of (zD A c ts w1 (hr.below cA) (bY.below cA) hm) ?_;rintro v w2 ⟨rfl,bM⟩;have gF:=cA.tr bM;have iW:=dM.below bM;by_cases he:Bn.jI (ts.map bt)=0
 .have hG:=Bn.HG.of he;have hl9:=Kv hG.XE BYO BYO;rw[aCN]at hl9;rw[he,eN];refine aB ?_;refine aJh rfl ?_;refine Gp ?_;refine aJ6 rfl (λh=>?_) (λh=>?_)
  .have Ml:ts=[]:=aCQ BYO;subst Ml;refine aZ λK hK=>?_;refine WL.store (v:=mV (0,0)) aL rfl rfl rfl (cJ _) iW (aAB 2) λw3 iE mM EL=>?_;refine aB ?_;exact aNa aL rfl rfl rfl rfl mM rfl ⟨gF.rM iE (by intro b hb;cases hb;exact aAB _),λh=>absurd he h,λ_ _=>rfl,λ_ h=>absurd rfl h⟩
  .have nA:0<ts.length:=BYO;have cQ:ts.map bt≠[]:=λe=>by have:=congrArg List.length e;simp at this;subst this;simp at nA
   clear h;obtain⟨b,o,rfl,hbw⟩:=hr.ne nA;have MX:∀i,i<ts.length->aE cB 2 w (lf ts i).2.1.1 (lf ts i).2.2.length (lf (lf ts i).2.2)/\0<(lf ts i).2.2.length:=λi hi=>by
    have WA:lf ts i∈ts:=by rw[bU hi];exact aCX _
    exact⟨(bY _ WA).1,(hG.XE.all (bt (lf ts i)) (aER WA)).1.ne⟩
   refine Gp ?_;refine aMP (λ(k:Nat)=>[(0,.slice (some ⟨b,o,none⟩) ts.length c),(2,.pointer (some ⟨w.heap.size,0,none⟩)),(25,.slice (some ⟨b,o,none⟩) ts.length c),(26,.int .i64 (ts.length:Nat)),(27,.int .i64 k),(6,.int .i64 (Bn.lT (ts.map bt) k:Nat))])
    (λk q wr=>k<=ts.length/\q=ts.length-k/\Below w2.heap.size w2 wr) ts.length 0 ⟨BYO,rfl,Below.refl _ _⟩ aJA ?_
   rintro k q wr ⟨hk,rfl,hB⟩;have b7:=gF.tr hB;refine aB ?_;refine aJ6 rfl (λh=>?_) (λh=>?_)
   .have xA:k<ts.length:=BYO;have Mo:=Bn.RI (ts.map bt) k (by rw[aCN];exact nA) (by rw[aCN];omega);rw[aCN]at Mo;have eH:Bn.lT (ts.map bt) (k+1)=if(lf (lf ts k).2.2 0).1<(lf (lf ts (Bn.lT (ts.map bt) k)).2.2 0).1 then k else Bn.lT (ts.map bt) k:=by
     show(if Bn.k0 (lf (ts.map bt) k).2<Bn.k0 (lf (ts.map bt) (Bn.lT (ts.map bt) k)).2 then k else Bn.lT (ts.map bt) k)=_;rw[R4 xA,R4 Mo];rfl
    have GI:=hr.below b7;obtain⟨HV,pP⟩:=MX k xA;obtain⟨hy1,hy2⟩:=MX _ Mo;generalize Bn.lT (ts.map bt) k=at' at Mo eH hy1 hy2⊢;refine CR λK hK=>?_;have hyc:=GI.get Mo 1 (trS (lf ts at')) rfl;generalize hxe:lf ts k=x at HV pP eH⊢;generalize lf ts at'=y at hy1 hy2 eH hyc;obtain⟨rx,⟨Ax,cx⟩,lx⟩:=x;obtain⟨ry,⟨Ay,cy⟩,ly⟩:=y;dsimp only at HV pP hy1 hy2 eH hyc;refine WL.alloc fK rfl λw3 iE mM EL=>?_;refine aB ?_;refine WL.store (v:=VF (rx,(Ax,cx),lx)) fK rfl rfl rfl (gU _) mM (aAB 2) λw4 kO rE RY=>?_;replace rE:Bk w4 wr.heap.size 88 (gG (rx,(Ax,cx),lx)):=rE;have Er:Below wr.heap.size wr w4:=(aC iE).rM kO (by intro b hb;cases hb;exact aAB _);have jR:=hB.tr Er;have WJ:=HV.below (b7.tr Er);have aMm:=hy1.below (b7.tr Er);obtain⟨gx,ox,rfl,_⟩:=WJ.ne pP;obtain⟨gy,oy,rfl,_⟩:=aMm.ne hy2;have aHV:=GI.below Er;refine aB ?_;refine aLh mixed BYK ?_;refine Zi ?_;refine aMC (aLN rV (g:=wr.heap.size) (j:=1) (u:=.slice (some ⟨gx,ox,none⟩) lx.length cx)) ?_;refine x6 ?_;refine QL.step (λw' dY=>aJC rV rfl ((fB ((Er.tr dY).block _ (by have:=b7.size;omega)) _).trans hyc)) rfl ?_;refine x6 ?_;refine QL.done λw5 gO=>?_;have XD:=jR.tr gO;refine aB ?_;refine aJ6 rfl (λh2=>?_) (λh2=>?_)
    .refine aB ?_;exact aMF (k+1) (ts.length-(k+1)) BYO ⟨BYO,rfl,XD⟩ (by rw[eH,if_pos h2];exact aJA)
    .refine aB ?_;exact aMF (k+1) (ts.length-(k+1)) BYO ⟨BYO,rfl,XD⟩ (by rw[eH,if_neg h2];exact aJA)
   .obtain rfl:k=ts.length:=BYO;obtain⟨Mo,Xm,zM⟩:=hG.at_ cQ;obtain⟨fb,_⟩:=hG.parts cQ;obtain⟨hGp,_,_⟩:=hG.pop cQ;have MZ:Bn.VJ (ts.map bt)=Bn.mK 8 0 (Bn.LC (ts.map bt)) (Bn.kG (lf (ts.map bt) (Bn.xY (ts.map bt))).1.toNat (lf (ts.map bt) (Bn.xY (ts.map bt))).2) []:=rfl;have xJ:Bn.Cc (ts.map bt)=lf (lf (ts.map bt) (Bn.xY (ts.map bt))).2 0:=rfl;have sC:Bn.LC (ts.map bt)=(ts.take (Bn.xY (ts.map bt))++ts.drop (Bn.xY (ts.map bt)+1)).map bt:=by
     unfold Bn.LC;rw[aDp,List.map_take,List.map_drop]
    have aKz:Bn.xH 5 0 (Bn.LC (ts.map bt)):=Bn.RJ _ hG.XE;rw[show Bn.lT (ts.map bt) ts.length=Bn.xY (ts.map bt) from by unfold Bn.xY;rw[aCN]];rw[aCN]at Mo;rw[R4 Mo]at Xm zM MZ xJ fb;generalize Bn.xY (ts.map bt)=at' at Mo Xm zM MZ xJ fb sC⊢;have GI:=hr.below b7;obtain⟨HV,pP⟩:=MX at' Mo;have zn:=(bY (lf ts at') (by rw[bU Mo];exact aCX _)).2;refine CR λK hK=>?_;generalize lf ts at'=x at Xm zM MZ xJ fb HV pP zn⊢;obtain⟨rx,⟨Ax,cx⟩,lx⟩:=x;dsimp only at HV pP zn;rw[show bt ((rx,(Ax,cx),lx):jT)=(rx,lx) from rfl]at Xm zM MZ xJ fb;dsimp only at zM MZ xJ fb;obtain⟨R,hR⟩:∃R:Nat,rx=R:=⟨rx.toNat,by have:=Xm.ge;dsimp only at this;omega⟩;subst hR;rw[aD3]at MZ fb;have hlx:lx.length=2 ^ R:=Xm.len;have aSm:lx.length<=64:=by rw[hlx];exact(show(2:Nat) ^ R<=2 ^ 6 from aDm BYO BYO)
    refine WL.alloc fK rfl λw3 iE mM EL=>?_;refine aB ?_;refine WL.store (v:=VF ((R:Int),(Ax,cx),lx)) fK rfl rfl rfl (gU _) mM (aAB 2) λw4 kO rE RY=>?_;replace rE:Bk w4 wr.heap.size 88 (gG ((R:Int),(Ax,cx),lx)):=rE;have Er:Below wr.heap.size wr w4:=(aC iE).rM kO (by intro b hb;cases hb;exact aAB _);have kN:=b7.tr Er;obtain⟨gx,ox,rfl,aQY⟩:=HV.ne pP;refine aTg λK hK=>?_;refine aLP (aLN aN (g:=wr.heap.size) (j:=0) (u:=.int .i64 (R:Int))) ?_;refine aB ?_;refine aR8 gG Pt (n:=R) iA fK BYO rfl rfl rfl rfl rfl BYO (by simp[maxLen];omega) λw5 hO5 fU zT=>?_;have gO:=aC fU;have pZ:=rE.below gO;have XD:=kN.tr gO;refine aTg λK hK=>?_;refine aLP (aLN aN (g:=wr.heap.size) (j:=0) (u:=.int .i64 (R:Int))) ?_;refine aB ?_;refine aPT (λ(j:Nat) (a:Nat) (F:Nat->jT)=>[(0,.slice (some ⟨b,o,none⟩) ts.length c),(2,.pointer (some ⟨w.heap.size,0,none⟩)),(6,.int .i64 (at':Nat)),(9,.pointer (some ⟨wr.heap.size,0,none⟩)),(10,.slice (some ⟨w4.heap.size,0,none⟩) R R),(11,.int .i64 a),(12,.int .i64 ((j:Int)-1))])
     (λj a F q wi=>q=j/\j<=R/\a+2 ^ j=lx.length+1/\cO gG 2 88 wi w4.heap.size w4.heap.size R R F/\Bn.kG R lx=Bn.kG j (lx.take 1++lx.drop a)++(List.range' j (R-j)).map (λi=>bt (F i))/\
      (∀i,j<=i->i<R->aE cB 2 w (F i).2.1.1 (F i).2.2.length (lf (F i).2.2)/\(F i).2.2.length<=(F i).2.1.2)/\Below w4.heap.size w4 wi) R R 1 (λ_=>Pt)
     ⟨rfl,aAB _,BYO,hO5,by rw[aDk,Nat.sub_self];simp,λi h1 h2=>BYO,gO⟩ aJA ?_
    rintro j a F q w6 ⟨rfl,hjR,ha,hO,Qi,hFr,OS⟩;have pU:=rE.below OS;have vZ:=kN.tr OS;refine aB ?_;refine aJ6 rfl (λh=>?_) (λh=>?_)
    .obtain⟨r,rfl⟩:∃r,q=r+1:=⟨q-1,BYO⟩;have hpp:2 ^ (r+1)=2 ^ r+2 ^ r:=by rw[aDW];omega
     have Z6:=Bn.pow_pos r;have zP:(lx.take 1++lx.drop a).take 1++(lx.take 1++lx.drop a).drop (1+2 ^ r)=lx.take 1++lx.drop (a+2 ^ r)/\((lx.take 1++lx.drop a).drop 1).take (2 ^ r)=(lx.drop a).take (2 ^ r):=by
      cases lx with
      |nil=>simp at pP
      |cons y t=>
       constructor
       .simp only[aI5,List.take_zero,aCq,aDF,aG2 1,aGn,List.drop_drop]
       .simp only[aI5,List.take_zero,aCq,aDF,aGn,aF1]
     have pX:Bn.kG R lx=Bn.kG r (lx.take 1++lx.drop (a+2 ^ r))++(((r:Int),(lx.drop a).take (2 ^ r))::(List.range' (r+1) (R-(r+1))).map (λi=>bt (F i))):=by
      rw[Qi];simp only[Bn.kG];rw[zP.1,zP.2,aCb];rfl
     obtain⟨Q,hQ⟩:∃Q,Q=2 ^ r:=⟨_,rfl⟩;rw[hpp,<-hQ]at ha;rw[<-hQ]at Z6 pX;have rv:=HV.aFb (a:=a) (m:=Q) BYO zn;have hml:((lx.drop a).take Q).length=Q:=by rw[aDn,aC6];omega
     rw[show(((r+1:Nat):Int)-1)=(r:Int) from by omega];refine aB ?_;refine WC.tm (λw'=>Bk w' wr.heap.size 88 (gG ((R:Int),(some ⟨gx,ox,none⟩,cx),lx))) [13] (.pure 0 (.pure 1 (.pure 2 (.pure 3 (.pure 5 (.pure 6 (.pure 7 (.pure 8 (.pure 9 (.read 4 (.pure 10 (.pure 11 (.pure 12 (.last 13 .fin)))))))))))))) mixed BYK rfl BYK (λw' hb _=>pU.below hb) λK hK w7 lD hh7=>?_;have OT:=pU.below lD;have hO7:=hO.below lD;refine yJ ?_;refine RL.step (λw' dY=>aPN (j:=r) rfl rfl BYO) rfl ?_;rw[<-hQ];refine yJ ?_;refine RL.step (λw' dY=>aJC rV rfl (dY.cell (u:=.slice (some ⟨gx,ox,none⟩) lx.length cx) rfl)) rfl ?_;rw[show((a:Int)+(Q:Int))=((a+Q:Nat):Int) from by omega];refine uU ?_;refine RL.step (λw' dY=>aOS aY aL (j1:=a) (j2:=a+Q) rfl rfl rfl BYO BYO) rfl ?_;refine SS ?_;obtain⟨y,hy⟩:∃y:jT,y=((r:Int),((if cx=a then some ⟨gx,ox,none⟩ else(some ⟨gx,ox,none⟩:Option Addr).map (·.add (a*2))),cx-a),(lx.drop a).take Q):=⟨_,rfl⟩;have hyv:Value.agg #[.int .i64 (r:Int),.slice (if cx=a then some ⟨gx,ox,none⟩ else(some ⟨gx,ox,none⟩:Option Addr).map (·.add (a*2))) (a+Q-a) (cx-a)]=VF y:=by
      rw[hy,show a+Q-a=Q from by omega];show _=Value.agg #[.int .i64 (r:Int),.slice _ ((lx.drop a).take Q).length _];rw[hml]
     rw[hyv];refine TM.last rfl (aML dX gU fK (i:=r) (a:=y) rfl BYO rfl rfl hO7 BYO λw8 SG hO8 b8=>WL.nil ?_);refine TM.fin (hK _ _ ?_);clear hK K;have aN0:=(OS.tr lD).rM SG (by intro b hb;cases hb;exact aAB _);refine aZ λK hK=>?_;refine WL.step (aPN (j:=r) rfl rfl BYO) rfl ?_;rw[<-hQ];refine aB ?_;refine aMq r (a+Q) (λi=>if i=r then y else F i) r BYO ⟨rfl,BYO,BYO,hO8,?_,λi h1 h2=>?_,aN0⟩ aJA
     .rw[Ve (F:=F) BYO (λi hi=>if_neg BYO),pX,hy];rw[if_pos rfl];rfl
     .dsimp only;by_cases hir:i=r
      .rw[if_pos hir,hy];refine⟨?_,by dsimp only;rw[hml];omega⟩;dsimp only;rw[hml];exact rv
      .rw[if_neg hir];exact hFr i BYO h2
    .obtain rfl:q=0:=BYO;rw[aD5]at Qi;have hpF:Bn.kG R lx=(aG F R).map bt:=by
      rw[Qi];show []++_=_;rw[aDF,<-aGz];unfold aG;rw[aDd];rfl
     have hlF:(aG F R).length=R:=aF _ _;obtain⟨ss,Et⟩:∃ss:List SlT,ss=[((some ⟨b,o,none⟩,c),ts.take at'),((if c=at'+1 then some ⟨b,o,none⟩ else(some ⟨b,o,none⟩:Option Addr).map (·.add ((at'+1)*2)),c-(at'+1)),ts.drop (at'+1))]:=⟨_,rfl⟩;have WT:(ts.take at').length=at':=by rw[aDn];omega
     have sf:(ts.drop (at'+1)).length=ts.length-(at'+1):=aC6;have Dr:ss.flatMap (·.2)=ts.take at'++ts.drop (at'+1):=by rw[Et];simp
     have CG:ss.length=2:=by rw[Et];rfl
     have Mh:=hr.below vZ;have uP:Value.slice (some ⟨b,o,none⟩) ((at':Nat):Int).toNat c=zC (α:=jT) ((some ⟨b,o,none⟩,c),ts.take at'):=by unfold zC;rw[WT];rfl
     have GN:Value.slice (if c=((at':Int)+1).toNat then some ⟨b,o,none⟩ else(some ⟨b,o,none⟩:Option Addr).map (·.add (((at':Int)+1).toNat*2))) (ts.length-((at':Int)+1).toNat) (c-((at':Int)+1).toNat)=zC (α:=jT) ((if c=at'+1 then some ⟨b,o,none⟩ else(some ⟨b,o,none⟩:Option Addr).map (·.add ((at'+1)*2)),c-(at'+1)),ts.drop (at'+1)):=by
      unfold zC;rw[sf,show((at':Int)+1).toNat=at'+1 from by omega]
     refine aB ?_;refine WC.tm (λw'=>Below w6.heap.size w6 w') [] (.pure 0 (.pure 1 (.pure 2 (.pure 3 (.pure 4 (.pure 5 (.pure 6 (.act 7 (.act 8 (.pure 9 .fin)))))))))) mixed BYK rfl BYK (λw' hb _=>hb) λK hK w7 lD hh7=>?_;refine uU ?_;refine RL.step (λw' dY=>aNH iA fK (j:=((at':Nat):Int)) rfl rfl BYO BYO) rfl ?_;refine uU ?_;refine RL.step (λw' dY=>aMi iA fK (j:=(at':Int)+1) rfl rfl BYO BYO) rfl ?_;refine uU ?_;refine TM.act rfl (WL.lit (xs:=[.tmp 81,.tmp 85]) (vs:=ss.map zC) Q6 RB rfl (by rw[Et];simp only[aC9,aG3,<-uP,<-GN];rfl) (by rw[Et];simp[zC,Value.cells]) rfl (by rw[Et];rfl) BYO λw8 SG fu b8=>WL.nil ?_);have mN:=aC SG;have sd:=lD.tr mN;refine⟨sd,?_⟩;have gp:aE eu 1 w8 (some ⟨w7.heap.size,0,none⟩) ss.length (lf ss):=fu.bK (enc:=eu) (k:=1) (f:=lf ss) 0 λi hi j u hu=>by
      rw[CG]at hi;rw[Et]at hu⊢;rcases j with _|j
      .rcases(show i=0\/i=1 by omega) with rfl|rfl<;>exact hu
      .simp[eu]at hu
     have yC:∀s∈ss,aE gG 2 w8 s.1.1 s.2.length (lf s.2):=λs hs=>by
      rw[Et]at hs;simp only[aBI,aDU,or_false]at hs;rcases hs with rfl|rfl
      .exact(Mh.aFk BYO).below sd
      .exact(Mh.aFl BYO hc).below sd
     have Y6:=VH (some ⟨w7.heap.size,0,none⟩) 2 ss w8 gp yC BYO (by rw[Dr,aBh];omega);rw[CG]at Y6;refine TM.act rfl (aKQ xd Y6 ?_);rintro v w9 ⟨SD,zV⟩;have du:=sd.tr zV;refine WL.nil ⟨du,?_⟩;rw[Dr]at SD;obtain⟨rs,hrs⟩:∃rs,rs=ts.take at'++ts.drop (at'+1):=⟨_,rfl⟩;rw[<-hrs]at SD sC;have aM2:∀t∈rs,t∈ts:=λt ht=>by
      rw[hrs]at ht;rcases aBR.1 ht with ht|ht
      .exact List.mem_of_mem_take ht
      .exact aGi ht
     obtain⟨A9,c9,rfl,hc9⟩:=SD.form;obtain⟨_,_,hr9⟩:=SD.bK dX;refine uU ?_;refine TM.fin (hK _ _ ?_);clear hK K;have Dx:=vZ.tr du;have dv:=pU.below du;have aGb:=((((iW.below hB).below Er).below OS).below du);have hO9:=hO.below du;refine aB ?_;refine WC.tm (λw'=>Below w9.heap.size w9 w') [8] (.pure 0 (.pure 4 (.pure 5 (.read 1 (.pure 2 (.read 3 (.act 6 (.act 7 (.last 8 (.pure 9 (.pure 10 .fin))))))))))) mixed BYK rfl BYK (λw' hb _=>hb) λK hK AA oR xL=>?_;refine yJ ?_;refine RL.step (λw' dY=>aJC rV rfl ((dv.below dY).cell (u:=.slice (some ⟨gx,ox,none⟩) lx.length cx) rfl)) rfl ?_;refine Ze ?_;refine RL.step (λw' dY=>aL5 (cs:=cB (lf lx 0)) aL rfl (bN _) (((HV.below Dx).below dY).get (i:=0) pP)) rfl ?_;refine uU ?_;have aLk:nJ w (aG F R):=λt ht=>by
      obtain⟨i,hi,rfl⟩:=aCc.1 ht;exact hFr i (aBt _) (aC5.1 hi)
     have zl:=Dx.tr oR;have hrP:aE gG 2 AA (some ⟨w4.heap.size,0,none⟩) (aG F R).length (lf (aG F R)):=by
      rw[hlF];exact((hO9.below oR).bK).congr λi hi=>kU _ hi
     have hmc:=RH A9 (some ⟨w4.heap.size,0,none⟩) c9 R rs (aG F R) AA (hr9.below oR) hrP hc9 (by rw[hlF];exact aAB _) ((bY.sub aM2).below zl) (aLk.below zl) (by rw[<-sC];exact aKz) (by rw[<-hpF];exact fb);rw[hlF]at hmc;refine TM.act rfl (aKQ I7 hmc ?_);rintro v Qo ⟨A11,c11,os,rfl,aBn,ES,XG,Wi⟩;rw[<-sC,<-hpF,<-MZ]at XG;refine WL.nil ⟨oR.tr Wi,?_⟩;have hlm:=Kv hGp.XE BYO BYO;rw[<-XG,aCN]at hlm;refine TM.act rfl (aKQ I6 (RM A11 c11 os _ aBn ES BYO (λt ht=>?_)) ?_)
     .have:=Bn.LB (h:=os.map bt) (aER ht);have h9:=hGp.le;rw[<-XG]at h9;rw[show(bt t).2=t.2.2 from rfl]at this;omega
     rintro v Xn NH;rw[XG]at NH;have fQ:=NH;obtain⟨A12,c12,us,rfl,aNq,Na,En,aHE,tM,aGS,aHy⟩:=NH;have ec:=oR.tr (Wi.tr tM);have Qy:w.heap.size<Qo.heap.size:=by have:=aGb.lt;have:=oR.size;have:=Wi.size;omega
     refine WL.nil ⟨ec,?_⟩;have aHO:=aGb.below ec;refine TM.last rfl (WL.store (v:=mV (lf lx 0)) aL rfl rfl rfl (cJ _) aHO (aAB 2) λw13 ak Y1 aNb=>WL.nil ?_);refine uU ?_;refine TM.fin (hK _ _ ?_);clear hK K;have b5:=(Dx.tr ec).rM ak (by intro b hb;cases hb;exact aAB _);refine aB ?_;refine aNa aL rfl rfl rfl rfl Y1 rfl ⟨b5,λh=>absurd he h,λ_ h=>absurd h cQ,λ_ _=>⟨_,by rw[xJ];rfl,⟨A12,c12,us,rfl,aNq,?_,λt ht=>⟨λh0=>?_,(En t ht).2⟩,aHE,b5,λp hp h0=>by have:=aGS p hp h0;omega,λt ht p hp h0=>by have:=aHy t ht p hp h0;omega⟩⟩⟩
     .intro h0;exact Na.grown ak (λp hp e=>by have:=aGS p hp h0;injection e with e;omega) h0
     .exact(En t ht).1.grown ak (λp hp e=>by have:=aHy t ht p hp h0;injection e with e;omega) h0
 .rw[bO he];refine aB ?_;refine aLO rfl ?_;refine aZ λK hK=>?_;refine WL.store (v:=mV (0,0)) aL rfl rfl rfl (cJ _) iW (aAB 2) λw3 iE mM EL=>?_;refine aB ?_;rw[<-bO he];exact aNa aL rfl rfl rfl rfl mM rfl ⟨gF.rM iE (by intro b hb;cases hb;exact aAB _),λ_=>rfl,λh=>absurd h he,λh=>absurd h he⟩
end Rk
namespace Rk
open Go Go.RowKit Go.Proofs
attribute [local irreducible] aA jH OpC WL QL WC WX OL RL
end Rk
namespace Rk
open Go Go.RowKit Go.Proofs
attribute [local irreducible] aA jH OpC WL QL WC WX OL RL TL TM
def nw{h:List Bn.BT}(hG:Bn.HG h){x:It}(hx:iR x=true)(hs:Bn.fE h+1<=60):nY h [(0,[x])]=0/\Bn.HG (VK h [(0,[x])])/\(Bn.bH (VK h [(0,[x])])).Perm (Bn.bH h++[x]):=by
 have ha:=Bn.HG.alone hx;have h1:Bn.fE [((0:Int),[x])]=1:=rfl;obtain⟨m1,m2⟩:=hG.gZ ha BYO;refine⟨?_,m1,by simpa[Bn.bH,VK] using m2⟩;unfold nY;rw[if_neg (by rw[hG.check];omega),if_neg (by rw[ha.check];omega),if_neg BYO]
end Rk
namespace Rk
open Go Go.RowKit Go.Proofs
attribute [local irreducible] aA jH OpC WL QL WC WX OL RL
def jK(w:World)(F:Nat->Prop)(v:Value)(l:List It):Prop:=∃A c us,v=.slice A us.length c/\us.length<=c/\aE gG 2 w A us.length (lf us)/\nJ w us/\Bn.HG (us.map bt)/\(Bn.bH (us.map bt)).Perm l/\
 (∀p,A=some p->0<us.length->p.block<w.heap.size/\¬F p.block)/\∀g,TF us g->¬F g
section
variable{w w':World}{F F':Nat->Prop}{v:Value}{l:List It}
def jK.dG(h:jK w F v l)(hc:bF w w' F F'):jK w' F' v l:=by
 obtain⟨A,c,us,rfl,h1,hr,hk,hG,hp,hA,hT⟩:=h;have st:∀g,g<w.heap.size->¬F g->¬F' g:=λg hg hn h1=>by
  rcases(hc.next g h1).1 with h2|h2
  .exact hn h2
  .omega
 refine⟨A,c,us,rfl,h1,λh0=>hr.dG hc (λp hp=>(hA p hp h0).2) h0,hk.dG hc λg h3 h4=>hT g h4 h3,hG,hp,λp hp h0=>⟨aAx (hA p hp h0).1 hc.size,st _ (hA p hp h0).1 (hA p hp h0).2⟩,λg hg=>st g (hk.tf g hg) (hT g hg)⟩
def jK.below(h:jK w F v l)(hb:Below w.heap.size w w'):jK w' F v l:=by
 obtain⟨A,c,us,rfl,h1,hr,hk,hG,hp,hA,hT⟩:=h;exact⟨A,c,us,rfl,h1,hr.below hb,hk.below hb,hG,hp,λp hp h0=>⟨aAx (hA p hp h0).1 hb.size,(hA p hp h0).2⟩,hT⟩
def jK.nil:jK w F (.slice none 0 0) []:=⟨none,0,[],rfl,aAB _,λh=>absurd h BYS,nJ.nil _,Bn.HG.nil,aBx _,λp hp=>(by cases hp),λg ⟨t,ht,_⟩=>(by cases ht)⟩
def jK.of{h:List Bn.BT}(hg:LD w w' v h)(hG:Bn.HG h)(hp:(Bn.bH h).Perm l)(hF:∀g,F g->g<w.heap.size):jK w' F v l:=by
 obtain⟨A,c,us,rfl,hc,hr,hk,rfl,hB,hn,hm⟩:=hg;refine⟨A,c,us,rfl,hc,hr,hk,hG,hp,λp hp h0=>?_,λg ⟨t,ht,p,hp,h0,e⟩ hf=>?_⟩
 .subst hp;obtain⟨b,o,e,hb,_⟩:=hr h0;cases e;refine⟨hb,λhf=>?_⟩;have h1:=hn _ rfl h0;have h2:=hF _ hf;dsimp only at h1 h2;omega
 .have:=hm t ht p hp h0;have:=hF g hf;omega
def Vf(h:jK w F v l){x:It}(hx:iR x=true)(hl:l.length<60)(hF:∀g,F g->g<w.heap.size):
  Calls tz 10 #[v,mV x] w (eT λr w'=>Below w.heap.size w w'/\∃v',r=.tuple #[v',.nilIface]/\jK w' F v' (x::l)):=by
 obtain⟨A,c,us,rfl,hc,hr,hk,hG,hp,_,_⟩:=h;have oC:Bn.fE (us.map bt)=l.length:=by unfold Bn.fE;rw[hp.length_eq]
 have hl9:=Kv hG.XE BYO BYO;rw[aCN]at hl9;refine(Vd A c us x w hr hc hk (by simp[maxLen];omega)).mono λe w' h=>?_;cases e<;>first|exact h.elim|skip
 obtain⟨hB,_,bY⟩:=h;obtain⟨he,hG',ND⟩:=nw hG hx BYO;obtain⟨u,rfl,hu⟩:=bY he;exact⟨hB,u,rfl,.of hu hG' ((ND.trans aDB).trans (hp.cons x)) hF⟩
def R6(h:jK w F v l)(hl:l≠[])(SB:l.length<=60)(hF:∀g,F g->g<w.heap.size):
  Calls tz 15 #[v] w (eT λr w'=>Below w.heap.size w w'/\∃x v' l',r=.tuple #[mV x,v',.nilIface]/\l.Perm (x::l')/\(∀y∈l',x.1<=y.1)/\jK w' F v' l'):=by
 obtain⟨A,c,us,rfl,hc,hr,hk,hG,hp,_,_⟩:=h;have hl9:=Kv hG.XE BYO BYO;rw[aCN]at hl9;have cQ:us.map bt≠[]:=λe=>hl (by
  rw[e]at hp;exact List.Perm.eq_nil hp.symm)
 refine(R5 A c us w hr hc hk (by simp[maxLen];omega)).mono λe w' h=>?_;cases e<;>first|exact h.elim|skip
 obtain⟨hB,_,_,MZ⟩:=h;obtain⟨u,rfl,hu⟩:=MZ hG.check cQ;obtain⟨hG7,hpm,aMD⟩:=hG.pop cQ;exact⟨hB,Bn.Cc (us.map bt),u,Bn.bH (Bn.VJ (us.map bt)),rfl,hp.symm.trans hpm.symm,λy hy=>aMD y (hpm.mem_iff.1 (aBm _ hy)),.of hu hG7 (aBx _) hF⟩
end
end Rk
