/- Part of the proof of TopSorts. -/
import Derived.Deep.SlicePairs
import Derived.ProofKit
import Derived.OpenShut
import Derived.ChangeOld
import Derived.Carry
import Derived.Test.YthdiheblgmddhaaGreatDoorQ08
import Derived.Test.YthdiheblgmddhaaGreatDoorQ10
import Derived.Test.YthdiheblgmddhaaGreatDoorQ11
import Derived.Test.YthdiheblgmddhaaGreatDoorQ13
import Derived.Test.YthdiheblgmddhaaGreatDoorQ24
set_option linter.all false
set_option maxHeartbeats 4000000
namespace Rk
open Go Go.RowKit Go.Proofs
variable{E:Env}{w:World}{t:TypeId}{x y:Operand}
def aPZ{a b:Int}(hx:aM E x=some (.int .i64 a))(hy:aM E y=some (.int .i64 b))(h:a=b):aA tz (.binOp .neq 3 x y 3) t E w (.bool false) w:=by
 have:=aO7 (P:=tz) (w:=w) (t:=t) (xt:=3) (yt:=3) hx hy;rwa[decide_eq_false (λh1:a≠b=>h1 h)]at this
def aR9{a b:It}(hx:aM E x=some (mV a))(hy:aM E y=some (mV b))(h:a=b):aA tz (.binOp .neq 38 x y 38) t E w (.bool false) w:=by
 have:=aPG (w:=w) (t:=t) hx hy;rwa[decide_eq_false (λh1:a≠b=>h1 h)]at this
attribute [local irreducible] aA jH OpC WL QL WC WX OL RL TL TM RE
def FT(F G:Nat->Prop):Nat->Prop:=λg=>F g\/G g
section
variable{w':World}{F F' G:Nat->Prop}{v:Value}{l:List It}
def DT.tT(h:DT w F v)(hg:∀g,F' g->w.heap.size<=g):DT w F' v:=h.imp id λh g uA=>⟨(h g uA).1,λhf=>by have:=hg g hf;have:=(h g uA).1;omega⟩
def lS.tT(h:lS w F v l)(hg:∀g,F' g->w.heap.size<=g):lS w F' v l:=by
 obtain⟨f,B,ho,hH,hp,hk,hf⟩:=h;exact⟨f,B,ho,hH,hp,hk,hf.tT hg⟩
def bF.yu(h:bF w w' F F')(hl:∀g,G g->g<w.heap.size):bF w w' (FT F G) (FT F' G):=
 ⟨h.os,h.tape,h.output,h.size,λk hk hn=>h.block k hk λhf=>hn (.inl hf),λg hg=>by
  rcases hg with hg|hg
  .exact⟨(h.next g hg).1.imp .inl id,(h.next g hg).2⟩
  .exact⟨.inl (.inr hg),aAx (hl g hg) h.size⟩⟩
def bF.X4(h:bF w w' F F')(hl:∀g,G g->g<w.heap.size):bF w w' (FT G F) (FT G F'):=
 ⟨h.os,h.tape,h.output,h.size,λk hk hn=>h.block k hk λhf=>hn (.inr hf),λg hg=>by
  rcases hg with hg|hg
  .exact⟨.inl (.inl hg),aAx (hl g hg) h.size⟩
  .exact⟨(h.next g hg).1.imp .inr id,(h.next g hg).2⟩⟩
def bF.toBelow{B:Nat}(h:bF w w' F F')(hF:∀g,F g->B<=g)(hB:B<=w.heap.size):Below B w w':=⟨h.os,h.tape,h.output,h.size,λk hk=>h.block k BYO λhf=>by have:=hF k hf;omega⟩
end
structure P1(B:Nat)(w0 w:World)(n:Nat)(f:Nat->It)(hv:Value)(bk sp i:Nat)(lv bv:Value)(l:List It)(L:List tH)(Fb Fs:Nat->Prop):Prop where
 h:lS w (FT Fb Fs) hv (aG f n)
 a:lC w (FT Fb Fs) lv l
 b:jK w (FT Fb Fs) bv l
 k:lU w bk i i L Fb
 s:kH w sp i l Fs
 pl:l.Perm (aG f i)
 pL:L.Perm (BQ 0 (aG f i))
 ap:∀g,Fb g->¬Fs g
 ge:∀g,FT Fb Fs g->B<=g
 bl:Below B w0 w
 tb:lZ w
def Left(S:List It)(i:Nat)(l:List It):Prop:=(l.map (·.1)).Perm ((S.drop i).map (·.1))
def Left.len{S:List It}{i:Nat}{l:List It}(h:Left S i l):l.length=S.length-i:=by
 have:=h.length_eq;simpa using this
structure P2(B:Nat)(w0 w:World)(n:Nat)(S:List It)(SE:List tH)(bk sp i:Nat)(hv lv bv:Value)(lh la lb ls:List It)(L:List tH)(Fb Fs:Nat->Prop):Prop where
 h:lS w (FT Fb Fs) hv lh
 a:lC w (FT Fb Fs) lv la
 b:jK w (FT Fb Fs) bv lb
 k:lU w bk n (n+i) L Fb
 s:kH w sp n ls Fs
 ph:Left S i lh
 pa:Left S i la
 pb:Left S i lb
 ps:Left S i ls
 pL:L.Perm (SE.drop i)
 ap:∀g,Fb g->¬Fs g
 ge:∀g,FT Fb Fs g->B<=g
 bl:Below B w0 w
 tb:lZ w
def qv(J Q:Act->World->Prop)(A:Option Addr)(n c:Nat)(f:Nat->It)(k z:Int)(w:World)(hr:aE cB 2 w A n f)(sa:n<=c)(hT:lZ w)(hg0:3<=w.heap.size)
  (hQ:∀a w',Ag a 270 [(6,.bool true)]->Below w.heap.size w w'->Q a w')
  (hJ:∀a w' A' c',Ag a 270 [(0,.slice A n c),(2,.int .i64 z),(8,.slice A' n c')]->aH n f=0->Below w.heap.size w w'->EB w' w.heap.size (.slice A' n c') n->aE cB 2 w' A' n (lf (bS (aG f n)))->J a w'):
  RE tz (ML 16 Dn) J Q 270 (AP [.slice A n c,.int .i64 k,.int .i64 z] 0) Dn w:=by
 refine RE.seq ?_;refine Zu ?_;refine aMI (RE.seq ?_);refine aMn λK hK=>?_;refine aKQ aEr (VT w) ?_;rintro v w1 ⟨rfl,cA⟩;refine Zu ?_;refine aMI (RE.seq ?_);refine Zu ?_;refine aJh rfl ?_;refine Zu ?_;refine aMI (RE.seq ?_);refine aMn λK hK=>?_;refine aKQ ld (Vt A n c f w1 (hr.below cA)) ?_;rintro v w2 ⟨mL,bY,bM⟩;have gF:=cA.tr bM;by_cases he:aH n f=0
 .obtain⟨v2,rfl,CG,A2,c2,rfl,pT⟩:=bY he;refine Zu ?_;refine aMI (RE.seq ?_);refine Zu ?_;refine aJh rfl ?_;refine Zu ?_;refine aMI (RE.seq ?_);refine Zu ?_;refine aJ6 rfl (λh=>absurd rfl h) (λ_=>?_);refine Zu ?_;refine aMI (RE.seq ?_);refine aMn λK hK=>?_;have Wr:=(hr.below cA).below bM;refine aKQ aEs (Uy (F:=λ_=>False) Wr he (λg hg=>hg.elim)) ?_;rintro v w3 ⟨dZ,hv,rfl,hH3⟩;refine Zu ?_;refine aMI (RE.seq ?_);refine aMn λK hK=>?_;refine aKQ aEt (S6 w3) ?_;rintro v w4 ⟨jR,rfl,xO⟩;refine Zu ?_;refine aMI (RE.seq ?_);refine Zu ?_;refine aJh rfl ?_;refine Zu ?_;refine aMI (RE.seq ?_);refine Zu ?_;refine aMI (RE.seq ?_);refine Zu ?_;refine aMI (RE.seq ?_);refine aMn λK hK=>?_;refine aKQ aEu (U4 w4) ?_;rintro v w5 ⟨gO,bk,Fb,rfl,hK5,hFb⟩;refine Zu ?_;refine aMI (RE.seq ?_);refine Zu ?_;have aMX:w3.heap.size<w4.heap.size:=xO.lt _ rfl;have hP0:P1 w2.heap.size w2 w5 n f hv bk w3.heap.size 0 (.slice none 0 0) (.slice none 0 0) [] [] Fb (λx=>x=w3.heap.size):=by
   refine⟨((hH3.tT (F':=FT Fb λx=>x=w3.heap.size) λg hg=>?_).below jR).below gO,lC.nil,jK.nil,hK5,xO.below gO,aBx _,aBx _,λg h1 h2=>?_,λg hg=>?_,(dZ.tr jR).tr gO,((((hT.tr cA).tr bM).tr dZ).tr jR).tr gO⟩
   .rcases hg with hg|rfl
    .have:=hFb g hg;omega
    .exact aAB _
   .have:=hFb g h1;omega
   .have:=dZ.size;rcases hg with hg|rfl
    .have:=hFb g hg;omega
    .exact this
  have se:=gR he;have aNt:∀i,i<n->iR (f i)=true:=λi hi=>sY he i hi;generalize hsp:w3.heap.size=sp at hP0⊢;clear xO hK5 hFb hH3 dZ jR gO aMX;refine aMP (λs:Nat×Value×Value×List It×List tH×(Nat->Prop)×(Nat->Prop)=>[(0,.slice A n c),(1,.int .i64 k),(2,.int .i64 z),(8,.slice A2 n c2),(10,hv),(12,rB sp),(14,s.2.1),(15,s.2.2.1),(16,.pointer (some ⟨bk,0,none⟩)),(17,.int .i64 (s.1:Nat))])
   (λs q wr=>s.1<=n/\q=n-s.1/\P1 w2.heap.size w2 wr n f hv bk sp s.1 s.2.1 s.2.2.1 s.2.2.2.1 s.2.2.2.2.1 s.2.2.2.2.2.1 s.2.2.2.2.2.2) n (0,.slice none 0 0,.slice none 0 0,[],[],Fb,λx=>x=sp) ⟨BYS,BYS,hP0⟩ aJA ?_
  rintro⟨i,lv,bv,l,L,Gb,Gs⟩ q wr ⟨hi,rfl,hP⟩;dsimp only at hi hP⊢;refine Zu ?_;refine aJ6 rfl (λh=>?_) (λh=>?_)
  .have uK:i<n:=BYO;have hit:=aNt i uK;have ay:l.length=i:=by rw[hP.pl.length_eq,aF]
   have hLL:L.length=i:=by
    have e1:∀(l:List It) m,(BQ m l).length=l.length:=λl=>by
     induction l with
     |nil=>intro m;rfl
     |cons x r ih=>intro m;simp[BQ,ih]
    rw[hP.pL.length_eq,e1,aF]
   have hF:∀g,FT Gb Gs g->g<wr.heap.size:=λg hg=>hg.elim (hP.k.lt g) (hP.s.lt g);have aLY:=gF.size;have Mh:=Wr.below hP.bl;obtain⟨b0,o0,rfl,_⟩:=Mh.ne BYO;refine aMn λK hK=>?_;refine aKQ aEv (Ux hP.a hit BYO hF) ?_;rintro v w6 ⟨gH,lv',rfl,XI⟩;have bl6:=hP.bl.tr gH;replace Mh:=Wr.below bl6;have hF6:∀g,FT Gb Gs g->g<w6.heap.size:=λg hg=>aAx (hF g hg) gH.size;refine aMn λK hK=>?_;refine aKQ vz (Vf (hP.b.below gH) hit BYO hF6) ?_;rintro v w7 ⟨lD,bv',rfl,OT⟩;have bl7:=bl6.tr lD;replace Mh:=Wr.below bl7;have cm:=gH.tr lD;have hT7:=hP.tb.tr cm;have qO:=hP.bl.size;have hGb:∀g,Gb g->3<=g:=λg hg=>by have:=hP.ge g (.inl hg);omega
   refine aMn λK hK=>?_;refine aKQ wa (Vs (hP.k.below cm) hT7 hGb hit BYO BYO BYO) ?_;rintro v w8 ⟨rfl,L',XP,fu,aNs,wA,hT8⟩;have hz7:=cm.size;have bl8:Below w2.heap.size w2 w8:=bl7.trans (wA.toBelow (λg hg=>hP.ge g (.inl hg)) BYO);replace Mh:=Wr.below bl8;have hF7:∀g,FT Gb Gs g->g<w7.heap.size:=λg hg=>aAx (hF g hg) hz7;have zN:=wA.yu (G:=Gs) λg hg=>hF7 g (.inr hg);have hs8:kH w8 sp i l Gs:=(hP.s.below cm).dG wA λg h1 h2=>hP.ap g h2 h1;have ap8:∀g,XP g->¬Gs g:=λg h1 h2=>by
    rcases(wA.next g h1).1 with h3|h3
    .exact hP.ap g h3 h2
    .have:=hF7 g (.inr h2);omega
   have ge8:∀g,FT XP Gs g->w2.heap.size<=g:=λg hg=>by
    rcases(zN.next g hg).1 with h3|h3
    .exact hP.ge g h3
    .omega
   refine aMn λK hK=>?_;refine aKQ wb (Vk hs8 hit BYO) ?_;rintro v w9 ⟨rfl,fe,hs9,pS⟩;have b8:=wA.size;have hF8:∀g,XP g->g<w8.heap.size:=fu.lt;have sb:=pS.X4 (G:=XP) hF8;have bl9:Below w2.heap.size w2 w9:=bl8.trans (pS.toBelow (λg hg=>hP.ge g (.inr hg)) BYO);have ap9:∀g,XP g->¬fe g:=λg h1 h2=>by
    rcases(pS.next g h2).1 with h3|h3
    .exact ap8 g h1 h3
    .have:=hF8 g h1;omega
   have ge9:∀g,FT XP fe g->w2.heap.size<=g:=λg hg=>by
    rcases(sb.next g hg).1 with h3|h3
    .exact ge8 g h3
    .have:=wA.size;omega
   have hT9:=hT8.dG pS λg hg=>by have:=hP.ge g (.inr hg);omega
   have hP9:P1 w2.heap.size w2 w9 n f hv bk sp (i+1) lv' bv' (f i::l) L' XP fe:=by
    refine⟨((hP.h.below cm).dG zN).dG sb,((XI.below lD).dG zN).dG sb,(OT.dG zN).dG sb,fu.dG pS λg h1 h2=>ap8 g h1 h2,hs9,?_,?_,ap9,ge9,bl9,hT9⟩
    .rw[gM];exact(hP.pl.cons _).trans (aDr _ _).symm
    .rw[gM,Cq,aF];refine aNs.trans ((hP.pL.cons _).trans ?_);simp only[BQ,aAn];exact(aDr _ _).symm
   refine Zu ?_;refine aJh rfl ?_;refine Zu ?_;exact aMF (i+1,lv',bv',f i::l,L',XP,fe) (n-(i+1)) BYO ⟨by show i+1<=n;omega,rfl,hP9⟩ aJA
  .obtain rfl:n=i:=BYO;clear h;obtain⟨SE,aHx,aNx,aL7⟩:=Ct (aG f n);have hSp:(aG f n).Perm (bS (aG f n)):=(kA (aG f n)).perm.symm;have hP2:P2 w2.heap.size w2 wr n (bS (aG f n)) SE bk sp 0 hv lv bv (aG f n) l l l L Gb Gs:=
    ⟨hP.h,hP.a,hP.b,hP.k,hP.s,tI hSp,tI (hP.pl.trans hSp),tI (hP.pl.trans hSp),tI (hP.pl.trans hSp),by rw[aF1];exact hP.pL.trans aL7.symm,hP.ap,hP.ge,hP.bl,hP.tb⟩
   have cj:(bS (aG f n)).length=n:=by rw[kW,aF]
   have Mt:SE.length=n:=by
    have:=congrArg List.length aHx;rw[aCN,cj]at this;exact this
   refine Zu ?_;refine aMI (RE.seq ?_);refine Zu ?_;refine aMP (λs:Nat×(Value×Value×Value)×(List It×List It×List It×List It)×List tH×(Nat->Prop)×(Nat->Prop)=>[(0,.slice A n c),(1,.int .i64 k),(2,.int .i64 z),(8,.slice A2 n c2),(10,s.2.1.1),(12,rB sp),(14,s.2.1.2.1),(15,s.2.1.2.2),(16,.pointer (some ⟨bk,0,none⟩)),(24,.int .i64 (s.1:Nat))])
    (λs q wr=>s.1<=n/\q=n-s.1/\P2 w2.heap.size w2 wr n (bS (aG f n)) SE bk sp s.1 s.2.1.1 s.2.1.2.1 s.2.1.2.2 s.2.2.1.1 s.2.2.1.2.1 s.2.2.1.2.2.1 s.2.2.1.2.2.2 s.2.2.2.1 s.2.2.2.2.1 s.2.2.2.2.2) n (0,(hv,lv,bv),(aG f n,l,l,l),L,Gb,Gs) ⟨BYS,BYS,hP2⟩ aJA ?_
   clear hP hP2 hP0;rintro⟨i,⟨hv,lv,bv⟩,⟨lh,la,lb,ls⟩,L,Gb,Gs⟩ q wr ⟨hi,rfl,hP⟩;dsimp only at hi hP⊢;refine Zu ?_;refine aJ6 rfl (λh=>?_) (λh=>?_)
   .have uK:i<n:=BYO;have hiS:i<(bS (aG f n)).length:=by rw[cj];exact uK
    have hsS:=jA (aG f n);have ln:∀l,Left (bS (aG f n)) i l->l.length=n-i/\l≠[]:=λl hl=>by
     have:=hl.len;rw[cj]at this;exact⟨this,λe=>by rw[e]at this;simp at this;omega⟩
    have hLn:L.length=n-i:=by rw[hP.pL.length_eq,aC6,Mt]
    have aLf:L≠[]:=λe=>by rw[e]at hLn;simp at hLn;omega
    have hF:∀g,FT Gb Gs g->g<wr.heap.size:=λg hg=>hg.elim (hP.k.lt g) (hP.s.lt g);have aLY:=gF.size;have qO:=hP.bl.size;have hGb:∀g,Gb g->3<=g:=λg hg=>by have:=hP.ge g (.inl hg);omega
    refine aMn λK hK=>?_;refine aKQ wc (Q4 hP.h (ln _ hP.ph).2 (by have:=(ln _ hP.ph).1;omega) hF) ?_;rintro v w6 ⟨gH,x1,XO,lh',rfl,nB,sj,hh6⟩;obtain⟨HT,Ec⟩:=wW hsS hP.ph nB sj hiS;refine Zu ?_;refine WL.box aL rfl rfl rfl (cJ _) λw7 uO OT hz7=>?_;have lD:=aC uO;replace OT:Bk w7 w6.heap.size 38 (cB x1):=OT;have Ew:=gH.tr lD;have hF7:∀g,FT Gb Gs g->g<w7.heap.size:=λg hg=>aAx (hF g hg) Ew.size;refine aMn λK hK=>?_;refine aKQ we (Q0 (hP.a.below Ew) (ln _ hP.pa).2 hF7) ?_;rintro v w8 ⟨mN,x2,lv',la',rfl,HS,Wq,Mz⟩;obtain⟨uQ,aMl⟩:=wW hsS hP.pa HS Wq hiS;refine Zu ?_;refine WL.box aL rfl rfl rfl (cJ _) λw9 CI dv ba=>?_;have zV:=aC CI;replace dv:Bk w9 w8.heap.size 38 (cB x2):=dv;have aCm:=mN.tr zV;have Dx:=Ew.tr aCm;have hF9:∀g,FT Gb Gs g->g<w9.heap.size:=λg hg=>aAx (hF g hg) Dx.size;refine aMn λK hK=>?_;refine aKQ wh (R6 (hP.b.below Dx) (ln _ hP.pb).2 (by have:=(ln _ hP.pb).1;omega) hF9) ?_;rintro v AA ⟨oR,x3,bv',lb',rfl,hp3,fy,oO⟩;obtain⟨Ek,Xi⟩:=wW hsS hP.pb hp3 fy hiS;refine Zu ?_;refine WL.box aL rfl rfl rfl (cJ _) λQo xN au uh=>?_;have Wi:=aC xN;replace au:Bk Qo AA.heap.size 38 (cB x3):=au;have Ed:=oR.tr Wi;have SC:=Dx.tr Ed;refine aMn λK hK=>?_;refine aKQ wj (U5 (hP.k.below SC) (hP.tb.tr SC) hGb aLf BYO BYO) ?_;rintro v Xn ⟨x4,L',XP,rfl,hp4,hm4,aH8,zQ,aLG⟩;have aIG:∀g,FT Gb Gs g->g<Qo.heap.size:=λg hg=>aAx (hF g hg) SC.size;have zm:=zQ.yu (G:=Gs) λg hg=>aIG g (.inr hg);obtain⟨wC,hL4⟩:=Vr aNx (hp4.symm.trans hP.pL) hm4 (by rw[Mt];exact uK);refine Zu ?_;refine WL.box aL rfl rfl rfl (cJ _) λw13 ak Y1 aNb=>?_;have OV:=aC ak;replace Y1:Bk w13 Xn.heap.size 38 (cB x4.it):=Y1;have aLD:kH w13 sp n ls Gs:=((hP.s.below SC).dG zQ λg h1 h2=>hP.ap g h2 h1).below OV;refine aMn λK hK=>?_;refine aKQ wm (S7 aLD (ln _ hP.ps).2 BYO) ?_;rintro v w14 ⟨x5,ls',fe,rfl,bz,hm5,aNR,Mg⟩;obtain⟨SF,hl5⟩:=wW hsS hP.ps bz hm5 hiS;refine Zu ?_;refine WL.box aL rfl rfl rfl (cJ _) λw15 aLd NF aQ0=>?_;have OX:=aC aLd;replace NF:Bk w15 w14.heap.size 38 (cB x5):=NF;have uh:=SC.size;have aLn:Below w2.heap.size w2 Xn:=(hP.bl.tr SC).trans (zQ.toBelow (λg hg=>hP.ge g (.inl hg)) BYO);have rq:=zQ.size;have aP6:=OV.size;have aMw:Below w2.heap.size w2 w14:=(aLn.tr OV).trans (Mg.toBelow (λg hg=>hP.ge g (.inr hg)) BYO);have aIM:=aMw.tr OX;have hrs:=pT.below aIM;obtain⟨b2,o2,rfl,_⟩:=hrs.ne BYO;refine Zu ?_;refine aJh rfl ?_;refine Zu ?_;have far:∀g,wr.heap.size<=g->¬Gb g/\¬Gs g:=λg hg=>⟨λh1=>by have:=hF g (.inl h1);omega,λh1=>by have:=hF g (.inr h1);omega⟩;have FW:=gH.size;have b8:=mN.size;have Du:=oR.size;have aQk:=Ew.size;have aSG:=Dx.size;have kc:∀{g:Nat} {cs:List Value},wr.heap.size<=g->Bk Qo g 38 cs->Bk w15 g 38 cs:=λ{g cs} hg hb=>((((hb.dG zQ (far g hg).1).below OV).dG Mg (far g hg).2).below OX);have k1:=kc BYO (OT.below (aCm.tr Ed));have k2:=kc BYO (dv.below Ed);have k3:=kc BYO au;have k4:Bk w15 Xn.heap.size 38 (cB x4.it):=(Y1.dG Mg (far _ BYO).2).below OX;have hSi:(lf (bS (aG f n)) i).1=(bS (aG f n))[i].1:=by rw[bU hiS]
    have aLM:x4.it=lf (bS (aG f n)) i:=by
     rw[wC,bU hiS];have:=congrArg (λl=>l[i]?) aHx;simp only[aIr]at this;rw[aDZ (by rw[Mt];exact uK),aDZ hiS]at this;simpa using this
    refine aLh mixed BYK ?_;refine QL.aO aM5 ?_;refine QL.step (λ_ hw=>aJC aN rfl ((k1.below hw).cell rfl)) rfl ?_;refine QL.aO aA.move ?_;refine QL.step (λ_ _=>aPZ rfl rfl (HT.trans hSi.symm)) rfl ?_;refine QL.aO aA.move ?_;refine aM9 ?_;refine QL.aO aM5 ?_;refine aM9 ?_;refine QL.step (λ_ hw=>aJC aN rfl ((k2.below hw).cell rfl)) rfl ?_;refine aM9 ?_;refine QL.aO aA.move ?_;refine aM9 ?_;refine QL.step (λ_ _=>aPZ rfl rfl (uQ.trans hSi.symm)) rfl ?_;refine QL.aO aMU ?_;refine QL.aO aA.move ?_;refine aM9 ?_;refine QL.aO aM5 ?_;refine aM9 ?_;refine QL.step (λ_ hw=>aJC aN rfl ((k3.below hw).cell rfl)) rfl ?_;refine aM9 ?_;refine QL.aO aA.move ?_;refine aM9 ?_;refine QL.step (λ_ _=>aPZ rfl rfl (Ek.trans hSi.symm)) rfl ?_;refine QL.aO aMU ?_;refine QL.aO aA.move ?_;refine aM9 ?_;refine QL.step (λ_ hw=>aL5 (cs:=cB x4.it) aL rfl (bN _) (λj u hu=>by rw[aAn];exact(k4.below hw).cell hu)) rfl ?_;refine aM9 ?_;refine QL.aO aA.move ?_;refine aM9 ?_;refine QL.aO aA.move ?_;refine aM9 ?_;refine QL.aO aMy ?_;refine aM9 ?_;refine aMC aOC ?_;refine aM9 ?_;refine QL.step (λ_ _=>aR9 rfl rfl aLM) rfl ?_;refine QL.aO aMU ?_;refine QL.aO aA.move ?_;refine aM9 ?_;refine QL.aO aA.move ?_;refine aM9 ?_;refine QL.aO aA.move ?_;refine aM9 ?_;refine QL.step (λ_ _=>aPZ rfl rfl (SF.trans hSi.symm)) rfl ?_;refine QL.aO aMU ?_;refine QL.done λw16 bo=>?_;refine Zu ?_;refine aJh rfl ?_;refine Zu ?_;have aHc:∀g,XP g->g<w13.heap.size:=λg hg=>aAx (aH8.lt g hg) OV.size;have yw:=Mg.X4 (G:=XP) aHc;have up:∀{P:World->(Nat->Prop)->Prop},(∀{w w' F},P w F->Below w.heap.size w w'->P w' F)->(∀{w w' F F'},P w F->bF w w' F F'->P w' F')->P Qo (FT Gb Gs)->P w16 (FT XP fe):=λ{P} h1 h2 h3=>h1 (h2 (h1 (h2 h3 zm) OV) yw) (OX.tr bo);have aHN:∀g,XP g->¬Gs g:=λg h1 h2=>by
     rcases(zQ.next g h1).1 with h3|h3
     .exact hP.ap g h3 h2
     .have:=aIG g (.inr h2);omega
    have aKv:∀g,XP g->¬fe g:=λg h1 h2=>by
     rcases(Mg.next g h2).1 with h3|h3
     .exact aHN g h1 h3
     .have:=aHc g h1;omega
    have aNh:∀g,FT XP Gs g->w2.heap.size<=g:=λg hg=>by
     rcases(zm.next g hg).1 with h3|h3
     .exact hP.ge g h3
     .omega
    have aMM:∀g,FT XP fe g->w2.heap.size<=g:=λg hg=>by
     rcases(yw.next g hg).1 with h3|h3
     .exact aNh g h3
     .omega
    have aMJ:=(aLG.tr OV).dG Mg λg hg=>by have:=hP.ge g (.inr hg);omega
    have aMO:P2 w2.heap.size w2 w16 n (bS (aG f n)) SE bk sp (i+1) XO lv' bv' lh' la' lb' ls' L' XP fe:=
     ⟨up (P:=λw F=>lS w F XO lh') (λh hb=>h.below hb) (λh hc=>h.dG hc) (hh6.below (lD.tr (aCm.tr Ed))),
      up (P:=λw F=>lC w F lv' la') (λh hb=>h.below hb) (λh hc=>h.dG hc) (Mz.below (zV.tr Ed)),
      up (P:=λw F=>jK w F bv' lb') (λh hb=>h.below hb) (λh hc=>h.dG hc) (oO.below Wi),
      ((aH8.below OV).dG Mg λg h1 h2=>aHN g h1 h2).below (OX.tr bo),aNR.below (OX.tr bo),Ec,aMl,Xi,hl5,hL4,aKv,aMM,aIM.tr bo,aMJ.tr (OX.tr bo)⟩
    exact aMF (i+1,(XO,lv',bv'),(lh',la',lb',ls'),L',XP,fe) (n-(i+1)) BYO ⟨by show i+1<=n;omega,rfl,aMO⟩ aJA
   .obtain rfl:n=i:=BYO;clear h;have qO:=hP.bl.size;have Mh:=Wr.below hP.bl;refine Zu ?_;refine aMI (RE.sub aJA (X3 J Q A A2 n c c2 f k z wr Mh (pT.below hP.bl) se λa w' ha hB=>?_));have bw:=hP.bl.tr hB;have h1:Below w.heap.size w w':=gF.tr bw;exact hJ a w' A2 c2 ha he h1 (CG.at bw (cA.size)) (pT.below bw)
 .rw[mL he,bO he];refine Zu ?_;refine aMI (RE.seq ?_);refine Zu ?_;refine aLO rfl ?_;refine Zu ?_;exact aTG λa ha=>hQ a w2 ((show Sub _ _ from aJA).ag ha) gF
end Rk
namespace Rk.Al
open Go Go.Conc Go.RowKit Go.Proofs Rk.fD Rk.Cw
variable{w:World}{A:Option Addr}{n B:Nat}{f:Nat->It}
def qw:Dn=UZ:=rfl
def qx:ML 16 Dn=ng:=rfl
def X5:aE cB 2 (gw w) A n f↔aE cB 2 w A n f:=by
 unfold aE;simp only[wK,SY]
def X6{b:Nat}{cs:Array Value}{T:TypeId}{fz:Nat×Nat}(h:(gw w).heap[b]?=some (.cells cs T fz)):w.heap[b]?=some (.cells cs T fz):=by
 rw[tO]at h;cases hx:w.heap[b]? with
 |none=>rw[hx]at h;cases h
 |some o=>
  rw[hx]at h;cases o<;>first|exact h|cases h
def RU{w':World}(hk:uB w w')(hb:Below B (gw w) (gw w')):Below B w w':=by
 refine⟨hk.os,hk.tape,hk.output,hk.size,λb dD=>?_⟩;have h:=hb.block b dD;rw[tO,tO]at h;cases hx:w.heap[b]? with
 |none=>
  rw[hx]at h;cases hy:w'.heap[b]? with
  |none=>rfl
  |some o'=>rw[hy]at h;cases h
 |some o=>
  cases ht:jW o with
  |false=>exact(hk.un b o ht).2 hx
  |true=>
   rw[hx]at h;cases hy:w'.heap[b]? with
   |none=>rw[hy]at h;cases h
   |some o'=>
    cases CC:jW o' with
    |false=>
     have:=(hk.un b o' CC).1 hy;rw[hx]at this;cases this;exact absurd (ht.symm.trans CC) BYD
    |true=>
     rw[hy]at h;simpa[wJ ht,wJ CC] using h
def RV{w1 w2:World}(h:Below B w w1)(g:bZ (λb x=>x=none/\b<B) w1 w2):Below B w w2:=
 ⟨g.os.trans h.os,g.tape.trans h.tape,g.output.trans h.output,aBS h.size g.size,λb hb=>(g.all b ⟨rfl,hb⟩).trans (h.block b hb)⟩
def X7{c:Nat}{k z:Int}{W:World}(hr:aE cB 2 W A n f)(sa:n<=c)(hT:lZ (gw W))(hg:GB<=W.heap.size)(hA:Seen W (λb x=>x=none/\b<W.heap.size) A){Post:Value->World->Prop}(hp:∀w',Below W.heap.size W w'->Post (.bool true) w'):
  eV Tryz.prog Post (solo (G (Frame.enter Tryz.prog 3 #[.slice A n c,.int .i64 k,.int .i64 z] .normal) []) W) #[]:=by
 have h:=qv (λa V=>∃A' c',Ag a 270 [(0,.slice A n c),(2,.int .i64 z),(8,.slice A' n c')]/\aH n f=0/\Below W.heap.size (gw W) V/\EB V W.heap.size (.slice A' n c') n/\aE cB 2 V A' n (lf (bS (aG f n)))) (λa V=>Ag a 270 [(6,.bool true)]/\Below W.heap.size (gw W) V)
  A n c f k z (gw W) (X5.2 hr) sa hT (by rw[wK];exact aBS (Nat.le_add_right _ _) hg) (λa w' h1 h2=>⟨h1,by rwa[wK]at h2⟩) (λa w' A' c' h1 h2 h3 h4 h5=>⟨A',c',h1,h2,by rwa[wK]at h3,by rwa[wK]at h4,h5⟩)
 rw[qx,qw]at h;refine ni (lo:=W.heap.size) (args:=[.slice A n c,.int .i64 k,.int .i64 z]) rfl (λa w' hk hj=>?_) (λa w' hk hj=>?_) h
 .obtain⟨A',c',ha,he,hb,hl,sD⟩:=hj;have hB:=RU hk hb;have Mh:=hr.below hB;have hn:=gR he;obtain⟨A1,c1,e,_,WI⟩:=hl;cases e;have CG:∀p,A'=some p->p.spot=none/\W.heap.size<=p.block/\∃cs fz,w'.heap[p.block]?=some (.cells cs 38 fz):=λp hp=>by
   obtain⟨h1,h2,cs,fz,h3⟩:=WI p hp;exact⟨h1,h2,cs,fz,X6 h3⟩
  refine O1 (lo:=W.heap.size) (f:=f) (As:=A') (c':=c') (k:=[]) Mh (λp hp=>?_) (X5.1 sD) (λp hp=>?_) (λp hp=>?_) hB.size (aBS hg hB.size) sa he BYO (λw2 h2=>hp w2 (RV hB h2)) a ⟨ha.size,ha.defers,ha.at_⟩
  .obtain⟨h1,⟨h2,h3⟩,h4,cs,T,fz,h5⟩:=hA p hp;exact⟨h1,⟨rfl,aAx h3 hB.size⟩,h4,cs,T,fz,by rw[hB.block _ h3];exact h5⟩
  .obtain⟨h1,h2,cs,fz,h3⟩:=CG p hp;exact⟨h1,⟨rfl,(aCH.1 h3).1⟩,aBS hg h2,cs,_,fz,h3⟩
  .obtain⟨h1,h2,cs,fz,h3⟩:=CG p hp;exact HJ h3 λe=>absurd e BYD
 .obtain⟨ha,hb⟩:=hj;have hB:=RU hk hb;exact⟨ha.defers,_,ha.at_ 6 _ rfl,λw2 h2=>hp w2 (RV hB (h2.sub λb x hx=>⟨hx.1,aAx hx.2 hB.size⟩))⟩
end Rk.Al
namespace Rk.Cw
open Go Go.RowKit Go.Proofs Go.ChangeShapes Go.WideShapes
def Lv{H:Type}{enc:TypeId×Value->H}{W:World}{base:Nat}{spare:Nat->Bool}{held:Bool}{a0:Option Addr}{WY Y8:Nat}{d:DataW H}{p:List MemPlace}
  (h:DataW.Trod enc Tryz.prog W base spare held 22 (.slice a0 WY Y8) d p):∃f:Nat->Int×Int,aE cB 2 W a0 WY f/\WY<=Y8/\Y8<=maxLen:=by
 obtain⟨fuel,hf⟩:=h;rcases Deep.open_slice_pairs Tryz.underlying22 Tryz.underlying38 BYK rfl rfl BYK BYK hf with⟨XN,_⟩|⟨a,len,cap,m,n,V0,V1,D0,D1,P0,P1,XN,_,hl,hm,hmm,_,hi⟩
 .simp[Value.cells]at XN;obtain⟨rfl,rfl,rfl⟩:=XN;exact⟨λ_=>(0,0),λh=>absurd h BYO,BYO,by simp[maxLen]⟩
 .simp[Value.cells]at XN;obtain⟨rfl,rfl,rfl⟩:=XN;have hlm:WY<=m:=by rw[hmm];split<;>omega
  have each:∀i,i<WY->∃q:Int×Int,W.cell? (a.add (i*2))=some (.int .i64 q.1)/\W.cell? (a.add (i*2+1))=some (.int .i64 q.2):=by
   intro i hil;obtain⟨h1,h2,h3,h4⟩:=hi i BYO;obtain⟨x,hx,_⟩:=DataW.trod_int Tryz.underlying3 h3;obtain⟨y,hy,_⟩:=DataW.trod_int Tryz.underlying3 h4;simp at hx hy;exact⟨(x,y),by rw[h1,hx],by rw[h2,hy]⟩
  obtain⟨f,hf⟩:∃f:Nat->Int×Int,∀i,i<WY->W.cell? (a.add (i*2))=some (.int .i64 (f i).1)/\W.cell? (a.add (i*2+1))=some (.int .i64 (f i).2):=
   ⟨λi=>if h:i<WY then(each i h).choose else(0,0),λi hi=>by simp only[dif_pos hi];exact(each i hi).choose_spec⟩
  refine⟨f,?_,hl,hm⟩;intro hn;obtain⟨b,off,spot⟩:=a;have hc:=(hf 0 hn).1;have dp:spot=none:=by simpa[Addr.add] using World.cell?_spot hc
  subst dp;have EN:∀k,(⟨b,off,none⟩:Addr).add k=⟨b,off+k,none⟩:=by
   intro k;unfold Addr.add;split
   .rename_i h0;subst h0;simp
   .simp
  refine⟨b,off,rfl,?_,λi hil j u hu=>?_⟩
  .rcases aCD b W.heap.size with hb|hb
   .exact hb
   .rw[EN]at hc;simp[World.cell?,aIm hb]at hc
  .have hq:=hf i hil;rw[EN,EN]at hq
   match j,hu with
   |0,hu=>simp[cB]at hu;subst hu;exact hq.1
   |1,hu=>simp[cB]at hu;subst hu;exact hq.2
end Rk.Cw
