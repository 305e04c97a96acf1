/- Part of the proof of TopSorts. -/
import Derived.Conc.EventLaws
import Derived.Conc.WgWords
import Derived.Orders
import Derived.Conc.DeferLaws
import Derived.Test.YthdiheblgmddhaaGreatDoorQ03
import Derived.Test.YthdiheblgmddhaaGreatDoorQ18
set_option linter.all false
namespace Rk.Cw
open Go Go.Conc Rk.fD
open Go.ConcR (KK WgAt stA smA rd wr)
variable{n:Nat}
def eV(P:Program)(Post:Value->World->Prop)(m:Machine)(t:Trace):Prop:=∃N last o w t',runNT P (N+1) m t=(.ended o w,t')/\runN P N m=.next last/\step P last=.ended o w/\Good P Post last o w t'
def eV.next{P:Program}{Post:Value->World->Prop}{m m':Machine}{t u:Trace}(hs:stepT P m=(.next m',u))(h:eV P Post m' (t++u)):eV P Post m t:=by
 obtain⟨N,last,o,w,t',h1,h2,h3,h4⟩:=h;refine⟨N+1,last,o,w,t',?_,?_,h3,h4⟩
 .rw[runNT];simp only[hs];exact h1
 .rw[runN];simp only[step,hs];exact h2
section
variable{P:Program}{lo:Nat}{ty:TypeId}{Post:Value->World->Prop}{f:World->Option (World×Value)->iB}{gs:Array Goroutine}{w w':World}{t:Trace}{n0:Nat}{D:Nat->oF}{Pb:Nat->Prop}{S R:PS}{d0 i:Nat}{a a' g gi:Goroutine}{sl:Option (Nat×Nat)}{ms:MS}{κ:oF}
def St(P:Program)(lo:Nat)(ty:TypeId)(Post:Value->World->Prop)(f:World->Option (World×Value)->iB)(ms:MS)(S R:PS)(g:Goroutine)(n0:Nat)(D:Nat->oF)(w:World)(a:Goroutine):Prop:=
 (DG a g/\a.status=.running)\/aEq ty ms w g a\/∃w1,aAW (λw2 v=>Oa P lo ty Post (f w1 (some (w2,v)))) ms S R n0 D w g a
def St.fN(h:St P lo ty Post f ms S R g n0 D w a)(hA:bZ (S.or R) w w')(hP:mC ty ms n0 n (put D i κ) w' t Pb)(h1:a'=a\/a'=a.again w')(h2:a'=a.again w' \/∀Wg qs ph,ms=.wg Wg qs ph->∀st,WgAt ty Wg w st 0->∃Mq,WgAt ty Wg w' Mq 0)
  (h3:∀qs nx vs got,ms=.ch qs nx vs got->∀(m r:Nat) Q,qs[m]?=some (r,Q)->(put D i κ (n0+m)).st=(D (n0+m)).st\/(a'=a.again w'/\∃cap buf s rc tm,w'.heap[r]?=some (.chan cap buf true s rc tm))\/∃d d',(D (n0+m)).st=.quit d/\(put D i κ (n0+m)).st=.quit d'):
  St P lo ty Post f ms S R g n0 (put D i κ) w' a':=by
 rcases h with⟨h4,h5⟩|⟨h4,Wg,qs,st,h5,h6⟩|⟨w1,qs,vs,got,r,Q,z,idx,h4,h5,h6,h7⟩
 .have e:a.again w'=a:=again_running w' (.inl h5);rw[e]at h1;obtain rfl:a'=a:=h1.elim id id;exact .inl ⟨h4,h5⟩
 .have e:a.again w'={a with status:=.running}:=by rw[h4];rfl
  have aw:a'=a.again w'->St P lo ty Post f ms S R g n0 (put D i κ) w' a':=λx=>.inl (by rw[x,e,h4];exact⟨⟨rfl,rfl,rfl⟩,rfl⟩);rcases h1 with rfl|h1
  .rcases h2 with h2|h2
   .exact aw h2
   .obtain⟨Mq,h8⟩:=h2 _ _ _ h5 st h6;exact .inr (.inl ⟨h4,Wg,qs,Mq,h5,h8⟩)
  .exact aw h1
 .have aCT:∀d,(D (n0+idx)).st≠.quit d:=λd hd=>by
   rcases h7 with⟨_,_,h8,_⟩|⟨_,_,v,h8⟩<;>rw[h8]at hd<;>cases hd
  rcases h3 _ _ _ _ h4 idx r Q h6 with h8|⟨h8,cap,buf,s,rc,tm,h9⟩|⟨d,_,h8,_⟩
  .subst h4;obtain⟨_,_,hM⟩:=NI.fN hP idx r Q h6;generalize vs[idx]?=o at hM;have cK:∃buf s rc,w'.heap[r]?=some (.chan 1 buf false s rc false):=by
    cases hM with
    |work _ _ _ d=>exact⟨_,_,_,d⟩
    |iG _ _ _ d=>exact⟨_,_,_,d⟩
    |took _ _ _ d=>exact⟨_,_,_,d⟩
    |shut b=>exact absurd (h8▸b) (aCT _)
    |gone b=>exact absurd (h8▸b) (aCT _)
   obtain⟨buf,s,rc,cK⟩:=cK;have e:a.again w'=a:=by rw[h5];exact again_recv_open cK
   rw[e]at h1;obtain rfl:a'=a:=h1.elim id id;refine .inr (.inr ⟨w1,qs,vs,got,r,Q,z,idx,rfl,h5,h6,?_⟩);rw[h8];exact h7.imp (λ⟨b1,b2,b3,b4⟩=>⟨b1,b2,b3,λv w2 BU=>b4 v w2 (hA.trans BU)⟩) id
  .have e:a.again w'={a with status:=.running}:=by rw[h5];exact again_recv_closed h9
   exact .inl (by rw[h8,e,h5];exact⟨⟨rfl,rfl,rfl⟩,rfl⟩)
  .exact absurd h8 (aCT d)
def Core.runs(h:Core P lo ty gs w t n0 D Pb S R d0)(hi:0<i)(hl:i<gs.size)(hq:∀d,(D i).st≠.quit d):∃(i:Nat) (g:Goroutine),gs[i]?=some g/\g.status=.running:=by
 obtain⟨g,h1,h2,_⟩:=h.fN i hi hl;obtain⟨_,_,h3,_⟩:=h2.move hq;exact⟨i,g,h1,h3⟩
def St.kz(h:St P lo ty Post f ms S R g n0 D w a)(hc:Core P lo ty gs w t n0 D Pb S R d0)(hP:mC ty ms n0 gs.size D w t Pb)(ha:gs[0]?=some a):∃(i:Nat) (g:Goroutine),gs[i]?=some g/\g.status=.running:=by
 rcases h with⟨_,h5⟩|⟨_,Wg,qs,st,rfl,h6⟩|⟨w1,qs,vs,got,r,Q,z,idx,rfl,h5,h6,h7⟩
 .exact⟨0,a,ha,h5⟩
 .have hI:Ob ty Wg qs .reg n0 gs.size D w t Pb:=hP;obtain⟨st1,sm1,hw,hM⟩:=hI.cnt;obtain⟨_,e2⟩:=hw.unique h6;have oC:=hI.sz;have hp:=hc.pos;have go:∀m,m<qs.length->(∀d,(D (n0+m)).st≠.quit d)->∃(i:Nat) (g:Goroutine),gs[i]?=some g/\g.status=.running:=λm hm hq=>hc.runs (i:=n0+m) BYO BYO hq;cases hM with
  |opn _ h2=>exact h2.elim
  | @reg c h1 h2 h3=>
   by_cases hx:∃m,m<qs.length/\0<((D (n0+m)).st).cnt
   .obtain⟨m,hm,hx⟩:=hx;exact go m hm λd hd=>by rw[hd]at hx;cases hx
   .exfalso;have:=ConcN.sumTo_le (f:=λm=>((D (n0+m)).st).cnt) (c:=0) (j:=qs.length) λm hm=>Nat.le_of_not_lt λh4=>hx ⟨m,hm,h4⟩;have h5:CN (λm=>(D (n0+m)).st) qs.length<=0*qs.length:=this;omega
  |last L h1 h2 h3=>exact go L h1 λd hd=>by have h2:(D (n0+L)).st=.l4\/(D (n0+L)).st=.l3:=h2;rw[hd]at h2;rcases h2 with h2|h2<;>cases h2
  |rJ L h1 h2 h3=>exact go L h1 λd hd=>by have h2:(D (n0+L)).st=.l2:=h2;rw[hd]at h2;cases h2
  |sema=>cases e2
  |fin h1=>rcases h1 with h1|h1|h1<;>cases h1
 .have hI:NI qs none vs got n0 gs.size D w t Pb:=hP;have oC:=hI.sz;have hp:=hc.pos;have hl:=(aDh.1 h6).1;refine hc.runs (i:=n0+idx) BYO BYO λd hd=>?_;rcases h7 with⟨_,_,h8,_⟩|⟨_,_,v,h8⟩<;>rw[h8]at hd<;>cases hd
def mC.pre(h:mC ty ms n0 n D w t Pb):ZF ty ms w:=by
 cases ms with
 |calm=>trivial
 |ch=>trivial
 |wg Wg qs ph=>
  have hI:Ob ty Wg qs ph n0 n D w t Pb:=h;obtain⟨st,sm,hw,hM⟩:=hI.cnt;refine⟨⟨st,sm,hw⟩,?_⟩;cases ph with
  |df bd=>
   obtain⟨h1,_,h3,h4⟩:=hM.open (.inr (.inr (.inr ⟨_,rfl⟩)));exact⟨_,h1,by rw[h3,h4]at hw;simpa[xR.pd] using hw⟩
  |reg=>
   cases hM with
   |opn _ h2=>exact h2.elim
   |reg=>exact .inl ⟨_,hw⟩
   |last=>exact .inl ⟨_,hw⟩
   |rJ=>exact .inl ⟨_,hw⟩
   |sema=>exact .inr hw
   |fin h1=>rcases h1 with h1|h1|h1<;>cases h1
  |sm=>
   obtain⟨_,rfl,rfl⟩:=hM.done (.inl rfl);exact hw
  |_=>trivial
def Claim(P:Program)(lo:Nat)(ty:TypeId)(Post:Value->World->Prop)(ρ:iB):Prop:=
 ∀(ms:MS) (S R:PS) (g:Goroutine) (w:World),Oa P lo ty Post ρ ms S R g w->∀(gs:Array Goroutine) (sl:Option (Nat×Nat)) (t:Trace) (n0:Nat) (D:Nat->oF) (Pb:Nat->Prop),Core P lo ty gs w t n0 D Pb S R ms.mute->mC ty ms n0 gs.size D w t Pb->gs[0]?=some g->eV P Post (crowd gs w sl) t
def node(IH:∀w1 o,Claim P lo ty Post (f w1 o)){w0:World}(h:Oa P lo ty Post (.mk f) ms S R g w0)(N:Nat):∀X:Nat->iB,Acc (vF N) X->
  ∀(gs:Array Goroutine) (w:World) (sl:Option (Nat×Nat)) (t:Trace) (n0:Nat) (D:Nat->oF) (Pb:Nat->Prop) (a:Goroutine),gs.size=N->(λi=>(D i).ρ)=X->Core P lo ty gs w t n0 D Pb S R ms.mute->mC ty ms n0 gs.size D w t Pb->gs[0]?=some a->bZ (S.or R) w0 w->
   St P lo ty Post f ms S R g n0 D w a->eV P Post (crowd gs w sl) t:=by
 intro X hX;induction hX with
 |intro X _ ih=>
  have kids:∀(gs:Array Goroutine) (w:World) (sl:Option (Nat×Nat)) (t:Trace) (n0:Nat) (D:Nat->oF) (Pb:Nat->Prop) (a:Goroutine),gs.size=N->(λi=>(D i).ρ)=X->Core P lo ty gs w t n0 D Pb S R ms.mute->mC ty ms n0 gs.size D w t Pb->gs[0]?=some a->bZ (S.or R) w0 w->
    St P lo ty Post f ms S R g n0 D w a->∀(i:Nat) (gi:Goroutine),0<i->gs[i]?=some gi->gi.status=.running->∃m' u,runT P (crowd gs w sl) i=(.next m',u)/\eV P Post m' (t++u):=by
   intro gs w sl t n0 D Pb a hN hX hc hp ha hA hS i gi hi hg hr;have dD:=(aCH.1 hg).1;have down:∀κ:oF,κ.ρ.lt (D i).ρ->vF N (λj=>(put D i κ j).ρ) X:=λκ hκ=>by
    rw[<-hX];have:=vF.one (D:=λj=>(D j).ρ) hκ (n:=N) BYO;have e:(λj=>(put D i κ j).ρ)=λj=>if j=i then κ.ρ else(D j).ρ:=by funext j;unfold put;split<;>rfl
    rw[e];exact this
   rcases H9 (sl:=sl) hc hp ha hi hg hr with⟨dL,w',u,κ,a',h1,h2,h3,h4,h5,h6,h7,h8,h9,h10⟩|⟨qs,nx,vs,got,e,hl,yz⟩
   .exact⟨_,u,h1,ih _ (down κ h4) dL w' sl _ n0 _ Pb a' (h2.trans hN) rfl h5 (by rw[h2];exact h6) h3 (hA.trans h7) (hS.fN h7 h6 h8 h9 h10)⟩
   .subst e;have hI:NI qs nx vs got n0 gs.size D w t Pb:=hp;by_cases hm:∃(w1:World) (r:Nat) (Q:Value->World->Prop) (z:Value),nx=none/\got=false/\a=parked (core g) #[rcase r z] (.recv true)/\qs[vs.length]?=some (r,Q)/\i=n0+vs.length/\
      ∀v w2,bZ (S.or R) w w2->(∃w3,Q v w3)->Oa P lo ty Post (f w1 (some (w2,v))) (.ch qs none (vs++[v]) true) S R (served (core g) (.tuple #[v,.bool true])) w2
    .obtain⟨w1,r,Q,z,rfl,rfl,rfl,hq,CM,hK⟩:=hm;obtain⟨dL,w',u,κ,v,q1,q2,q3,q4,q5,q6,q7⟩:=Ti (sl:=sl) hc hl hg hI yz ha hq CM;have hQv:Q v w':=by
      have q6':NI qs none (vs++[v]) true n0 gs.size (put D i κ) w' (t++u) Pb:=q6;obtain⟨_,_,k3⟩:=q6'.fN _ r Q hq;have zq:Live n0 dL.size (n0+vs.length):=⟨BYO,by rw[q2];have:=q6'.sz;have:=(aDh.1 hq).1;omega⟩;have WQ:(vs++[v])[vs.length]?=some v:=BYS;rw[WQ]at k3;cases k3 with
      |took _ _ a3 _=>exact q5.fin _ zq _ a3 w' (bZ.refl _ _)
      |gone _ a2 _ _ _ _ _=>exact q5.fin _ zq _ a2 w' (bZ.refl _ _)
     exact⟨_,u,q1,IH w1 (some (w',v)) _ _ _ _ _ (hK v w' q7 ⟨w',hQv⟩) dL sl _ n0 _ Pb q5 (by rw[q2];exact q6) q3⟩
    .obtain⟨dL,w',u,κ,q1,q2,q3,q4,q5,q6,q7,q8⟩:=Th (sl:=sl) hc hl hg hI yz λb hb m r Q hq CM=>by
      rw[ha]at hb;cases hb;rcases hS with⟨_,h5⟩|⟨h4,_⟩|⟨w1,qs',fp,aCx,r',Q',z,idx,e,h5,h6,h7⟩
      .exact offersAt_of_not_blocked (by rw[h5];simp) r false
      .rw[h4];rfl
      .cases e;rw[h5,offersAt_parked_recv];by_cases er:r'=r
       .exfalso;have aNk:idx=m:=by
         by_cases cQ:idx=m
         .exact cQ
         .exact absurd er (hI.AJ idx m r' r Q' Q h6 hq cQ)
        subst aNk;rcases h7 with⟨b1,b2,_,b4⟩|⟨_,_,v,b3⟩
        .exact hm ⟨w1,r',Q',z,rfl,b1,h5,b2▸h6,BYO,b4⟩
        .obtain⟨m',_,_,_,_,_,_,e1,_,_,e2,_⟩:=yz.out;rw[CM,b3]at e2;cases e2
       .rw[if_neg er]
     refine⟨_,u,q1,ih _ (down κ q4) dL w' sl _ n0 _ Pb a (q2.trans hN) rfl q5 (by rw[q2];exact q6) (q3.trans ha) (hA.trans q7) ?_⟩;have hP':mC ty (.ch qs nx vs got) n0 gs.size (put D i κ) w' (t++u) Pb:=q6;rcases hS with h5|h4|⟨w1,qs',fp,aCx,r',Q',z,idx,e,h5,h6,h7⟩
     .exact .inl h5
     .obtain⟨_,_,_,_,e,_⟩:=h4;cases e
     .cases e;have cQ:n0+idx≠i:=λe2=>by
       rcases h7 with⟨b1,b2,_,b4⟩|⟨_,_,v,b3⟩
       .exact hm ⟨w1,r',Q',z,rfl,b1,h5,b2▸h6,BYO,b4⟩
       .obtain⟨m',_,_,_,_,_,_,e1,_,_,e3,_⟩:=yz.out;rw[<-e2,b3]at e3;cases e3
      refine .inr (.inr ⟨w1,qs,vs,got,r',Q',z,idx,rfl,h5,h6,?_⟩);rw[q8 idx cQ];exact h7.imp (λ⟨b1,b2,b3,b4⟩=>⟨b1,b2,b3,λv w2 BU y=>b4 v w2 (q7.trans BU) y⟩) id
  have pick:∀(gs:Array Goroutine) (w:World) (sl:Option (Nat×Nat)) (t:Trace) (n0:Nat) (D:Nat->oF) (Pb:Nat->Prop) (a:Goroutine),gs.size=N->(λi=>(D i).ρ)=X->Core P lo ty gs w t n0 D Pb S R ms.mute->mC ty ms n0 gs.size D w t Pb->gs[0]?=some a->bZ (S.or R) w0 w->
    St P lo ty Post f ms S R g n0 D w a->(∀(d:Nat) (nG:Option (Nat×Nat)),DG a g->a.status=.running->stepT P (crowd gs w sl)=runT P (crowd gs (w.at d) nG) 0->eV P Post (crowd gs w sl) t)->eV P Post (crowd gs w sl) t:=by
   intro gs w sl t n0 D Pb a hN hX hc hp ha hA hS aHd;have haw:∀x∈gs,awake x:=λx hx=>by
    obtain⟨j,hj,rfl⟩:=Array.mem_iff_getElem.1 hx;rcases aCl j with rfl|nA
    .have e:gs[0]=a:=by simpa[aGe hj] using ha
     rw[e];rcases hS with⟨_,h5⟩|⟨h4,_⟩|⟨w1,qs',fp,aCx,r',Q',z,idx,_,h5,_⟩
     .exact awake_of (.inl h5)
     .rw[h4];exact awake_of (.inr (.inl rfl))
     .rw[h5];exact awake_of (.inr (.inl rfl))
    .obtain⟨y,h1,h2,_⟩:=hc.fN j nA hj;rw[aGe hj]at h1;cases h1;exact awake_of (h2.status.imp id .inr)
   obtain⟨i,gi,d,nG,hi,hr,dI⟩:=crowd_pick (P:=P) (w:=w) (sl:=sl) haw (hS.kz hc hp ha);have Ma:St P lo ty Post f ms S R g n0 D (w.at d) a:=by
    rcases hS with h1|⟨h1,Wg,qs,st,h2,h3⟩|⟨w1,qs,vs,got,r,Q,z,idx,h4,h5,h6,h7⟩
    .exact .inl h1
    .exact .inr (.inl ⟨h1,Wg,qs,st,h2,h3⟩)
    .exact .inr (.inr ⟨w1,qs,vs,got,r,Q,z,idx,h4,h5,h6,h7.imp (λ⟨b1,b2,b3,b4⟩=>⟨b1,b2,b3,λv w2 BU y=>b4 v w2 ((bZ.at _ w d).trans BU) y⟩) id⟩)
   rcases aCl i with rfl|nA
   .rw[ha]at hi;cases hi;rcases hS with⟨h1,h2⟩|⟨h1,_⟩|⟨_,_,_,_,_,_,_,_,_,h5,_⟩
    .exact aHd d nG h1 h2 dI
    .rw[h1]at hr;cases hr
    .rw[h5]at hr;cases hr
   .obtain⟨m',u,h1,h2⟩:=kids gs (w.at d) nG t n0 D Pb a hN hX (hc.at d) (hp.at d) ha (hA.trans (bZ.at _ w d)) Ma i gi nA hi hr;exact eV.next (dI.trans h1) h2
  have blocked:∀(gs:Array Goroutine) (w:World) (sl:Option (Nat×Nat)) (t:Trace) (n0:Nat) (D:Nat->oF) (Pb:Nat->Prop) (a:Goroutine),gs.size=N->(λi=>(D i).ρ)=X->Core P lo ty gs w t n0 D Pb S R ms.mute->mC ty ms n0 gs.size D w t Pb->gs[0]?=some a->bZ (S.or R) w0 w->
    St P lo ty Post f ms S R g n0 D w a->a.status≠.running->eV P Post (crowd gs w sl) t:=by
   intro gs w sl t n0 D Pb a hN hX hc hp ha hA hS hb;exact pick gs w sl t n0 D Pb a hN hX hc hp ha hA hS λd nG _ hr _=>absurd hr hb
  intro gs w sl t n0 D Pb a hN hX hc hp ha hA hS;refine pick gs w sl t n0 D Pb a hN hX hc hp ha hA hS λd nG Z2 hr dI=>?_;have Ee:=hc.at d;have ND:=hp.at d;have WN:=hA.trans (bZ.at _ w d);have ar:=h.2 (w.at d) WN ND.pre;have next:Nx P lo ty (λo Xv S' R' g' w'=>Oa P lo ty Post (f (w.at d) o) Xv S' R' g' w') gs (w.at d) t nG->eV P Post (crowd gs w sl) t:=by
   rintro⟨dL,w',u,n1,D',Mj,Xv,S',R',g',o,h1,h2,h3,h4,h5⟩;exact eV.next (dI.trans h1) (IH (w.at d) o _ _ _ _ _ h5 dL nG _ n1 D' Mj h2 h3 h4)
  cases ms with
  |calm=>
   rcases Tj (sl:=nG) Ee ND ha Z2 ar with h1|⟨v,h1,h2⟩
   .exact next h1
   .have hn:n0=gs.size:=hp;have Fu:TI (sh Pb) gs.size (λ_=>False) (λi=>(D i).S) (λi=>(D i).R) (λi=>(D i).rl) t w.heap.size:=by
     have e:Live n0 gs.size=λ_=>False:=by funext i;exact propext ⟨λ⟨x,y⟩=>BYO,False.elim⟩
     rw[<-e];exact hc.ti
    have aHG:stepT P (crowd gs w sl)=(.ended (.done v) (w.at d),#[]):=dI.trans h1;refine⟨0,crowd gs w sl,.done v,w.at d,t,?_,rfl,?_,v,rfl,h2,Fu.nr,Fu.over,⟨λx hx=>?_,rfl⟩,λj x hx hj=>?_⟩
    .rw[runNT];simp only[aHG,aD7]
    .simp only[step,aHG]
    .obtain⟨j,hj⟩:=List.mem_iff_getElem?.1 hx;rw[List.getElem?_drop]at hj;have hj':gs[1+j]?=some x:=by simpa[crowd] using hj
     have wY:=(aCH.1 hj').1;obtain⟨y,k1,k2,_⟩:=hc.fN (1+j) BYO wY;rw[hj']at k1;cases k1;obtain⟨dq,hdq⟩:=hc.old (1+j) BYO BYO;rw[hdq]at k2;obtain⟨q,k3,_⟩:=k2.quit;exact⟨q,k3.leaves⟩
    .have BW:gs[j]?=some x:=hx;have wY:=(aCH.1 BW).1;obtain⟨y,k1,k2,_⟩:=hc.fN j BYO wY;rw[BW]at k1;cases k1;obtain⟨dq,hdq⟩:=hc.old j BYO BYO;rw[hdq]at k2;obtain⟨q,k3,_⟩:=k2.quit;have Xq:=hc.vH j BYO wY;rw[hdq]at Xq;have Xq:t.deaf j t.size=dq:=Xq;exact⟨q,by rw[Xq];exact k3.hears _⟩
  |wg Wg qs ph=>
   rcases kx (sl:=nG) Ee ND ha Z2 ar with h1|⟨dL,a',h1,h2,h3,h4,h5⟩
   .exact next h1
   .refine eV.next (dI.trans h1) ?_;rw[aD7];exact blocked dL (w.at d) nG t n0 D Pb a' (h2.trans hN) hX h4 (by rw[h2];exact ND) h3 WN (.inr (.inl h5)) (by rw[h5.a];simp)
  |ch qs nx vs got=>
   rcases ky (sl:=nG) Ee ND ha Z2 ar with h1|⟨dL,a',h1,h2,h3,h4,h5⟩
   .exact next h1
   .refine eV.next (dI.trans h1) ?_;rw[aD7];refine blocked dL (w.at d) nG t n0 D Pb a' (h2.trans hN) hX h4 (by rw[h2];exact ND) h3 WN (.inr (.inr ⟨w.at d,h5⟩)) ?_;obtain⟨_,_,_,_,_,_,_,_,e,_⟩:=h5;rw[e];simp[parked]
def vy:∀ρ:iB,Claim P lo ty Post ρ:=by
 intro ρ;induction ρ with
 |z=>intro ms S R g w h;exact h.elim
 |mk f ih=>
  intro ms S R g w h gs sl t n0 D Pb hc hp hg;exact node ih h gs.size _ (vF.acc _ _) gs w sl t n0 D Pb g rfl rfl hc hp hg (bZ.refl _ _) (.inl ⟨⟨rfl,rfl,rfl⟩,h.1⟩)
def machine{S:PS}{g:Goroutine}{w:World}(h:MT P lo ty Post .calm S (λ_ _=>False) g w)(hS:∀b x,S b x->x=none/\b<w.heap.size):eV P Post (solo g w) #[]:=by
 obtain⟨ρ,h⟩:=h;have Fu:TI (λ_=>False) 1 (λ_=>False) (λ_ _ _=>False) (λ_ _ _=>False) (λ_=>none) #[] 0:=TI.nil;have e1:sh (λ_=>False)=λ_=>False:=by funext l;cases l<;>rfl
 have e2:Live 1 1=λ_=>False:=by funext i;exact propext ⟨λ⟨x,y⟩=>BYO,False.elim⟩
 have no:∀i,¬Live 1 1 i:=λi ⟨x,y⟩=>BYO;have hc:Core P lo ty #[g] w #[] 1 (λ_=>⟨.wg 0 λ_=>True,.quit 0,.z,λ_ _=>False,λ_ _=>False,w,none,none⟩) (λ_=>False) S (λ_ _=>False) 0:=
  ⟨⟨Nat.one_pos,BYS⟩,λi h1 h2=>(by simp at h2;omega),λi h1 h2=>BYO,by rw[e1];show TI _ 1 (Live 1 1) _ _ _ _ _;rw[e2];exact Fu.more (aBt _) (λ_ x=>x) (λ_ x=>x.elim) (λ_ x=>x.elim) (λ_ x=>x.elim),λi j h1=>absurd h1 (no i),λi h1=>absurd h1 (no i),
   λi h1=>absurd h1 (no i),λb x hb=>hb.elim,λi h1=>absurd h1 (no i),λb x hx=>hx.elim (λx1=>(hS b x x1).2) False.elim,λb hb=>hb.elim,rfl,λi h1 h2=>(by simp at h2;omega),λi h1=>absurd h1 (no i)⟩
 rw[solo_eq_crowd];exact vy ρ .calm S (λ_ _=>False) g w h #[g] none #[] 1 _ (λ_=>False) hc rfl rfl
end
end Rk.Cw
namespace Rk.Al
open Go Go.Conc Rk.fD Rk.Cw
variable{B:Nat}{A:Frame}{asL uJ:List Frame}{W W1:World}
structure Cl(B:Nat)(op:MemOp):Prop where
 g:op.g=0
 low:op.act.low B
 d1:op.act≠.mark .disable
 d2:op.act≠.mark .enable
def Cl.mono{B':Nat}{op:MemOp}(h:Cl B op)(hb:B<=B'):Cl B' op:=⟨h.g,MemAct.low_mono hb h.low,h.d1,h.d2⟩
def aAX{fn:FuncId}{pos:String}{es:Array Event}(h:∀e∈es,cl2 B e):∀op∈MemOp.ofEvents 0 fn pos es,Cl B op:=λop cK=>by
 obtain⟨e,he,rfl⟩:=mem_ofEvents cK;rcases h e he with rfl|⟨h1,h2⟩|⟨r,rfl,h2⟩
 .exact⟨rfl,trivial,by simp[MemAct.ofEvent],by simp[MemAct.ofEvent]⟩
 .have hm:∀m,e.loc≠.mark m:=λm hm=>by
   rcases h2 with⟨a,h3,_⟩|⟨r,h3,_⟩<;>rw[h3]at hm<;>cases hm
  refine⟨rfl,?_,by simp[AK h1 hm],by simp[AK h1 hm]⟩;show(MemAct.ofEvent e).low B;rw[AK h1 hm];show e.loc.low B;rcases h2 with⟨a,h3,h4⟩|⟨r,h3,h4⟩<;>rw[h3]<;>exact h4
 .exact⟨rfl,h2,by simp[MemAct.ofEvent],by simp[MemAct.ofEvent]⟩
def Goes(P:Program)(A:Frame)(asL:List Frame)(W:World)(A2:Frame)(as2:List Frame)(W2:World):Prop:=
 ∀cs,∃u:Trace,(∀op∈u,Cl W2.heap.size op)/\(∀Post t,eV P Post (lone A2 (as2++cs) W2) (t++u)->eV P Post (lone A (asL++cs) W) t)/\Steps P (lone A (asL++cs) W) (lone A2 (as2++cs) W2)
def Goes.refl(P:Program)(A:Frame)(asL:List Frame)(W:World):Goes P A asL W A asL W:=λcs=>⟨#[],λop h=>by simp at h,λPost t h=>by simpa using h,Steps.refl _ _⟩
def Goes.trans{P:Program}{A1 A2:Frame}{as2:List Frame}{W2:World}(h:Goes P A asL W A1 uJ W1)(g:Goes P A1 uJ W1 A2 as2 W2)(hz:W1.heap.size<=W2.heap.size):Goes P A asL W A2 as2 W2:=λcs=>by
 obtain⟨u,h1,h2,h3⟩:=h cs;obtain⟨v,g1,g2,g3⟩:=g cs;refine⟨u++v,λop cK=>?_,λPost t hr=>h2 Post t (g2 Post _ (by rwa[aFJ])),h3.trans g3⟩;rcases aD4.1 cK with h|h
 .exact(h1 op h).mono hz
 .exact g1 op h
section
variable{P:Program}{F:Array Func}
def Twin.goes{A1:Frame}(h:Twin P F A asL W A1 uJ W1):Goes P A asL W A1 uJ W1:=λcs=>by
 obtain⟨es,h1,h2⟩:=h.right;have hs:stepT P (lone A (asL++cs) W)=(.next (lone A1 (uJ++cs) W1),MemOp.ofEvents 0 A.fn A.place es):=(stepT_solo (a:=G A (asL++cs)) rfl).trans (runT_solo_go (h1 true cs));exact⟨_,aAX h2,λPost t hr=>eV.next hs hr,.one (step_solo_go rfl (h1 true cs))⟩
def ZK(H:Fs P F)(B:oZ P F):∀(n:Nat) (A:Frame) (asL:List Frame) (W:World),vq P F A->(∀a∈asL,G9 P F a)->∀(A2:Frame) (V2:World),runN (stub P F) n (lone A (asL++[c0 (stub P F)]) (gw W))=.next (lone A2 [c0 (stub P F)] V2)->(∀ch,A2.mode≠.panicking ch)->
  ∃W2,V2=gw W2/\Goes P A asL W A2 [] W2/\vq P F A2/\uB W W2:=by
 intro n;induction n with
 |zero=>
  intro A asL W hT hS A2 V2 h hp;injection h with h;obtain⟨e1,e2,e3⟩:=jG h;subst e1;obtain rfl:=Ny e2;exact⟨W,e3.symm,Goes.refl _ _ _ _,hT,uB.refl W⟩
 |succ n ih=>
  intro A asL W hT hS A2 V2 h hp;rcases aJz (W:=W) H B hT hS with⟨rfl,f,T,k,rfl,fn,c,XM⟩|⟨A1,uJ,W1,hB⟩|hL
  .exfalso;have hf:(stub P F).funcs[f]?=some fn:=XM.here;rcases TO (P:=P) (F:=F) fn T W with⟨v,W3,es,_,h1,-,-,-⟩|⟨x,W3,es,h1⟩
   .have hs:step (stub P F) (lone (Rt f T k) [c0 (stub P F)] (gw W))=.next (lone ((c0 (stub P F)).finish v) [] (gw W3)):=step_solo_go rfl (Hr hf h1)
    simp only[aDF,runN,hs]at h;cases n with
    |zero=>
     injection h with h;obtain⟨_,e,_⟩:=jG h;cases e
    |succ n=>
     obtain⟨o,W4,h5⟩:=QC (P:=stub P F) (v:=v) (W:=gw W3);simp only[runN,h5]at h;cases h
   .obtain⟨o,w2,g,hl⟩:=H3 (k:=k) (main:=true) (cs:=[c0 (stub P F)]) hf h1;have h1:step (stub P F) (lone (Rt f T k) [c0 (stub P F)] (gw W))=.ended o w2:=step_lone_ended (by
     have MO:stepG (stub P F) true {frame:=Rt f T k,callers:=[c0 (stub P F)],status:=.running,dying:=none} (gw W)=.ended o w2 g:=hl;rw[MO];rfl)
    simp only[aDF,runN,h1]at h;cases h
  .obtain⟨es,he⟩:=hB.left [c0 (stub P F)];have hs:step (stub P F) (lone A (asL++[c0 (stub P F)]) (gw W))=.next (lone A1 (uJ++[c0 (stub P F)]) (gw W1)):=step_solo_go rfl he
   simp only[runN,hs]at h;obtain⟨W2,h0,h1,h2,h3⟩:=ih A1 uJ W1 hB.top hB.low A2 V2 h hp;exact⟨W2,h0,hB.goes.trans h1 h3.size,h2,hB.kin.trans h3⟩
  .exfalso;have hl:=hL [c0 (stub P F)];generalize hs:stepG (stub P F) true (G A (asL++[c0 (stub P F)])) (gw W)=s at hl;cases s with
   |ended o w2 es=>
    have h1:step (stub P F) (lone A (asL++[c0 (stub P F)]) (gw W))=.ended o w2:=step_lone_ended (by
     have MO:stepG (stub P F) true {frame:=A,callers:=asL++[c0 (stub P F)],status:=.running,dying:=none} (gw W)=.ended o w2 es:=hs;rw[MO];rfl)
    simp only[runN,h1]at h;cases h
   |go g w2 es=>
    obtain⟨f,U,k,ch,rfl,fn,hf⟩:=hl;have h1:step (stub P F) (lone A (asL++[c0 (stub P F)]) (gw W))=.next (lone {Fr f U k with mode:=.panicking ch} (asL++[c0 (stub P F)]) w2):=step_solo_go rfl hs
    simp only[runN,h1]at h;have hw:∀a∈asL,Wt (stub P F) a:=λa ha=>by
     cases hS a ha with
     |mk _ hO=>obtain⟨fn,c,XM⟩:=hO;exact⟨rfl,rfl,fn,XM.here⟩
    obtain⟨ch',hc⟩:=ZC asL _ n w2 A2 V2 hw ⟨ch,rfl,rfl,fn,hf⟩ h;exact hp ch' hc
   |_=>exact hl
def Hx(H:Fs P F)(B:oZ P F){f:FuncId}{args:Array Value}{R:Ending->World->Prop}(hO:oY P F f)(hW:Ry W)(h:Calls (stub P F) f args W λe w'=>∃v,e=.returned v/\R e w'):Calls P f args W λe w'=>∃v,e=.returned v/\R e w':=by
 intro cs;obtain⟨e,W',fr,⟨v,rfl,hr⟩,⟨n,hn⟩,XM,hl⟩:=h [c0 (stub P F)];obtain⟨fn,c,XJ⟩:=id hO;rw[JH hO]at hn;obtain⟨W2,h0,h1,h2,h3⟩:=ZK H B n _ [] W (DC hO args) (λa ha=>by cases ha) fr W' (by rw[YL hW];exact hn) (λch hc=>by have:=hl.1;rw[this]at hc;cases hc);have tl:=h3.aEY hW;rw[YL tl]at h0;subst h0;obtain⟨u,_,_,hs⟩:=h1 cs;refine⟨_,W',fr,⟨v,rfl,hr⟩,hs,XM,hl.1,hl.2.1,hl.2.2.1,fn,?_,?_⟩
 .rw[XM];exact XJ.ku
 .obtain⟨fn',h4,h5⟩:=hl.2.2.2;rw[XM]at h4;have h6:(stub P F).funcs[f]?=some fn:=XJ.here;rw[h6]at h4;cases h4;rcases TO (P:=P) (F:=F) fn fr.tmps W' with⟨v1,W3,es,mO,g1,g2,g4,-⟩|⟨x,W3,es,g1⟩
  .have g3:=fI g1;rw[YL tl,YL (g4.aEY tl),h5]at g3;cases g3;exact fI g2
  .rw[YL tl]at g1;have g3:(results fn fr.tmps).run (stub P F) W'=.halt x W3:=by
    rw[<-Sem.runT_fst (es:= #[]),g1]
   rw[h5]at g3;cases g3
def TW{lo:Nat}{ty:TypeId}{Post:Value->World->Prop}{S:PS}{g:Goroutine}{w:World}{t:Trace}(h:MT P lo ty Post .calm S (λ_ _=>False) g w)(hS:∀b x,S b x->x=none/\b<w.heap.size)(ht:∀op∈t,Cl w.heap.size op):eV P Post (solo g w) t:=by
 obtain⟨ρ,h⟩:=h;have hd:Deaf t 0=0:=by
  have:=ConcN.Deaf_still #[] 0 t λop cK=>⟨(ht op cK).d1,(ht op cK).d2⟩;rw[Array.empty_append]at this;exact this
 have e1:sh (λ_=>False)=λ_=>False:=by funext l;cases l<;>rfl
 have e2:Live 1 1=λ_=>False:=by funext i;exact propext ⟨λ⟨x,y⟩=>BYO,False.elim⟩
 have no:∀i,¬Live 1 1 i:=λi ⟨x,y⟩=>BYO;have Fu:TI (λ_=>False) 1 (λ_=>False) (λ_ _ _=>False) (λ_ _ _=>False) (λ_=>none) t w.heap.size:=by
  have:=(TI.nil (S:=λ_ _ _=>False) (R:=λ_ _ _=>False) (rl:=λ_=>none)).app (u:=t) (S':=λ_ _ _=>False) (g:=0) (λop cK=>(ht op cK).g) BYO (.inl rfl) (λ_ _=>rfl) (λ_ h=>h) (λ_ h=>.inl h) (λop cK x hx=>.inr ⟨id,.inl rfl,λi hi=>hi.elim⟩) (aBt w.heap.size) λop cK=>(ht op cK).low;simpa using this
 have hc:Core P lo ty #[g] w t 1 (λ_=>⟨.wg 0 λ_=>True,.quit 0,.z,λ_ _=>False,λ_ _=>False,w,none,none⟩) (λ_=>False) S (λ_ _=>False) 0:=
  ⟨⟨Nat.one_pos,BYS⟩,λi h1 h2=>(by simp at h2;omega),λi h1 h2=>BYO,by rw[e1];show TI _ 1 (Live 1 1) _ _ _ _ _;rw[e2];exact Fu,λi j h1=>absurd h1 (no i),λi h1=>absurd h1 (no i),
   λi h1=>absurd h1 (no i),λb x hb=>hb.elim,λi h1=>absurd h1 (no i),λb x hx=>hx.elim (λx1=>(hS b x x1).2) False.elim,λb hb=>hb.elim,hd,λi h1 h2=>(by simp at h2;omega),λi h1=>absurd h1 (no i)⟩
 rw[solo_eq_crowd];exact vy ρ .calm S (λ_ _=>False) g w h #[g] none t 1 _ (λ_=>False) hc rfl rfl
end
end Rk.Al
namespace Rk.fD
open Go Go.Conc Go.Proofs
def of_map{α β:Type}{o:Option α}{f:α->β}{y:β}(h:o.map f=some y){x:α}(hx:o=some x):f x=y:=by
 subst hx;simpa using h
def fx:Fx Tryz.prog where
 low:=by
  have:decide (Tryz.prog.globals.size<=GB)=true:=BYK;exact of_decide_eq_true this
 Rv:=BYK
 No:=BYK
 aEX:=⟨Tryz.prog.methodsAt 25,BYK⟩
 vD:=BYK
 Np:=BYK
 z8:=by
  have h:(Tryz.prog.info? 3).map (λi=>match i.desc with| .named .. =>false|_=>true)=some true:=BYK;cases hi:Tryz.prog.info? 3 with
  |none=>rw[hi]at h;cases h
  |some i=>
   refine⟨i,rfl,λn x hd=>?_⟩;have:=of_map h hi;rw[hd]at this;cases this
 vi:=λi v hi hv=>by
  have h:(Tryz.prog.info? 38).map (·.zero)=some (some (.agg #[.int .i64 0,.int .i64 0])):=BYK;have:=of_map h hi;rw[hv]at this;exact aG6 this
 B4:=λi v hi hv=>by
  have h:(Tryz.prog.info? 22).map (·.zero)=some (some (.slice none 0 0)):=BYK;have:=of_map h hi;rw[hv]at this;exact aG6 this
 field:=λn fs f hu hn=>by
  have h:(Tryz.prog.underlying 38).map (λd=>match d with| .struct fs=>fs.toList.all λf=>(Tryz.prog.info? f.type).any λi=>i.size !=0|_=>false)=some true:=BYK;have h1:=of_map h hu;have h2:=aCJ.1 h1 f (by simpa using aDl hn);cases hi:Tryz.prog.info? f.type with
  |none=>rw[hi]at h2;cases h2
  |some i=>rw[hi]at h2;exact⟨i,rfl,by simpa using h2⟩
 vj:=by
  have h:(Tryz.prog.underlying 38).map (λd=>match d with| .struct fs=>fs.toList.all λf=>f.type==3|_=>false)=some true:=BYK;cases hu:Tryz.prog.underlying 38 with
  |none=>rw[hu]at h;cases h
  |some d=>
   have h1:=of_map h hu;cases d with
   |struct fs=>exact⟨fs,rfl,λf hf=>by simpa using aCJ.1 h1 f hf⟩
   |_=>cases h1
 stood:=BYK
 guard:=BYK
 vk:=⟨_,Tryz.func27,BYK,BYK⟩
def aKC:oY Tryz.prog 5:=⟨_,_,Tryz.func5,rfl,BYK,.inr (.inr ⟨_,_,rfl⟩)⟩
def aEy:oY Tryz.prog 24:=⟨_,_,Tryz.func24,rfl,BYK,.inr (.inl ⟨_,rfl⟩)⟩
def aEz:oY Tryz.prog 61:=⟨_,_,Tryz.func61,rfl,BYK,.inr (.inl ⟨_,rfl⟩)⟩
def aFA:oY Tryz.prog 25:=⟨_,_,Tryz.func25,rfl,BYK,.inr (.inl ⟨_,rfl⟩)⟩
def aFB:oY Tryz.prog 26:=⟨_,_,Tryz.func26,rfl,BYK,.inl rfl⟩
def aFC:oY Tryz.prog 67:=⟨_,_,Tryz.func67,rfl,BYK,.inl rfl⟩
def aFD:oY Tryz.prog 98:=⟨_,_,Tryz.func98,rfl,BYK,.inl rfl⟩
def aFE:oY Tryz.prog 99:=⟨_,_,Tryz.func99,rfl,BYK,.inl rfl⟩
def aAc:oY Tryz.prog 110:=⟨_,_,Tryz.func110,rfl,BYK,.inl rfl⟩
def aAd:oY Tryz.prog 118:=⟨_,_,Tryz.func118,rfl,BYK,.inl rfl⟩
def aFF:oY Tryz.prog 27:=⟨_,_,Tryz.func27,rfl,BYK,.inr (.inl ⟨_,rfl⟩)⟩
def aFG:oY Tryz.prog 68:=⟨_,_,Tryz.func68,rfl,BYK,.inr (.inl ⟨_,rfl⟩)⟩
def aAe:oY Tryz.prog 100:=⟨_,_,Tryz.func100,rfl,BYK,.inr (.inl ⟨_,rfl⟩)⟩
def aFH:oY Tryz.prog 97:=⟨_,_,Tryz.func97,rfl,BYK,.inr (.inr ⟨_,_,rfl⟩)⟩
def aAf:oY Tryz.prog 109:=⟨_,_,Tryz.func109,rfl,BYK,.inr (.inr ⟨_,_,rfl⟩)⟩
def aAg:oY Tryz.prog 117:=⟨_,_,Tryz.func117,rfl,BYK,.inr (.inl ⟨_,rfl⟩)⟩
def aFI:oY Tryz.prog 23:=⟨_,_,Tryz.func23,rfl,BYK,.inr (.inl ⟨_,rfl⟩)⟩
def K1:oZ Tryz.prog:=by
 intro f hf;unfold wl at hf;simp only[aBI,aDU,or_false]at hf;rcases hf with rfl|rfl|rfl|rfl|rfl|rfl|rfl|rfl|rfl|rfl|rfl|rfl|rfl|rfl|rfl|rfl|rfl
 .exact aKC
 .exact aEy
 .exact aEz
 .exact aFA
 .exact aFB
 .exact aFC
 .exact aFD
 .exact aFE
 .exact aAc
 .exact aAd
 .exact aFF
 .exact aFG
 .exact aAe
 .exact aFH
 .exact aAf
 .exact aAg
 .exact aFI
end Rk.fD
namespace Rk.Al
open Go Go.Conc Rk.fD Go.Proofs
variable{a:Array Func}{f:Nat}{fn:Func}
def chk(i:Nat)(fn:Func):Bool:=AN i||(!(fn.name== "runtime.NumGoroutine")&&match fn.body with
 |some c=>fV c&& !fn.norace
 |none=>i==111)
def lj:((List.range Tryz.prog.funcs.size).all λi=>(Tryz.prog.funcs[i]?).all (chk i))=true:=BYK
def aAh{p:Nat->Func->Bool}(h:((List.range a.size).all λi=>(a[i]?).all (p i))=true)(hf:a[f]?=some fn):p f fn=true:=by
 have h1:=aCJ.1 h f (by
  rw[aC5];exact(aCH.1 hf).1)
 rw[hf]at h1;exact h1
def Ia(hf:Tryz.prog.funcs[f]?=some fn):chk f fn=true:=aAh lj hf
def Ib(h:(TY a)[f]?=some fn):fn=TX\/(a[f]?=some fn/\AN f=false):=by
 rw[QH]at h;cases hx:a[f]? with
 |none=>rw[hx]at h;cases h
 |some g=>
  rw[hx]at h;cases hb:AN f with
  |true=>rw[hb]at h;simp at h;exact .inl h.symm
  |false=>rw[hb]at h;simp at h;exact .inr ⟨congrArg some h,rfl⟩
def HE(h:Hy[f]?=some fn):fn=TX\/(Tryz.prog.funcs[f]?=some fn/\AN f=false):=Ib h
def Ic{c:Code}(h:Hy[f]?=some fn)(hb:fn.body=some c):oY Tryz.prog Hy f:=by
 rcases HE h with rfl|⟨h1,h2⟩
 .cases hb
 .have h3:=Ia h1;unfold chk at h3;rw[h2,hb]at h3;simp only[aGy,aBg,aDj]at h3;obtain⟨h4,h5,h6⟩:=h3;exact⟨fn,c,h1,h,hb,h5,h6⟩
def Ol:oZ Tryz.prog Hy:=λf fn c h hb=>Ic h hb
def K2{F:Array Func}(h:(F.all λf=>(f.body.map readies).all (·.isEmpty))=true)(g:Nat):(F.findIdx? λf=>(f.body.map readies).any (·.contains g))=none:=by
 rw[Array.findIdx?_eq_none_iff];intro f hf;have:=(Array.all_eq_true_iff_forall_mem.1 h) f hf;cases hb:f.body.map readies with
 |none=>rfl
 |some l=>
  rw[hb]at this;simp only[Option.all_some,aH6]at this;subst this;rfl
def tFs:Fs Tryz.prog Hy where
 early:=⟨show Tryz.prog.follows .staticDataAhead=true by kernel_rfl,λg=>K2 BYK g⟩
 name:=λf fn h=>by
  rcases HE h with rfl|⟨h1,h2⟩
  .rfl
  .have h3:=Ia h1;unfold chk at h3;rw[h2]at h3;simp only[aGy,aBg,aDj]at h3;exact h3.1
 same:=λf fn c h hb=>by
  rcases HE h with rfl|⟨h1,h2⟩
  .cases hb
  .exact h1
 none:=λf fn h hb=>by
  rcases HE h with rfl|⟨h1,h2⟩
  .exact⟨BYK,.inl ⟨BYK,BYK⟩⟩
  .have h3:=Ia h1;unfold chk at h3;rw[h2,hb]at h3;simp only[aGy,aBg,aDj,beq_iff_eq]at h3;obtain⟨h4,rfl⟩:=h3;have:Tryz.prog.funcs[111]?=some Tryz.f111:=Tryz.func111;rw[this]at h1;cases h1;refine⟨BYK,.inr ⟨this,Extern.AbiNoEscape.same,BYK,λxs=>?_⟩⟩;unfold Extern.AbiNoEscape.same;obtain⟨l⟩:=xs
   match l with
   |[x]=>exact gJ
   |[]=>exact Al.stuck
   |_::_::_=>exact Al.stuck
def Ie(P:Program)(F:Array Func):Oc P F=stub P F:=rfl
def Om:tz=stub Tryz.prog Hy:=Ie _ _
def ll:∀f∈wl,AN f=false:=BYD
def aAi{f:FuncId}(hf:f∈wl):oY Tryz.prog Hy f:=by
 obtain⟨fn,c,h1,h2,_⟩:=fD.K1 f hf;exact Ic (yR h1 (ll f hf)) h2
def K3{f:FuncId}{args:Array Value}{W:World}{R:Ending->World->Prop}(hO:oY Tryz.prog Hy f)(hW:Ry W)(h:Calls tz f args W λe w'=>∃v,e=.returned v/\R e w'):Calls Tryz.prog f args W λe w'=>∃v,e=.returned v/\R e w':=by
 rw[Om]at h;exact Hx tFs Ol hO hW h
end Rk.Al
namespace Rk.Cw
open Go Go.RowKit Go.Proofs
variable{v:Value}
def mixed:Tryz.prog.follows .mixedOrders=true:=BYK
def aN:Ty Tryz.prog 3 false 1 8 (.int .i64 0):=aLt BYK (λ_=>BYK) rfl
def tR:Tryz.prog.underlying 25=some (.interface (Tryz.prog.methodsAt 25)):=BYK
def HF:Tryz.prog.underlying 68=some (.int .i64):=BYK
def aL:Ty Tryz.prog 38 true 2 16 (.agg #[.int .i64 0,.int .i64 0]):=aLt BYK (λ_=>BYK) rfl
def aY:Tryz.prog.underlying 22=some (.slice 38):=BYK
section
variable{E:Env}{w:World}{t:TypeId}{x y i:Operand}{bk o n c:Nat}{j:Int}
def aMh(hx:aM E x=some (.slice (some ⟨bk,o,none⟩) n c))(hi:aM E i=some (.int .i64 j))(h0:0<=j)(hn:j<n):
  aA Tryz.prog (.indexAddr 22 x i) t E w (.pointer (some ⟨bk,o+j.toNat*2,none⟩)) w:=aA.indexAddr aY aL.size hx hi h0 hn
def aPE(hx:aM E x=some v):aA Tryz.prog (.makeInterface 68 x) t E w (.iface 68 v) w:=aA.makeInterface HF (λ_ h=>by cases h) hx
def aOY(hx:aM E x=some .nilIface):aA Tryz.prog (.binOp .neq 25 x (.const .nilIface) 25) t E w (.bool false) w:=aQn tR hx
def aOe{u:TypeId}(hx:aM E x=some (.iface u v)):aA Tryz.prog (.binOp .neq 25 x (.const .nilIface) 25) t E w (.bool true) w:=aQp tR hx
end
open Go.Conc Rk.fD
structure pF(P:Program)(main:Bool)(R:PS)(Q:World->Prop)(J:PS->Goroutine->World->Prop):Prop where
 step:∀S g w,g.status=.running->(∀w1,bZ (S.or R) w w1->Q w1->∃S' g' w' es,stepG P main g w1=.go g' w' es/\Gu S R S' w1 w' es/\J S' g' w')->J S g w
 rely:∀S g w w',J S g w->bZ (S.or R) w w'->J S g w'
def KT.own{P:Program}{ty:TypeId}{I:KI}{R:PS}:pF P false R (NX ty I .work) λS g w=>KT P ty I .work S R g w:=
 ⟨λ_ _ _ hs h=>KT.step hs (λd e=>by cases e) λw1 h1 h2=>let ⟨_,_,_,_,a,b,c⟩:=h w1 h1 h2;.own a b c,λ_ _ _ _ h ha=>h.rely ha⟩
def MT.own{P:Program}{lo:Nat}{ty:TypeId}{Post:Value->World->Prop}{ms:MS}{R:PS}:pF P true R (ZF ty ms) λS g w=>MT P lo ty Post ms S R g w:=
 ⟨λ_ _ _ hs h=>MT.step hs λw1 h1 h2=>let ⟨_,_,_,_,a,b,c⟩:=h w1 h1 h2;.own a b c,λ_ _ _ _ h ha=>h.rely ha⟩
section
variable{P:Program}{main:Bool}{R:PS}{Q:World->Prop}{J:PS->Goroutine->World->Prop}(hJ:pF P main R Q J){S S':PS}{g g':Goroutine}{w w':World}
include hJ
def pF.ctl(hs:g.status=.running)(h:∀w1,stepG P main g w1=.go g' w1 #[])(hn:J S g' w):J S g w:=
 hJ.step S g w hs λw1 h1 _=>⟨S,g',w1,#[],h w1,Gu.refl S R w1,hJ.rely _ _ _ _ hn h1⟩
def pF.look(hs:g.status=.running)(h:∀w1,bZ (S.or R) w w1->Q w1->∃es,stepG P main g w1=.go g' w1 es/\∀e∈es,e.sync=false/\(has S e.loc\/has R e.loc)/\e.write=false)(hn:J S g' w):J S g w:=
 hJ.step S g w hs λw1 h1 h2=>by
  obtain⟨es,h3,h4⟩:=h w1 h1 h2;exact⟨S,g',w1,es,h3,⟨λ_ _ x=>x,λ_ _ x=>.inl x,aAB _,λ_ _ _=>.inl rfl,rfl,rfl,rfl,λe he=>.inr ⟨(h4 e he).1,(h4 e he).2.1.imp id λx=>⟨x,(h4 e he).2.2⟩⟩⟩,hJ.rely _ _ _ _ hn h1⟩
def aUU{Rd:Nat->Prop}{Stop:(Nat->Prop)->Goroutine->World->Prop}{O:Nat->Prop}(h:Walk P main Rd Stop O g w)(hR:∀b,Rd b->(S.or R) b none)
  (hs:∀O' g' w',Stop O' g' w'->J (S.or λb x=>x=none/\O' b) g' w'):J (S.or λb x=>x=none/\O b) g w:=by
 have rel:∀{O:Nat->Prop} {w w1:World},bZ ((S.or λb x=>x=none/\O b).or R) w w1->NV Rd O w w1:=λ{O w w1} ha=>⟨λb hb=>ha.all b (by
  rcases hb with hb|hb
  .exact(hR b hb).imp .inl id
  .exact .inl (.inr ⟨rfl,hb⟩)),ha.size⟩
 induction h with
 | @stop O g w h1=>exact hs O g w (h1 w ⟨λ_ _=>rfl,aAB _⟩)
 | @go O g w O' g' w' es lV h1 h2 h3 ih=>
  refine hJ.step _ g w lV λw1 ha _=>?_;have hr:=rel ha;have hg:=h2 w1 hr;refine⟨_,g' w1,w' w1,es w1,h1 w1 hr,⟨λb x hx=>?_,λb x hx=>?_,hg.size,λb hb hn=>.inl ?_,hg.os,hg.tape,hg.output,λe he=>?_⟩,ih w1 hr⟩
  .exact hx.imp id λ⟨x1,x2⟩=>⟨x1,hg.le b x2⟩
  .rcases hx with hx|⟨x1,x2⟩
   .exact .inl (.inl hx)
   .rcases hg.fresh b x2 with h4|h4
    .exact .inl (.inr ⟨x1,h4⟩)
    .exact .inr h4
  .exact hg.still b hb λho=>hn (.inr ⟨rfl,ho⟩)
  .rcases hg.events e he with h4|⟨h4,h5⟩
   .exact .inl h4
   .refine .inr ⟨h4,?_⟩;rcases h5 with⟨b,h5,h6,h7⟩|⟨b,o,h5,h7⟩
    .rw[h5];rcases h7 with h7|h7
     .exact .inl (.inr ⟨rfl,h7⟩)
     .rcases hR b h7 with h8|h8
      .exact .inl (.inl h8)
      .exact .inr ⟨h8,h6⟩
    .rw[h5];rcases h7 with h7|⟨h7,h6⟩
     .exact .inl (.inl (.inr ⟨rfl,h7⟩))
     .rcases hR b h7 with h8|h8
      .exact .inl (.inl (.inl h8))
      .exact .inr ⟨.inl h8,h6⟩
end
end Rk.Cw
namespace Rk
open Go Go.RowKit
variable{e:TypeId}{A:Option Addr}{n c sz o bytes g:Nat}{z:Value}
def bQ(P:Program)(op:Op)(t:TypeId)(E:Env)(w:World)(p:Event->Prop):Prop:=
 ∀ρ,Fits E ρ->∀d pos after g,∀e∈(execOp ρ ⟨d,op,t,pos,after,g⟩).events P w #[],p e
section
variable{P:Program}{E:Env}{w:World}{t:TypeId}{x y i:Operand}{xt yt:TypeId}{v u:Value}{a b:Int}{k:IntKind}{p:Event->Prop}
def bQ.nil{op:Op}(h:∀ρ,Fits E ρ->∀d pos after g,(execOp ρ ⟨d,op,t,pos,after,g⟩).events P w #[]= #[]):bQ P op t E w p:=λρ hρ d pos after g e he=>by
 rw[h ρ hρ d pos after g]at he;simp at he
def bQ.move:bQ P (.move x) t E w p:=.nil λρ hρ _ _ _ _=>by simp[execOp,go_sem]
def bQ.assign:bQ P (.assign x) t E w p:=.nil λρ hρ _ _ _ _=>by simp[execOp,go_sem]
def bQ.lss(hx:aM E x=some (.int k a))(hy:aM E y=some (.int k b)):bQ P (.binOp .lss xt x y yt) t E w p:=.nil λρ hρ _ _ _ _=>by
 simp[execOp,hρ _ _ hx,hρ _ _ hy,go_sem,eqGuard]
def bQ.gtr(hx:aM E x=some (.int k a))(hy:aM E y=some (.int k b)):bQ P (.binOp .gtr xt x y yt) t E w p:=.nil λρ hρ _ _ _ _=>by
 simp[execOp,hρ _ _ hx,hρ _ _ hy,go_sem,eqGuard]
def aTH(hx:aM E x=some (.int k a))(hy:aM E y=some (.int k b)):bQ P (.binOp .eql xt x y yt) t E w p:=.nil λρ hρ _ _ _ _=>by
 simp[execOp,hρ _ _ hx,hρ _ _ hy,go_sem,eqGuard]
def bQ.add(hx:aM E x=some (.int .i64 a))(hy:aM E y=some (.int .i64 b)):bQ P (.binOp .add xt x y yt) t E w p:=.nil λρ hρ _ _ _ _=>by
 simp[execOp,hρ _ _ hx,hρ _ _ hy,eqGuard,go_sem]
def bQ.mul(hx:aM E x=some (.int .i64 a))(hy:aM E y=some (.int .i64 b)):bQ P (.binOp .mul xt x y yt) t E w p:=.nil λρ hρ _ _ _ _=>by
 simp[execOp,hρ _ _ hx,hρ _ _ hy,eqGuard,go_sem]
def bQ.quo(hx:aM E x=some (.int .i64 a))(hy:aM E y=some (.int .i64 b))(hb:0<b):bQ P (.binOp .quo xt x y yt) t E w p:=.nil λρ hρ _ _ _ _=>by
 have h4:¬b=0:=BYO;simp[execOp,hρ _ _ hx,hρ _ _ hy,eqGuard,go_sem,h4]
def bQ.not{b:Bool}(hx:aM E x=some (.bool b)):bQ P (.unOp .not xt x) t E w p:=.nil λρ hρ _ _ _ _=>by
 simp[execOp,hρ _ _ hx,go_sem]
def bQ.makeInterface{d:TypeDesc}(ht:P.underlying xt=some d)(hd:∀ms,d≠.interface ms)(hx:aM E x=some v):bQ P (.makeInterface xt x) t E w p:=.nil λρ hρ _ _ _ _=>by
 simp only[execOp,hρ _ _ hx,Instr.makeInterface];cases d<;>first|(exact absurd rfl (hd _))|simp[go_sem,run_underlying ht]
def aMW{rt:TypeId}(ht:P.underlying xt=some (.slice e))(hx:aM E x=some (.slice A n c)):
  bQ P (.call {callee:=.builtin .len,args:= #[x],argTypes:= #[xt]}) rt E w p:=.nil λρ hρ _ _ _ _=>by
 simp[execOp,resolve,hρ _ _ hx,go_sem,invoke,builtin,Builtin.len_,run_underlying ht,goInt]
def bQ.extract{vs:Array Value}(hx:aM E x=some (.tuple vs))(hn:vs[n]?=some v):bQ P (.extract x n) t E w p:=.nil λρ hρ _ _ _ _=>by
 simp[execOp,hρ _ _ hx,Instr.extract,hn,go_sem]
def bQ.indexAddr{bk:Nat}{j:Int}(ht:P.underlying xt=some (.slice e))(hs:∀w,(Go.sizeOf e).run P w=.ok sz w)
  (hx:aM E x=some (.slice (some ⟨bk,o,none⟩) n c))(hi:aM E i=some (.int .i64 j))(h0:0<=j)(hn:j<n):bQ P (.indexAddr xt x i) t E w p:=.nil λρ hρ _ _ _ _=>by
 simp[execOp,hρ _ _ hx,hρ _ _ hi,go_sem,Instr.indexAt,run_underlying ht,hs,h0,hn,asIntOf,Addr.add]
def aPM{agg:Bool}{j1 j2:Nat}{k k2:IntKind}{lo hi:Operand}(ht:P.underlying xt=some (.slice e))(ty:Ty P e agg sz bytes z)(hx:aM E x=some (.slice A n c))
  (hl:aM E lo=some (.int k (j1:Int)))(hh:aM E hi=some (.int k2 (j2:Int)))(h0:j1<=j2)(hc:j2<=c):bQ P (.slice xt x (some lo) (some hi) none) t E w p:=.nil λρ hρ _ _ _ _=>by
 have h1:(j1:Int)<=(j2:Int):=BYO;have h2:(j2:Int)<=(c:Int):=BYO;have h3:(j1:Int)<=(c:Int):=BYO;simp[execOp,hρ _ _ hx,hρ _ _ hl,hρ _ _ hh,go_sem,Instr.sliceAt,Instr.slice,Instr.sliceBounds,Instr.sliceBound,asIntOf,run_underlying ht,h0,hc,h1,h2,h3,ty.size]
def aLQ{ad:Addr}(ty:Ty P e false sz bytes z)(hx:aM E x=some (.pointer (some ad)))(hc:w.cell? ad=some v)(hp:p ⟨.cell ad,false,false⟩):bQ P (.load e x) t E w p:=λρ hρ _ _ _ _ e he=>by
 simp[execOp,hρ _ _ hx,go_sem,Instr.loadAt,Instr.sureAddr,loadVar,ty.UC,hc]at he;subst he;exact hp
def aP5(ty:Ty P e false 1 bytes z)(hx:aM E x=some (.pointer (some ⟨g,o,none⟩)))(hy:aM E y=some v)(hs:v.cells= #[v])(h1:v.oneCell'=true)
  (hc:w.cell? ⟨g,o,none⟩=some u)(hf:w.frozen? ⟨g,o,none⟩=false):jH P (.store e x y) t E w (w.setCell ⟨g,o,none⟩ v):=λρ hρ _ _ _ _=>by
 have h2:=run_store P w ⟨g,o,none⟩ v .plain h1;simp[execOp,hρ _ _ hx,hρ _ _ hy,Instr.storeAt,Instr.sureAddr,storeVar,ty.size,hs,storeCells,Addr.add,h2,stored,hc,hf]
def aP7(ty:Ty P e false 1 bytes z)(hx:aM E x=some (.pointer (some ⟨g,o,none⟩)))(hy:aM E y=some v)(hs:v.cells= #[v])(h1:v.oneCell'=true)
  (hc:w.cell? ⟨g,o,none⟩=some u)(hf:w.frozen? ⟨g,o,none⟩=false)(hp:p ⟨.cell ⟨g,o,none⟩,true,false⟩):bQ P (.store e x y) t E w p:=λρ hρ _ _ _ _ ev he=>by
 have h2:=λes=>events_store P w es ⟨g,o,none⟩ v .plain h1;have h3:=run_store P w ⟨g,o,none⟩ v .plain h1;simp only[execOp,hρ _ _ hx,hρ _ _ hy,Instr.storeAt,Instr.sureAddr,storeVar]at he;rw[hs]at he;simp[go_sem,ty.size,storeCells,Addr.add,hc,hf,h2,h3,stored,storedEv]at he;subst he;exact hp
end
end Rk
namespace Rk.Cw
open Go Go.Conc Go.RowKit Rk.fD
variable{x y c:Code}{i:Nat}{ops:Array Oper}{o:Oper}{f:FuncId}{fn:Func}{sG:Array TypeId}{a:Act}{xs:List Operand}{us:List Value}
structure Ad(a:Act)(N:Nat)(ds:List Deferred)(E:Env):Prop where
 size:a.tmps.size=N
 defers:a.defers=ds
 at_:∀k v,look E k=some v->a.tmps[k]?=some v
section
variable{N:Nat}{ds:List Deferred}{E E':Env}
def Ad.put(h:Ad a N ds E){d:Nat}(v:Value)(hd:Nat.blt d N=true):Ad (a.put (some d) v) N ds ((d,v)::E):=by
 have BS:d<a.tmps.size:=by rw[h.size];exact aHt hd
 refine⟨by simp[Act.put,h.size],by simp[Act.put,h.defers],λn u hn=>?_⟩;simp only[look]at hn;simp only[Act.put];cases e:Nat.beq d n with
 |true=>
  rw[e]at hn;simp at hn;subst hn;have:=aD6 e;subst this;simp[BS]
 |false=>
  rw[e]at hn;have cQ:d≠n:=aIE e;rw[aCM cQ];exact h.at_ _ _ hn
def Ad.none(h:Ad a N ds E)(v:Value):Ad (a.put none v) N ds E:=by cases a;exact⟨h.size,h.defers,h.at_⟩
def Ad.sub(h:Ad a N ds E)(hs:∀k v,look E' k=some v->look E k=some v):Ad a N ds E':=⟨h.size,h.defers,λk v hk=>h.at_ k v (hs k v hk)⟩
def Ad.eval(h:Ad a N ds E){x:Operand}{v:Value}(hx:aM E x=some v):a.eval x=v:=by
 cases x with
 |tmp t=>simp only[aM]at hx;simp[Act.eval,h.at_ _ _ hx]
 |const u=>simp only[aM]at hx;injection hx
 |global g=>simp only[aM]at hx;injection hx
 |func f=>simp only[aM]at hx;injection hx
def Ad.fits(h:Ad a N ds E):Fits E a.eval:=λ_ _ hx=>h.eval hx
end
def aKH(V:PS)(e:Event):Prop:=e=⟨.mark .noRoom,false,true⟩\/(e.sync=false/\has V e.loc/\e.write=false)
def kQ(P:Program)(op:Op)(t:TypeId)(E:Env)(w:World)(v:Value)(V:PS):Prop:=aA P op t E w v w/\bQ P op t E w (aKH V)
def L2(S' R:PS)(e:Event):Prop:=e=⟨.mark .noRoom,false,true⟩\/(e.sync=false/\(has S' e.loc\/(has R e.loc/\e.write=false)))
def Gu.ev{S R S':PS}{w w':World}{es:Array Event}(h:Gu S R S' w w' #[])(he:∀e∈es,L2 S' R e):Gu S R S' w w' es:=⟨h.le,h.fresh,h.size,h.still,h.os,h.tape,h.output,he⟩
def CJ(J:PS->Goroutine->World->Prop)(b:Frame)(cs:List Frame)(N:Nat)(ds:List Deferred)(S:PS)(E:Env)(k:List Item)(w:World):Prop:=∀a,Ad a N ds E->J S (G (b.at a k) cs) w
section
variable{P:Program}{main:Bool}{R:PS}{Q:World->Prop}{J:PS->Goroutine->World->Prop}(hJ:pF P main R Q J){b:Frame}{cs:List Frame}{N:Nat}{ds:List Deferred}{S S':PS}{E E':Env}{k:List Item}{w w':World}
def CJ.sub(h:CJ J b cs N ds S E' k w)(hs:∀k v,look E' k=some v->look E k=some v):CJ J b cs N ds S E k w:=λa ha=>h a (ha.sub hs)
include hJ
def CJ.rely(h:CJ J b cs N ds S E k w)(ha:bZ (S.or R) w w'):CJ J b cs N ds S E k w':=λa h1=>hJ.rely _ _ _ _ (h a h1) ha
def CJ.seq(h:CJ J b cs N ds S E (.code x:: .code y::k) w):CJ J b cs N ds S E (.code (.seq x y)::k) w:=λa ha=>hJ.ctl rfl (λ_=>stepG_seq) (h a ha)
def CJ.skip(h:CJ J b cs N ds S E k w):CJ J b cs N ds S E (.code .skip::k) w:=λa ha=>hJ.ctl rfl (λ_=>stepG_skip) (h a ha)
def CJ.block(h:CJ J b cs N ds S E (.code c:: .inBlock i::k) w):CJ J b cs N ds S E (.code (.block i c)::k) w:=λa ha=>hJ.ctl rfl (λ_=>stepG_block) (h a ha)
def CJ.inBlock(h:CJ J b cs N ds S E k w):CJ J b cs N ds S E (.inBlock i::k) w:=λa ha=>hJ.ctl rfl (λ_=>stepG_inBlock) (h a ha)
def CJ.loop(h:CJ J b cs N ds S E (.code c:: .inLoop c::k) w):CJ J b cs N ds S E (.code (.loop c)::k) w:=λa ha=>hJ.ctl rfl (λ_=>stepG_loop) (h a ha)
def CJ.inLoop(h:CJ J b cs N ds S E (.code c:: .inLoop c::k) w):CJ J b cs N ds S E (.inLoop c::k) w:=λa ha=>hJ.ctl rfl (λ_=>stepG_inLoop) (h a ha)
def CJ.exit{k':List Item}(he:exitTo i k=some k')(h:CJ J b cs N ds S E k' w):CJ J b cs N ds S E (.code (.exit i)::k) w:=λa ha=>hJ.ctl rfl (λ_=>stepG_exit he) (h a ha)
def CJ.cond{c:Operand}(t:Bool)(hc:aM E c=some (.bool t))(h:CJ J b cs N ds S E (.code (if t then x else y)::k) w):CJ J b cs N ds S E (.code (.cond c x y)::k) w:=λa ha=>
 hJ.ctl rfl (λ_=>stepG_cond (ha.eval hc)) (h a ha)
def CJ.region(h:CJ J b cs N ds S E (.inRegion ops (List.range ops.size)::k) w):CJ J b cs N ds S E (.code (.region i ops false)::k) w:=λa ha=>hJ.ctl rfl (λ_=>stepG_region) (h a ha)
def aLZ(h:CJ J b cs N ds S E k w):CJ J b cs N ds S E (.inRegion ops []::k) w:=λa ha=>hJ.ctl rfl (λ_=>stepG_region_end) (h a ha)
section
variable{rest:List Nat}{op:Op}{t:TypeId}{pos:String}{after:Array Edge}{d:Nat}{v:Value}
def aLS(ho:ops[i]?=some ⟨some d,op,t,pos,after,none⟩)(hk:b.kind≠.early)(hd:Nat.blt d N=true)(h:∀w1,bZ (S.or R) w w1->Q w1->kQ P op t E w1 v (S.or R))
  (hn:CJ J b cs N ds S ((d,v)::E) (.inRegion ops rest::k) w):CJ J b cs N ds S E (.inRegion ops (i::rest)::k) w:=λa ha=>
 hJ.step _ _ _ rfl λw1 h1 h2=>by
  obtain⟨h3,h4⟩:=h w1 h1 h2;exact⟨S,_,w1,_,stepG_value ho rfl hk (h3 _ ha.fits _ _ _ _),(Gu.refl S R w1).ev λe he=>(h4 _ ha.fits _ _ _ _ e (mem_listed he)).imp id λ⟨x,y,z⟩=>⟨x,(fZ.1 y).imp id λy=>⟨y,z⟩⟩,hJ.rely _ _ _ _ (hn _ (ha.put v hd)) h1⟩
def aQ1(ho:ops[i]?=some ⟨some d,op,t,pos,after,none⟩)(hk:b.kind≠.early)(hd:Nat.blt d N=true)
  (h:∀w1,bZ (S.or R) w w1->Q w1->∃S' w' v,aA P op t E w1 v w'/\bQ P op t E w1 (L2 S' R)/\Gu S R S' w1 w' #[]/\CJ J b cs N ds S' ((d,v)::E) (.inRegion ops rest::k) w'):CJ J b cs N ds S E (.inRegion ops (i::rest)::k) w:=λa ha=>
 hJ.step _ _ _ rfl λw1 h1 h2=>by
  obtain⟨S',w',v,h3,h4,h5,h6⟩:=h w1 h1 h2;exact⟨S',_,w',_,stepG_value ho rfl hk (h3 _ ha.fits _ _ _ _),h5.ev λe he=>h4 _ ha.fits _ _ _ _ e (mem_listed he),h6 _ (ha.put v hd)⟩
def aTa(ho:ops[i]?=some ⟨none,op,t,pos,after,none⟩)(hk:b.kind≠.early)
  (h:∀w1,bZ (S.or R) w w1->Q w1->∃S' w',jH P op t E w1 w'/\bQ P op t E w1 (L2 S' R)/\Gu S R S' w1 w' #[]/\CJ J b cs N ds S' E (.inRegion ops rest::k) w'):CJ J b cs N ds S E (.inRegion ops (i::rest)::k) w:=λa ha=>
 hJ.step _ _ _ rfl λw1 h1 h2=>by
  obtain⟨S',w',h3,h4,h5,h6⟩:=h w1 h1 h2;exact⟨S',_,w',_,stepG_none ho rfl hk (h3 _ ha.fits _ _ _ _),h5.ev λe he=>h4 _ ha.fits _ _ _ _ e (mem_listed he),h6 _ (ha.none _)⟩
def CJ.call{args:Array Operand}(ho:ops[i]?=some o)(hw:o.guard=none)(hk:b.kind≠.early)(cK:o.op=.call {callee:=.value (.func f),args,argTypes:=sG})
  (hf:P.funcs[f]?=some fn)(BY:(fn.name== "runtime.NumGoroutine")=false)(hb:fn.body=some c)
  (h:∀a,Ad a N ds E->J S (G ((base f).at {tmps:=args.map a.eval++Array.replicate (fn.ntmps-(args.map a.eval).size) undef,defers:=[]} [.code c]) (b.at a (.inRegion ops (i::rest)::k)::cs)) w):CJ J b cs N ds S E (.inRegion ops (i::rest)::k) w:=λa ha=>
 hJ.step _ _ _ rfl λw1 h1 _=>by
  have hg:=goes_call (main:=main) (P:=P) (w:=w1) (K:=λg' w' es=>g'=_/\w'=w1/\es= #[]) (cs:=cs) (b:=b) (a:=a) (k:=k) (rest:=rest) ho (by simp[Region.wanted,hw]) hk cK hf BY hb ⟨rfl,rfl,rfl⟩;obtain⟨g',w',es,h3,rfl,rfl,rfl⟩:=goes_elim hg;exact⟨S,_,_,_,h3,Gu.refl S R _,hJ.rely _ _ _ _ (h a ha) h1⟩
def jU(ho:ops[i]?=some o)(hw:o.guard=none)(hk:b.kind≠.early)(hE:Ad a N ds E)
  (h:∀w1,bZ (S.or R) w w1->Q w1->∃S' w',jH P o.op o.type E w1 w'/\bQ P o.op o.type E w1 (L2 S' R)/\Gu S R S' w1 w' #[]/\J S' (G (b.at (a.put o.dst undef) (.inRegion ops rest::k)) cs) w'):J S (G (b.at a (.inRegion ops (i::rest)::k)) cs) w:=
 hJ.step _ _ _ rfl λw1 h1 h2=>by
  obtain⟨S',w',h3,h4,h5,h6⟩:=h w1 h1 h2;exact⟨S',_,w',_,stepG_none ho (by simp[Region.wanted,hw]) hk (h3 _ hE.fits _ _ _ _),h5.ev λe he=>h4 _ hE.fits _ _ _ _ e (mem_listed he),h6⟩
def L3(ho:ops[i]?=some o)(hw:o.guard=none)(hk:b.kind≠.early)(cK:o.op=.call {callee:=.value (.func f),args:=xs.toArray,argTypes:=sG})
  (hf:P.funcs[f]?=some fn)(BY:(fn.name== "runtime.NumGoroutine")=false)(hb:fn.body=some c)(hE:Ad a N ds E)(he:evs E xs=some us)
  (h:J S (G (Frame.enter P f us.toArray .normal) (b.at a (.inRegion ops (i::rest)::k)::cs)) w):J S (G (b.at a (.inRegion ops (i::rest)::k)) cs) w:=
 hJ.step _ _ _ rfl λw1 h1 _=>by
  have hg:=goes_call (main:=main) (P:=P) (w:=w1) (K:=λg' w' es=>g'=_/\w'=w1/\es= #[]) (cs:=cs) (b:=b) (a:=a) (k:=k) (rest:=rest) ho (by simp[Region.wanted,hw]) hk cK hf BY hb ⟨rfl,rfl,rfl⟩;obtain⟨g',w',es,h3,rfl,rfl,rfl⟩:=goes_elim hg;have e:xs.toArray.map a.eval=us.toArray:=by rw[aDb,sR hE.fits he]
  rw[enter_at _ hf hb,<-e]at h;exact⟨S,_,_,_,h3,Gu.refl S R _,hJ.rely _ _ _ _ h h1⟩
def CJ.defer(ho:ops[i]?=some o)(hw:o.guard=none)(hk:b.kind≠.early)(cK:o.op=.defer {callee:=.value (.func f),args:=xs.toArray,argTypes:=sG})(hd:o.dst=none)(he:evs E xs=some us)
  (h:CJ J b cs N (dcall f us.toArray::ds) S E (.inRegion ops rest::k) w):CJ J b cs N ds S E (.inRegion ops (i::rest)::k) w:=λa ha=>by
 have e:xs.toArray.map a.eval=us.toArray:=by rw[aDb,sR ha.fits he]
 refine hJ.ctl rfl (λw1=>stepG_defer ho (by simp[Region.wanted,hw]) hk cK) (h _ ⟨?_,?_,?_⟩)
 .rw[hd];exact ha.size
 .rw[hd,e];exact congrArg _ ha.defers
 .rw[hd];exact ha.at_
end
end
open Go.Proofs
variable{b o:Nat}{k:IntKind}{n:Int}{w:World}{S:PS}{v:Value}{l:List It}{O:Nat->Prop}
def Nm.bot:Nm:=⟨λ_ _=>False,λ_ _ h=>h.elim⟩
def Iu(v:Value):∃u,VR Nm.bot u v/\∀k n,v=.int k n->u=v:=by
 have:∀n,∀v:Value,SizeOf.sizeOf v<=n->∃u,VR Nm.bot u v/\∀k n,v=.int k n->u=v:=by
  intro n;induction n with
  |zero=>intro v hv;cases v<;>simp at hv
  |succ n ih=>
   intro v hv;cases v with
   |int k n=>exact⟨_,.int k n,λ_ _ _=>rfl⟩
   |bool b=>exact⟨_,.bool b,λ_ _ _=>rfl⟩
   |agg cs=>
    have h:∀i:_root_.Fin cs.size,∃u,VR Nm.bot u cs[i]:=λi=>by
     have h1:SizeOf.sizeOf cs[i]<SizeOf.sizeOf cs:=Array.sizeOf_get cs i.1 i.2;obtain⟨u,hu,_⟩:=ih cs[i] (by simp at hv;omega);exact⟨u,hu⟩
    refine⟨.agg (Array.ofFn λi=>Classical.choose (h i)),.agg BYS λi h1 h2=>?_,λ_ _ e=>by cases e⟩;simp only[Array.getElem_ofFn];exact aD2 (h ⟨i,h2⟩)
   |_=>exact⟨.tuple #[],.hid rfl,λ_ _ e=>by cases e⟩
 exact this _ v (aAB _)
noncomputable def img(v:Value):Value:=Classical.choose (Iu v)
def aAo{σ:Nm}(v:Value):VR σ (img v) v:=VR.mono (σ:=Nm.bot) (λa b (h:False)=>h.elim) (aD2 (Iu v)).1
def lu(k:IntKind)(n:Int):img (.int k n)=.int k n:=(aD2 (Iu (.int k n))).2 k n rfl
noncomputable def lz:Obj->Obj
 | .cells c T fz=>.cells (c.map img) T (0,max c.size fz.2)
 |o=>o
open Classical in
noncomputable def ghost(B:Nat->Prop)(w:World):World:={w with heap:=w.heap.mapIdx λb o=>if B b then lz o else if Al.jW o then o else .cells #[] 0}
def Xe(B:Nat->Prop):Nm:=⟨λa b=>a=b/\B a/\GB<=a,λ_ _ ⟨h1,_,h2⟩=>⟨h2,h1▸h2⟩⟩
def Shown(B:Nat->Prop)(w:World):Prop:=∀b,B b->GB<=b/\∃c T fz,w.heap[b]?=some (.cells c T fz)
section
variable{B:Nat->Prop}
def sU:(ghost B w).heap.size=w.heap.size:=by simp[ghost]
def JY(hb:B b):(ghost B w).heap[b]?=(w.heap[b]?).map lz:=by
 simp only[ghost,aIZ];cases w.heap[b]?<;>simp[hb]
def Iv(h:Shown B w)(T:Nat->Question->Nat):Al.Ry ((ghost B w).on T):=λb o ho=>by
 change (ghost B w).heap[b]?=some o at ho;simp only[ghost,aIZ]at ho;cases hx:w.heap[b]? with
 |none=>rw[hx]at ho;cases ho
 |some x=>
  rw[hx]at ho;by_cases hb:B b
  .obtain⟨_,c,T',fz,hc⟩:=h b hb;rw[hx]at hc;cases hc;simp[hb,lz]at ho;subst ho;rfl
  .simp only[hb,if_false,aDo]at ho;injection ho with ho;subst ho;split
   .assumption
   .rfl
def L5(h:Shown B w):WR (Xe B) (ghost B w) w:=by
 refine⟨λa b b' h1 h2=>h1.1.symm.trans h2.1,λa a' b h1 h2=>h1.1.trans h2.1.symm,λa b WU=>?_⟩;obtain⟨rfl,hB,_⟩:=WU;obtain⟨_,c,T,fz,hc⟩:=h a hB;refine⟨_,_,by rw[JY hB,hc];rfl,hc,.cells ⟨BYS,λi h1 h2=>?_⟩ λo h1 h2=>⟨aBt _,?_⟩⟩
 .simp only[aFo];exact aAo _
 .exact aAx h2 (Nat.le_max_right _ _)
def Iw(h:Shown B w):∀a b,Xe B a b->xD (ghost B w) a:=λa b ⟨_,hB,_⟩=>by
 obtain⟨_,c,T,fz,hc⟩:=h a hB;exact⟨_,_,_,by rw[JY hB,hc];rfl,λo ho=>⟨aBt _,by simp at ho;exact aAx ho (Nat.le_max_left _ _)⟩⟩
def Ix(hb:B b)(h:w.cell? ⟨b,o,none⟩=some (.int k n))(T:Nat->Question->Nat):((ghost B w).on T).cell? ⟨b,o,none⟩=some (.int k n):=by
 change (ghost B w).cell? ⟨b,o,none⟩=_;simp only[World.cell?,JY hb]at h⊢;cases hc:w.heap[b]? with
 |none=>rw[hc]at h;simp at h
 |some x=>
  rw[hc]at h;cases x<;>simp[lz]at h⊢
  simp[h,lu]
def oU{A:Option Addr}{n:Nat}{f:Nat->It}(h:aE cB 2 w A n f)(hb:∀p,A=some p->B p.block)(T:Nat->Question->Nat):aE cB 2 ((ghost B w).on T) A n f:=λhn=>by
 obtain⟨b,o,rfl,h1,h2⟩:=h hn;refine⟨b,o,rfl,by change b<(ghost B w).heap.size;rw[sU];exact h1,λi hi j u hu=>?_⟩;have h3:=h2 i hi j u hu;have:∃k n,u=.int k n:=by
  simp only[cB]at hu;rcases j with _|_|j<;>simp at hu<;>exact⟨_,_,hu.symm⟩
 obtain⟨k,n,rfl⟩:=this;exact Ix (hb _ rfl) h3 T
end
def Cut(w:World)(S:PS)(v:Value)(l:List It):Prop:=
 ∃A c,v=.slice A l.length c/\l.length<=c/\aE cB 2 w A l.length (lf l)/\∀p,A=some p->p.spot=none/\S p.block none/\GB<=p.block/\∃cs T fz,w.heap[p.block]?=some (.cells cs T fz)/\(l=[]->T=38)
def Cut.iQ{w1:World}(h:Cut w S v l)(ha:bZ S w w1):Cut w1 S v l:=by
 obtain⟨A,c,h1,h2,h3,h4⟩:=h;refine⟨A,c,h1,h2,λhn=>?_,λp hp=>?_⟩
 .obtain⟨b,o,rfl,h5,h6⟩:=h3 hn;have e:=ha.all b (h4 _ rfl).2.1;exact⟨b,o,rfl,aAx h5 ha.size,λi hi j u hu=>by rw[fB e];exact h6 i hi j u hu⟩
 .obtain⟨h5,h6,h7,h8⟩:=h4 p hp;exact⟨h5,h6,h7,by rw[ha.all _ h6];exact h8⟩
def Cut.mono{S':PS}(h:Cut w S v l)(hs:∀b,S b none->S' b none):Cut w S' v l:=by
 obtain⟨A,c,h1,h2,h3,h4⟩:=h;exact⟨A,c,h1,h2,h3,λp hp=>let ⟨h5,h6,h7⟩:=h4 p hp;⟨h5,hs _ h6,h7⟩⟩
def ma{τ:Nm}{W:World}(h:WR τ W w){a:Nat}(WU:τ a b)(hc:W.cell? ⟨a,o,none⟩=some (.int k n)):w.cell? ⟨b,o,none⟩=some (.int k n):=by
 obtain⟨x,y,h1,h2,h3⟩:=h.cell a b WU;simp only[World.cell?,h1,h2]at hc⊢;cases h3 with
 |cells Y6 _=>
  simp at hc⊢;rcases Y6.get o with⟨h4,_⟩|⟨u,u',h4,h5,h6⟩
  .rw[hc]at h4;cases h4
  .rw[hc]at h4;cases h4;cases h6;exact h5
 |number=>simp at hc
def JZ{B:Nat}{σ0 τ:Nm}{W' w':World}{v':Value}(h:mU W' B v l)(hl:l≠[])(hv:VR τ v v')(hi:xE σ0 O τ W' w')(hB:∀a b,σ0 a b->a<B):Cut w' (λb x=>x=none/\O b) v' l:=by
 obtain⟨A,c,rfl,hc⟩:=h.form;obtain⟨_,_,hr⟩:=bT.bK bN h;cases hv with
 |Ez n c=>exact⟨none,c,rfl,hc,λhn=>(by obtain⟨b,o,e,_⟩:=hr hn;cases e),λp hp=>(by cases hp)⟩
 | @sl b b' o n c hb=>
  refine⟨_,c,rfl,hc,λhn=>?_,λp hp=>?_⟩
  .obtain⟨b1,o1,e,h1,h2⟩:=hr hn;cases e;exact⟨b',o,rfl,(hi.wr.lt hb).2,λi uK j u hu=>by
    have h3:=h2 i uK j u hu;have:∃k n,u=.int k n:=by
     simp only[cB]at hu;rcases j with _|_|j<;>simp at hu<;>exact⟨_,_,hu.symm⟩
    obtain⟨k,n,rfl⟩:=this;exact ma hi.wr hb h3⟩
  .cases hp;refine⟨rfl,?_⟩;rcases h.2 with⟨A,e,h1⟩|⟨g,cap,cur,e,h1,h2,_⟩
   .exact absurd (aCQ h1) hl
   .cases e;rcases hi.vu _ _ hb with h0|h0
    .exact absurd (hB _ _ h0) BYO
    .refine⟨⟨rfl,h0⟩,(τ.hi _ _ hb).2,?_⟩;obtain⟨x,y,h3,h4,h5⟩:=hi.wr.cell _ _ hb;rw[h2]at h3;cases h3;cases h5;exact⟨_,_,_,h4,λe=>absurd e hl⟩
section
variable{main:Bool}{R:PS}{Q:World->Prop}{J:PS->Goroutine->World->Prop}(hJ:pF Tryz.prog main R Q J){S:PS}{c:Frame}{cs:List Frame}{w:World}
include hJ
def aFT{Rd:Nat->Prop}{Stop:(Nat->Prop)->Goroutine->World->Prop}{g:Goroutine}{B:Nat}{w0:World}(h:Walk Tryz.prog main Rd Stop O g w)(hR:∀b,Rd b->(S.or R) b none)(hV:mQ B (S.or R))(hO:∀b,O b->B<=b)(hz:B<=w.heap.size)(h0:bZ (S.or R) w0 w)
  (hs:∀O' g' w',(∀b,O' b->B<=b)->bZ (S.or R) w0 w'->Stop O' g' w'->J (S.or λb x=>x=none/\O' b) g' w'):J (S.or λb x=>x=none/\O b) g w:=by
 have rel:∀{O:Nat->Prop} {w w1:World},bZ ((S.or λb x=>x=none/\O b).or R) w w1->NV Rd O w w1:=λ{O w w1} ha=>⟨λb hb=>ha.all b (by
  rcases hb with hb|hb
  .exact(hR b hb).imp .inl id
  .exact .inl (.inr ⟨rfl,hb⟩)),ha.size⟩
 induction h with
 | @stop O g w h1=>exact hs O g w hO h0 (h1 w ⟨λ_ _=>rfl,aAB _⟩)
 | @go O g w O' g' w' es lV h1 h2 h3 ih=>
  refine hJ.step _ g w lV λw1 ha _=>?_;have hr:=rel ha;have hg:=h2 w1 hr;have uL:bZ (S.or R) w0 w1:=h0.trans (ha.sub λb x hx=>hx.imp .inl id);have mP:B<=w1.heap.size:=aBS hz ha.size;refine⟨_,g' w1,w' w1,es w1,h1 w1 hr,⟨λb x hx=>?_,λb x hx=>?_,hg.size,λb hb hn=>.inl ?_,hg.os,hg.tape,hg.output,λe he=>?_⟩,ih w1 hr (λb hb=>?_) (aBS mP hg.size) (uL.trans ?_)⟩
  .exact hx.imp id λ⟨x1,x2⟩=>⟨x1,hg.le b x2⟩
  .rcases hx with hx|⟨x1,x2⟩
   .exact .inl (.inl hx)
   .rcases hg.fresh b x2 with h4|h4
    .exact .inl (.inr ⟨x1,h4⟩)
    .exact .inr h4
  .exact hg.still b hb λho=>hn (.inr ⟨rfl,ho⟩)
  .rcases hg.events e he with h4|⟨h4,h5⟩
   .exact .inl h4
   .refine .inr ⟨h4,?_⟩;rcases h5 with⟨b,h5,h6,h7⟩|⟨b,o,h5,h7⟩
    .rw[h5];rcases h7 with h7|h7
     .exact .inl (.inr ⟨rfl,h7⟩)
     .rcases hR b h7 with h8|h8
      .exact .inl (.inl h8)
      .exact .inr ⟨h8,h6⟩
    .rw[h5];rcases h7 with h7|⟨h7,h6⟩
     .exact .inl (.inl (.inr ⟨rfl,h7⟩))
     .rcases hR b h7 with h8|h8
      .exact .inl (.inl (.inl h8))
      .exact .inr ⟨.inl h8,h6⟩
  .rcases hg.fresh b hb with h4|h4
   .exact hO b h4
   .exact aBS mP h4.1
  .have st:∀b x,(S.or R) b x->(w' w1).heap[b]?=w1.heap[b]?:=λb x hx=>hg.still b (aAx (hV b x hx) mP) λho=>by
    have h5:=hV b x hx;have h6:=hO b ho;omega
   exact⟨λb hb=>st b _ hb,λb o hb c T fz hc=>⟨c,(st b _ hb).trans hc,rfl,rfl⟩,hg.size,hg.os,hg.tape,hg.output⟩
def lP(hf:f∈wl){args:Array Value}{Post:Value->Array Obj->Prop}(B:Nat->Prop)(hB:Shown B w)(hR:∀b,B b->(S.or R) b none)(hV:mQ w.heap.size (S.or R))(hg:GB<=w.heap.size)(ha:eY (Xe B) args args)
  (hc:∀T,Calls tz f args ((ghost B w).on T) λe W'=>∃v,e=.returned v/\Post v W'.heap)
  (hn:∀τ W' v v' O w',(∀b,O b->w.heap.size<=b)->bZ (S.or R) w w'->Post v W'.heap->VR τ v v'->xE (Xe B) O τ W' w'->J (S.or λb x=>x=none/\O b) (G (c.finish v') cs) w'):J S (G (Frame.enter Tryz.prog f args .normal) (c::cs)) w:=by
 have h:=NW fx K1 (main:=main) (c:=c) (cs:=cs) hf (L5 hB) (by rw[sU];exact hg) hg (Iw hB) ha λT=>(Al.K3 (R:=λe W'=>∃v,e=.returned v/\Post v W'.heap) (Al.aAi hf) (Iv hB T) ((hc T).mono λ_ _ ⟨v,h1,h2⟩=>⟨v,h1,v,h1,h2⟩)).mono λ_ _ ⟨_,_,h⟩=>h;have h1:=aFT hJ (S:=S) h (λb ⟨a,e,h1,_⟩=>e▸hR a h1) hV (λb hb=>hb.elim) (aAB _) (bZ.refl _ _) λO g w' ho ha ⟨τ,W',v,v',e,h2,h3,h4⟩=>e▸hn τ W' v v' O w' ho ha h2 h3 h4;have e:(S.or λb x=>x=none/\False)=S:=by funext b x;simp[PS.or]
 rwa[e]at h1
end
variable{B:Nat}{W' W:World}{v':Value}{V:PS}{A:Option Addr}
def KJ{σ0 τ:Nm}{w':World}(h:M0 W' B v)(hv:VR τ v v')(hi:xE σ0 O τ W' w')(hB:∀a b,σ0 a b->a<B):Cut w' (λb x=>x=none/\O b) v' []:=by
 rcases h with rfl|⟨g,rfl,h1,cs,fz,h2⟩
 .cases hv;exact⟨none,0,rfl,aAB _,aE.zero _ _ _ _ _,λp hp=>by cases hp⟩
 .cases hv with
  | @sl b b' o n c hb=>
   refine⟨_,0,rfl,aAB _,aE.zero _ _ _ _ _,λp hp=>?_⟩;cases hp;refine⟨rfl,?_⟩;rcases hi.vu _ _ hb with h0|h0
   .exact absurd (hB _ _ h0) BYO
   .refine⟨⟨rfl,h0⟩,(τ.hi _ _ hb).2,?_⟩;obtain⟨x,y,h3,h4,h5⟩:=hi.wr.cell _ _ hb;rw[h2]at h3;cases h3;cases h5;exact⟨_,_,_,h4,λ_=>rfl⟩
def UN{τ:Nm}(h:VR τ (.tuple #[v,.nilIface]) v'):∃u,v'=.tuple #[u,.nilIface]/\VR τ v u:=by
 cases h with
 | @tuple xs ys hs hi=>
  obtain⟨x,y,rfl⟩:=B6 hs.symm;have h0:=hi 0 BYS BYS;have h1:=hi 1 BYS BYS;simp at h0 h1;cases h1;exact⟨x,rfl,h0⟩
def Aj(e:W.heap=W'.heap)(h:mU W B v l):mU W' B v l:=by
 unfold mU bT Own at*;rw[<-e];exact h
def Ak(e:W.heap=W'.heap)(h:M0 W B v):M0 W' B v:=by
 unfold M0 aAs at*;rw[<-e];exact h
def Seen(w:World)(V:PS)(A:Option Addr):Prop:=∀p,A=some p->p.spot=none/\V p.block none/\GB<=p.block/\∃cs T fz,w.heap[p.block]?=some (.cells cs T fz)
def lB(A:Option Addr)(b:Nat):Prop:=∃p,A=some p/\p.block=b
def Seen.shown(h:Seen w V A):Shown (lB A) w:=λb ⟨p,hp,e⟩=>e▸⟨(h p hp).2.2.1,(h p hp).2.2.2⟩
def Seen.vr(h:Seen w V A){B:Nat->Prop}(hb:∀p,A=some p->B p.block)(n c:Nat):VR (Xe B) (.slice A n c) (.slice A n c):=by
 cases A with
 |none=>exact .Ez n c
 |some p=>
  obtain⟨b,o,s⟩:=p;obtain⟨h1,_,h2,_⟩:=h _ rfl;cases h1;exact .sl ⟨rfl,hb _ rfl,h2⟩
section
variable{main:Bool}{R:PS}{Q:World->Prop}{J:PS->Goroutine->World->Prop}(hJ:pF Tryz.prog main R Q J){S:PS}{cf:Frame}{cs:List Frame}{w:World}
include hJ
def Tx{n c:Nat}{f:Nat->It}(hr:aE cB 2 w A n f)(hA:Seen w (S.or R) A)(hV:mQ w.heap.size (S.or R))(hg:GB<=w.heap.size)(he:aH n f=0)
  (hn:∀(O:Nat->Prop) (w':World) (v:Value),(∀b,O b->w.heap.size<=b)->bZ (S.or R) w w'->Cut w' (λb x=>x=none/\O b) v (bS (aG f n))->J (S.or λb x=>x=none/\O b) (G (cf.finish (.tuple #[v,.nilIface])) cs) w'):
  J S (G (Frame.enter Tryz.prog 5 #[.slice A n c] .normal) (cf::cs)) w:=by
 have Mf:∀a b,Xe (lB A) a b->a<(ghost (lB A) w).heap.size:=λa b ⟨_,hb,_⟩=>by
  obtain⟨_,c,T,fz,hc⟩:=hA.shown a hb;rw[sU];exact(aCH.1 hc).1
 have args:eY (Xe (lB A)) #[.slice A n c] #[.slice A n c]:=eY.one (hA.vr (λp hp=>⟨p,hp,rfl⟩) n c);have hR:∀b,lB A b->(S.or R) b none:=λb ⟨p,hp,e⟩=>e▸(hA p hp).2.1;have Qy:5∈wl:=by simp[wl]
 rcases aCl n with rfl|nA
 .refine lP hJ (Post:=λv H=>∃W1 v1,W1.heap=H/\v=.tuple #[v1,.nilIface]/\M0 W1 (ghost (lB A) w).heap.size v1) Qy (lB A) hA.shown hR hV hg args
   (λT=>(Tw A c f ((ghost (lB A) w).on T)).mono λe W' h=>?_) λτ W' v v' O w' oP wD ⟨W1,v1,e1,e2,h1⟩ h2 h3=>?_
  .cases e<;>first|exact h.elim|skip
   obtain⟨v1,rfl,h1⟩:=h;exact⟨_,rfl,W',v1,rfl,rfl,h1⟩
  .subst e2;obtain⟨u,rfl,hu⟩:=UN h2;have:bS (aG f 0)=[]:=rfl;exact hn O w' u oP wD (this▸KJ (Ak e1 h1) hu h3 Mf)
 .refine lP hJ (Post:=λv H=>∃W1 v1,W1.heap=H/\v=.tuple #[v1,.nilIface]/\mU W1 (ghost (lB A) w).heap.size v1 (bS (aG f n))) Qy (lB A) hA.shown hR hV hg args
   (λT=>(KG A n c f ((ghost (lB A) w).on T) (oU hr (λp hp=>⟨p,hp,rfl⟩) T)).mono λe W' h=>?_) λτ W' v v' O w' oP wD ⟨W1,v1,e1,e2,h1⟩ h2 h3=>?_
  .cases e<;>first|exact h.elim|skip
   obtain⟨_,_,h1⟩:=h;obtain⟨v1,e1,h1⟩:=h1 he;exact⟨_,rfl,W',v1,rfl,e1,h1⟩
  .subst e2;obtain⟨u,rfl,hu⟩:=UN h2;refine hn O w' u oP wD (JZ (Aj e1 h1) (λe=>?_) hu h3 Mf);have:=congrArg List.length e;rw[kW,aF]at this;simp at this;omega
end
end Rk.Cw
namespace Rk
open Go Go.RowKit Go.Proofs
attribute [local irreducible] aA jH OpC WL QL WC WX OL RL TL
def UO(A:Option Addr)(n c:Nat)(f:Nat->It)(w:World)(hr:aE cB 2 w A n f)(hn:n<=1000):
  Calls tz 117 #[.slice A n c,dF] w (eT λv w'=>(∃b:Bool,v=.bool b/\(b=true↔∀i,i+1<n->(f i).1<=(f (i+1)).1))/\Below w.heap.size w w'):=by
 refine aI J9 rfl Tryz.ntmps117 rfl ?_;refine bB ?_;refine WC.loop (λm a wr=>∃k:Int,-1<=k/\k<n/\m=(k+1).toNat/\(∀i:Nat,k<=i->i+1<n->(f i).1<=(f (i+1)).1)/\Below w.heap.size w wr/\Ag a 25 [(0,.slice A n c),(1,dF),(5,.int .i64 k)]) n ?_ ?_
 .intro a ha;exact⟨n-1,BYO,BYO,BYO,λi h1 h2=>BYO,Below.refl _ _,((ha.nil.keep ha rfl).keep ha rfl).keep ha rfl⟩
 .rintro m a wr ⟨k,HT,xA,rfl,fM,hB,ha⟩;refine WC.at ?_ ha;clear ha a;refine bB ?_;refine WC.cond rfl (λh=>?_) (λh=>?_)
  .have OW:0<k:=of_decide_eq_true h;obtain⟨k,rfl⟩:∃j:Nat,k=j+1:=⟨(k-1).toNat,BYO⟩;obtain⟨b,o,rfl,_,hc⟩:=(hr.below hB).at_ BYO;refine bB ?_;refine aPS (λw'=>Below wr.heap.size wr w') (.read 0 (.read 1 (.read 2 (.read 3 (.read 4 (.read 5 (.read 6 (.read 7 (.read 8 (.read 9 (.act 10 (.read 11 .fin)))))))))))) mixed BYK rfl BYK (λw' hb _=>hb) λK hK w2 bM hh2=>?_;refine uS ?_;refine RL.step (λw' dY=>aL5 (cs:=cB (f ((k:Int)+1).toNat)) aL rfl rfl (hc w' dY ((k:Int)+1).toNat BYO)) rfl ?_;refine uS ?_;refine RL.step (λw' dY=>aL5 (cs:=cB (f ((k:Int)+1-1).toNat)) aL rfl rfl (hc w' dY ((k:Int)+1-1).toNat BYO)) rfl ?_;refine uS ?_;refine TL.act rfl (WL.call (aOQ QI BYK rfl rfl rfl) rfl (rP _ _ _) ?_);rintro v w3 ⟨rfl,dZ⟩;have aCC:=bM.tr dZ;refine WL.nil ⟨aCC,?_⟩;refine uS ?_;refine TL.fin (hK _ _ ?_);clear hK K;rw[show((k:Int)+1).toNat=k+1 from BYO,show((k:Int)+1-1).toNat=k from by omega];refine bB ?_;refine WC.cond rfl (λh2=>?_) (λh2=>?_)
   .have Xw:KA (f (k+1)).1 (f k).1<0:=of_decide_eq_true h2;have h3:(f (k+1)).1<(f k).1:=by
     unfold KA at Xw;split at Xw
     .assumption
     .split at Xw<;>omega
    refine bB ?_;refine aLV rfl rfl ⟨⟨false,rfl,?_⟩,hB.tr aCC⟩;simp only[aHU,false_iff];exactλhh=>by have:=hh k BYO;omega
   .have Xw:¬KA (f (k+1)).1 (f k).1<0:=of_decide_eq_false h2;have h3:(f k).1<=(f (k+1)).1:=by
     unfold KA at Xw;split at Xw
     .omega
     .omega
    refine bB ?_;refine WX.again (m:=k+1) BYO λa ha=>⟨(k:Int)+1-1,BYO,BYO,BYO,λi h4 h5=>?_,hB.tr aCC,((ha.nil.keep ha rfl).keep ha rfl).keep ha rfl⟩;by_cases e:i=k
    .subst e;exact h3
    .exact fM i BYO h5
  .refine bB ?_;exact aLV rfl rfl ⟨⟨true,rfl,by
    simp only[true_iff];exactλi hi=>fM i (by have:=of_decide_eq_false h;omega) hi⟩,hB⟩
def yU(A:Option Addr)(n c:Nat)(f:Nat->It)(w:World)(hr:aE cB 2 w A n f):
  Calls tz 109 #[.slice A n c] w (eT λv w'=>(∃b:Bool,v=.tuple #[.bool b,cI (aH n f)]/\(b=true↔aH n f=0/\cW (aG f n)))/\Below w.heap.size w w'):=by
 refine aI TZ rfl Tryz.ntmps109 rfl ?_;refine lA λK hK=>?_;refine aKQ xT (jJ A n c f _ hr) ?_;rintro v w1 ⟨rfl,cA⟩;by_cases he:aH n f=0
 .have SB:n<=60:=by unfold aH at he;split at he<;>omega
  rw[he,show cI 0=.nilIface from rfl];refine bB ?_;refine aJh rfl ?_;refine lA λK hK=>?_;refine aKQ J9 (UO A n c f _ (hr.below cA) BYO) ?_;rintro v w2 ⟨⟨b,rfl,hb⟩,bM⟩;refine bB ?_;refine aLe rfl rfl rfl ⟨⟨b,by rw[he];rfl,?_⟩,cA.tr bM⟩;rw[hb,ZU];constructor
  .exactλh=>⟨he,λi hi=>by rw[lF,lF];exact h i (by rw[aF]at hi;exact hi)⟩
  .exactλh i hi=>by have:=h.2 i (by rw[aF];exact hi);rw[lF,lF]at this;exact this
 .have hE:cI (aH n f)=.iface 68 (.int .i64 (aH n f:Nat)):=if_neg he;rw[hE];refine bB ?_;refine aLO rfl ?_;refine bB ?_;exact aLe rfl rfl rfl ⟨⟨false,by rw[hE],by simp[he]⟩,cA⟩
end Rk
namespace Rk
variable{a b:List It}
def inv:List It->Nat
 |[]=>0
 |x::r=>r.countP (λy=>decide (y.1<x.1))+inv r
def vN(a b:List It):Nat:=(a.map λx=>b.countP λy=>decide (y.1<x.1)).sum
def aAt:List It->Nat
 |[]=>0
 |x::r=>r.countP (λy=>decide (y.1≠x.1))+aAt r
def Jl(x:It)(a b:List It):vN (x::a) b=b.countP (λy=>decide (y.1<x.1))+vN a b:=by simp[vN]
def KL(a b:List It):inv (a++b)=inv a+inv b+vN a b:=by
 induction a with
 |nil=>simp[inv,vN]
 |cons x r ih=>rw[aCq,inv,inv,Jl,ih,aHK];omega
def Jm{a' b':List It}(h:a.Perm a')(g:b.Perm b'):vN a b=vN a' b':=by
 have e:∀x:It,b.countP (λy=>decide (y.1<x.1))=b'.countP (λy=>decide (y.1<x.1)):=λx=>g.countP_eq _;have:vN a b=vN a b':=by unfold vN;congr 1;exact aGm λx _=>e x
 rw[this];unfold vN;exact(h.map _).sum_nat
def lQ:List It->List It->List It
 |[],b=>b
 |a,[]=>a
 |x::a,y::b=>if y.1<x.1 then y::lQ (x::a) b else x::lQ a (y::b)
termination_by a b=>a.length+b.length
def eQ(b:List It):lQ [] b=b:=by rw[lQ]
def kX(a:List It):lQ a []=a:=by cases a<;>simp[lQ]
def qJ(x y:It)(a b:List It):lQ (x::a) (y::b)=if y.1<x.1 then y::lQ (x::a) b else x::lQ a (y::b):=by rw[lQ]
def FI:∀(n:Nat) (a b:List It),a.length+b.length<=n->(lQ a b).Perm (a++b):=by
 intro n;induction n with
 |zero=>
  intro a b h;have:a=[]:=aCQ BYO;subst this;rw[eQ];exact aBx _
 |succ n ih=>
  intro a b h;cases a with
  |nil=>rw[eQ];exact aBx _
  |cons x a=>
   cases b with
   |nil=>rw[kX];simp
   |cons y b=>
    rw[qJ];simp only[aBJ]at h;split
    .exact(List.Perm.cons _ (ih (x::a) b BYT)).trans List.perm_middle.symm
    .exact List.Perm.cons _ (ih a (y::b) BYT)
def OC:∀(n:Nat) (a b:List It),a.length+b.length<=n->cW a->cW b->cW (lQ a b):=by
 intro n;induction n with
 |zero=>
  intro a b h _ hb;have:a=[]:=aCQ BYO;subst this;rw[eQ];exact hb
 |succ n ih=>
  intro a b h ha hb;cases a with
  |nil=>rw[eQ];exact hb
  |cons x a=>
   cases b with
   |nil=>rw[kX];exact ha
   |cons y b=>
    rw[qJ];have uL:=aCG.1 ha;have rD:=aCG.1 hb;simp only[aBJ]at h;split
    .rename_i dD;refine aCG.2 ⟨λz hz=>?_,ih (x::a) b BYT ha rD.2⟩;rcases aBR.1 ((FI _ _ _ (aAB _)).mem_iff.1 hz) with hm|hm
     .rcases aBI.1 hm with e|hm
      .rw[e];omega
      .have:=uL.1 z hm;omega
     .exact rD.1 z hm
    .rename_i dD;refine aCG.2 ⟨λz hz=>?_,ih a (y::b) BYT uL.2 hb⟩;rcases aBR.1 ((FI _ _ _ (aAB _)).mem_iff.1 hz) with hm|hm
     .exact uL.1 z hm
     .rcases aBI.1 hm with e|hm
      .rw[e];omega
      .have:=rD.1 z hm;omega
def Am:∀(n:Nat) (a b:List It),a.length+b.length<=n->cW a->cW b->iC (lQ a b) (a++b):=by
 intro n;induction n with
 |zero=>
  intro a b h _ hb;have:a=[]:=aCQ BYO;subst this;rw[eQ];exact iC.refl _
 |succ n ih=>
  intro a b h ha hb k;cases a with
  |nil=>rw[eQ];rfl
  |cons x a=>
   cases b with
   |nil=>rw[kX];simp
   |cons y b=>
    rw[qJ];have uL:=aCG.1 ha;have rD:=aCG.1 hb;simp only[aBJ]at h;split
    .rename_i dD;have h1:=ih (x::a) b BYT ha rD.2 k;by_cases hy:y.1=k
     .have Ql:kV k (x::a)=[]:=by
       refine aHz.2 λz hz=>?_;have Mr:=pG.1 hz;rcases aBI.1 Mr.1 with e|hm
       .rw[e]at Mr;omega
       .have:=uL.1 z hm;omega
      rw[fJ,Ql]at h1;rw[fJ,Ql];simp only[kV,aGR,hy,decide_true,if_true,aDF]at*;rw[h1]
     .rw[fJ]at h1⊢;have e1:∀l,kV k (y::l)=kV k l:=λl=>by simp[kV,hy]
      rw[e1,e1,h1]
    .have h1:=ih a (y::b) BYT uL.2 hb k;simp only[kV,aCq,aGR]at*;rw[h1]
def Tz(ha:cW a)(hb:cW b):lQ a b=bS (a++b):=
 vL (OC _ a b (aAB _) ha hb) (Am _ a b (aAB _) ha hb)
def aFW(a b:List It)(x y:It):inv (a++y::x::b)+(if y.1<x.1 then 1 else 0)=inv (a++x::y::b)+(if x.1<y.1 then 1 else 0):=by
 rw[KL,KL,Jm (aBx a) (List.Perm.swap x y b)];simp only[inv,List.countP_cons];simp only[decide_eq_true_eq];omega
end Rk
