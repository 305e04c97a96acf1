/- Part of the proof of TopSorts. -/
import Derived.Test.YthdiheblgmddhaaGreatDoorQ04
set_option linter.all false
set_option maxHeartbeats 16000000
namespace Rk
open Go Go.RowKit Go.Proofs
variable{E:Env}{w w':World}{t:TypeId}{x y:Operand}{a:Int}{n hp R:Nat}{F F':Nat->Prop}
instance:Inhabited Sf.T:=⟨.nil⟩
def yj:cI 0=.nilIface:=rfl
def yk{e:Nat}(h:e≠0):cI e=.iface 68 (.int .i64 e):=by simp[cI,h]
def yl{v:Value}:aM E (.const v)=some v:=rfl
def aSb{z:Operand}{p q:Option Nat}(hx:aM E x=some (.int .i64 a))(hy:aM E y=some (pV p))(hz:aM E z=some (pV q)):
  aA tz (.build 95 #[(1,x),(2,.const (.int .i64 1)),(4,y),(5,z)]) t E w (.agg #[.int .i64 0,.int .i64 a,.int .i64 1,.slice none 0 0,pV p,pV q]) w:=
 aA.build (parts:=[(1,x),(2,.const (.int .i64 1)),(4,y),(5,z)]) (ps:=[(1,.int .i64 a),(2,.int .i64 1),(4,pV p),(5,pV q)]) (by simp[OA,hx,hy,hz,yl]) BYK
def aSc{A:Option Addr}{c:Nat}(hx:aM E x=some (.int .i64 a))(hy:aM E y=some (.slice A n c)):
  aA tz (.build 95 #[(0,x),(2,.const (.int .i64 1)),(3,y)]) t E w (.agg #[.int .i64 a,.int .i64 0,.int .i64 1,.slice A n c,.pointer none,.pointer none]) w:=
 aA.build (parts:=[(0,x),(2,.const (.int .i64 1)),(3,y)]) (ps:=[(0,.int .i64 a),(2,.int .i64 1),(3,.slice A n c)]) (by simp[OA,hx,hy,yl]) BYK
def aSd(hx:aM E x=some (.int .i64 a)):
  aA tz (.build 71 #[(0,x)]) t E w (.agg #[.int .i64 a,.int .i64 0,.slice none 0 0]) w:=
 aA.build (parts:=[(0,x)]) (ps:=[(0,.int .i64 a)]) (by simp[OA,hx]) BYK
attribute [local irreducible] aA jH OpC WL QL WC WX OL RL TL TM
def Cj(w:World):List Sf.T->List Nat->(Nat->Prop)->Prop
 |[],gs,_=>gs=[]
 |t::ts,gs,F=>∃g dL Ft Fr,gs=g::dL/\qZ w t (some g) Ft/\Cj w ts dL Fr/\(∀x,Ft x->F x)/\(∀x,Fr x->F x)/\∀x,Ft x->¬Fr x
section
def Cj.len:∀{ts:List Sf.T} {gs:List Nat} {F:Nat->Prop},Cj w ts gs F->gs.length=ts.length:=by
 intro ts;induction ts with
 |nil=>intro gs F h;obtain rfl:gs=[]:=h;rfl
 |cons t ts ih=>intro gs F h;obtain⟨g,dL,Ft,Fr,rfl,_,h2,_⟩:=h;simp[ih h2]
def Cj.other:∀{ts:List Sf.T} {gs:List Nat} {F:Nat->Prop},Cj w ts gs F->w.heap.size<=w'.heap.size->(∀x,F x->w'.heap[x]?=w.heap[x]?)->Cj w' ts gs F:=by
 intro ts;induction ts with
 |nil=>intro gs F h _ _;exact h
 |cons t ts ih=>
  intro gs F h hs hb;obtain⟨g,dL,Ft,Fr,rfl,h1,h2,h3,h4,h5⟩:=h;exact⟨g,dL,Ft,Fr,rfl,h1.other hs λx hx=>hb x (h3 x hx),ih h2 hs λx hx=>hb x (h4 x hx),h3,h4,h5⟩
def Cj.mono{ts:List Sf.T}{gs:List Nat}(h:Cj w ts gs F)(hf:∀x,F x->F' x):Cj w ts gs F':=by
 cases ts with
 |nil=>exact h
 |cons t ts=>
  obtain⟨g,dL,Ft,Fr,rfl,h1,h2,h3,h4,h5⟩:=h;exact⟨g,dL,Ft,Fr,rfl,h1,h2,λx hx=>hf x (h3 x hx),λx hx=>hf x (h4 x hx),h5⟩
def Cj.at_:∀{ts:List Sf.T} {gs:List Nat} {F:Nat->Prop} (p:Nat),Cj w ts gs F->p<ts.length->∃Ft,qZ w (lf ts p) (some (lf gs p)) Ft/\(∀x,Ft x->F x)/\
  ((∀x,F x->x<w.heap.size)->∀w' t' wE,bF w w' Ft wE->qZ w' t' (some (lf gs p)) wE->Cj w' (ts.set p t') gs (λx=>F x\/wE x))/\Cj w (ts.eraseIdx p) (gs.eraseIdx p) F:=by
 intro ts;induction ts with
 |nil=>intro gs F p _ hp;simp at hp
 |cons t ts ih=>
  intro gs F p h hp;obtain⟨g,dL,Ft,Fr,rfl,h1,h2,h3,h4,h5⟩:=h;cases p with
  |zero=>
   refine⟨Ft,h1,h3,λdD w' t' wE hC ht=>?_,h2.mono h4⟩;refine⟨g,dL,wE,Fr,rfl,ht,h2.other hC.size λx hx=>hC.block x (dD x (h4 x hx)) λe=>h5 x e hx,λx hx=>.inr hx,λx hx=>.inl (h4 x hx),λx h6 h7=>?_⟩;rcases(hC.next x h6).1 with h8|h8
   .exact h5 x h8 h7
   .have:=dD x (h4 x h7);omega
  |succ p=>
   obtain⟨Gt,k1,k2,k3,k4⟩:=ih p h2 (by simpa using hp);refine⟨Gt,k1,λx hx=>h4 x (k2 x hx),λdD w' t' wE hC ht=>?_,?_⟩
   .have hlr:∀x,Fr x->x<w.heap.size:=λx hx=>dD x (h4 x hx);refine⟨g,dL,Ft,λx=>Fr x\/wE x,rfl,h1.other hC.size λx hx=>hC.block x (dD x (h3 x hx)) λe=>h5 x hx (k2 x e),k3 hlr w' t' wE hC ht,λx hx=>.inl (h3 x hx),λx hx=>?_,λx h6 h7=>?_⟩
    .rcases hx with hx|hx
     .exact .inl (h4 x hx)
     .exact .inr hx
    .rcases h7 with h7|h7
     .exact h5 x h6 h7
     .rcases(hC.next x h7).1 with h8|h8
      .exact h5 x h6 (k2 x h8)
      .have:=dD x (h3 x h6);omega
   .exact⟨g,dL.eraseIdx p,Ft,Fr,rfl,h1,k4,h3,h4,h5⟩
def qZ.bk{t:Sf.T}{g:Nat}(h:qZ w t (some g) F):∃v pl pr Fl Fr,SN w g t.key t.bV t.want t.items v pl pr Fl Fr F/\qZ w t.left pl Fl/\qZ w t.right pr Fr/\t≠.nil:=by
 cases t with
 |nil=>exact absurd (show some g=none from h) BYS
 |node k rk wt its l r=>
  obtain⟨g',v,pl,pr,Fl,Fr,e,h1,h2,h3⟩:=h;obtain rfl:g=g':=by injection e
  exact⟨v,pl,pr,Fl,Fr,h1,h2,h3,BYS⟩
end
def Lc(w:World)(hp R n0:Nat)(tv:Value)(hb:Bk w hp Xh (RO R n0 tv))(t cur n':Sf.T)(ga gb:Nat)(Fa Fb:Nat->Prop)(hA:qZ w t (some ga) Fa)(hB:qZ w cur (some gb) Fb)(hla:∀x,Fa x->x<w.heap.size)(Wu:∀x,Fb x->x<w.heap.size)
  (hd:∀x,Fa x->¬Fb x)(m:Nat)(hf:Sf.nN m (Sf.pair R t cur) n')(Ww:t.bV<=1000)(hwt:t.want<=1000000):
  Calls tz 37 #[rB hp,rB ga,rB gb] w (eT λv w'=>∃g F',v=rB g/\qZ w' n' (some g) F'/\bF w w' (λx=>Fa x\/Fb x) F'):=by
 refine aI xb rfl Tryz.ntmps37 rfl ?_;obtain⟨va,pla,pra,Fla,Fra,hNa,hLa,hRa,hta⟩:=hA.bk;have hba:=hNa.blk;refine aTf λK hK=>?_;refine WL.step (aSb (p:=some ga) (q:=some gb) rfl rfl rfl) rfl ?_;refine aM3 rfl rfl λw1 fQ dM mP=>?_;have cA:Below w.heap.size w w1:=aC fQ;replace dM:Bk w1 w.heap.size TS (nC 0 (t.bV+1) 1 (.slice none 0 0) (some ga) (some gb)):=by
  unfold nC;rw[show((t.bV+1:Nat):Int)=(t.bV:Int)+1 from by omega];exact dM
 have PC:=hA.below hla cA;have aH9:=hB.below Wu cA;have aHJ:=hba.below cA;have aND:=hb.below cA;obtain⟨F1,Z9⟩:∃F1:Nat->Prop,F1=λx=>x=w.heap.size\/(Fa x\/Fb x):=⟨_,rfl⟩;have uM:SN w1 w.heap.size 0 (t.bV+1) 1 [] (.slice none 0 0) (some ga) (some gb) Fa Fb F1:=by
  refine⟨dM,iM.nil _ _ _ _ _ _,λx hx=>?_,?_,λx hx=>(by simp[Value.ownBlock]at hx),λx hx=>?_,λx hx=>?_,(by simp[Value.ownBlock]),λhx=>?_,λhx=>?_,λx hx=>(by simp[Value.ownBlock]at hx),λx hx=>(by simp[Value.ownBlock]at hx),hd⟩
  .rw[Z9]at hx;rcases hx with rfl|hx|hx
   .omega
   .have:=hla x hx;omega
   .have:=Wu x hx;omega
  .rw[Z9];exact .inl rfl
  .rw[Z9];exact .inr (.inl hx)
  .rw[Z9];exact .inr (.inr hx)
  .have:=hla _ hx;omega
  .have:=Wu _ hx;omega
 have FY:bF w w1 (λx=>Fa x\/Fb x) F1:=⟨cA.os,cA.tape,cA.output,cA.size,λk hk _=>cA.block k hk,λx hx=>by
  refine⟨?_,uM.lt x hx⟩;rw[Z9]at hx;rcases hx with rfl|hx
  .exact .inr (aAB _)
  .exact .inl hx⟩
 refine CO ?_;refine aOm [(7,rB w.heap.size)] (λw'=>SN w' w.heap.size 0 (t.bV+1) (Sf.qY R t) [] (.slice none 0 0) (some ga) (some gb) Fa Fb F1/\qZ w' t (some ga) Fa/\qZ w' cur (some gb) Fb/\bF w1 w' F1 F1) ?_ ?_
 .refine aB ?_;refine aLh mixed BYK ?_;refine Yh ?_;refine QL.done λw2 bM=>?_;have XC:=uM.below bM;have WK:=PC.below uM.vR bM;have aGZ:=aH9.below uM.pM bM;have aR6:=aHJ.below bM;have uN:=aLX bM uM.lt;have aLB:=XC.blk;refine aB ?_;refine aJ6 rfl (λh=>?_) (λh=>?_)
  .refine aTf λK hK=>?_;refine aPA rfl rfl aLB (by simp[nC]) λw3 iE mM EL=>?_;have hw:Sf.qY R t=(3*t.want+1)/2:=by unfold Sf.qY;rw[if_pos BYO]
   replace mM:Bk w3 w.heap.size TS (nC 0 (t.bV+1) (Sf.qY R t) (.slice none 0 0) (some ga) (some gb)):=by
    unfold nC;rw[hw,show(((3*t.want+1)/2:Nat):Int)=(3*(t.want:Int)+1)/2 from by omega];exact mM
   have EO:=XC.re iE mM;have ur:=WK.grown XC.vR iE (λx e hx=>XC.gl (by injection e with e;subst e;exact hx));have aLg:=aGZ.grown XC.pM iE (λx e hx=>XC.gr (by injection e with e;subst e;exact hx));refine aB ?_;exact aNf ⟨EO,ur,aLg,uN.trans (XC.Vj iE)⟩ aJA
  .have hw:Sf.qY R t=1:=by unfold Sf.qY;rw[if_neg BYO]
   refine aB ?_;exact aNf ⟨by rw[hw];exact XC,WK,aGZ,uN⟩ aJA
 clear uM PC aH9 aHJ aND;rintro w2 ⟨XC,WK,bM,uN⟩;refine aTf λK hK=>?_;refine aKQ Og (Ci m _ _ w.heap.size F1 w2 hf ⟨w.heap.size,_,some ga,some gb,Fa,Fb,rfl,XC,WK,bM⟩ XC.lt) ?_;rintro _ w3 ⟨F',GC,EM⟩;refine aB ?_;exact aLV rfl rfl ⟨w.heap.size,F',rfl,GC,(FY.trans uN).trans EM⟩
structure LL(w:World)(hp R n:Nat)(ts:List Sf.T)(F:Nat->Prop):Prop where
 is:∃tv gs Ff,Bk w hp Xh (RO R n tv)/\iM oz 1 93 w 0 tv gs/\Cj w ts gs Ff/\(∀x,tv.ownBlock=some x->F x)/\(∀x,Ff x->F x)/\tv.ownBlock≠some hp/\¬Ff hp/\∀x,tv.ownBlock=some x->¬Ff x
 own:F hp
 lt:∀x,F x->x<w.heap.size
def LL.other{ts:List Sf.T}(h:LL w hp R n ts F)(hs:w.heap.size<=w'.heap.size)(hb:∀x,F x->w'.heap[x]?=w.heap[x]?):LL w' hp R n ts F:=by
 obtain⟨tv,gs,Ff,h1,h2,h3,h4,h5,h6,h7,h8⟩:=h.is;exact⟨⟨tv,gs,Ff,(hb hp h.own).trans h1,h2.other λx hx=>hb x (h4 x hx),h3.other hs λx hx=>hb x (h5 x hx),h4,h5,h6,h7,h8⟩,h.own,λx hx=>aAx (h.lt x hx) hs⟩
def LL.below{ts:List Sf.T}(h:LL w hp R n ts F)(hb:Below w.heap.size w w'):LL w' hp R n ts F:=h.other hb.size λx hx=>hb.block x (h.lt x hx)
def aDM(bV:Int)(w:World):Calls tz 7 #[.int .i64 bV] w (eT λv w'=>Below w.heap.size w w'/\((bV<0\/8<bV)->v=.tuple #[.pointer none,cI 1])/\
  (¬(bV<0\/8<bV)->v=.tuple #[rB w.heap.size,.nilIface]/\LL w' w.heap.size bV.toNat 0 [] (λx=>x=w.heap.size))):=by
 refine aI aEt rfl Tryz.ntmps7 rfl ?_;refine aZ λK hK=>?_;by_cases h0:bV<0
 .rw[decide_eq_true h0];refine aB ?_;refine aLO rfl ?_;refine aB ?_;exact aLe rfl rfl rfl ⟨Below.refl _ _,λ_=>rfl,λh=>absurd (.inl h0) h⟩
 .rw[decide_eq_false h0];refine aB ?_;refine aJ6 rfl (λh1=>?_) (λh1=>?_)
  .refine aB ?_;exact aLe rfl rfl rfl ⟨Below.refl _ _,λ_=>rfl,λh=>absurd (.inr h1) h⟩
  .refine aZ λK hK=>?_;refine WL.step (aSd rfl) rfl ?_;refine aM3 rfl rfl λw1 fQ dM mP=>?_;have cA:Below w.heap.size w w1:=aC fQ;replace dM:Bk w1 w.heap.size Xh (RO bV.toNat 0 (.slice none 0 0)):=by
    unfold RO;rw[show((bV.toNat:Nat):Int)=bV from by omega];exact dM
   refine aB ?_;refine aLe rfl rfl rfl ⟨cA,λh=>absurd h BYO,λ_=>⟨rfl,⟨_,[],λ_=>False,dM,iM.nil _ _ _ _ _ _,rfl,λx hx=>(by simp[Value.ownBlock]at hx),λx hx=>hx.elim,(by simp[Value.ownBlock]),λh=>h,λx hx=>(by simp[Value.ownBlock]at hx)⟩,rfl,λx hx=>BYO⟩⟩
def bF.aFs{S S':Nat->Prop}(hc:bF w w' F F')(h1:∀g,F g->S g)(h2:∀g,S' g->F' g\/S g)(hl:∀g,S g->g<w.heap.size):bF w w' S S':=
 ⟨hc.os,hc.tape,hc.output,hc.size,λk hk hn=>hc.block k hk (λhf=>hn (h1 k hf)),λg hg=>by
  rcases h2 g hg with h|h
  .exact⟨(hc.next g h).1.imp (h1 g) id,(hc.next g h).2⟩
  .exact⟨.inl h,aAx (hl g h) hc.size⟩⟩
def S5{ts:List Sf.T}(dI:Sf.St R n ts):ts.length<=n:=by
 have:∀us:List Sf.T,(∀t∈us,Sf.Good R t)->us.length<=(Sf.iS us).length:=by
  intro us;induction us with
  |nil=>intro _;exact aAB _
  |cons u us ih=>
   intro h;have h1:=ih λv hv=>h v (by simp[hv]);have h2:=(h u BYS).1.lH (h u BYS).2.1;have h3:=Sf.oL u (h u BYS).2.1;have h4:=aC8.2 h2;have e:Sf.iS (u::us)=u.all++Sf.iS us:=rfl;rw[e,h3];simp only[aBh,aBJ];omega
 have:=this ts dI.lR;have:=dI.many;omega
def aFt(R:Nat):∀k,Sf.sF R k<=2 ^ k:=by
 intro k;induction k with
 |zero=>simp[Sf.sF]
 |succ k ih=>
  have h0:=Nat.one_le_two_pow (n:=k);rw[aDW];simp only[Sf.sF];split<;>omega
def LM{n:Sf.T}{ts out:List Sf.T}(h:Sf.Carry R n ts out)(hs:∀t r,ts=t::r->t.bV≠n.bV):out=n::ts:=by
 cases h with
 |stop=>rfl
 |join h _ _=>exact absurd h (hs _ _ rfl)
def Ld{n t:Sf.T}{r out:List Sf.T}(h:Sf.Carry R n (t::r) out)(he:t.bV=n.bV):∃n',Sf.xI (Sf.pair R t n) n'/\Sf.Carry R n' r out:=by
 cases h with
 |stop h=>exact absurd he (h _ _ rfl)
 |join _ hf hc=>exact⟨_,hf,hc⟩
structure PJ(w wr:World)(hp R n:Nat)(tv:Value)(gs:List Nat)(ts out:List Sf.T)(F:Nat->Prop)(j:Nat)(cu:Sf.T)(g:Nat)(Fc Fr:Nat->Prop):Prop where
 blk:Bk wr hp Xh (RO R n tv)
 own:iM oz 1 93 wr 0 tv gs
 cur:qZ wr cu (some g) Fc
 rest:Cj wr (ts.drop j) (gs.drop j) Fr
 ltc:∀x,Fc x->x<wr.heap.size
 ym:∀x,Fr x->x<wr.heap.size
 apart:∀x,Fc x->¬Fr x
 hc:¬Fc hp
 hr:¬Fr hp
 vc:∀x,tv.ownBlock=some x->¬Fc x
 vr:∀x,tv.ownBlock=some x->¬Fr x
 sub:∀x,Fr x->F x
 dG:bF w wr F (λx=>F x\/Fc x)
 car:Sf.Carry R cu (ts.drop j) out
 le:j<=ts.length
 lR:Sf.Good R cu
 many:cu.all.length+(Sf.iS (ts.drop j)).length<=401
def Le(w:World)(hp R n:Nat)(ts out:List Sf.T)(F:Nat->Prop)(x:It)(hS:LL w hp R n ts F)(dI:Sf.St R n ts)(hR:R<=8)(hn:n<=400)(WZ:Sf.Carry R (Sf.one x) ts out):
  Calls tz 12 #[rB hp,mV x] w (eT λv w'=>
   (aH 1 (lf [x])≠0->v=cI (aH 1 (lf [x]))/\LL w' hp R n ts F/\bF w w' F F)/\
   (aH 1 (lf [x])=0->n=400->v=cI 4/\LL w' hp R n ts F/\bF w w' F F)/\
   (aH 1 (lf [x])=0->n≠400->v=.nilIface/\∃F',LL w' hp R (n+1) out F'/\bF w w' F F')):=by
 have hlen:ts.length<=400:=aBS (S5 dI) hn;refine aI wb rfl Tryz.ntmps12 rfl ?_;refine aZ λK hK=>?_;refine aM3 rfl rfl λw1 fQ dM mP=>?_;have cA:Below w.heap.size w w1:=aC fQ;replace dM:Bk w1 w.heap.size 38 (cB x):=dM;refine aZ λK hK=>?_;refine WL.step (aL5 (cs:=cB x) aL rfl (bN _) (λj u hu=>by rw[aAn];exact dM.cell hu)) rfl ?_;refine WL.lit (xs:=[.tmp 8]) (vs:=[mV x]) aY aL rfl rfl (by simp[cB,Value.cells]) rfl rfl BYO λw2 eB iW qO=>?_;have bM:=aC eB;have pT:aE cB 2 w2 (some ⟨w1.heap.size,0,none⟩) 1 (lf [x]):=iW.bK (enc:=cB) (k:=2) (f:=lf [x]) 0 λi hi j u hu=>by
  obtain rfl:i=0:=BYO;rw[show lf [x] 0=x from rfl]at hu;simpa[cB,Value.cells] using hu
 refine aB ?_;refine aKQ xT (jJ _ 1 1 _ _ pT) ?_;rintro v w3 ⟨rfl,dZ⟩;have iT:=cA.tr (bM.tr dZ);have GC:=hS.below iT;have EM:=aLX iT hS.lt;have mM:=(dM.below bM).below dZ;by_cases he:aH 1 (lf [x])≠0
 .rw[yk he];refine aB ?_;refine aLO rfl ?_;refine aB ?_;rw[<-yk he];exact aLV rfl rfl ⟨λ_=>⟨rfl,GC,EM⟩,λh=>absurd h he,λh=>absurd h he⟩
 replace he:aH 1 (lf [x])=0:=Decidable.of_not_not he;rw[he,yj];clear cA bM dZ pT iW dM;obtain⟨tv,gs,Ff,k1,k2,k3,k4,k5,k6,k7,k8⟩:=GC.is;refine aB ?_;refine aJh rfl ?_;refine yF ?_;refine aJ6 rfl (λh=>?_) (λh=>?_)
 .refine aB ?_;exact aLV rfl rfl ⟨λh=>absurd he h,λ_ _=>⟨rfl,GC,EM⟩,λ_ h4=>absurd BYO h4⟩
 have hn4:n≠400:=BYO;clear h;refine aTf λK hK=>?_;refine aPA rfl rfl k1 (by simp[RO]) λw4 kO rE RY=>?_;replace rE:Bk w4 hp Xh (RO R (n+1) tv):=by
  unfold RO;rw[show((n+1:Nat):Int)=(n:Int)+1 from by omega];exact rE
 have k2':=k2.keep kO (.inr k6);have k3':=k3.other kO.size λy hy=>kO.block y (GC.lt y (k5 y hy)) λe=>k7 (by injection e with e;subst e;exact hy);have tZ:=EM.trans (aLi kO GC.own GC.lt);have Y7:∀y,F y->y<w4.heap.size:=λy hy=>(tZ.next y hy).2;have OJ:=mM.keep kO (λe=>by injection e with e;have:=hS.lt hp hS.own;omega);refine aZ λK hK=>?_;refine aLP (aLN aN (g:=w.heap.size) (j:=0) (u:=.int .i64 x.1)) ?_;refine aB ?_;refine WL.step (aL5 (cs:=cB x) aL rfl (bN _) (λj u hu=>by rw[aAn];exact OJ.cell hu)) rfl ?_;refine WL.lit (xs:=[.tmp 29]) (vs:=[mV x]) aY aL rfl rfl (by simp[cB,Value.cells]) rfl rfl BYO λw5 fU pZ zT=>?_;have gO:=aC fU;refine aB ?_;refine WL.step (aSc rfl rfl) rfl ?_;refine aM3 rfl rfl λw6 gL pU FW=>?_;have gH:=aC gL;have MP:=gO.tr gH;have aHv:=MP.size;replace pU:Bk w6 w5.heap.size TS (nC x.1 0 1 (.slice (some ⟨w4.heap.size,0,none⟩) 1 1) none none):=pU;have RZ:iM cB 2 38 w6 0 (.slice (some ⟨w4.heap.size,0,none⟩) 1 1) [x]:=((bT.lit (l:=[x]) bN pZ (aBt _) (by simp[maxLen]) rfl).toO bN).below gH;have xC:SN w6 w5.heap.size x.1 0 1 [x] (.slice (some ⟨w4.heap.size,0,none⟩) 1 1) none none (λ_=>False) (λ_=>False) (λy=>y=w5.heap.size\/y=w4.heap.size):=by
  refine⟨pU,RZ,λy hy=>BYO,.inl rfl,λy hy=>?_,λy hy=>hy.elim,λy hy=>hy.elim,λe=>?_,λh=>h,λh=>h,λy _ h=>h,λy _ h=>h,λy h=>h.elim⟩
  .simp[Value.ownBlock]at hy;exact .inr hy.symm
  .simp[Value.ownBlock]at e;omega
 have k1':=rE.below MP;have hJ:PJ w w6 hp R (n+1) tv gs ts out F 0 (Sf.one x) w5.heap.size (λy=>y=w5.heap.size\/y=w4.heap.size) Ff:=by
  refine⟨k1',k2'.below MP,⟨_,_,none,none,_,_,rfl,xC,rfl,rfl⟩,(k3'.other MP.size λy hy=>MP.block y (Y7 y (k5 y hy))),xC.lt,λy hy=>aAx (Y7 y (k5 y hy)) aHv,λy hy hf=>?_,λhy=>?_,k7,λy hy hf=>?_,k8,k5,?_,WZ,aBt _,Sf.LH R x,by have:=dI.many;simp[Sf.one,Sf.T.all];omega⟩
  .have:=Y7 y (k5 y hf);omega
  .have:=Y7 hp GC.own;omega
  .have:=Y7 y (k4 y hy);omega
  .refine tZ.trans ⟨MP.os,MP.tape,MP.output,MP.size,λy hy _=>MP.block y hy,λy hy=>?_⟩;rcases hy with hy|hy
   .exact⟨.inl hy,aAx (Y7 y hy) aHv⟩
   .exact⟨.inr BYO,xC.lt y hy⟩
 have WB:=k3.len;obtain⟨A,c,rfl,hc⟩:=k2.form;clear mM OJ rE pZ pU k1 k2 k3 k1' k2' k3' xC RZ gO gH MP tZ Y7 EM GC kO fU gL iT;rw[WB]at k4 k6 k8 hJ hc;refine aB ?_;refine aPU (λ(j:Nat) (g:Nat) (cur:Sf.T) (_:(Nat->Prop)×(Nat->Prop))=>[(0,rB hp),(6,rB g),(7,.int .i64 (j:Nat))]) (λj g cur FF q wr=>q=ts.length-j/\PJ w wr hp R (n+1) (.slice A ts.length c) gs ts out F j cur g FF.1 FF.2) ts.length 0 w5.heap.size (Sf.one x) (_,Ff) ⟨rfl,hJ⟩ aJA ?_;clear hJ;rintro j g cur ⟨Fc,Fr⟩ q wr ⟨rfl,hJ⟩;have eE:=hJ.own.bK;obtain⟨hgn,rz,eE⟩:=eE;have fF:=hJ.blk;have hle:=hJ.le;obtain⟨vc,plc,prc,Flc,Frc,hNc,_,_,hcn⟩:=hJ.cur.bk;have hbc:=hNc.blk;have hlF:∀y,(F y\/Fc y)->y<wr.heap.size:=λy hy=>(hJ.dG.next y hy).2;have eh:∀w2,Below wr.heap.size wr w2->PJ w w2 hp R (n+1) (.slice A ts.length c) gs ts out F j cur g Fc Fr:=λw2 bM=>
  ⟨fF.below bM,hJ.own.below bM,hJ.cur.below hJ.ltc bM,hJ.rest.other bM.size (λy hy=>bM.block y (hJ.ym y hy)),λy hy=>aAx (hJ.ltc y hy) bM.size,λy hy=>aAx (hJ.ym y hy) bM.size,hJ.apart,hJ.hc,hJ.hr,hJ.vc,hJ.vr,hJ.sub,hJ.dG.trans (aLX bM hlF),hJ.car,hJ.le,hJ.lR,hJ.many⟩
 refine CO ?_;refine aTS (λ(b:Bool)=>[(0,rB hp),(6,rB g),(7,.int .i64 (j:Nat)),(56,.bool b)]) (λb w'=>PJ w w' hp R (n+1) (.slice A ts.length c) gs ts out F j cur g Fc Fr/\(b=true->j<ts.length/\(lf ts j).bV=cur.bV)/\(b=false->out=cur::ts.drop j)) ?_ ?_
 .by_cases hj:j<ts.length
  .have hd:ts.drop j=lf ts j::ts.drop (j+1):=by rw[aDf hj,bU hj]
   have hdg:gs.drop j=lf gs j::gs.drop (j+1):=by rw[aDf BYO,bU BYO]
   have sC:=hJ.rest;rw[hd,hdg]at sC;obtain⟨g',dL,Ft,Fr',e,hT,_,_,_,_⟩:=sC;injection e with e _;rw[<-e]at hT;obtain⟨vt,plt,prt,Flt,Frt,hNt,_,_,_⟩:=hT.bk;have XG:=hNt.blk;obtain⟨b0,o0,rfl,_⟩:=eE.ne BYO;refine aLh mixed BYK ?_;refine Yh ?_;rw[show decide ((j:Int)<(ts.length:Int))=true from decide_eq_true BYO];refine fH ?_;refine QL.done λw2 bM=>?_;refine aMV (decide ((lf ts j).bV=cur.bV)) ⟨eh w2 bM,λh=>⟨hj,of_decide_eq_true h⟩,λh=>LM hJ.car λt r e=>?_⟩ (by rw[show decide ((lf ts j).bV=cur.bV)=decide (((lf ts j).bV:Int)=(cur.bV:Int)) from by rw[decide_eq_decide];omega];exact aJA);rw[hd]at e;injection e with e _;subst e;exact of_decide_eq_false h
  .refine aLh mixed BYK ?_;refine Yh ?_;rw[show decide ((j:Int)<(ts.length:Int))=false from decide_eq_false BYO];refine Yh ?_;refine QL.done λw2 bM=>?_;refine aMV false ⟨eh w2 bM,λh=>(by cases h),λ_=>LM hJ.car λt r e=>?_⟩ aJA;rw[aIQ BYO]at e;cases e
 clear eh hlF hbc hNc eE hgn rz fF hJ hle;rintro b w2 ⟨hJ,Wm,CK⟩;obtain⟨hgn,rz,eE⟩:=hJ.own.bK;have fF:=hJ.blk;have hle:=hJ.le;cases b with
 |true=>
  obtain⟨hj,Ww⟩:=Wm rfl;refine aLO rfl ?_;have hd:ts.drop j=lf ts j::ts.drop (j+1):=by rw[aDf hj,bU hj]
  have hdg:gs.drop j=lf gs j::gs.drop (j+1):=by rw[aDf BYO,bU BYO]
  have sC:=hJ.rest;have Mi:=hJ.car;have aI4:=hJ.many;rw[hd]at Mi aI4;rw[hd,hdg]at sC;obtain⟨g',dL,Ft,Fr',e,hT,gz,f1,f2,f3⟩:=sC;injection e with e e2;rw[<-e]at hT;rw[<-e2]at gz;clear e e2;obtain⟨n',Qn,Qr⟩:=Ld Mi Ww;have hmt:lf ts j∈ts:=by rw[bU hj];exact aCX _
  have MX:=dI.lR _ hmt;have h8:=dI.Ce (m:=8) BYO _ hmt;have aL1:(lf ts j).bV<=8:=by
   revert h8;cases lf ts j with
   |nil=>intro _;exact aBt _
   |node=>intro h;exact h.1
  have hwt:(lf ts j).want<=1000000:=by
   rw[MX.want];have h1:=aFt R (lf ts j).bV;have h2:2 ^ (lf ts j).bV<=2 ^ 8:=aDm BYO aL1;omega
  obtain⟨uA,sD,ND,_⟩:=Sf.DW MX hJ.lR Ww Qn;have fM:Sf.iS (lf ts j::ts.drop (j+1))=(lf ts j).all++Sf.iS (ts.drop (j+1)):=rfl;rw[fM,aBh]at aI4;obtain⟨uH,_⟩:=Sf.VL MX hJ.lR Ww;obtain⟨m,XM⟩:=Sf.Ch Qn rfl uH (by simp[Sf.pair,Sf.T.all];omega);obtain⟨b0,o0,hA0,_⟩:=eE.ne BYO;rw[hA0]at eE;refine aTf λK hK=>?_;rw[hA0];refine aTv ?_;refine aKQ xb (Lc w2 hp R (n+1) _ fF (lf ts j) cur n' (lf gs j) g Ft Fc hT hJ.cur (λy hy=>hJ.ym y (f1 y hy)) hJ.ltc (λy h1 h2=>hJ.apart y h2 (f1 y h1)) m XM BYO hwt) ?_;rintro _ w3 ⟨g2,F2,rfl,GC,EM⟩;have pX:∀y,F2 y->y<w2.heap.size->Ft y\/Fc y:=λy hy hl=>by
   rcases(EM.next y hy).1 with h1|h1
   .exact h1
   .omega
  have Qu:∀y,Value.ownBlock (.slice A ts.length c)=some y->y<w2.heap.size:=λy hy=>by
   refine(hJ.own.blk (λe=>?_) y hy).2;have:gs.length=0:=by rw[e];rfl
   omega
  refine aB ?_;refine aMz (j+1) g2 n' (F2,Fr') (ts.length-(j+1)) BYO ⟨rfl,?_⟩ aJA;refine⟨fF.dG EM (λh=>?_),hJ.own.other λy hy=>EM.block y (Qu y hy) (λh=>?_),GC,gz.other EM.size λy hy=>EM.block y (hJ.ym y (f2 y hy)) (λh=>?_),λy hy=>(EM.next y hy).2,λy hy=>aAx (hJ.ym y (f2 y hy)) EM.size,λy h1 h2=>?_,λh=>?_,λh=>hJ.hr (f2 _ h),λy hy h=>?_,λy hy h=>hJ.vr y hy (f2 y h),λy hy=>hJ.sub y (f2 y hy),?_,Qr,BYO,uA,?_⟩
  .rcases h with h|h
   .exact hJ.hr (f1 _ h)
   .exact hJ.hc h
  .rcases h with h|h
   .exact hJ.vr y hy (f1 _ h)
   .exact hJ.vc y hy h
  .rcases h with h|h
   .exact f3 y h hy
   .exact hJ.apart y h (f2 y hy)
  .rcases pX y h1 (hJ.ym y (f2 y h2)) with h|h
   .exact f3 y h h2
   .exact hJ.apart y h (f2 y h2)
  .rcases pX _ h fF.lt with h|h
   .exact hJ.hr (f1 _ h)
   .exact hJ.hc h
  .rcases pX y h (Qu y hy) with h|h
   .exact hJ.vr y hy (f1 _ h)
   .exact hJ.vc y hy h
  .refine hJ.dG.trans (EM.aFs (λy hy=>?_) (λy hy=>?_) (λy hy=>(hJ.dG.next y hy).2))
   .rcases hy with h|h
    .exact .inl (hJ.sub y (f1 y h))
    .exact .inr h
   .rcases hy with h|h
    .exact .inr (.inl h)
    .exact .inl h
  .have:=ND.length_eq;rw[aBh]at this;show n'.all.length+(Sf.iS (ts.drop (j+1))).length<=401;rw[this];omega
 |false=>
  have aHq:=CK rfl;refine aJh rfl ?_;clear Wm CK;refine aZ λK hK=>?_;refine WL.lit (xs:=[.tmp 70]) (vs:=[rB g]) nM mY rfl rfl (by simp[Value.cells]) rfl rfl BYO λw3 iE mM EL=>?_;have dZ:=aC iE;have dt:=fF.below dZ;refine yF ?_;refine WL.step (aMi nM mY (j:=((j:Nat):Int)) rfl rfl BYO BYO) rfl ?_;rw[aD3];have aII:=hJ.own.below dZ;have Dv:=(aII.from_ (j:=j) hle).bK;have hog:iM oz 1 93 w3 0 (.slice (some ⟨w2.heap.size,0,none⟩) 1 1) [g]:=(bT.lit (l:=[g]) BL mM (aBt _) (by simp[maxLen]) rfl).toO BL;refine aOy BL VM BYO nM mY rfl rfl rfl hog Dv.2.2 BYT (by simp[maxLen];omega) (aBt _) λv' w4 row sB kO CB Mp hv4=>?_;have ax:aG (lf (gs.drop j)) (ts.length-j)=gs.drop j:=by
   rw[show ts.length-j=(gs.drop j).length from by rw[aC6];omega];exact dE _
  rw[ax]at sB;obtain⟨A',c',rfl,Ee⟩:=sB.form;have zS:∀y,row=some y->y=w2.heap.size:=λy hy=>by
   rcases CB with h|h
   .rw[h]at hy;cases hy
   .rw[h]at hy;simp[Value.ownBlock]at hy;exact hy.symm
  have aHT:=fF.lt;have aLU:=dt.keep kO (λe=>by have:=zS _ e;omega);have Qu:∀y,Value.ownBlock (.slice A' ([g]++gs.drop j).length c')=some y->w2.heap.size<=y/\y<w4.heap.size:=λy hy=>by
   refine⟨?_,(sB.blk BYS y hy).2⟩;rcases hv4 with e|⟨z,e,hz⟩
   .rw[e]at hy;simp[Value.ownBlock]at hy;omega
   .rw[e]at hy;injection hy with hy;have:=dZ.size;omega
  have aHY:∀y,y<w2.heap.size->w4.heap[y]?=w2.heap[y]?:=λy hy=>by
   have:=dZ.size;rw[kO.block y BYO (λe=>by have:=zS y e.symm;omega),dZ.block y hy]
  have hs4:w2.heap.size<=w4.heap.size:=aBS dZ.size kO.size;refine yF ?_;refine WL.store FM rfl rfl rfl (by intro u hu;simp[Value.cells]at hu;subst hu;rfl) aLU (by simp[RO]) λw5 fU pZ zT=>?_;refine aB ?_;refine aLV rfl rfl ⟨λh=>absurd he h,λ_ h=>absurd h hn4,λ_ _=>⟨rfl,λy=>(F y\/Fc y)\/Value.ownBlock (.slice A' ([g]++gs.drop j).length c')=some y,⟨⟨_,g::gs.drop j,λy=>Fc y\/Fr y,pZ,sB.keep fU (.inr λe=>?_),?_,λy hy=>.inr hy,λy hy=>?_,λe=>?_,λh=>?_,λy hy h=>?_⟩,.inl (.inl ?_),λy hy=>?_⟩,?_⟩⟩
  .have:=(Qu _ e).1;omega
  .rw[aHq];have aI0:∀y,y<w2.heap.size->y≠hp->w5.heap[y]?=w2.heap[y]?:=λy hy hn=>by
    rw[fU.block y BYO (λe=>hn (by injection e)),aHY y hy]
   have hs5:=fU.size;exact⟨g,_,Fc,Fr,rfl,hJ.cur.other BYO λy hy=>aI0 y (hJ.ltc y hy) (λe=>hJ.hc (e▸hy)),hJ.rest.other BYO λy hy=>aI0 y (hJ.ym y hy) (λe=>hJ.hr (e▸hy)),λy hy=>.inl hy,λy hy=>.inr hy,hJ.apart⟩
  .rcases hy with h|h
   .exact .inl (.inr h)
   .exact .inl (.inl (hJ.sub y h))
  .have:=(Qu _ e).1;omega
  .rcases h with h|h
   .exact hJ.hc h
   .exact hJ.hr h
  .have:=(Qu y hy).1;rcases h with h|h
   .have:=hJ.ltc y h;omega
   .have:=hJ.ym y h;omega
  .exact hS.own
  .rcases hy with hy|hy
   .have:=(hJ.dG.next y hy).2;omega
   .have:=(Qu y hy).2;omega
  .refine hJ.dG.trans ⟨fU.os.trans (kO.os.trans dZ.os),fU.tape.trans (kO.tape.trans dZ.tape),fU.output.trans (kO.output.trans dZ.output),BYO,λy hy hn=>?_,λy hy=>?_⟩
   .rw[fU.block y BYO (λe=>hn (.inl (by injection e with e;rw[e];exact hS.own))),aHY y hy]
   .rcases hy with hy|hy
    .exact⟨.inl hy,by have:=(hJ.dG.next y hy).2;omega⟩
    .exact⟨.inr (Qu y hy).1,by have:=(Qu y hy).2;omega⟩
end Rk
namespace Rk
open Go Go.RowKit Go.Proofs
variable{P:Program}{e t:TypeId}{agg:Bool}{bytes n c j k hp R:Nat}{z:Value}{E:Env}{w w':World}{x:Operand}{A:Option Addr}{F:Nat->Prop}
def aPB{xt:TypeId}{sz:Nat}{hi mx:Operand}{k k2:IntKind}(ht:P.underlying xt=some (.slice e))(ty:Ty P e agg sz bytes z)(hx:aM E x=some (.slice A n c))
  (hh:aM E hi=some (.int k (j:Int)))(hm:aM E mx=some (.int k2 (j:Int)))(hc:j<=c):aA P (.slice xt x none (some hi) (some mx)) t E w (.slice A j j) w:=λρ hρ _ _ _ _=>by
 have hA:A.map (λa:Addr=>a.add 0)=A:=by cases A<;>simp[Addr.add]
 have h1:(j:Int)<=(c:Int):=BYO;simp[execOp,hρ _ _ hx,hρ _ _ hh,hρ _ _ hm,Instr.sliceAt,Instr.slice,Instr.sliceBounds,Instr.sliceBound,asIntOf,run_underlying ht,hc,h1,ty.size,hA]
def iM.cap{α:Type}{enc:α->List Value}{B:Nat}{l:List α}(h:iM enc k e w B (.slice A n c) l)(h1:n<=j)(h2:j<=c):iM enc k e w B (.slice A n j) l:=by
 rcases h with⟨rfl,A',h⟩|⟨g,off,cap,cur,h,g1,g2,g3,g4,g5,g6⟩
 .injection h with e1 e2 e3;subst e1 e2 e3;obtain rfl:j=0:=BYO;exact .inl ⟨rfl,A,rfl⟩
 .injection h with e1 e2 e3;subst e1 e2 e3;exact .inr ⟨g,off,j,cur,rfl,g1,g2,aBS (Nat.add_le_add_left (aC1 _ h2) _) g3,h1,aBS h2 g5,g6⟩
def aQ4{ops:Array Oper}{K:Env->World->Prop}{N d:Nat}{rest:List Oper}{st:TypeId}{pos:String}{after:Array Edge}{s:Operand}{a:Addr}{B:Option Addr}{c2:Nat}
  (ht:P.underlying st=some (.slice e))(ty:Ty P e agg k bytes z)(hd:Nat.blt d N=true)(hs:aM E s=some (.slice (some a) n c))(hx:aM E x=some (.slice B 0 c2))(hn:n<=c)(h:WL P ops K N ((d,.slice (some a) n c)::E) rest w):
  WL P ops K N E (⟨some d,.call {callee:=.builtin .append,args:= #[s,x],argTypes:= #[st,st]},t,pos,after,none⟩::rest) w:=by
 have r1:(Builtin.append_ #[st,st] t #[.slice (some a) n c,.slice B 0 c2]).run P w=.ok (.slice (some a) n c) w:=by
  obtain⟨i,hi,hz,oC,hb⟩:=ty.info;cases B<;>simp[Builtin.append_,run_underlying ht,Go.sizeOf,typeInfo,hi,Builtin.lenOf,Builtin.firstCells,loadCells,loadCellsFrom,storeCells,hn]
 exact WL.step (λρ hρ _ _ _ _=>by simp[execOp,resolve,hρ _ _ hs,hρ _ _ hx,invoke,builtin,r1]) hd h
attribute [local irreducible] aA jH OpC WL QL WC WX OL RL TL TM
def LL.fin{w9 AA:World}{tv Ef:Value}{dL:List Nat}{Rb:List Sf.T}{Ff:Nat->Prop}{row:Option Nat}(hb:Bk w hp Xh (RO R n tv))(hF:Cj w Rb dL Ff)(hl:∀x,F x->x<w.heap.size)(h1:∀x,tv.ownBlock=some x->F x)(h2:∀x,Ff x->F x)
  (h3:tv.ownBlock≠some hp)(h4:¬Ff hp)(h5:∀x,tv.ownBlock=some x->¬Ff x)(h6:F hp)(hg:w.grownBy w9 row)(eE:row=none\/row=tv.ownBlock)(ho:iM oz 1 93 w9 0 Ef dL)
  (hv:∀x,Ef.ownBlock=some x->(tv.ownBlock=some x\/w.heap.size<=x)/\x<w9.heap.size)(eB:w9.grownBy AA (some hp))(iW:Bk AA hp Xh (RO R n Ef)):
  LL AA hp R n Rb (λx=>F x\/Ef.ownBlock=some x)/\bF w AA F (λx=>F x\/Ef.ownBlock=some x):=by
 have OU:∀x,row=some x->tv.ownBlock=some x:=λx hx=>by
  rcases eE with e|e
  .rw[e]at hx;cases hx
  .rw[<-e];exact hx
 have uP:=hg.size;have GN:=eB.size;have hlh:=hl hp h6;have dI:∀x,x<w.heap.size->x≠hp->tv.ownBlock≠some x->AA.heap[x]?=w.heap[x]?:=λx hx hn ho=>by
  rw[eB.block x BYO (λe=>hn (by injection e)),hg.block x hx (λe=>ho (OU x e.symm))]
 have hnh:Ef.ownBlock≠some hp:=λe=>by
  rcases(hv hp e).1 with h|h
  .exact h3 h
  .omega
 refine⟨⟨⟨Ef,dL,Ff,iW,ho.keep eB (.inr hnh),hF.other BYO λx hx=>dI x (hl x (h2 x hx)) (λe=>h4 (e▸hx)) (λe=>h5 x e hx),λx hx=>.inr hx,λx hx=>.inl (h2 x hx),hnh,h4,λx hx hf=>?_⟩,.inl h6,λx hx=>?_⟩,eB.os.trans hg.os,eB.tape.trans hg.tape,eB.output.trans hg.output,BYO,λx hx hn=>dI x hx (λe=>hn (e▸h6)) (λe=>hn (h1 x e)),λx hx=>?_⟩
 .rcases(hv x hx).1 with h|h
  .exact h5 x h hf
  .have:=hl x (h2 x hf);omega
 .rcases hx with hx|hx
  .have:=hl x hx;omega
  .have:=(hv x hx).2;omega
 .rcases hx with hx|hx
  .exact⟨.inl hx,by have:=hl x hx;omega⟩
  .refine⟨?_,by have:=(hv x hx).2;omega⟩;rcases(hv x hx).1 with h|h
   .exact .inl (h1 x h)
   .exact .inr h
def SN.items{g:Nat}{k:Int}{rk wt:Nat}{its My:List It}{v v':Value}{pl pr:Option Nat}{Fl Fr:Nat->Prop}(h:SN w g k rk wt its v pl pr Fl Fr F)(ho:iM cB 2 38 w 0 v' My)(hv:v'.ownBlock=v.ownBlock)(hg:w.grownBy w' (some g))(hb:Bk w' g TS (nC k rk wt v' pl pr)):
  SN w' g k rk wt My v' pl pr Fl Fr F:=
 ⟨hb,ho.keep hg (.inr (by rw[hv];exact h.gv)),λx hx=>aAx (h.lt x hx) hg.size,h.fg,λx hx=>h.fv x (hv▸hx),h.fl,h.fr,by rw[hv];exact h.gv,h.gl,h.gr,λx hx=>h.vl x (hv▸hx),λx hx=>h.vr x (hv▸hx),h.lr⟩
def RP(w:World)(hp R n:Nat)(ts:List Sf.T)(F:Nat->Prop)(t':Sf.T)(hS:LL w hp R n ts F)(dI:Sf.St R n ts)(hn:n<=400)(ht:ts≠[]->Sf.Kx (lf ts (Sf.iP (lf ts) ts.length)) t'):
  Calls tz 17 #[rB hp] w (eT λv w'=>
   (ts=[]->v=.tuple #[mV (0,0),.int .i64 0,cI 5]/\LL w' hp R n ts F/\bF w w' F F)/\
   (ts≠[]->v=.tuple #[mV (lf (lf ts (Sf.iP (lf ts) ts.length)).items 0),.int .i64 (lf ts (Sf.iP (lf ts) ts.length)).key,.nilIface]/\∃F',LL w' hp R n (Sf.tW ts (Sf.iP (lf ts) ts.length) t') F'/\bF w w' F F')):=by
 have hlen:ts.length<=400:=aBS (S5 dI) hn;refine aI wm rfl Tryz.ntmps17 rfl ?_;refine aZ λK hK=>?_;refine WL.alloc aL rfl λw1 fQ dM mP=>?_;have cA:Below w.heap.size w w1:=aC fQ;replace dM:Bk w1 w.heap.size 38 (cB (0,0)):=dM;have Fp:=hS.below cA;have FY:=aLX cA hS.lt;obtain⟨tv,gs,Ff,k1,k2,k3,k4,k5,k6,k7,k8⟩:=Fp.is;have WB:=k3.len;obtain⟨A,c,rfl,hc⟩:=k2.form;rw[WB]at k1 k2 k4 k6 k8 hc;have yB:¬F w.heap.size:=λh=>by have:=hS.lt _ h;omega
 refine aTh ?_;refine aJ6 rfl (λh=>?_) (λh=>?_)
 .have h0:ts=[]:=aCQ BYO;refine aZ λK hK=>?_;refine WL.store (v:=mV (0,0)) aL rfl rfl rfl (cJ _) dM (aAB 2) λw2 eB iW qO=>?_;have ff:=Fp.other eB.size λy hy=>eB.block y (Fp.lt y hy) λe=>yB (by injection e with e;rw[<-e];exact hy);refine aB ?_;exact aNa aL rfl rfl rfl rfl iW rfl ⟨λ_=>⟨rfl,ff,FY.fresh eB (aAB _)⟩,λh=>absurd h0 h⟩
 have cQ:ts≠[]:=λe=>h (by rw[e];rfl);have nA:0<ts.length:=aC8.2 cQ;clear h;have CC:=ht cQ;clear ht;obtain⟨hgn,rz,eE⟩:=k2.bK;obtain⟨b0,o0,rfl,_⟩:=eE.ne nA;refine aTh ?_;refine aMP (λ(i:Nat)=>[(0,rB hp),(2,rB w.heap.size),(5,.int .i64 (Sf.iP (lf ts) i:Nat)),(22,.slice (some ⟨b0,o0,none⟩) ts.length c),(23,.int .i64 (ts.length:Nat)),(24,.int .i64 (i:Nat))]) (λi q wr=>i<=ts.length/\q=ts.length-i/\Below w1.heap.size w1 wr) ts.length 0 ⟨BYO,rfl,Below.refl _ _⟩ aJA ?_;rintro i q wr ⟨hi,rfl,hB⟩;have fF:=k1.below hB;have aHP:=eE.below hB;have yx:=k3.other hB.size λy hy=>hB.block y (Fp.lt y (k5 y hy));refine aTh ?_;refine aJ6 rfl (λh=>?_) (λh=>?_)
 .have hil:i<ts.length:=BYO;have Mo:=Sf.DX (lf ts) ts.length i hi nA;have eH:Sf.iP (lf ts) (i+1)=if(lf ts i).key<(lf ts (Sf.iP (lf ts) i)).key then i else Sf.iP (lf ts) i:=rfl;generalize Sf.iP (lf ts) i=at' at Mo eH⊢;obtain⟨_,hT1,_⟩:=yx.at_ i hil;obtain⟨_,hT2,_⟩:=yx.at_ at' Mo;obtain⟨_,_,_,_,_,uM,_,_,_⟩:=hT1.bk;obtain⟨_,_,_,_,_,XC,_,_,_⟩:=hT2.bk;have hbi:=uM.blk;have hba:=XC.blk;refine Yk ?_;refine aLh mixed BYK ?_;refine aTw ?_;refine QL.done λw2 bM=>?_;refine aB ?_;refine aJ6 rfl (λh1=>?_) (λh1=>?_)
  .refine aB ?_;exact aMF (i+1) (ts.length-(i+1)) BYO ⟨BYO,rfl,hB.tr bM⟩ (by rw[eH,if_pos h1];exact aJA)
  .refine aB ?_;exact aMF (i+1) (ts.length-(i+1)) BYO ⟨BYO,rfl,hB.tr bM⟩ (by rw[eH,if_neg h1];exact aJA)
 obtain rfl:i=ts.length:=BYO;clear h hi;have Z6:=Sf.DX (lf ts) ts.length ts.length (aAB _) nA;generalize Sf.iP (lf ts) ts.length=p at CC Z6⊢;have Z1:=dM.below hB;have hCr:=FY.trans (aLX hB Fp.lt);have hSr:=Fp.below hB;have bn:=k2.below hB;obtain⟨Ft,hT,uG,tw,aH4⟩:=yx.at_ p Z6;have tw:=tw (λy hy=>hSr.lt y (k5 y hy));have hmt:lf ts p∈ts:=by rw[bU Z6];exact aCX _
 have MX:=dI.lR _ hmt;have aNu:=MX.1.lH MX.2.1;have aBj:(lf ts p).all.length<=400:=by
  have h1:∀us:List Sf.T,lf ts p∈us->(lf ts p).all.length<=(Sf.iS us).length:=by
   intro us;induction us with
   |nil=>intro h;cases h
   |cons u us ih=>
    intro h;have e:Sf.iS (u::us)=u.all++Sf.iS us:=rfl;rw[e,aBh];rcases aBI.1 h with h|h
    .rw[h];omega
    .have:=ih h;omega
  have:=h1 ts hmt;have:=dI.many;omega
 have aQx:(lf ts p).items.length<=400:=by rw[Sf.oL _ MX.2.1,aBh]at aBj;omega
 obtain⟨v,pl,pr,Fl,Fr,hN,hL,hR,htn⟩:=hT.bk;obtain⟨At,ct,rfl,hct⟩:=hN.own.form;have aIX:0<(lf ts p).items.length:=aC8.2 aNu;have hir:=hN.own.bK.2.2;obtain⟨bt,ot,rfl,_⟩:=hir.ne aIX;have hbn:=hN.blk;clear dM cA fQ mP k1 k2 k3 eE hB Fp FY;refine Yk ?_;refine WC.tm (λw'=>Below wr.heap.size wr w') [] (.pure 0 (.pure 1 (.pure 2 (.pure 6 (.pure 7 (.pure 8 (.read 3 (.pure 4 (.read 5 (.read 9 (.act 10 (.act 11 (.pure 12 .fin))))))))))))) mixed BYK rfl BYK (λw' rD _=>rD) λK hK w2 bM hh2=>?_;refine Ym ?_;refine TM.act rfl (WL.alloc aL rfl λw3 iE mM EL=>WL.nil ⟨bM.tr (aC iE),?_⟩);have dZ:=bM.tr (aC iE);refine TM.act rfl (WL.store (v:=mV (lf (lf ts p).items 0)) aL rfl rfl rfl (cJ _) mM (aAB 2) λw4 kO rE RY=>WL.nil ⟨dZ.rM kO (λk hk=>by cases hk;exact bM.size),?_⟩);have jR:Below wr.heap.size wr w4:=dZ.rM kO (λk hk=>by cases hk;exact bM.size);refine uU ?_;refine TM.fin (hK _ _ ?_);clear hK K;replace rE:Bk w4 w2.heap.size 38 (cB (lf (lf ts p).items 0)):=rE;have hxn:wr.heap.size<=w2.heap.size:=bM.size;have aMj:=hN.lt;have ug:=hN.below jR;have hL4:=hL.below hN.vR jR;have hR4:=hR.below hN.pM jR;have aHj:=ug.blk;have aHW:=aLX jR hN.lt;refine o8 λK hK=>?_;rw[show(1:Int).toNat=1 from rfl];have Ej:=ug.own.from_ (j:=1) aIX;obtain⟨A5,hA5,aNC⟩:∃A5:Option Addr,A5=(if ct=1 then some ⟨bt,ot,none⟩ else(some ⟨bt,ot,none⟩:Option Addr).map (·.add (1*2)))/\∀m d,Value.ownBlock (.slice A5 m d)=some bt:=⟨_,rfl,λm d=>by
  split
  .rfl
  .simp[Value.ownBlock,Addr.add]⟩
 rw[<-hA5]at Ej⊢;refine aP8 rfl rfl aHj (by simp[nC]) λw5 fU pZ zT=>?_;have pY:=ug.items Ej (by rw[aNC];rfl) fU pZ;have sr:=hL4.grown ug.vR fU (λx e hx=>ug.gl (by injection e with e;subst e;exact hx));have su:=hR4.grown ug.pM fU (λx e hx=>ug.gr (by injection e with e;subst e;exact hx));have tc:=aHW.trans (ug.Vj fU);have MR:=rE.keep fU (λe=>by injection e with e;have:=hN.lt _ hN.fg;omega);have aGw:=pY.blk;obtain⟨t1,ht1⟩:∃t1,t1=(lf ts p).dO ((lf ts p).items.drop 1):=⟨_,rfl⟩;have aLK:t1≠.nil:=by
  rw[ht1];revert htn;cases lf ts p with
  |nil=>intro h;exact absurd rfl h
  |node=>intro _;simp[Sf.T.dO]
 have FX:qZ w5 t1 (some (lf gs p)) Ft:=by
  rw[ht1];revert pY sr su htn;cases lf ts p with
  |nil=>intro h;exact absurd rfl h
  |node k rk wt its l r=>intro _ pY sr su;exact⟨_,_,pl,pr,Fl,Fr,rfl,pY,sr,su⟩
 have yD:(lf ts p).left.isNil=pl.isNone:=sr.isNil;have Qw:(lf ts p).right.isNil=pr.isNone:=su.isNil;have eg:(lf ts p).leaf=(pl.isNone&&pr.isNone):=by rw[<-yD,<-Qw];rfl
 have Y5:((lf ts p).items.drop 1).length=(lf ts p).items.length-1:=aC6;clear ug hL4 hR4 aHj aHW rE Ej hN hL hR hbn hir;unfold Sf.Kx at CC;rw[Y5,eg,<-ht1]at CC;refine CO ?_;refine aOF (λ(_:Nat->Prop)=>[(0,rB hp),(2,rB w.heap.size),(5,.int .i64 (p:Nat)),(8,rB (lf gs p)),(9,rB w2.heap.size),(10,.int .i64 (lf ts p).key)]) (λwE w'=>qZ w' t' (some (lf gs p)) wE/\bF wr w' Ft wE/\Bk w' w2.heap.size 38 (cB (lf (lf ts p).items 0))) ?_ ?_
 .refine aB ?_;refine aLh mixed BYK ?_;refine aTd ?_;by_cases h1:2*((lf ts p).items.length-1)<=(lf ts p).want
  .rw[show decide ((2:Int)*(((lf ts p).items.length-1:Nat):Int)<=((lf ts p).want:Int))=true from decide_eq_true BYO];refine aTd ?_;refine QL.call (λ_ _=>aOu ZN BYK rfl rfl) rfl (λw_ FZ=>lO ((BM w_ _ _ _ _ [] _ pl pr (aGw.below FZ)).mono λq w' hq=>by
    cases q with
    |returned u=>exact⟨hq.1,by rw[hq.2];exact Below.refl _ _⟩
    |panicked ch=>exact hq
    |outgrown=>exact hq) FZ) ?_
   by_cases h2:(pl.isNone&&pr.isNone)=false
   .rw[if_pos ⟨h1,h2⟩]at CC;rw[h2];refine aTd ?_;refine QL.done λw6 gH=>?_;refine aB ?_;refine aLO rfl ?_;obtain⟨k,rk,wt,its,l,r,e,uH,_⟩:=Sf.Ky MX (by rw[eg];exact h2);rw[e]at ht1;have aGT:t1=.node k rk wt (its.drop 1) l r:=ht1;obtain⟨m,XM⟩:=Sf.Ch CC aGT uH (by rw[aGT];rw[e]at aBj;simp only[Sf.T.all,aBh]at aBj⊢;rw[aC6];omega);refine aZ λK hK=>?_;refine aKQ Og (Ci m _ _ _ Ft w6 XM (FX.below pY.lt gH) (λy hy=>aAx (pY.lt y hy) gH.size)) ?_;rintro _ w7 ⟨wE,hS7,NM⟩;refine aB ?_;exact aMV wE ⟨hS7,(tc.trans (aLX gH pY.lt)).trans NM,(MR.below gH).dG NM (λh=>by have:=aMj _ h;omega)⟩ aJA
   .have Xw:(pl.isNone&&pr.isNone)=true:=by simpa using h2
    rw[if_neg (λhh=>h2 hh.2)]at CC;rw[Xw];refine aTd ?_;refine QL.done λw6 gH=>?_;refine aB ?_;refine aJh rfl ?_;refine aB ?_;exact aMV Ft ⟨by rw[CC];exact FX.below pY.lt gH,tc.trans (aLX gH pY.lt),MR.below gH⟩ aJA
  .rw[if_neg (λhh=>h1 hh.1)]at CC;rw[show decide ((2:Int)*(((lf ts p).items.length-1:Nat):Int)<=((lf ts p).want:Int))=false from decide_eq_false BYO];refine aTd ?_;refine QL.done λw6 gH=>?_;refine aB ?_;refine aJh rfl ?_;refine aB ?_;exact aMV Ft ⟨by rw[CC];exact FX.below pY.lt gH,tc.trans (aLX gH pY.lt),MR.below gH⟩ aJA
 rintro wE w6 ⟨zo,wZ,hx6⟩;have oA:=tw w6 t' wE wZ zo;have aGp:∀y,Ff y->y<wr.heap.size:=λy hy=>hSr.lt y (k5 y hy);have aHT:=fF.lt;have pX:∀y,wE y->y<wr.heap.size->Ft y:=λy hy hl=>by
  rcases(wZ.next y hy).1 with h1|h1
  .exact h1
  .omega
 have aN1:b0<wr.heap.size:=by
  have aNK:gs≠[]:=λe=>by
   have:gs.length=0:=by rw[e];rfl
   omega
  exact(bn.blk aNK b0 rfl).2
 have aCo:¬(Ff hp\/wE hp):=λh=>by
  rcases h with h|h
  .exact k7 h
  .exact k7 (uG _ (pX _ h aHT))
 have aC4:∀x,Value.ownBlock (.slice (some ⟨b0,o0,none⟩) ts.length c)=some x->¬(Ff x\/wE x):=λx hx h=>by
  rcases h with h|h
  .exact k8 x hx h
  .have:b0=x:=by simpa[Value.ownBlock] using hx
   subst this;exact k8 _ hx (uG _ (pX _ h aN1))
 have aCk:=fF.dG wZ (λh=>k7 (uG _ h));have an:=bn.other (λy hy=>wZ.block y (by
  have:b0=y:=by simpa[Value.ownBlock] using hy
  omega) (λh=>k8 y hy (uG _ h)))
 have WH:bF w w6 F (λx=>F x\/wE x):=hCr.trans (wZ.aFs (λy hy=>k5 y (uG y hy)) (λy hy=>hy.symm) hSr.lt);have Fi:=Z1.dG wZ (λh=>yB (k5 _ (uG _ h)));obtain⟨v6,pl6,pr6,Fl6,Fr6,xC,_,_,aQN⟩:=zo.bk;obtain⟨A6,c6,rfl,hc6⟩:=xC.own.form;have aSX:=xC.blk;have hE6:Cj w6 (ts.eraseIdx p) (gs.eraseIdx p) (λx=>Ff x\/wE x):=by
  obtain⟨_,_,_,_,h⟩:=oA.at_ p (by rw[List.length_set];exact Z6);rwa[List.eraseIdx_set_eq]at h
 have aSa:=wZ.size;have Ev:w.heap.size<=wr.heap.size:=hCr.size;have XR:=Z1.lt;have aC7:¬(F w.heap.size\/wE w.heap.size):=λh=>by
  rcases h with h|h
  .exact yB h
  .exact yB (k5 _ (uG _ (pX _ h XR)))
 clear tw aH4 yx FX pY sr su yD Qw eg Y5 CC ht1 aLK pZ aGw MR tc hCr bn fF aHP Z1 mM iE kO fU;refine CO ?_;refine aOF (λ(_:Nat->Prop)=>[(2,rB w.heap.size),(9,rB w2.heap.size),(10,.int .i64 (lf ts p).key)]) (λF' w'=>LL w' hp R n (Sf.tW ts p t') F'/\bF w w' F F'/\Bk w' w2.heap.size 38 (cB (lf (lf ts p).items 0))/\Bk w' w.heap.size 38 (cB (0,0))/\¬F' w.heap.size) ?_ ?_
 .refine aTh ?_;refine aJ6 rfl (λh=>?_) (λh=>?_)
  .have h0:t'.items.length=0:=BYO;by_cases hm:p+1=ts.length
   .refine aB ?_;refine WC.tm (λw'=>Below w6.heap.size w6 w') [15,18] (.pure 0 (.pure 1 (.pure 2 (.pure 3 (.pure 5 (.pure 6 (.pure 8 (.pure 9 (.pure 10 (.pure 12 (.pure 13 (.fork 4 (.pure 7 (.act 11 (.pure 14 (.last 15 (.pure 16 (.pure 17 (.last 18 .fin))))))) 11 (.pure 14 (.act 4 (.pure 7 (.last 15 (.pure 16 (.pure 17 (.last 18 .fin))))))))))))))))))) mixed BYK rfl BYK (λw' rD _=>rD) λK hK w8 mN fh=>?_;have gH:Below w6.heap.size w6 w8:=mN;have cz:=xC.below gH;have WW:=aCk.below gH;have Eg:=an.below gH;have hE8:=hE6.other gH.size (λy hy=>gH.block y (by
     rcases hy with h|h
     .have:=aGp y h;omega
     .exact(wZ.next y h).2))
    have Mx:=WH.trans (aLX gH λy hy=>(WH.next y hy).2);have hl8:∀y,(F y\/wE y)->y<w8.heap.size:=λy hy=>(Mx.next y hy).2;have hv8:∀x,Value.ownBlock (.slice (some ⟨b0,o0,none⟩) ts.length c)=some x->(F x\/wE x):=λx hx=>.inl (k4 x hx);have hf8:∀x,(Ff x\/wE x)->(F x\/wE x):=λx hx=>hx.imp (k5 x) id;have dh:=aCo;have cr:=aC4;have aa:F hp\/wE hp:=.inl hS.own;have ae:=hx6.below gH;have gp:=Fi.below gH;have aMS:=gH.size;have hxh:some hp≠some w2.heap.size:=λe=>by injection e with e;omega
    have dx:some hp≠some w.heap.size:=λe=>by injection e with e;exact yB (by rw[<-e];exact hS.own)
    have hxb:b0≠w2.heap.size:=BYO;have Qw:∀(Ef:Value),(∀x,Ef.ownBlock=some x->(Value.ownBlock (.slice (some ⟨b0,o0,none⟩) ts.length c)=some x\/w8.heap.size<=x))->¬((F w.heap.size\/wE w.heap.size)\/Ef.ownBlock=some w.heap.size):=λEf hv h=>by
     rcases h with h|h
     .exact aC7 h
     .rcases hv _ h with h|h
      .exact yB (k4 _ h)
      .omega
    have zS:b0≠w.heap.size:=λe=>yB (by rw[<-e];exact k4 b0 rfl);have aCK:∀x,Value.ownBlock (.slice (some ⟨b0,o0,none⟩) ts.length c)=some x->x<w8.heap.size:=λx hx=>by
     have:b0=x:=by simpa[Value.ownBlock] using hx
     omega
    have hto:=(Eg.to_ (j:=p) BYO).cap (aAB p) BYO;have Dv:=(Eg.from_ (j:=p+1) BYO).bK;have ax:aG (lf (gs.drop (p+1))) (ts.length-(p+1))=gs.drop (p+1):=by
     rw[show ts.length-(p+1)=(gs.drop (p+1)).length from by rw[aC6];omega];exact dE _
    refine Ym ?_;refine TM.fork rfl rfl ?_ ?_
    .refine(aLP aNU (WL.nil ⟨mN,?_⟩));refine aLo ?_;refine RL.step (λw' _=>aPB nM mY (j:=p) rfl rfl rfl BYO) rfl ?_;refine TM.act rfl (aLP aNU (WL.nil ⟨mN,?_⟩));refine aLo ?_;refine RL.step (λw' _=>aMi nM mY (j:=((p:Nat):Int)+1) rfl rfl BYO BYO) rfl ?_;rw[show(((p:Nat):Int)+1).toNat=p+1 from by omega];rw[show ts.length-(p+1)=0 from by omega];refine TM.last rfl (aQ4 nM mY rfl rfl rfl (aAB _) (WL.nil ?_));refine Ym ?_;refine TM.last rfl (WL.store FM rfl rfl rfl (by intro u hu;simp[Value.cells]at hu;subst hu;rfl) WW (by simp[RO]) λAA mZ oO Du=>WL.nil ?_);refine TM.fin (hK _ _ ?_);clear hK K;have ua:gs.take p=gs.eraseIdx p:=by rw[aHp,aIQ BYO,aDD]
     rw[ua]at hto;obtain⟨OM,oB⟩:=LL.fin (Ef:=.slice (some ⟨b0,o0,none⟩) p p) WW hE8 hl8 hv8 hf8 k6 dh cr aa (World.grownBy.refl w8 none) (.inl rfl) hto (λx hx=>⟨.inl hx,aCK x hx⟩) mZ oO;refine aB ?_;exact aMV _ ⟨by unfold Sf.tW;rw[if_pos h0];exact OM,Mx.trans oB,ae.keep mZ hxh,gp.keep mZ dx,Qw _ (λx hx=>.inl hx)⟩ aJA
    .refine(aLP aNU (WL.nil ⟨mN,?_⟩));refine aLo ?_;refine RL.step (λw' _=>aMi nM mY (j:=((p:Nat):Int)+1) rfl rfl BYO BYO) rfl ?_;refine TM.act rfl (aLP aNU (WL.nil ⟨mN,?_⟩));refine aLo ?_;refine RL.step (λw' _=>aPB nM mY (j:=p) rfl rfl rfl BYO) rfl ?_;rw[show(((p:Nat):Int)+1).toNat=p+1 from by omega];rw[show ts.length-(p+1)=0 from by omega];refine TM.last rfl (aQ4 nM mY rfl rfl rfl (aAB _) (WL.nil ?_));refine Ym ?_;refine TM.last rfl (WL.store FM rfl rfl rfl (by intro u hu;simp[Value.cells]at hu;subst hu;rfl) WW (by simp[RO]) λAA mZ oO Du=>WL.nil ?_);refine TM.fin (hK _ _ ?_);clear hK K;have ua:gs.take p=gs.eraseIdx p:=by rw[aHp,aIQ BYO,aDD]
     rw[ua]at hto;obtain⟨OM,oB⟩:=LL.fin (Ef:=.slice (some ⟨b0,o0,none⟩) p p) WW hE8 hl8 hv8 hf8 k6 dh cr aa (World.grownBy.refl w8 none) (.inl rfl) hto (λx hx=>⟨.inl hx,aCK x hx⟩) mZ oO;refine aB ?_;exact aMV _ ⟨by unfold Sf.tW;rw[if_pos h0];exact OM,Mx.trans oB,ae.keep mZ hxh,gp.keep mZ dx,Qw _ (λx hx=>.inl hx)⟩ aJA
   .refine aB ?_;refine WC.tm (λw'=>Below w6.heap.size w6 w') [15,18] (.pure 0 (.pure 1 (.pure 2 (.pure 3 (.pure 5 (.pure 6 (.pure 8 (.pure 9 (.pure 10 (.pure 12 (.pure 13 (.fork 4 (.pure 7 (.act 11 (.pure 14 (.last 15 (.pure 16 (.pure 17 (.last 18 .fin))))))) 11 (.pure 14 (.act 4 (.pure 7 (.last 15 (.pure 16 (.pure 17 (.last 18 .fin))))))))))))))))))) mixed BYK rfl BYK (λw' rD _=>rD) λK hK w8 mN fh=>?_;have gH:Below w6.heap.size w6 w8:=mN;have cz:=xC.below gH;have WW:=aCk.below gH;have Eg:=an.below gH;have hE8:=hE6.other gH.size (λy hy=>gH.block y (by
     rcases hy with h|h
     .have:=aGp y h;omega
     .exact(wZ.next y h).2))
    have Mx:=WH.trans (aLX gH λy hy=>(WH.next y hy).2);have hl8:∀y,(F y\/wE y)->y<w8.heap.size:=λy hy=>(Mx.next y hy).2;have hv8:∀x,Value.ownBlock (.slice (some ⟨b0,o0,none⟩) ts.length c)=some x->(F x\/wE x):=λx hx=>.inl (k4 x hx);have hf8:∀x,(Ff x\/wE x)->(F x\/wE x):=λx hx=>hx.imp (k5 x) id;have dh:=aCo;have cr:=aC4;have aa:F hp\/wE hp:=.inl hS.own;have ae:=hx6.below gH;have gp:=Fi.below gH;have aMS:=gH.size;have hxh:some hp≠some w2.heap.size:=λe=>by injection e with e;omega
    have dx:some hp≠some w.heap.size:=λe=>by injection e with e;exact yB (by rw[<-e];exact hS.own)
    have hxb:b0≠w2.heap.size:=BYO;have Qw:∀(Ef:Value),(∀x,Ef.ownBlock=some x->(Value.ownBlock (.slice (some ⟨b0,o0,none⟩) ts.length c)=some x\/w8.heap.size<=x))->¬((F w.heap.size\/wE w.heap.size)\/Ef.ownBlock=some w.heap.size):=λEf hv h=>by
     rcases h with h|h
     .exact aC7 h
     .rcases hv _ h with h|h
      .exact yB (k4 _ h)
      .omega
    have zS:b0≠w.heap.size:=λe=>yB (by rw[<-e];exact k4 b0 rfl);have aCK:∀x,Value.ownBlock (.slice (some ⟨b0,o0,none⟩) ts.length c)=some x->x<w8.heap.size:=λx hx=>by
     have:b0=x:=by simpa[Value.ownBlock] using hx
     omega
    have hto:=(Eg.to_ (j:=p) BYO).cap (aAB p) BYO;have Dv:=(Eg.from_ (j:=p+1) BYO).bK;have ax:aG (lf (gs.drop (p+1))) (ts.length-(p+1))=gs.drop (p+1):=by
     rw[show ts.length-(p+1)=(gs.drop (p+1)).length from by rw[aC6];omega];exact dE _
    refine Ym ?_;refine TM.fork rfl rfl ?_ ?_
    .refine(aLP aNU (WL.nil ⟨mN,?_⟩));refine aLo ?_;refine RL.step (λw' _=>aPB nM mY (j:=p) rfl rfl rfl BYO) rfl ?_;refine TM.act rfl (aLP aNU (WL.nil ⟨mN,?_⟩));refine aLo ?_;refine RL.step (λw' _=>aMi nM mY (j:=((p:Nat):Int)+1) rfl rfl BYO BYO) rfl ?_;rw[show(((p:Nat):Int)+1).toNat=p+1 from by omega];refine TM.last rfl (aOy BL VM BYO nM mY rfl rfl rfl hto Dv.2.2 BYT (by simp[maxLen];omega) (aBt _) λv' w9 row SD CI Dt aBq hv9=>WL.nil ?_);rw[ax,<-aHp]at SD;obtain⟨A9,c9,rfl,hc9⟩:=SD.form;have fj:∀y,row=some y->y=b0:=λy hy=>by
      rcases Dt with h|h
      .rw[h]at hy;cases hy
      .rw[h]at hy;simp[Value.ownBlock]at hy;exact hy.symm
     have aCB:b0≠hp:=λe=>k6 (by rw[e];rfl);have aCW:=WW.keep CI (λe=>aCB (fj _ e).symm);refine Ym ?_;refine TM.last rfl (WL.store FM rfl rfl rfl (by intro u hu;simp[Value.cells]at hu;subst hu;rfl) aCW (by simp[RO]) λAA mZ oO Du=>WL.nil ?_);refine TM.fin (hK _ _ ?_);clear hK K;have aCF:gs.eraseIdx p≠[]:=λe=>by have:=congrArg List.length e;rw[List.length_eraseIdx,if_pos BYO]at this;simp at this;omega
     obtain⟨OM,oB⟩:=LL.fin WW hE8 hl8 hv8 hf8 k6 dh cr aa CI Dt SD (λx hx=>⟨by
      rcases hv9 with e|⟨z,e,hz⟩
      .rw[e]at hx;exact .inl hx
      .rw[e]at hx;injection hx with hx;exact .inr BYO,(SD.blk aCF x hx).2⟩) mZ oO
     refine aB ?_;exact aMV _ ⟨by unfold Sf.tW;rw[if_pos h0];exact OM,Mx.trans oB,(ae.keep CI (λe=>hxb (fj _ e).symm)).keep mZ hxh,(gp.keep CI (λe=>zS (fj _ e).symm)).keep mZ dx,Qw _ (λx hx=>by
      rcases hv9 with e|⟨z,e,hz⟩
      .rw[e]at hx;exact .inl hx
      .rw[e]at hx;injection hx with hx;exact .inr BYO)⟩ aJA
    .refine(aLP aNU (WL.nil ⟨mN,?_⟩));refine aLo ?_;refine RL.step (λw' _=>aMi nM mY (j:=((p:Nat):Int)+1) rfl rfl BYO BYO) rfl ?_;refine TM.act rfl (aLP aNU (WL.nil ⟨mN,?_⟩));refine aLo ?_;refine RL.step (λw' _=>aPB nM mY (j:=p) rfl rfl rfl BYO) rfl ?_;rw[show(((p:Nat):Int)+1).toNat=p+1 from by omega];refine TM.last rfl (aOy BL VM BYO nM mY rfl rfl rfl hto Dv.2.2 BYT (by simp[maxLen];omega) (aBt _) λv' w9 row SD CI Dt aBq hv9=>WL.nil ?_);rw[ax,<-aHp]at SD;obtain⟨A9,c9,rfl,hc9⟩:=SD.form;have fj:∀y,row=some y->y=b0:=λy hy=>by
      rcases Dt with h|h
      .rw[h]at hy;cases hy
      .rw[h]at hy;simp[Value.ownBlock]at hy;exact hy.symm
     have aCB:b0≠hp:=λe=>k6 (by rw[e];rfl);have aCW:=WW.keep CI (λe=>aCB (fj _ e).symm);refine Ym ?_;refine TM.last rfl (WL.store FM rfl rfl rfl (by intro u hu;simp[Value.cells]at hu;subst hu;rfl) aCW (by simp[RO]) λAA mZ oO Du=>WL.nil ?_);refine TM.fin (hK _ _ ?_);clear hK K;have aCF:gs.eraseIdx p≠[]:=λe=>by have:=congrArg List.length e;rw[List.length_eraseIdx,if_pos BYO]at this;simp at this;omega
     obtain⟨OM,oB⟩:=LL.fin WW hE8 hl8 hv8 hf8 k6 dh cr aa CI Dt SD (λx hx=>⟨by
      rcases hv9 with e|⟨z,e,hz⟩
      .rw[e]at hx;exact .inl hx
      .rw[e]at hx;injection hx with hx;exact .inr BYO,(SD.blk aCF x hx).2⟩) mZ oO
     refine aB ?_;exact aMV _ ⟨by unfold Sf.tW;rw[if_pos h0];exact OM,Mx.trans oB,(ae.keep CI (λe=>hxb (fj _ e).symm)).keep mZ hxh,(gp.keep CI (λe=>zS (fj _ e).symm)).keep mZ dx,Qw _ (λx hx=>by
      rcases hv9 with e|⟨z,e,hz⟩
      .rw[e]at hx;exact .inl hx
      .rw[e]at hx;injection hx with hx;exact .inr BYO)⟩ aJA
  .have h0:¬t'.items.length=0:=BYO;refine aB ?_;have aNO:LL w6 hp R n (ts.set p t') (λx=>F x\/wE x):=⟨⟨_,gs,λx=>Ff x\/wE x,aCk,an,oA,λx hx=>.inl (k4 x hx),λx hx=>hx.imp (k5 x) id,k6,aCo,aC4⟩,.inl hS.own,λx hx=>(WH.next x hx).2⟩;exact aMV _ ⟨by unfold Sf.tW;rw[if_neg h0];exact aNO,WH,hx6,Fi,aC7⟩ aJA
 rintro F' Qo ⟨tj,pO,aDA,aBn,aMc⟩;refine aZ λK hK=>?_;refine WL.step (aL5 (cs:=cB (lf (lf ts p).items 0)) aL rfl (bN _) (λj u hu=>by rw[aAn];exact aDA.cell hu)) rfl ?_;refine aB ?_;refine WL.store (v:=mV (lf (lf ts p).items 0)) aL rfl rfl rfl (cJ _) aBn (aAB 2) λXn uI qA rq=>?_;have OU:∀y,F' y->Xn.heap[y]?=Qo.heap[y]?:=λy hy=>uI.block y (tj.lt y hy) λe=>by
  injection e with e;exact aMc (by rw[<-e];exact hy)
 refine aB ?_;exact aNa aL rfl rfl rfl rfl qA rfl ⟨λh=>absurd h cQ,λ_=>⟨rfl,F',tj.other uI.size OU,pO.fresh uI (aAB _)⟩⟩
end Rk
namespace Rk
open Go Go.RowKit Go.Proofs
attribute [local irreducible] aA jH OpC WL QL WC WX OL RL TL TM
def bA8(eA:FuncId)(cost:Int->List It->Nat):Prop:=∀(w:World) (g:Nat) (k:Int) (rk wt:Nat) (its:List It) (v:Value) (pl pr:Option Nat) (Fl Fr F:Nat->Prop) (b m:Nat),SN w g k rk wt its v pl pr Fl Fr F->¬F b->Bk w b 3 [.int .i64 (m:Nat)]->m+cost k its<=1000->its.length<=1000->
 Calls tz eA #[rB g,rB b] w (eT λ_ w'=>bF w w' (one b) (one b)/\Bk w' b 3 [.int .i64 ((m+cost k its:Nat):Int)])
variable{w w':World}{hp R n:Nat}{F:Nat->Prop}
structure SH(w:World)(hp R n:Nat)(ts:List Sf.T)(F:Nat->Prop):Prop where
 mem:LL w hp R n ts F
 st:Sf.St R n ts
def SH.other{ts:List Sf.T}(h:SH w hp R n ts F)(hs:w.heap.size<=w'.heap.size)(hb:∀x,F x->w'.heap[x]?=w.heap[x]?):SH w' hp R n ts F:=⟨h.mem.other hs hb,h.st⟩
def SH.below{ts:List Sf.T}(h:SH w hp R n ts F)(hb:Below w.heap.size w w'):SH w' hp R n ts F:=⟨h.mem.below hb,h.st⟩
def aB3(w:World)(hp R n:Nat)(ts:List Sf.T)(F:Nat->Prop)(x:It)(v:Value)(w':World):Prop:=∃n' Rb F',SH w' hp R n' Rb F'/\bF w w' F F'/\
 ((iR x=true/\n<400/\v=.nilIface/\n'=n+1/\(Sf.iS Rb).Perm (x::Sf.iS ts))\/(¬(iR x=true/\n<400)/\(∃e,e≠0/\v=cI e)/\n'=n/\Rb=ts))
def LN(x:It):aH 1 (lf [x])=if iR x=true then 0 else 1:=by
 unfold aH;rw[if_neg BYO];simp[aG,lf]
def aFv(w:World)(hp R n:Nat)(ts:List Sf.T)(F:Nat->Prop)(x:It)(hS:SH w hp R n ts F)(hR:R<=8)(hn:n<=400):
  Calls tz 12 #[rB hp,mV x] w (eT (aB3 w hp R n ts F x)):=by
 obtain⟨out,WZ⟩:=Sf.og hS.st x;refine(Le w hp R n ts out F x hS.mem hS.st hR hn WZ).mono λq w' hq=>?_;cases q with
 |panicked ch=>exact hq
 |outgrown=>exact hq
 |returned v=>
  obtain⟨h1,h2,h3⟩:=hq;by_cases hx:iR x=true
  .have e0:aH 1 (lf [x])=0:=by rw[LN,if_pos hx]
   by_cases h4:n=400
   .obtain⟨rfl,a,b⟩:=h2 e0 h4;exact⟨n,ts,F,⟨a,hS.st⟩,b,.inr ⟨λh=>BYO,⟨4,BYO,rfl⟩,rfl,rfl⟩⟩
   .obtain⟨rfl,F',a,b⟩:=h3 e0 h4;obtain⟨c1,c2⟩:=Sf.oe hS.st WZ;exact⟨n+1,out,F',⟨a,c1⟩,b,.inl ⟨hx,BYO,rfl,rfl,c2⟩⟩
  .have e1:aH 1 (lf [x])=1:=by rw[LN,if_neg hx]
   obtain⟨rfl,a,b⟩:=h1 BYO;exact⟨n,ts,F,⟨a,hS.st⟩,b,.inr ⟨λh=>hx h.1,⟨_,by rw[e1];omega,rfl⟩,rfl,rfl⟩⟩
def aFw(w:World)(hp R n:Nat)(ts:List Sf.T)(F:Nat->Prop)(v:Value)(w':World):Prop:=(ts=[]/\v=.tuple #[mV (0,0),.int .i64 0,cI 5]/\SH w' hp R n ts F/\bF w w' F F)\/
 (ts≠[]/\∃x key Rb F',v=.tuple #[mV x,.int .i64 key,.nilIface]/\SH w' hp R n Rb F'/\bF w w' F F'/\(x::Sf.iS Rb).Perm (Sf.iS ts)/\x.1<=key/\(n<2 ^ (R+1)->x.1=key/\∀y∈Sf.iS ts,key<=y.1))
def aKd(w:World)(hp R n:Nat)(ts:List Sf.T)(F:Nat->Prop)(hS:SH w hp R n ts F)(hn:n<=400):
  Calls tz 17 #[rB hp] w (eT (aFw w hp R n ts F)):=by
 by_cases cQ:ts=[]
 .refine(RP w hp R n ts F .nil hS.mem hS.st hn (λh=>absurd cQ h)).mono λq w' hq=>?_;cases q with
  |panicked ch=>exact hq
  |outgrown=>exact hq
  |returned v=>
   obtain⟨rfl,a,b⟩:=hq.1 cQ;exact .inl ⟨cQ,rfl,⟨a,hS.st⟩,b⟩
 .have nA:0<ts.length:=aC8.2 cQ;have dD:=Sf.DX (lf ts) ts.length ts.length (aAB _) nA;have hg:=hS.st.lR (lf ts (Sf.iP (lf ts) ts.length)) (by rw[bU dD];exact aCX _);obtain⟨t',CC⟩:=Sf.om hg;refine(RP w hp R n ts F t' hS.mem hS.st hn (λ_=>CC)).mono λq w' hq=>?_;cases q with
  |panicked ch=>exact hq
  |outgrown=>exact hq
  |returned v=>
   obtain⟨rfl,F',a,b⟩:=hq.2 cQ;rw[bU dD]at CC;obtain⟨c1,x,c2,c3,c4⟩:=Sf.aB0 hS.st dD CC;have hx:lf (lf ts (Sf.iP (lf ts) ts.length)).items 0=x:=by
    rw[bU dD];cases hi:(ts[Sf.iP (lf ts) ts.length]).items with
    |nil=>rw[hi]at c2;cases c2
    |cons y ys=>rw[hi]at c2;injection c2
   rw[hx];refine .inr ⟨cQ,x,_,_,F',rfl,⟨a,c1⟩,b,c3,by rw[bU dD];exact c4,λzd=>⟨?_,?_⟩⟩
   .have:=Sf.Kz hg (hS.st.Ce (m:=R) zd _ (by rw[bU dD];exact aCX _)) (x:=x) (by rw[bU dD];exact c2);exact this
   .exact Sf.Cg hS.st zd (lf ts) (λi hi=>bU hi)
def aQB(bV:Int)(w:World):Calls tz 7 #[.int .i64 bV] w (eT λv w'=>Below w.heap.size w w'/\((bV<0\/8<bV)->v=.tuple #[.pointer none,cI 1])/\
  (¬(bV<0\/8<bV)->v=.tuple #[rB w.heap.size,.nilIface]/\SH w' w.heap.size bV.toNat 0 [] (λx=>x=w.heap.size))):=
 (aDM bV w).mono λq w' hq=>by
  cases q with
  |panicked ch=>exact hq
  |outgrown=>exact hq
  |returned v=>exact⟨hq.1,hq.2.1,λh=>⟨(hq.2.2 h).1,(hq.2.2 h).2,Sf.St.nil _⟩⟩
end Rk
namespace Rk
open Go Go.RowKit Go.Proofs
attribute [local irreducible] aA jH OpC WL QL WC WX OL RL
def kH(w:World)(hp n:Nat)(l:List It)(F:Nat->Prop):Prop:=∃ts,SH w hp 6 n ts F/\(Sf.iS ts).Perm l
section
variable{w w':World}{F F':Nat->Prop}{hp n:Nat}{l:List It}
def kH.lt(h:kH w hp n l F):∀g,F g->g<w.heap.size:=by
 obtain⟨ts,hS,_⟩:=h;exact hS.mem.lt
def kH.dG{G G':Nat->Prop}(h:kH w hp n l F)(hc:bF w w' G G')(hd:∀g,F g->¬G g):kH w' hp n l F:=by
 obtain⟨ts,hS,ND⟩:=h;exact⟨ts,hS.other hc.size λx hx=>hc.block x (hS.mem.lt x hx) (hd x hx),ND⟩
def kH.below(h:kH w hp n l F)(hb:Below w.heap.size w w'):kH w' hp n l F:=by
 obtain⟨ts,hS,ND⟩:=h;exact⟨ts,hS.below hb,ND⟩
def S6(w:World):Calls tz 7 #[.int .i64 6] w (eT λr w'=>Below w.heap.size w w'/\r=.tuple #[rB w.heap.size,.nilIface]/\kH w' w.heap.size 0 [] (λx=>x=w.heap.size)):=by
 refine(aQB 6 w).mono λe w' h=>?_;cases e<;>first|exact h.elim|skip
 obtain⟨hB,_,h2⟩:=h;obtain⟨h3,h4⟩:=h2 BYO;exact⟨hB,h3,[],h4,aBx _⟩
def Vk(h:kH w hp n l F){x:It}(hx:iR x=true)(hn:n<60):
  Calls tz 12 #[rB hp,mV x] w (eT λr w'=>r=.nilIface/\∃F',kH w' hp (n+1) (x::l) F'/\bF w w' F F'):=by
 obtain⟨ts,hS,ND⟩:=h;refine(aFv w hp 6 n ts F x hS BYO BYO).mono λe w' h=>?_;cases e<;>first|exact h.elim|skip
 obtain⟨n',Rb,F',h1,h2,h3⟩:=h;rcases h3 with⟨_,_,rfl,rfl,h4⟩|⟨h4,_⟩
 .exact⟨rfl,F',⟨Rb,h1,h4.trans (ND.cons x)⟩,h2⟩
 .exact absurd ⟨hx,BYO⟩ h4
def S7(h:kH w hp n l F)(hl:l≠[])(hn:n<=60):
  Calls tz 17 #[rB hp] w (eT λr w'=>∃x l' F',r=.tuple #[mV x,.int .i64 x.1,.nilIface]/\l.Perm (x::l')/\(∀y∈l',x.1<=y.1)/\kH w' hp n l' F'/\bF w w' F F'):=by
 obtain⟨ts,hS,ND⟩:=h;refine(aKd w hp 6 n ts F hS BYO).mono λe w' h=>?_;cases e<;>first|exact h.elim|skip
 rcases h with⟨h0,_⟩|⟨_,x,key,Rb,F',rfl,h1,h2,h3,_,h4⟩
 .subst h0;exact absurd (List.Perm.eq_nil ND.symm) hl
 .obtain⟨rfl,h5⟩:=h4 BYT;exact⟨x,Sf.iS Rb,F',rfl,ND.symm.trans h3.symm,λy hy=>h5 y (h3.mem_iff.1 (aBm _ hy)),⟨Rb,h1,aBx _⟩,h2⟩
end
end Rk
