/- Part of the proof of TopSorts. -/
import Derived.Conc.CrowdComm
import Derived.Test.YthdiheblgmddhaaGreatDoorQ17
set_option linter.all false
namespace Rk.Cw
open Go Go.Conc Rk.fD
open Go.ConcR (KK WgAt stA smA rd wr)
variable{κ:oF}{r c cap s:Nat}{Q:Value->World->Prop}{w:World}{t:Trace}{o:Option Value}{buf:Array Value}{tm:Bool}
abbrev QL:=List (Nat×(Value->World->Prop))
inductive Hw(κ:oF)(r:Nat)(Q:Value->World->Prop)(w:World)(t:Trace):Option Value->Prop
 |work:κ.st=.work->κ.rl=none->κ.F=none->w.heap[r]?=some (.chan 1 #[] false 0 0 false)->Hw κ r Q w t none
 |iG {v:Value}:κ.st=.iG v->κ.rl=none->κ.F=some (Q v)->w.heap[r]?=some (.chan 1 #[v] false 1 0 false)->Hw κ r Q w t none
 |took {v:Value}:κ.st=.iG v->κ.rl=none->κ.F=some (Q v)->w.heap[r]?=some (.chan 1 #[] false 1 1 false)->Hw κ r Q w t (some v)
 |shut {v:Value} {d p:Nat}:κ.st=.quit d->κ.F=some (Q v)->κ.rl=some p->p<t.size->t.act? p=some (.close r)->t.heard p->w.heap[r]?=some (.chan 1 #[v] true 1 0 false)->Hw κ r Q w t none
 |gone {v:Value} {d p:Nat}:κ.st=.quit d->κ.F=some (Q v)->κ.rl=some p->p<t.size->t.act? p=some (.close r)->t.heard p->w.heap[r]?=some (.chan 1 #[] true 1 1 false)->Hw κ r Q w t (some v)
structure NI(qs:QL)(nx:Option Nat)(vs:List Value)(got:Bool)(n0 n:Nat)(D:Nat->oF)(w:World)(t:Trace)(Pb:Nat->Prop):Prop where
 sz:n=n0+qs.length
 le:vs.length<=qs.length
 gt:got=true->0<vs.length
 nx:∀r,nx=some r->Pb r/\w.heap[r]?=some (.chan 1 #[] false 0 0 false)/\∀(m r':Nat) Q,qs[m]?=some (r',Q)->r'≠r
 AJ:∀(m m' r r':Nat) Q Q',qs[m]?=some (r,Q)->qs[m']?=some (r',Q')->m≠m'->r≠r'
 fN:∀(m r:Nat) Q,qs[m]?=some (r,Q)->Pb r/\(D (n0+m)).I=.ch r Q/\Hw (D (n0+m)) r Q w t vs[m]?
 acq:∀m,m+(if got then 1 else 0)<vs.length->(∃d,(D (n0+m)).st=.quit d)/\∃p,(D (n0+m)).rl=some p/\Knows t 0 p
def Hw.move{w':World}{u:Trace}(h:Hw κ r Q w t o)(hb:w'.heap[r]?=w.heap[r]?):Hw κ r Q w' (t++u) o:=by
 cases h with
 |work h1 h2 h3 h4=>exact .work h1 h2 h3 (hb.trans h4)
 |iG h1 h2 h3 h4=>exact .iG h1 h2 h3 (hb.trans h4)
 |took h1 h2 h3 h4=>exact .took h1 h2 h3 (hb.trans h4)
 |shut h1 h2 h3 h4 h5 h6 h7=>exact .shut h1 h2 h3 BYT (by rw[act?_old h4];exact h5) ((heard_old h4).2 h6) (hb.trans h7)
 |gone h1 h2 h3 h4 h5 h6 h7=>exact .gone h1 h2 h3 BYT (by rw[act?_old h4];exact h5) ((heard_old h4).2 h6) (hb.trans h7)
def Hw.same{κ':oF}(h:Hw κ r Q w t o)(h1:κ'.st=κ.st)(h2:κ'.rl=κ.rl)(h3:κ'.F=κ.F):Hw κ' r Q w t o:=by
 cases h with
 |work a b c d=>exact .work (h1.trans a) (h2.trans b) (h3.trans c) d
 |iG a b c d=>exact .iG (h1.trans a) (h2.trans b) (h3.trans c) d
 |took a b c d=>exact .took (h1.trans a) (h2.trans b) (h3.trans c) d
 |shut a b c d e f g=>exact .shut (h1.trans a) (h3.trans b) (h2.trans c) d e f g
 |gone a b c d e f g=>exact .gone (h1.trans a) (h3.trans b) (h2.trans c) d e f g
def aQX{Sh:Loc->Prop}{n:Nat}{live:Nat->Prop}{S R:Nat->PS}{rl:Nat->Option Nat}{B:Nat}:∀(l:List MemOp) {t:Trace},TI Sh n live S R rl t B->(∀op∈l,op.g<n/\op.act.touch?=none/\op.act.low B)->TI Sh n live S R rl (t++l.toArray) B
 |[],t,h,_=>by simpa using h
 |x::l,t,h,hl=>by
  have hx:=hl x BYS;have h1:TI Sh n live S R rl (t++ #[x]) B:=h.app (S':=S) (g:=x.g) (λop cK=>by simp at cK;rw[cK]) hx.1 (.inr (.inr ⟨λop cK a ha=>(by simp at cK;rw[cK,hx.2.1]at ha;cases ha),λj a hj ha=>by
   obtain⟨op,ho,zR⟩:=touch_of ha;rcases getElem?_append_cases ho with⟨hj',_⟩|⟨_,GK⟩
   .omega
   .simp at GK;rw[GK,hx.2.1]at zR;cases zR⟩)) (λ_ _=>rfl) (λ_ x=>x) (λ_ x=>.inl x) (λop cK a ha=>(by simp at cK;rw[cK,hx.2.1]at ha;cases ha)) (aAB _) (λop cK=>by simp at cK;rw[cK];exact hx.2.2)
  have h2:=aQX l h1 λop cK=>hl op (by simp[cK]);have e:(t++ #[x])++l.toArray=t++(x::l).toArray:=by apply Array.ext';simp
  rwa[e]at h2
section
variable{P:Program}{lo:Nat}{ty:TypeId}{gs dL:Array Goroutine}{w':World}{u:Trace}{n0 n:Nat}{D:Nat->oF}{Pb:Nat->Prop}{S R:PS}{d0:Nat}{i m:Nat}{gi:Goroutine}{qs:QL}{nx:Option Nat}{vs:List Value}{got:Bool}
def lL{cl:Bool}{k:Nat}(h:k≠c):(w.setChan c cap buf cl s r tm).heap[k]?=w.heap[k]?:=by simp[World.setChan,Ne.symm h]
def vI{V:PS}{cl:Bool}(h:∀x,¬V c x):bZ V w (w.setChan c cap buf cl s r tm):=by
 have ne:∀k x,V k x->(w.setChan c cap buf cl s r tm).heap[k]?=w.heap[k]?:=λk x hx=>lL λe=>h x (e▸hx);exact⟨λk hk=>ne k _ hk,λk o' hk c T fz hc=>⟨c,(ne k _ hk).trans hc,rfl,rfl⟩,by rw[size_setChan];exact aAB _,rfl,rfl,rfl⟩
def JL{cl:Bool}(h:∀k,Pb k->JI lo ty w k)(hc:c<w.heap.size):∀k,Pb k->JI lo ty (w.setChan c cap buf cl s r tm) k:=λk hk=>by
 by_cases e:k=c
 .subst e;exact⟨(h k hk).1,.inr ⟨_,_,_,_,_,_,heap_setChan w k cap buf cl s r tm hc⟩⟩
 .rcases h k hk with⟨h0,⟨st,sm,h1⟩|⟨a1,a2,a3,a4,a5,a6,h1⟩⟩
  .exact⟨h0,.inl ⟨st,sm,(lL e).trans h1⟩⟩
  .exact⟨h0,.inr ⟨a1,a2,a3,a4,a5,a6,(lL e).trans h1⟩⟩
def NI.put(h:NI qs nx vs got n0 n D w t Pb)(hm:qs[m]?=some (r,Q))(hI:κ.I=(D (n0+m)).I)(hM:Hw κ r Q w' (t++u) vs[m]?)(hb:∀k,Pb k->k≠r->w'.heap[k]?=w.heap[k]?)
  (ha:m+(if got then 1 else 0)<vs.length->(∃d,κ.st=.quit d)/\κ.rl=(D (n0+m)).rl):NI qs nx vs got n0 n (Cw.put D (n0+m) κ) w' (t++u) Pb:=by
 have cQ:∀k r' Q',qs[k]?=some (r',Q')->k≠m->r'≠r:=λk r' Q' hk e=>h.AJ k m r' r Q' Q hk hm e;refine⟨h.sz,h.le,h.gt,λr' hr=>?_,h.AJ,λk r' Q' hk=>?_,λk hk=>?_⟩
 .obtain⟨h1,h2,h3⟩:=h.nx r' hr;exact⟨h1,(hb r' h1 λe=>h3 m r Q hm e.symm).trans h2,h3⟩
 .obtain⟨h1,h2,h3⟩:=h.fN k r' Q' hk;by_cases e:k=m
  .subst e;rw[hm]at hk;cases hk;rw[bC];exact⟨h1,hI.trans h2,hM⟩
  .rw[cC D κ BYO];exact⟨h1,h2,h3.move (hb r' h1 (cQ k r' Q' hk e))⟩
 .obtain⟨h1,p,h2,h3⟩:=h.acq k hk;by_cases e:k=m
  .subst e;rw[bC];obtain⟨h4,h5⟩:=ha hk;exact⟨h4,p,h5.trans h2,h3.app u⟩
  .rw[cC D κ BYO];exact⟨h1,p,h2,h3.app u⟩
structure Sends(P:Program)(lo:Nat)(ty:TypeId)(gs:Array Goroutine)(w:World)(t:Trace)(n0:Nat)(D:Nat->oF)(Pb:Nat->Prop)(S R:PS)(d0:Nat)(qs:QL)(nx:Option Nat)(vs:List Value)(i:Nat)(gi:Goroutine):Prop where
 out:∃(m r:Nat) (Q:Value->World->Prop) (v z:Value) (g2:Goroutine) (f:iB),i=n0+m/\qs[m]?=some (r,Q)/\vs[m]?=none/\(D i).st=.work/\(D i).rl=none/\w.heap[r]?=some (.chan 1 #[] false 0 0 false)/\f.lt (D i).ρ/\
  stepG P false gi w=.comm g2 #[scase r v z] true .send w #[]/\(∀w1,bZ (D i).S w w1->Q v w1)/\FB P ty (D i).I f (.iG v) (D i).S (D i).R (served g2 undef) w
def aAV(h:Core P lo ty gs w t n0 D Pb S R d0)(hI:NI qs nx vs got n0 gs.size D w t Pb)(hi:Live n0 gs.size i)(hg:gs[i]?=some gi)(hq:∀d,(D i).st≠.quit d):
  (∃g' w' es κ,stepG P false gi w=.go g' w' es/\κ.ρ.lt (D i).ρ/\bZ (S.or R) w w'/\Core P lo ty ((gs.map (Go.Conc.woken P gi g' w')).setIfInBounds i g') w' (t++MemOp.ofEvents i gi.frame.fn gi.frame.place es) n0 (put D i κ) Pb S R d0/\
   NI qs nx vs got n0 gs.size (put D i κ) w' (t++MemOp.ofEvents i gi.frame.fn gi.frame.place es) Pb/\(g'.status=.running\/g'.status=.finished)/\
   ∀(m r:Nat) Q,qs[m]?=some (r,Q)->(put D i κ (n0+m)).st=(D (n0+m)).st\/(mayWake P gi=true/\∃cap buf s rc tm,w'.heap[r]?=some (.chan cap buf true s rc tm)))\/
  Sends P lo ty gs w t n0 D Pb S R d0 qs nx vs i gi:=by
 have EH:0<i:=by have:=h.pos;have:=hi.1;omega
 obtain⟨m,rfl⟩:∃m,i=n0+m:=⟨i-n0,by have:=hi.1;omega⟩;have hm:m<qs.length:=by have:=hi.2;have:=hI.sz;omega
 obtain⟨g,h1,h2,h3⟩:=h.fN _ EH hi.2;rw[hg]at h1;cases h1;obtain⟨r,Q,Wd⟩:∃r Q,qs[m]?=some (r,Q):=⟨qs[m].1,qs[m].2,by simp[hm]⟩;obtain⟨xK,El,hM⟩:=hI.fN m r Q Wd;generalize hvo:vs[m]?=o at hM;have WV:NX ty (D (n0+m)).I (D (n0+m)).st w:=by
  rw[El];cases hM with
  |work a=>rw[a];trivial
  |iG a _ _ b=>rw[a];exact⟨_,_,_,b⟩
  |took a _ _ b=>rw[a];exact⟨_,_,_,b⟩
  |shut a=>rw[a];trivial
  |gone a=>rw[a];trivial
 obtain⟨f,hρ,lV,eH⟩:=h2.move hq;have hs:=eH w (h3 hi.1) WV;have Xq:=h.vH _ EH hi.2;have lt:(f w none).lt (D (n0+m)).ρ:=by rw[hρ];exact⟨w,none,rfl⟩
 have noacq:∀(hq:∀d,(D (n0+m)).st≠.quit d),¬m+(if got then 1 else 0)<vs.length:=λhq dD=>by obtain⟨⟨d,hd⟩,_⟩:=hI.acq m dD;exact hq d hd
 generalize dI:(D (n0+m)).st=s at hs;have bad:∀{s':KS},s=s'->s'=.rel\/s'=.deaf\/s'=.l4\/s'=.l3\/s'=.l2->False:=λ{s'} e hx=>by
  subst e;cases hM with
  |work a=>rw[dI]at a;subst a;rcases hx with hx|hx|hx|hx|hx<;>cases hx
  |iG a=>rw[dI]at a;subst a;rcases hx with hx|hx|hx|hx|hx<;>cases hx
  |took a=>rw[dI]at a;subst a;rcases hx with hx|hx|hx|hx|hx<;>cases hx
  |shut a=>rw[dI]at a;subst a;rcases hx with hx|hx|hx|hx|hx<;>cases hx
  |gone a=>rw[dI]at a;subst a;rcases hx with hx|hx|hx|hx|hx<;>cases hx
 cases hs with
 | @own S1 R1 S' _ g' _ w' es e1 e2 e3=>
  have hr:(D (n0+m)).rl=none/\(D (n0+m)).F=none:=by
   cases hM with
   |work a b c=>exact⟨b,c⟩
   |iG a=>rw[dI]at a;cases a
   |took a=>rw[dI]at a;cases a
   |shut a=>rw[dI]at a;cases a
   |gone a=>rw[dI]at a;cases a
  have still:∀b,Pb b->w'.heap[b]?=w.heap[b]?:=λb hb=>(e2.iQ (V:=λk x=>k=b/\x=none) (λk x y hk hv _=>by obtain⟨rfl,_⟩:=hv;exact h.QE _ hi _ x hb (.inl hk)) (λk x hx=>by obtain⟨rfl,_⟩:=hx;exact h.low hb)).all b ⟨rfl,rfl⟩;refine .inl ⟨g',w',es,{D (n0+m) with ρ:=f w none,S:=S',w:=w'},e1,lt,e2.iQ (h.pA _ hi).2 h.Ht,?_,?_,e3.status,λk r' Q' _=>.inl ?_⟩
  .refine h.nU (κ:={D (n0+m) with ρ:=f w none,S:=S',w:=w'}) EH hg (by show FB P ty _ _ (D (n0+m)).st _ _ _ _;rw[dI];exact e3) rfl (λhn=>absurd hn (by have:=hi.1;omega)) rfl e2.le e2.fresh e2.size
    (λV ho hb _=>e2.iQ (ho hi.1) hb) (h.vw (κ:={D (n0+m) with ρ:=f w none,S:=S',w:=w'}) hi hr.1 e2 rfl rfl) (e2.deaf _) (λ_ F hF=>by have:(D (n0+m)).F=some F:=hF;rw[hr.2]at this;cases this) (λb hb=>?_)
   rcases(h.qV b hb).2 with⟨a1,a2,a3⟩|⟨a1,a2,a3,a4,a5,a6,a7⟩
   .exact⟨(h.qV b hb).1,.inl ⟨a1,a2,(still b hb).trans a3⟩⟩
   .exact⟨(h.qV b hb).1,.inr ⟨a1,a2,a3,a4,a5,a6,(still b hb).trans a7⟩⟩
  .exact hI.put (κ:={D (n0+m) with ρ:=f w none,S:=S',w:=w'}) Wd rfl (by rw[hvo];exact(hM.move (still r xK)).same rfl rfl rfl) (λk hk _=>still k hk) (λhx=>absurd hx (noacq hq))
  .by_cases e:k=m
   .subst e;rw[bC]
   .rw[cC _ _ BYO]
 | @idle S1 R1 _ g' _ _ e0 e1 e2=>
  refine .inl ⟨g',w,_,{D (n0+m) with ρ:=f w none,w:=w},e1,lt,bZ.refl _ _,?_,?_,e2.status,λk r' Q' _=>.inl ?_⟩
  .exact h.nU (κ:={D (n0+m) with ρ:=f w none,w:=w}) EH hg (by show FB P ty _ _ (D (n0+m)).st _ _ _ _;rw[dI];exact e2) rfl (λhn=>absurd hn (by have:=hi.1;omega)) rfl (λ_ _ x=>x) (λ_ _ x=>.inl x) (aAB _) (λV _ _ _=>bZ.refl V w)
    (h.TR (κ:={D (n0+m) with ρ:=f w none,w:=w}) EH hi.2 rfl rfl rfl λop cK=>by rw[DF]at cK;simp at cK) rfl (λ_=>h.fin _ hi) h.qV
  .exact hI.put (κ:={D (n0+m) with ρ:=f w none,w:=w}) Wd rfl (by rw[hvo];exact(hM.move rfl).same rfl rfl rfl) (λk hk _=>rfl) (λhx=>absurd hx (noacq hq))
  .by_cases e:k=m
   .subst e;rw[bC]
   .rw[cC _ _ BYO]
 | @send S1 R1 _ g2 _ r' v z Q' e0 e1 e2 e3=>
  rw[El]at e0;cases e0;cases hM with
  |work a b c d=>exact .inr ⟨m,r,Q,v,z,g2,f w none,rfl,Wd,hvo,dI,b,d,lt,e1,e2,e3⟩
  |iG a=>rw[dI]at a;cases a
  |took a=>rw[dI]at a;cases a
  |shut a=>rw[dI]at a;cases a
  |gone a=>rw[dI]at a;cases a
 | @close S1 R1 _ g' _ r' s rc v buf Q' e0 e1 e2 e3 e4=>
  rw[El]at e0;cases e0;have ed:Deaf t (n0+m)=0:=by rw[Xq,dI];rfl
  have hrF:(D (n0+m)).rl=none/\(D (n0+m)).F=some (Q v):=by
   cases hM with
   |work a=>rw[dI]at a;cases a
   |iG a b c=>rw[dI]at a;cases a;exact⟨b,c⟩
   |took a b c=>rw[dI]at a;cases a;exact⟨b,c⟩
   |shut a=>rw[dI]at a;cases a
   |gone a=>rw[dI]at a;cases a
  have dD:=(aCH.1 e2).1;have hc:=heap_setChan w r 1 buf true s rc false dD;have hA:∀V:PS,(∀b x,Pb b->¬V b x)->bZ V w (w.setChan r 1 buf true s rc false):=λV hV=>vI λx=>hV r x xK;have sw:MemOp.ofEvents (n0+m) gi.frame.fn gi.frame.place #[⟨.obj r,false,true⟩,⟨.obj r,true,true⟩]= #[{g:=n0+m,fn:=gi.frame.fn,pos:=gi.frame.place,act:=.access ⟨.obj r,false,true⟩}]++ #[{g:=n0+m,fn:=gi.frame.fn,pos:=gi.frame.place,act:=.close r}]:=by
   rw[ofEvents_eq];simp[MemAct.ofEvent]
  refine .inl ⟨g',_,_,{D (n0+m) with ρ:=f w none,st:=.quit 0,w:=w.setChan r 1 buf true s rc false,rl:=some (t.size+1)},e3,lt,hA _ h.JK,?_,?_,e4.status,λk r' Q' hk=>?_⟩
  .refine h.nU (κ:={D (n0+m) with ρ:=f w none,st:=.quit 0,w:=w.setChan r 1 buf true s rc false,rl:=some (t.size+1)}) EH hg e4 rfl (λhn=>absurd hn (by have:=hi.1;omega)) rfl (λ_ _ x=>x) (λ_ _ x=>.inl x) (by rw[size_setChan];exact aAB _) (λV _ _ hV=>hA V hV) ?_ (by rw[dI];rfl)
    (λ_ F hF w1 h5=>h.fin _ hi F hF w1 ((hA _ λb x hb hx=>h.QE _ hi b x hb (.inl hx)).trans h5)) (JL h.qV dD)
   rw[sw,<-aFJ,size_setChan];have t1:TI (sh Pb) gs.size (Live n0 gs.size) (λj=>(D j).S) (λj=>(D j).R) (λj=>(D j).rl) (t++ #[{g:=n0+m,fn:=gi.frame.fn,pos:=gi.frame.place,act:=.access ⟨.obj r,false,true⟩}]) w.heap.size:=
    h.ti.app (g:=n0+m) (λop cK=>by simp at cK;rw[cK]) hi.2 (.inr (.inl ⟨hi,hrF.1⟩)) (λ_ _=>rfl) (λ_ x=>x) (λ_ x=>.inl x) (λop cK x hx=>by
     simp at cK;subst cK;simp[MemAct.touch?]at hx;subst hx;exact .inl ⟨xK,.inl rfl⟩) (aAB _) (λop cK=>by simp at cK;subst cK;exact dD)
   have t2:=t1.release (i:=n0+m) hi hrF.1 (y:={g:=n0+m,fn:=gi.frame.fn,pos:=gi.frame.place,act:=.close r}) rfl rfl dD;rw[fA D (n0+m) {D (n0+m) with ρ:=f w none,st:=.quit 0,w:=w.setChan r 1 buf true s rc false,rl:=some (t.size+1)} oF.S rfl,fA D (n0+m) {D (n0+m) with ρ:=f w none,st:=.quit 0,w:=w.setChan r 1 buf true s rc false,rl:=some (t.size+1)} oF.R rfl];have e5:(λj=>(put D (n0+m) {D (n0+m) with ρ:=f w none,st:=.quit 0,w:=w.setChan r 1 buf true s rc false,rl:=some (t.size+1)} j).rl)=λk=>if k=n0+m then some (t++ #[({g:=n0+m,fn:=gi.frame.fn,pos:=gi.frame.place,act:=.access ⟨.obj r,false,true⟩}:MemOp)]).size else(D k).rl:=by funext k;unfold put;split<;>simp
   rw[e5];exact t2
  .refine hI.put (κ:={D (n0+m) with ρ:=f w none,st:=.quit 0,w:=w.setChan r 1 buf true s rc false,rl:=some (t.size+1)}) Wd rfl ?_ (λk _ hk=>lL hk) (λhx=>absurd hx (noacq hq));have h5:(t++MemOp.ofEvents (n0+m) gi.frame.fn gi.frame.place #[⟨.obj r,false,true⟩,⟨.obj r,true,true⟩]).act? (t.size+1)=some (.close r):=by rw[sw];simp[Trace.act?]
   have h6:(t++MemOp.ofEvents (n0+m) gi.frame.fn gi.frame.place #[⟨.obj r,false,true⟩,⟨.obj r,true,true⟩]).heard (t.size+1):=by
    rw[sw,<-aFJ];have h7:=yP (t:=t++ #[({g:=n0+m,fn:=gi.frame.fn,pos:=gi.frame.place,act:=.access ⟨.obj r,false,true⟩}:MemOp)]) (y:={g:=n0+m,fn:=gi.frame.fn,pos:=gi.frame.place,act:=.close r}) (by
     show Deaf _ (n0+m)=0;rw[ConcN.Deaf_still t (n0+m) _ λop cK=>by simp at cK;subst cK;exact⟨BYS,BYS⟩];exact ed)
    simpa using h7
   have oC:t.size+1<(t++MemOp.ofEvents (n0+m) gi.frame.fn gi.frame.place #[⟨.obj r,false,true⟩,⟨.obj r,true,true⟩]).size:=by rw[sw];simp
   rw[hvo];cases hM with
   |work a=>rw[dI]at a;cases a
   |iG a b c d=>rw[dI]at a;cases a;rw[e2]at d;cases d;exact .shut rfl c rfl oC h5 h6 hc
   |took a b c d=>rw[dI]at a;cases a;rw[e2]at d;cases d;exact .gone rfl c rfl oC h5 h6 hc
   |shut a=>rw[dI]at a;cases a
   |gone a=>rw[dI]at a;cases a
  .by_cases e:k=m
   .subst e;rw[Wd]at hk;cases hk;exact .inr ⟨e1,_,_,_,_,_,hc⟩
   .exact .inl (by rw[cC _ _ BYO])
 |rel=>exact(by rw[El]at*;rename_i e _ _ _;cases e)
 |AJ=>exact(bad rfl (.inl rfl)).elim
 |add=>exact(bad rfl (.inr (.inl rfl))).elim
 |d4=>exact(bad rfl (.inr (.inr (.inl rfl)))).elim
 |d3=>exact(bad rfl (.inr (.inr (.inr (.inl rfl))))).elim
 |d2=>exact(bad rfl (.inr (.inr (.inr (.inr rfl))))).elim
end
open Go.ConcR (KK WgAt stA smA rd wr)
variable{v:Value}
section
variable{P:Program}{lo:Nat}{ty:TypeId}{gs dL:Array Goroutine}{w':World}{u:Trace}{n0 n:Nat}{D D':Nat->oF}{Pb Mj:Nat->Prop}{S R S':PS}{d0 WM:Nat}{i m:Nat}{gi a g g':Goroutine}{es:Array Event}{qs:QL}{nx:Option Nat}{vs:List Value}{got:Bool}{sl:Option (Nat×Nat)}
def NI.take(h:NI qs none vs false n0 n D w t Pb)(hm:qs[vs.length]?=some (r,Q))(hD:∀k,k≠vs.length->D' (n0+k)=D (n0+k))(hI:(D' (n0+vs.length)).I=.ch r Q)(hM:Hw (D' (n0+vs.length)) r Q w' (t++u) (some v))
  (hb:∀k,Pb k->k≠r->w'.heap[k]?=w.heap[k]?):NI qs none (vs++[v]) true n0 n D' w' (t++u) Pb:=by
 have dD:vs.length<qs.length:=(aDh.1 hm).1;refine⟨h.sz,BYT,λ_=>BYS,λr' hr=>(by cases hr),h.AJ,λk r' Q' hk=>?_,λk hk=>?_⟩
 .by_cases e:k=vs.length
  .subst e;rw[hm]at hk;cases hk;exact⟨(h.fN _ r Q hm).1,hI,by simpa using hM⟩
  .obtain⟨h1,h2,h3⟩:=h.fN k r' Q' hk;rw[hD k e];refine⟨h1,h2,?_⟩;have:(vs++[v])[k]?=vs[k]?:=by
    rcases aCD k vs.length with h4|h4
    .rw[aDe h4]
    .rw[aCU h4,aCU BYT]
   rw[this];exact h3.move (hb r' h1 (h.AJ k vs.length r' r Q' Q hk hm e))
 .simp only[aBh,aBJ,aBv,if_true]at hk;obtain⟨h1,p,h2,h3⟩:=h.acq k BYT;rw[hD k BYO];exact⟨h1,p,h2,h3.app u⟩
def JM(h:Core P lo ty gs w t n0 D Pb S R d0){j:Nat}{x:Goroutine}(hj:0<j)(hx:gs[j]?=some x)(r:Nat)(s:Bool):offersAt x r s=[]:=by
 obtain⟨y,h1,h2,_⟩:=h.fN j hj (aCH.1 hx).1;rw[hx]at h1;cases h1;refine offersAt_of_not_blocked ?_ r s;rcases h2.status with e|e<;>rw[e]<;>simp
def QF(h:Core P lo ty gs w t n0 D Pb S R d0){s:Bool}(ha:∀a,gs[0]?=some a->i≠0->offersAt a r s=[]):partners (gs.setIfInBounds i ph) r s=[]:=partners_nil λj x hx=>by
 rcases getElem?_stand gs i j x hx with⟨_,rfl⟩|⟨zW,hx⟩
 .exact offersAt_ph r s
 .by_cases e:j=0
  .subst e;exact ha x hx (Ne.symm zW)
  .exact JM h BYO hx r s
section send
variable(h:Core P lo ty gs w t n0 D Pb S R d0)(hi:Live n0 gs.size i)(hg:gs[i]?=some gi)
include h hi hg
def Core.iG{g2:Goroutine}{f:iB}(xK:Pb r)(XR:(D i).rl=none)(hQ:∀w1,bZ (D i).S w w1->Q v w1)(hK:FB P ty (D i).I f (.iG v) (D i).S (D i).R (served g2 undef) w)(dI:(D i).st=.work)
 {rc:Nat}{dL:Array Goroutine}(hz:dL.size=gs.size)(uA:dL[i]?=some (served g2 undef))(ho:∀j,0<j->j≠i->dL[j]?=gs[j]?){l:List MemOp}(hl:∀op∈l,op.g<gs.size/\op.act.touch?=none/\op.act.low w.heap.size/\op.act≠.mark .disable/\op.act≠.mark .enable):
  Core P lo ty dL (w.setChan r 1 buf false s rc false) (t++l.toArray) n0 (put D i {D i with ρ:=f,st:=.iG v,w:=w.setChan r 1 buf false s rc false,F:=some (Q v)}) Pb S R d0:=by
 have EH:0<i:=by have:=h.pos;have:=hi.1;omega
 have hA:∀V:PS,(∀b x,Pb b->¬V b x)->bZ V w (w.setChan r 1 buf false s rc false):=λV hV=>vI λx=>hV r x xK;have dD:=h.low xK;have dk:∀j,Deaf (t++l.toArray) j=Deaf t j:=λj=>ConcN.Deaf_still t j _ λop cK=>by
  have:=hl op (by simpa using cK);exact this.2.2.2
 refine h.step (κ:={D i with ρ:=f,st:=.iG v,w:=w.setChan r 1 buf false s rc false,F:=some (Q v)}) EH hi.2 hz uA ho (hK.rely (hA _ λb x hb=>h.QE i hi b x hb)) (bZ.refl _ _) (λhn=>absurd hn (by have:=hi.1;omega)) rfl (λ_ _ x=>x) (λ_ _ x=>.inl x) (by rw[size_setChan];exact aAB _)
  (λV _ _ hV=>hA V hV) ?_ ((dk 0).trans h.deaf0) (λj hj wY=>?_) (λ_ F hF w1 h5=>?_) (JL h.qV dD)
 .rw[size_setChan,fA D i {D i with ρ:=f,st:=.iG v,w:=w.setChan r 1 buf false s rc false,F:=some (Q v)} oF.S rfl,fA D i {D i with ρ:=f,st:=.iG v,w:=w.setChan r 1 buf false s rc false,F:=some (Q v)} oF.R rfl,fA D i {D i with ρ:=f,st:=.iG v,w:=w.setChan r 1 buf false s rc false,F:=some (Q v)} oF.rl rfl];exact aQX l h.ti λop cK=>⟨(hl op cK).1,(hl op cK).2.1,(hl op cK).2.2.1⟩
 .rw[dk,h.vH j hj wY];by_cases e:j=i
  .subst e;rw[bC,dI];rfl
  .rw[cC D _ e]
 .cases hF;exact hQ w1 ((hA _ λb x hb hx=>h.QE i hi b x hb (.inl hx)).trans h5)
def Th(hI:NI qs nx vs got n0 gs.size D w t Pb)(hs:Sends P lo ty gs w t n0 D Pb S R d0 qs nx vs i gi)
  (aMY:∀a,gs[0]?=some a->∀(m r:Nat) (Q:Value->World->Prop),qs[m]?=some (r,Q)->i=n0+m->offersAt a r false=[]):
  ∃dL w' u κ,runT P (crowd gs w sl) i=(.next (crowd dL w' sl),u)/\dL.size=gs.size/\dL[0]?=gs[0]?/\κ.ρ.lt (D i).ρ/\Core P lo ty dL w' (t++u) n0 (put D i κ) Pb S R d0/\NI qs nx vs got n0 gs.size (put D i κ) w' (t++u) Pb/\bZ (S.or R) w w'/\
   ∀m,n0+m≠i->(put D i κ (n0+m)).st=(D (n0+m)).st:=by
 obtain⟨m,r,Q,v,z,g2,f,rfl,Wd,zx,dI,XR,hch,dD,EK,hQ,hK⟩:=hs.out;obtain⟨xK,El,_⟩:=hI.fN m r Q Wd;have EH:0<n0+m:=by have:=h.pos;omega
 have cQ:(n0+m==0)=false:=BYT;have lV:=crowd_send_room (P:=P) (sl:=sl) (i:=n0+m) hg (by rw[cQ];exact EK) hch BYS (QF h λa ha _=>aMY a ha m r Q Wd rfl);rw[finishComm_send]at lV;have aBo:∀op∈[({g:=n0+m,fn:=g2.frame.fn,pos:=g2.frame.place,act:=.send r 0}:MemOp),{g:=n0+m,fn:=g2.frame.fn,pos:=g2.frame.place,act:=.sendDone r 0}],op.g<gs.size/\op.act.touch?=none/\op.act.low w.heap.size/\op.act≠.mark .disable/\op.act≠.mark .enable:=λop cK=>by
  simp at cK;rcases cK with rfl|rfl
  .exact⟨hi.2,rfl,h.low xK,BYS,BYS⟩
  .exact⟨hi.2,rfl,h.low xK,BYS,BYS⟩
 refine⟨_,_,_,{D (n0+m) with ρ:=f,st:=.iG v,w:=w.setChan r 1 #[v] false 1 0 false,F:=some (Q v)},lV,BYS,by rw[aCM BYO],dD,?_,?_,vI λx=>h.JK r x xK,λk hk=>by rw[cC D _ hk]⟩
 .exact h.iG hi hg xK XR hQ hK dI BYS (by rw[aCr hi.2]) (λj _ hj=>by rw[aCM (Ne.symm hj)]) aBo
 .refine hI.put (κ:={D (n0+m) with ρ:=f,st:=.iG v,w:=w.setChan r 1 #[v] false 1 0 false,F:=some (Q v)}) Wd rfl (by rw[zx];exact .iG rfl XR rfl (heap_setChan w r 1 _ _ _ _ _ (h.low xK))) (λk _ hk=>lL hk) (λhx=>?_);obtain⟨⟨d,hd⟩,_⟩:=hI.acq m hx;rw[dI]at hd;cases hd
def Ti(hI:NI qs none vs false n0 gs.size D w t Pb)(hs:Sends P lo ty gs w t n0 D Pb S R d0 qs none vs i gi){z0:Value}(ha:gs[0]?=some (parked (core g) #[rcase r z0] (.recv true)))(hqr:qs[vs.length]?=some (r,Q))(CM:i=n0+vs.length):
  ∃dL w' u κ v,runT P (crowd gs w sl) i=(.next (crowd dL w' sl),u)/\dL.size=gs.size/\dL[0]?=some (served (core g) (.tuple #[v,.bool true]))/\κ.ρ.lt (D i).ρ/\Core P lo ty dL w' (t++u) n0 (put D i κ) Pb S R d0/\NI qs none (vs++[v]) true n0 gs.size (put D i κ) w' (t++u) Pb/\bZ (S.or R) w w':=by
 obtain⟨m,r',Q',v,z,g2,f,e,Wd,zx,dI,XR,hch,dD,EK,hQ,hK⟩:=hs.out;obtain rfl:m=vs.length:=BYO;subst CM;rw[hqr]at Wd;cases Wd;obtain⟨xK,El,_⟩:=hI.fN _ r Q hqr;have EH:0<n0+vs.length:=by have:=h.pos;omega
 have cQ:(n0+vs.length==0)=false:=by rw[beq_eq_false_iff_ne];omega
 have hp:partners (gs.setIfInBounds (n0+vs.length) ph) r false=[(0,0)]:=by
  rw[partners_one (j:=0) (g:=parked (core g) #[rcase r z0] (.recv true)) (stand_get (i:=n0+vs.length) BYO ha) λk x hk hx=>?_]
  .rw[offersAt_parked_recv,if_pos rfl];rfl
  .rcases getElem?_stand gs _ k x hx with⟨_,rfl⟩|⟨_,hx⟩
   .exact offersAt_ph r false
   .exact JM h (Nat.pos_of_ne_zero hk) hx r false
 have lV:=crowd_send_meets (P:=P) (sl:=sl) (i:=n0+vs.length) (j:=0) hg (by rw[cQ];exact EK) hch BYO ha hp;rw[finishComm_send,finishComm_recv]at lV;have aBo:∀op∈[({g:=n0+vs.length,fn:=g2.frame.fn,pos:=g2.frame.place,act:=.send r 0}:MemOp),{g:=0,fn:=(core g).frame.fn,pos:=(core g).frame.place,act:=.recv r 0 1},{g:=n0+vs.length,fn:=g2.frame.fn,pos:=g2.frame.place,act:=.sendDone r 0},{g:=0,fn:=(core g).frame.fn,pos:=(core g).frame.place,act:=.recvDone r 0}],op.g<gs.size/\op.act.touch?=none/\op.act.low w.heap.size/\op.act≠.mark .disable/\op.act≠.mark .enable:=λop cK=>by
  have h0:0<gs.size:=by have:=h.pos;omega
  simp at cK;rcases cK with rfl|rfl|rfl|rfl
  .exact⟨hi.2,rfl,h.low xK,BYS,BYS⟩
  .exact⟨h0,rfl,h.low xK,BYS,BYS⟩
  .exact⟨hi.2,rfl,h.low xK,BYS,BYS⟩
  .exact⟨h0,rfl,h.low xK,BYS,BYS⟩
 refine⟨_,_,_,{D (n0+vs.length) with ρ:=f,st:=.iG v,w:=w.setChan r 1 #[] false 1 1 false,F:=some (Q v)},v,lV,BYS,?_,dD,?_,?_,vI λx=>h.JK r x xK⟩
 .rw[aCM BYO,aCr (by have:=h.pos;omega)];rfl
 .exact h.iG hi hg xK XR hQ hK dI BYS (by rw[aCr (by simpa using hi.2)]) (λj hj0 hj=>by rw[aCM (Ne.symm hj),aCM BYO]) aBo
 .refine hI.take hqr (λk hk=>by rw[cC D _ BYO]) (by rw[bC];exact El) (by rw[bC];exact .took rfl XR rfl (heap_setChan w r 1 _ _ _ _ _ (h.low xK))) (λk _ hk=>lL hk)
end send
structure DG(a g:Goroutine):Prop where
 fr:a.frame=g.frame
 cs:a.callers=g.callers
 dy:a.dying=g.dying
def DG.step(h:DG a g)(main:Bool)(w:World):stepG P main a w=stepG P main g w:=stepG_same h.fr h.cs h.dy w
def TV(h:Core P lo ty gs w t n0 D Pb S R d0)(ha:gs[0]?=some a)(hs:DG a g)(EK:stepG P true g w=.go g' w' es)
  (hA:∀V,xQ S V->mQ w.heap.size V->(∀b x,Pb b->¬V b x)->bZ V w w')(hz:w.heap.size<=w'.heap.size)
  (hS:∀b x,S' b x->S b x\/(w.heap.size<=b/\b<w'.heap.size))(hp:∀b,Mj b->(Pb b\/w.heap.size<=b)/\∀x,¬(S'.or R) b x)
  (Fu:TI (sh Mj) gs.size (Live n0 gs.size) (λj=>(D j).S) (λj=>(D j).R) (λj=>(D j).rl) (t++MemOp.ofEvents 0 a.frame.fn a.frame.place es) w'.heap.size)
  (hd0:deafBehind d0 es=WM)(hP:∀b,Mj b->JI lo ty w' b):
  ∃dL,runT P (crowd gs w sl) 0=(.next (crowd dL w' sl),MemOp.ofEvents 0 a.frame.fn a.frame.place es)/\dL.size=gs.size/\dL[0]?=some g'/\Core P lo ty dL w' (t++MemOp.ofEvents 0 a.frame.fn a.frame.place es) n0 D Mj S' R WM:=by
 have h0:0<gs.size:=by have:=h.pos;omega
 have lV:=runT_crowd_go (P:=P) (sl:=sl) (i:=0) ha (show stepG P (0==0) a w=_ from(hs.step true w).trans EK);have ops:∀op∈MemOp.ofEvents 0 a.frame.fn a.frame.place es,op.g=0:=λop cK=>by obtain⟨e,_,rfl⟩:=mem_ofEvents cK;rfl
 refine⟨_,lV,BYS,ConcN.get_map_set_same _ _ _ h0,h.main BYS (λj hj=>?_) hA hz hS hp Fu ?_ (λj hj wY=>?_) hP⟩
 .rw[ConcN.get_map_set _ _ _ _ BYO];cases hx:gs[j]? with
  |none=>rfl
  |some x=>simp[h.woken hj hx]
 .rw[Deaf_own,h.deaf0,hd0]
 .rw[Deaf_other t BYO _ ops];exact h.vH j hj wY
def JN(h:Core P lo ty gs w t n0 D Pb S R d0)(ha:gs[0]?=some a)(hs:DG a g)(EK:stepG P true g w=.go g' w' es)(hG:Gu S R S' w w' es):
  (∃dL,runT P (crowd gs w sl) 0=(.next (crowd dL w' sl),MemOp.ofEvents 0 a.frame.fn a.frame.place es)/\dL.size=gs.size/\dL[0]?=some g'/\Core P lo ty dL w' (t++MemOp.ofEvents 0 a.frame.fn a.frame.place es) n0 D Pb S' R d0)/\∀b,Pb b->w'.heap[b]?=w.heap[b]?:=by
 have still:∀b,Pb b->w'.heap[b]?=w.heap[b]?:=λb hb=>(hG.iQ (V:=λk x=>k=b/\x=none) (λk x y hk hv _=>by obtain⟨rfl,_⟩:=hv;exact h.JK _ x hb (.inl hk)) (λk x hx=>by obtain⟨rfl,_⟩:=hx;exact h.low hb)).all b ⟨rfl,rfl⟩;have iD:mQ w'.heap.size (S'.or R):=λb x hx=>hx.elim (λx1=>hG.inB (λb x hx=>h.Ht b x (.inl hx)) b x x1) λx1=>aAx (h.Ht b x (.inr x1)) hG.size;refine⟨TV h ha hs EK (λV ho hb _=>hG.iQ ho hb) hG.size hG.fresh (λb hb=>⟨.inl hb,λx hx=>?_⟩) ?_ (hG.deaf d0) (λb hb=>?_),still⟩
 .rcases hx with hx|hx
  .rcases hG.fresh b x hx with h1|⟨h1,_⟩
   .exact h.JK b x hb (.inl h1)
   .have:=h.low hb;omega
  .exact h.JK b x hb (.inr hx)
 .refine h.ti.app (g:=0) (λop cK=>(hG.ops cK).1) (by have:=h.pos;omega) (.inl rfl) (λ_ _=>rfl) (λ_ x=>x) (λ_ x=>.inl x) (λop cK x hx=>?_) hG.size (λop cK=>(hG.ops cK).2.2.2.1 iD);obtain⟨h1,h2⟩:=(hG.ops cK).2.1 x hx;refine .inr ⟨λhsx=>?_,.inl rfl,λj hj _=>?_⟩
  .rcases h2 with h3|⟨h3,_⟩
   .rcases hG.has h3 with h4|h4
    .exact DD h.JK hsx (fZ.2 (.inl h4))
    .exact h4 (h.ti.shl _ hsx)
   .exact DD h.JK hsx (fZ.2 (.inr h3))
  .have oj:=hG.off (h.pA j hj).1 (h.vG j hj);refine⟨λhsj=>?_,λhw hrj=>?_⟩
   .rcases h2 with h3|⟨h3,_⟩
    .exact oj.has h3 (fZ.2 (.inl hsj))
    .exact(h.pA j hj).2.has hsj (fZ.2 (.inr h3))
   .rcases h2 with h3|⟨_,h3⟩
    .exact oj.has h3 (fZ.2 (.inr hrj))
    .rw[h3]at hw;cases hw
 .rcases(h.qV b hb).2 with⟨a1,a2,a3⟩|⟨a1,a2,a3,a4,a5,a6,a7⟩
  .exact⟨(h.qV b hb).1,.inl ⟨a1,a2,(still b hb).trans a3⟩⟩
  .exact⟨(h.qV b hb).1,.inr ⟨a1,a2,a3,a4,a5,a6,(still b hb).trans a7⟩⟩
def iH(h:Core P lo ty gs w t n0 D Pb S R d0)(ha:gs[0]?=some a)(hs:DG a g)(EK:stepG P true g w=.go g' w' es)
  (hA:∀V:PS,(∀b x,Pb b->¬V b x)->bZ V w w')(hes:∀e∈es,(∃m,e=ConcR.mk m/\(MemAct.mark m).touch?=none/\(MemAct.mark m).low w.heap.size)\/∃a:Addr,(e=rd a\/e=wr a\/e=ConcR.mk (.read a)\/e=ConcR.mk (.write a))/\Pb a.block)
  (hd0:deafBehind d0 es=WM)(hP:∀b,Pb b->JI lo ty w' b):
  ∃dL,runT P (crowd gs w sl) 0=(.next (crowd dL w' sl),MemOp.ofEvents 0 a.frame.fn a.frame.place es)/\dL.size=gs.size/\dL[0]?=some g'/\Core P lo ty dL w' (t++MemOp.ofEvents 0 a.frame.fn a.frame.place es) n0 D Pb S R WM:=by
 have hz:w.heap.size<=w'.heap.size:=(hA (λ_ _=>False) λ_ _ _ x=>x).size;refine TV h ha hs EK (λV _ _ hV=>hA V hV) hz (λ_ _ x=>.inl x) (λb hb=>⟨.inl hb,λx=>h.JK b x hb⟩) ?_ hd0 hP;refine h.ti.app (g:=0) (λop cK=>by obtain⟨e,_,rfl⟩:=mem_ofEvents cK;rfl) (by have:=h.pos;omega) (.inl rfl) (λ_ _=>rfl) (λ_ x=>x) (λ_ x=>.inl x) (λop cK x hx=>?_) hz (λop cK=>?_)
 .obtain⟨e,he,rfl⟩:=mem_ofEvents cK;rcases hes e he with⟨m,rfl,h1,_⟩|⟨a,rfl|rfl|rfl|rfl,hb⟩
  .simp only[ConcR.mk,MemAct.ofEvent]at hx;rw[h1]at hx;cases hx
  .simp[rd,MemAct.ofEvent,MemAct.touch?]at hx;subst hx;exact .inl ⟨hb,.inl rfl⟩
  .simp[wr,MemAct.ofEvent,MemAct.touch?]at hx;subst hx;exact .inl ⟨hb,.inl rfl⟩
  .simp[ConcR.mk,MemAct.ofEvent,MemAct.touch?]at hx;subst hx;exact .inl ⟨hb,.inr ⟨rfl,rfl⟩⟩
  .simp[ConcR.mk,MemAct.ofEvent,MemAct.touch?]at hx;subst hx;exact .inl ⟨hb,.inr ⟨rfl,rfl⟩⟩
 .obtain⟨e,he,rfl⟩:=mem_ofEvents cK;rcases hes e he with⟨m,rfl,_,h1⟩|⟨a,rfl|rfl|rfl|rfl,hb⟩
  .exact MemAct.low_mono hz h1
  all_goals exact aAx (h.low hb) hz
def NI.main(h:NI qs nx vs got n0 n D w t Pb)(hb:∀k,Pb k->w'.heap[k]?=w.heap[k]?):NI qs nx vs got n0 n D w' (t++u) Pb:=
 ⟨h.sz,h.le,h.gt,λr' hr=>let ⟨h1,h2,h3⟩:=h.nx r' hr;⟨h1,(hb r' h1).trans h2,h3⟩,h.AJ,λk r' Q' hk=>let ⟨h1,h2,h3⟩:=h.fN k r' Q' hk;⟨h1,h2,h3.move (hb r' h1)⟩,λk hk=>let ⟨h1,p,h2,h3⟩:=h.acq k hk;⟨h1,p,h2,h3.app u⟩⟩
def Ob.main{Wg:Nat}{qs:List (World->Prop)}{ph zr:xR}(h:Ob ty Wg qs ph n0 n D w t Pb)(hn:∀op∈u,op.act≠.mark (.release (stA Wg)))(hc:∃st sm,WgAt ty Wg w' st sm/\AL (λm=>(D (n0+m)).st) qs.length zr st sm):
  Ob ty Wg qs zr n0 n D w' (t++u) Pb:=
 ⟨h.pb,h.sz,h.few,h.I,λk hk=>let ⟨h1,h2⟩:=h.rl k hk;⟨h1,λx=>let ⟨p,h3,h4,h5,h6⟩:=h2 x;⟨p,h3,BYT,by rw[act?_old h4];exact h5,(heard_old h4).2 h6⟩⟩,h.nr.app hn,hc⟩
end
open Go.ConcR (KK WgAt stA smA rd wr)
variable{n:Nat}
def mC(ty:TypeId)(ms:MS)(n0 n:Nat)(D:Nat->oF)(w:World)(t:Trace)(Pb:Nat->Prop):Prop:=match ms with
 | .calm=>n0=n
 | .wg Wg qs ph=>Ob ty Wg qs ph n0 n D w t Pb
 | .ch qs nx vs got=>NI qs nx vs got n0 n D w t Pb
section
variable{P:Program}{lo:Nat}{ty:TypeId}{Post:Value->World->Prop}{gs:Array Goroutine}{n0:Nat}{D:Nat->oF}{Pb:Nat->Prop}{S R:PS}{d0:Nat}{i:Nat}{gi a g:Goroutine}{sl:Option (Nat×Nat)}{ms:MS}
def mC.at(h:mC ty ms n0 n D w t Pb)(d:Nat):mC ty ms n0 n D (w.at d) t Pb:=by
 cases ms with
 |calm=>exact h
 |wg Wg qs ph=>exact⟨h.pb,h.sz,h.few,h.I,h.rl,h.nr,h.cnt⟩
 |ch qs nx vs got=>
  refine⟨h.sz,h.le,h.gt,h.nx,h.AJ,λm r Q hm=>?_,h.acq⟩;obtain⟨h1,h2,h3⟩:=h.fN m r Q hm;have:=h3.move (w':=w.at d) (u:= #[]) rfl;exact⟨h1,h2,by simpa using this⟩
def mC.leave(h:mC ty ms n0 n D w t Pb){d d':Nat}(dI:(D i).st=.quit d)(h1:κ.I=(D i).I)(h2:κ.st=.quit d')(h3:κ.rl=(D i).rl)(h4:κ.F=(D i).F){u:Trace}(hu:∀op∈u,∀a,op.act≠.mark (.release a)):
  mC ty ms n0 n (put D i κ) w (t++u) Pb:=by
 have st:∀j,(put D i κ j).I=(D j).I/\(put D i κ j).rl=(D j).rl/\(put D i κ j).F=(D j).F/\((put D i κ j).st=(D j).st\/∃d d',(D j).st=.quit d/\(put D i κ j).st=.quit d'):=λj=>by
  by_cases e:j=i
  .subst e;rw[bC];exact⟨h1,h3,h4,.inr ⟨d,d',dI,h2⟩⟩
  .rw[cC D κ e];exact⟨rfl,rfl,rfl,.inl rfl⟩
 have wk:∀j,(put D i κ j).st=.work↔(D j).st=.work:=λj=>by
  rcases(st j).2.2.2 with e|⟨d,d',e1,e2⟩
  .rw[e]
  .rw[e1,e2];exact⟨λx=>(by cases x),λx=>(by cases x)⟩
 cases ms with
 |calm=>exact h
 |wg Wg qs ph=>
  obtain⟨Xb,sm0,hw,hM⟩:=h.cnt;refine⟨h.pb,h.sz,h.few,λm f hf=>⟨(st _).1.trans (h.I m f hf).1,λx=>(st _).2.2.1.trans ((h.I m f hf).2 λy=>x ((wk _).2 y))⟩,λm hm=>⟨λx=>?_,λx=>?_⟩,h.nr.app λop cK=>hu op cK _,Xb,sm0,hw,?_⟩
  .rw[(st _).2.1,(st _).2.2.1];exact(h.rl m hm).1 ((wk _).1 x)
  .obtain⟨p,q1,q2,q3,q4⟩:=(h.rl m hm).2 λy=>x ((wk _).2 y);exact⟨p,(st _).2.1.trans q1,BYT,by rw[act?_old q2];exact q3,(heard_old q2).2 q4⟩
  .by_cases hi:n0<=i/\i-n0<qs.length
   .have e:i=n0+(i-n0):=BYO;have si:(D (n0+(i-n0))).st=.quit d:=by rw[<-e];exact dI
    have h5:=hM.same hi.2 (s:=.quit d') (by rw[si];rfl) (λ_=>rfl) (λ_=>⟨d',rfl⟩) (λx=>by rw[si]at x;rcases x with x|x<;>cases x) (λx=>by rw[si]at x;cases x)
    have e2:(λm=>(put D i κ (n0+m)).st)=put (λk=>(D (n0+k)).st) (i-n0) (.quit d'):=by
     rw[<-h2,<-H7 D n0 (i-n0) κ,<-e]
    rw[e2];exact h5
   .have key:∀m,m<qs.length->(put D i κ (n0+m)).st=(D (n0+m)).st:=λm hm=>by rw[cC D κ BYO]
    have cn:CN (λm=>(put D i κ (n0+m)).st) qs.length=CN (λm=>(D (n0+m)).st) qs.length:=ConcN.sumTo_congr λm hm=>by simp only[key m hm]
    cases hM with
    |opn q1 q2 q3=>exact .opn (q1.trans cn.symm) q2 λm hm=>by rw[key m hm];exact q3 m hm
    |reg q1 q2 q3=>exact .reg (q1.trans cn.symm) (λm hm=>by rw[key m hm];exact q2 m hm) q3
    |last L q1 q2 q3=>exact .last L q1 (by rw[key L q1];exact q2) λm hm hL=>by rw[key m hm];exact q3 m hm hL
    |rJ L q1 q2 q3=>exact .rJ L q1 (by rw[key L q1];exact q2) λm hm hL=>by rw[key m hm];exact q3 m hm hL
    |sema q1=>exact .sema λm hm=>by rw[key m hm];exact q1 m hm
    |fin q1 q2=>exact .fin q1 λm hm=>by rw[key m hm];exact q2 m hm
 |ch qs nx vs got=>
  refine⟨h.sz,h.le,h.gt,h.nx,h.AJ,λm r Q hm=>?_,λm hm=>?_⟩
  .obtain⟨q1,q2,q3⟩:=h.fN m r Q hm;refine⟨q1,(st _).1.trans q2,?_⟩;have q4:=q3.move (w':=w) (u:=u) rfl;generalize vs[m]?=o at q4;rcases(st (n0+m)).2.2.2 with e|⟨d,d',e1,e2⟩
   .exact q4.same e (st _).2.1 (st _).2.2.1
   .cases q4 with
    |work a=>rw[e1]at a;cases a
    |iG a=>rw[e1]at a;cases a
    |took a=>rw[e1]at a;cases a
    |shut a b c d e f g=>exact .shut e2 ((st _).2.2.1.trans b) ((st _).2.1.trans c) d e f g
    |gone a b c d e f g=>exact .gone e2 ((st _).2.2.1.trans b) ((st _).2.1.trans c) d e f g
  .obtain⟨⟨d,q1⟩,p,q2,q3⟩:=h.acq m hm;refine⟨?_,p,(st _).2.1.trans q2,q3.app u⟩;rcases(st (n0+m)).2.2.2 with e|⟨_,d',_,e2⟩
   .exact⟨d,e.trans q1⟩
   .exact⟨d',e2⟩
def H8{e:Event}(h:e.mute=true):MemAct.ofEvent e=.mark .disable\/MemAct.ofEvent e=.mark .enable:=by
 obtain⟨loc,wr,sy⟩:=e;cases loc<;>simp_all[Event.mute]
 rename_i m;cases m<;>simp_all[MemAct.ofEvent]
def H9(h:Core P lo ty gs w t n0 D Pb S R d0)(hP:mC ty ms n0 gs.size D w t Pb)(ha:gs[0]?=some a)(hi:0<i)(hg:gs[i]?=some gi)(hr:gi.status=.running):
  (∃dL w' u κ a',runT P (crowd gs w sl) i=(.next (crowd dL w' sl),u)/\dL.size=gs.size/\dL[0]?=some a'/\κ.ρ.lt (D i).ρ/\Core P lo ty dL w' (t++u) n0 (put D i κ) Pb S R d0/\mC ty ms n0 gs.size (put D i κ) w' (t++u) Pb/\bZ (S.or R) w w'/\
   (a'=a\/a'=a.again w')/\(a'=a.again w' \/∀Wg qs ph,ms=.wg Wg qs ph->∀st,WgAt ty Wg w st 0->∃Mq,WgAt ty Wg w' Mq 0)/\
   ∀qs nx vs got,ms=.ch qs nx vs got->∀(m r:Nat) Q,qs[m]?=some (r,Q)->(put D i κ (n0+m)).st=(D (n0+m)).st\/(a'=a.again w'/\∃cap buf s rc tm,w'.heap[r]?=some (.chan cap buf true s rc tm))\/∃d d',(D (n0+m)).st=.quit d/\(put D i κ (n0+m)).st=.quit d')\/
  ∃qs nx vs got,ms=.ch qs nx vs got/\Live n0 gs.size i/\Sends P lo ty gs w t n0 D Pb S R d0 qs nx vs i gi:=by
 have dD:=(aCH.1 hg).1;have wk:∀(g':Goroutine) (w':World),g'.status=.running\/g'.status=.finished->((gs.map (Go.Conc.woken P gi g' w')).setIfInBounds i g')[0]?=some (if mayWake P gi=true then a.again w' else a):=λg' w' hs=>by
  rw[ConcN.get_map_set _ _ _ _ BYO,ha];simp only[aDo,Go.Conc.woken];rcases hs with hs|hs<;>simp[hs]
 have run:∀{g' w' es},stepG P false gi w=.go g' w' es->runT P (crowd gs w sl) i=(.next (crowd ((gs.map (Go.Conc.woken P gi g' w')).setIfInBounds i g') w' sl),MemOp.ofEvents i gi.frame.fn gi.frame.place es):=λhs=>
  runT_crowd_go (P:=P) (sl:=sl) (i:=i) hg (by rw[show(i==0)=false by rw[beq_eq_false_iff_ne];omega];exact hs)
 have pick:∀(w':World),((if mayWake P gi=true then a.again w' else a)=a\/(if mayWake P gi=true then a.again w' else a)=a.again w'):=λw'=>by split;exact .inr rfl;exact .inl rfl
 by_cases hq:∃d,(D i).st=.quit d
 .obtain⟨d,hd⟩:=hq;obtain⟨g',es,ρ,h1,h2,h3,h4⟩:=h.leave hi hg hr hd;obtain⟨x,hx,hK,_⟩:=h4.fN i hi (by simpa using dD);rw[ConcN.get_map_set_same _ _ _ dD]at hx;cases hx;refine .inl ⟨_,_,_,_,_,run h1,BYS,wk _ _ hK.status,h3,h4,hP.leave (κ:={D i with ρ:=ρ,st:=.quit (deafBehind d es),w:=w}) hd rfl rfl rfl rfl (λop cK a e=>?_),bZ.refl _ _,pick w,.inr λWg qs ph _ st dI=>⟨st,dI⟩,λqs nx vs got _ m r Q _=>?_⟩
  .obtain⟨e',he',rfl⟩:=mem_ofEvents cK;rcases H8 (h2 e' he') with e1|e1<;>rw[e1]at e<;>cases e
  .by_cases e:n0+m=i
   .rw[e,bC];exact .inr (.inr ⟨_,_,hd,rfl⟩)
   .exact .inl (by rw[cC D _ e])
 .have gq:∀d,(D i).st≠.quit d:=λd e=>hq ⟨d,e⟩;have hl:Live n0 gs.size i:=⟨by
   rcases aCD i n0 with h1|h1
   .exact absurd (h.old i hi h1) hq
   .exact h1,dD⟩
  cases ms with
  |calm=>have e:n0=gs.size:=hP;have:=hl.1;omega
  |wg Wg qs ph=>
   obtain⟨g',w',es,κ,h1,h2,h7,h3,h4,h5,h6⟩:=aAU h hP hl hg gq;refine .inl ⟨_,_,_,κ,_,run h1,BYS,wk _ _ h5,h2,h3,h4,h7,pick w',?_,λ_ _ _ _ e=>by cases e⟩;rcases h6 with h6|h6
   .exact .inr λWg' qs' zr e st dI=>by cases e;exact h6 st dI
   .exact .inl (by rw[if_pos h6])
  |ch qs nx vs got=>
   rcases aAV h hP hl hg gq with⟨g',w',es,κ,h1,h2,h7,h3,h4,h5,h6⟩|hs
   .refine .inl ⟨_,_,_,κ,_,run h1,BYS,wk _ _ h5,h2,h3,h4,h7,pick w',.inr λ_ _ _ e=>(by cases e),λqs' sq fp aCx e m r Q hm=>?_⟩;cases e;rcases h6 m r Q hm with h9|⟨h9,h8⟩
    .exact .inl h9
    .exact .inr (.inl ⟨by rw[if_pos h9],h8⟩)
   .exact .inr ⟨qs,nx,vs,got,rfl,hl,hs⟩
end
open Go.ConcR (KK WgAt stA smA rd wr)
open Go.ConcN (sumTo sumTo_congr)
variable{E:Nat->KS}{q:Nat}{st sm:Int}{g':Goroutine}
def AL.open{ph:xR}(h:AL E q ph st sm)(hp:ph=.op\/ph=.pend\/ph=.pe\/∃bd,ph=.df bd):
  ph.isOpen (CN E q)/\(∀m,m<q->(E m).opn=true)/\st=((CN E q+ph.pd:Nat):Int)*KK/\sm=0:=by
 cases h with
 |opn h1 h2 h3=>subst h1;exact⟨h2,h3,rfl,rfl⟩
 |reg=>rcases hp with h|h|h|⟨_,h⟩<;>cases h
 |last=>rcases hp with h|h|h|⟨_,h⟩<;>cases h
 |rJ=>rcases hp with h|h|h|⟨_,h⟩<;>cases h
 |sema=>rcases hp with h|h|h|⟨_,h⟩<;>cases h
 |fin h1=>rcases h1 with rfl|rfl|rfl<;>rcases hp with h|h|h|⟨_,h⟩<;>cases h
def AL.done{ph:xR}(h:AL E q ph st sm)(hp:ph=.sm\/ph=.TQ\/ph=.Hs):(∀m,m<q->(E m).Tg)/\st=0/\sm=0:=by
 cases h with
 |fin h1 h2=>exact⟨h2,rfl,rfl⟩
 |opn h1 h2=>rcases hp with rfl|rfl|rfl<;>exact h2.elim
 |_=>rcases hp with h|h|h<;>cases h
def AL.up{ph:xR}(h:AL E q ph st sm)(hs:sm=1):∀m,m<q->(E m).Tg:=by
 cases h with
 |sema h1=>exact h1
 |_=>cases hs
def I0(h0:CN E q=0)(ho:∀m,m<q->(E m).opn=true):∀m,m<q->(E m).Tg:=λm hm=>by
 have h1:(E m).cnt<=0:=h0▸Hv hm;have h2:=ho m hm;cases hE:E m<;>rw[hE]at h1 h2<;>simp[KS.cnt,KS.opn]at h1 h2
 exact⟨_,rfl⟩
structure aEq(ty:TypeId)(ms:MS)(w:World)(g a:Goroutine):Prop where
 a:a={g with status:=.blocked,offers:=none}
 m:∃Wg qs st,ms=.wg Wg qs .reg/\WgAt ty Wg w st 0
def aAW(K:World->Value->MS->PS->PS->Goroutine->World->Prop)(ms:MS)(S R:PS)(n0:Nat)(D:Nat->oF)(w:World)(g a:Goroutine):Prop:=
 ∃(qs:QL) (vs:List Value) (got:Bool) (r:Nat) (Q:Value->World->Prop) (z:Value) (idx:Nat),ms=.ch qs none vs got/\a=parked (core g) #[rcase r z] (.recv true)/\qs[idx]?=some (r,Q)/\
  ((got=false/\idx=vs.length/\(D (n0+idx)).st=.work/\∀v w2,bZ (S.or R) w w2->(∃w3,Q v w3)->K w2 v (.ch qs none (vs++[v]) true) S R (served (core g) (.tuple #[v,.bool true])) w2)\/(got=true/\idx+1=vs.length/\∃v,(D (n0+idx)).st=.iG v))
section
variable{P:Program}{lo:Nat}{ty:TypeId}{Post:Value->World->Prop}{K:Option (World×Value)->MS->PS->PS->Goroutine->World->Prop}{gs:Array Goroutine}{w':World}{n0:Nat}{D:Nat->oF}{Pb:Nat->Prop}{S R:PS}{d0:Nat}{a g:Goroutine}{sl:Option (Nat×Nat)}{ms:MS}
def Nx(P:Program)(lo:Nat)(ty:TypeId)(K:Option (World×Value)->MS->PS->PS->Goroutine->World->Prop)(gs:Array Goroutine)(w:World)(t:Trace)(sl:Option (Nat×Nat)):Prop:=
 ∃dL w' u n1 D' Mj Xv S' R' g' o,runT P (crowd gs w sl) 0=(.next (crowd dL w' sl),u)/\Core P lo ty dL w' (t++u) n1 D' Mj S' R' (MS.mute Xv)/\mC ty Xv n1 dL.size D' w' (t++u) Mj/\dL[0]?=some g'/\K o Xv S' R' g' w'
def yQ(h:Core P lo ty gs w t n0 D Pb S R d0)(x:Goroutine)(hA:∀V:PS,(∀b x,Pb b->¬V b x)->bZ V w w')(hP:∀b,Pb b->JI lo ty w' b){l:List MemOp}
  (hl:∀op∈l,op.g<gs.size/\op.act.touch?=none/\op.act.low w.heap.size/\op.act≠.mark .disable/\op.act≠.mark .enable):Core P lo ty (gs.setIfInBounds 0 x) w' (t++l.toArray) n0 D Pb S R d0:=by
 have dk:∀j,Deaf (t++l.toArray) j=Deaf t j:=λj=>ConcN.Deaf_still t j _ λop cK=>(hl op (by simpa using cK)).2.2.2;have hz:w.heap.size<=w'.heap.size:=(hA (λ_ _=>False) λ_ _ _ x=>x).size;have h1:=aQX l h.ti λop cK=>⟨(hl op cK).1,(hl op cK).2.1,(hl op cK).2.2.1⟩;exact h.main BYS (λj hj=>by rw[aCM BYO]) (λV _ _ hV=>hA V hV) hz (λ_ _ x=>.inl x) (λb hb=>⟨.inl hb,λx=>h.JK b x hb⟩)
  (h1.more hz (λ_ x=>x) (λ_ x=>.inl x) (λl hl=>Loc.low_mono hz (h1.shl l hl)) (λi hi l hl=>TP (h.vG i hi) (fZ.2 hl))) ((dk 0).trans h.deaf0) (λj hj wY=>(dk j).trans (h.vH j hj wY)) hP
def JO{u:Trace}{p:Nat}{y:MemOp}(hy:y.g=0)(hn:Notices (u++ #[y]) p u.size)(hp:(u++ #[y]).heard p)(hq:Deaf u 0=0):Knows (u++ #[y]) 0 p:=
 ⟨u.size,y,BYS,hy,.inr (.single (.inr ⟨hn,hp,yP (by rw[hy];exact hq)⟩))⟩
def ZJ(h:Core P lo ty gs w t n0 D Pb S R d0)(ha:gs[0]?=some a)(hs:DG a g){x:Obj}(EK:stepG P true g w=.go g' (w.alloc x) #[])(hx:JI lo ty (w.alloc x) w.heap.size):
  ∃dL,runT P (crowd gs w sl) 0=(.next (crowd dL (w.alloc x) sl),#[])/\dL.size=gs.size/\dL[0]?=some g'/\Core P lo ty dL (w.alloc x) t n0 D (λb=>Pb b\/b=w.heap.size) S R d0:=by
 have old:∀b,b<w.heap.size->(w.alloc x).heap[b]?=w.heap[b]?:=λb hb=>by
  show(w.heap.push x)[b]?=_;rw[aDK,if_neg BYO]
 have hz:(w.alloc x).heap.size=w.heap.size+1:=aHe _;have nA:=h.pos;have h1:=TV (sl:=sl) (S':=S) (Mj:=λb=>Pb b\/b=w.heap.size) (WM:=d0) h ha hs EK (λV _ hb _=>⟨λb hv=>old b (hb _ _ hv),λb o hv c T fz hc=>⟨c,(old b (hb _ _ hv)).trans hc,rfl,rfl⟩,by rw[hz];omega,rfl,rfl,rfl⟩) (by rw[hz];omega) (λ_ _ x=>.inl x)
  (λb hb=>⟨hb.imp id λe=>BYO,λy hy=>by
   rcases hb with hb|rfl
   .exact h.JK b y hb hy
   .have:=h.Ht _ _ hy;omega⟩) (by
   rw[show MemOp.ofEvents 0 a.frame.fn a.frame.place #[]= #[] from rfl,aD7];exact h.ti.more (by rw[hz];omega) (λl hl=>by cases l<;>first|exact .inl hl|exact hl.elim) (λl hl=>by
    cases l with
    |cell b=>
     rcases hl with hl|hl
     .exact .inl hl
     .exact .inr (by show¬b.block<_;omega)
    |obj r=>
     rcases hl with hl|hl
     .exact .inl hl
     .exact .inr (by show¬r<_;omega)
    |_=>exact hl.elim) (λl hl=>by
    rw[hz];cases l with
    |cell b=>
     rcases hl with hl|hl
     .exact aIe (h.low hl)
     .show b.block<_;omega
    |obj r=>
     rcases hl with hl|hl
     .exact aIe (h.low hl)
     .show r<_;omega
    |_=>exact hl.elim) (λi hi l hl=>TP (h.vG i hi) (fZ.2 hl))) rfl (λb hb=>by
   rcases hb with hb|rfl
   .rcases(h.qV b hb).2 with⟨a1,a2,a3⟩|⟨a1,a2,a3,a4,a5,a6,a7⟩
    .exact⟨(h.qV b hb).1,.inl ⟨a1,a2,(old b (h.low hb)).trans a3⟩⟩
    .exact⟨(h.qV b hb).1,.inr ⟨a1,a2,a3,a4,a5,a6,(old b (h.low hb)).trans a7⟩⟩
   .exact hx)
 obtain⟨dL,q1,q2,q3,q4⟩:=h1;rw[show MemOp.ofEvents 0 a.frame.fn a.frame.place #[]= #[] from rfl]at q1 q4;exact⟨dL,q1,q2,q3,by simpa using q4⟩
def QG(h:Core P lo ty gs w t n0 D Pb S R d0)(h0:d0=0)(ha:gs[0]?=some a)(hs:DG a g){c:Goroutine}{S' R' Sc Rc:PS}{I:KI}{ρ:iB}(EK:stepG P true g w=.spawn g' c w #[])(hG:NY S R S' R' Sc Rc)(hK:FB P ty I ρ .work Sc Rc c w):
  ∃dL u,runT P (crowd gs w sl) 0=(.next (crowd dL w sl),u)/\dL.size=gs.size+1/\dL[0]?=some g'/\Core P lo ty dL w (t++u) n0 (put D gs.size ⟨I,.work,ρ,Sc,Rc,w,none,none⟩) Pb S' R' d0/\(∀op∈u,∀a,op.act≠.mark (.release a)):=by
 have hp:=h.pos;have lV:=runT_crowd_spawn (P:=P) (sl:=sl) (i:=0) ha (show stepG P (0==0) a w=_ from(hs.step true w).trans EK);have e:((MemOp.ofEvents 0 a.frame.fn a.frame.place #[]).push {g:=0,fn:=a.frame.fn,pos:=a.frame.place,act:=.go gs.size}|>.push {g:=gs.size,fn:=c.frame.fn,pos:=a.frame.place,act:=.start})= #[{g:=0,fn:=a.frame.fn,pos:=a.frame.place,act:=.go gs.size},{g:=gs.size,fn:=c.frame.fn,pos:=a.frame.place,act:=.start}]:=rfl;rw[e]at lV;refine⟨_,_,lV,BYS,?_,h.fork (κ:=⟨I,.work,ρ,Sc,Rc,w,none,none⟩) hG BYS ?_ (λj hj wY=>?_) hK rfl rfl rfl rfl ⟨rfl,rfl⟩ ⟨rfl,rfl⟩ h0,λop cK a=>?_⟩
 .rw[aDK,if_neg BYT,aCr BYO]
 .rw[aDK,if_pos BYS]
 .rw[aDK,if_neg BYT,aCM BYO]
 .simp at cK;rcases cK with rfl|rfl<;>simp
def mD{fn:FuncId}{pos:String}{es:Array Event}{b:Addr}(he:∀e∈es,e.loc≠.mark (.release b)):∀op∈MemOp.ofEvents 0 fn pos es,op.act≠.mark (.release b):=λop cK e=>by
 obtain⟨x,hx,rfl⟩:=mem_ofEvents cK;exact he x hx (ConcR.loc_of_ofEvent e)
def kx{Wg:Nat}{qs:List (World->Prop)}{ph:xR}(h:Core P lo ty gs w t n0 D Pb S R (MS.wg Wg qs ph).mute)(hI:Ob ty Wg qs ph n0 gs.size D w t Pb)(ha:gs[0]?=some a)(hs:DG a g)(dI:fO P lo ty Post K (.wg Wg qs ph) S R g w):
  Nx P lo ty K gs w t sl\/∃dL a',runT P (crowd gs w sl) 0=(.next (crowd dL w sl),#[])/\dL.size=gs.size/\dL[0]?=some a'/\Core P lo ty dL w t n0 D Pb S R (MS.wg Wg qs ph).mute/\aEq ty (.wg Wg qs ph) w g a':=by
 obtain⟨st,sm,hw,hM⟩:=hI.cnt;have hAs:∀(o:Nat) (v:Value) (V:PS),(∀b x,Pb b->¬V b x)->bZ V w (w.setCell ⟨Wg,o,none⟩ v):=λo v V hV=>HD λx=>hV Wg x hI.pb;have cle:=vx (E:=λm=>(D (n0+m)).st) (q:=qs.length);cases dI with
 |own e1 e3 e4=>
  obtain⟨⟨dL,q1,q2,q3,q4⟩,q5⟩:=JN (sl:=sl) h ha hs e1 e3;exact .inl ⟨dL,_,_,n0,D,Pb,_,_,_,_,none,q1,q4,by rw[q2];exact hI.main (λop cK=>(e3.ops cK).2.2.2.2 _) ⟨st,sm,hw.of_block (q5 Wg hI.pb),hM⟩,q3,e4⟩
 |AJ e1 e2 e3=>
  obtain⟨dL,q1,q2,q3,q4⟩:=iH (sl:=sl) (WM:=1) h ha hs e1 (λV _=>bZ.refl V w) (λe he=>by simp at he;subst he;exact .inl ⟨_,rfl,rfl,trivial⟩) rfl h.qV;obtain⟨h1,h2,h3,h4⟩:=hM.open (.inl rfl);refine .inl ⟨dL,_,_,n0,D,Pb,_,_,_,_,none,q1,q4,?_,q3,e3⟩;rw[q2];refine hI.main (mD λe he=>by simp at he;subst he;simp[ConcR.mk]) ⟨st,sm,hw,?_⟩;rw[h3,h4];exact .opn (ph:=.df qs.length) rfl cle h2
 | @add _ _ _ g' _ _ bd v _ e0 e1 e2 e3=>
  obtain⟨h1,h2,h3,h4⟩:=hM.open (.inr (.inr (.inr ⟨_,rfl⟩)));obtain⟨u1,_⟩:=hw.unique e0;have hv:v=CN (λm=>(D (n0+m)).st) qs.length:=by simp only[xR.pd,KK]at h3 u1;omega
  have BU:=e0.setSt ((v+1:Nat)*KK);obtain⟨dL,q1,q2,q3,q4⟩:=iH (sl:=sl) (WM:=1) h ha hs e1 (λV hV=>hAs _ _ V hV) (λe he=>by simp at he;rcases he with rfl|rfl;exact .inr ⟨_,.inl rfl,hI.pb⟩;exact .inr ⟨_,.inr (.inl rfl),hI.pb⟩) rfl (wL h.qV ⟨_,_,BU⟩);refine .inl ⟨dL,_,_,n0,D,Pb,_,_,_,_,none,q1,q4,?_,q3,e3⟩;rw[q2];refine hI.main (mD λe he=>by simp at he;rcases he with rfl|rfl<;>simp[rd,wr]) ⟨_,_,BU,?_⟩
  exact .opn (ph:=.pend) hv trivial h2
 |H6 e0 e1 e2 e3=>
  rcases e0 with⟨rfl,rfl⟩|⟨rfl,rfl⟩
  .obtain⟨dL,q1,q2,q3,q4⟩:=iH (sl:=sl) (WM:=0) h ha hs e1 (λV _=>bZ.refl V w) (λe he=>by simp at he;subst he;exact .inl ⟨_,rfl,rfl,trivial⟩) rfl h.qV;obtain⟨h1,h2,h3,h4⟩:=hM.open (.inr (.inl rfl));refine .inl ⟨dL,_,_,n0,D,Pb,_,_,_,_,none,q1,q4,?_,q3,e3⟩;rw[q2];refine hI.main (mD λe he=>by simp at he;subst he;simp[ConcR.mk]) ⟨st,sm,hw,?_⟩;rw[h3,h4];exact .opn (ph:=.pe) rfl trivial h2
  .obtain⟨dL,q1,q2,q3,q4⟩:=iH (sl:=sl) (WM:=0) h ha hs e1 (λV _=>bZ.refl V w) (λe he=>by simp at he;subst he;exact .inl ⟨_,rfl,rfl,trivial⟩) rfl h.qV;obtain⟨h2,h3,h4⟩:=hM.done (.inr (.inl rfl));refine .inl ⟨dL,_,_,n0,D,Pb,_,_,_,_,none,q1,q4,?_,q3,e3⟩;rw[q2];refine hI.main (mD λe he=>by simp at he;subst he;simp[ConcR.mk]) ⟨st,sm,hw,?_⟩;rw[h3,h4];exact .fin (.inr (.inr rfl)) h2
 | @said _ _ _ g' _ _ _ _ m e0 e1 e2=>
  have hm:∀a,m≠.release a:=λa e=>by rcases e0 with rfl|rfl<;>cases e
  obtain⟨dL,q1,q2,q3,q4⟩:=iH (sl:=sl) (WM:=(MS.wg Wg qs ph).mute) h ha hs e1 (λV _=>bZ.refl V w) (λe he=>by
   simp at he;subst he;rcases e0 with rfl|rfl
   .exact .inr ⟨smA Wg,.inr (.inr (.inl rfl)),hI.pb⟩
   .exact .inr ⟨smA Wg,.inr (.inr (.inr rfl)),hI.pb⟩) (deafBehind_still (λe he=>by simp at he;subst he;rcases e0 with rfl|rfl<;>simp[ConcR.mk]) _) h.qV
  refine .inl ⟨dL,_,_,n0,D,Pb,.wg Wg qs ph,_,_,_,none,q1,q4,?_,q3,e2⟩;rw[q2];exact hI.main (mD λe he=>by simp at he;subst he;simp[ConcR.mk,hm]) ⟨st,sm,hw,hM⟩
 | @go _ _ S' R' Sc Rc _ g' c _ _ _ Q e1 e2 e3 e4 e5 e6=>
  obtain⟨ρ,hK⟩:=e5;obtain⟨dL,u,q1,q2,q3,q4,q5⟩:=QG (sl:=sl) h rfl ha hs e1 e3 hK;obtain⟨h1,h2,h3,h4⟩:=hM.open (.inr (.inr (.inl rfl)));refine .inl ⟨dL,_,_,n0,_,Pb,.wg Wg (qs++[Q]) .op,_,_,_,none,q1,q4,?_,q3,e6⟩;have oC:=hI.sz;have dd:∀m,m<qs.length->put D gs.size ⟨.wg Wg Q,.work,ρ,Sc,Rc,w,none,none⟩ (n0+m)=D (n0+m):=λm hm=>cC D _ BYO;have dn:put D gs.size ⟨.wg Wg Q,.work,ρ,Sc,Rc,w,none,none⟩ (n0+qs.length)=⟨.wg Wg Q,.work,ρ,Sc,Rc,w,none,none⟩:=by rw[<-oC,bC]
  have cnn:CN (λm=>(put D gs.size ⟨.wg Wg Q,.work,ρ,Sc,Rc,w,none,none⟩ (n0+m)).st) (qs++[Q]).length=CN (λm=>(D (n0+m)).st) qs.length+1:=by
   unfold CN;rw[aBh];show sumTo qs.length (λm=>(put D gs.size ⟨.wg Wg Q,.work,ρ,Sc,Rc,w,none,none⟩ (n0+m)).st.cnt)+(put D gs.size ⟨.wg Wg Q,.work,ρ,Sc,Rc,w,none,none⟩ (n0+qs.length)).st.cnt=_;rw[dn]
   congr 1
   exact sumTo_congr λm hm=>by rw[dd m hm]
  refine⟨hI.pb,by rw[q2];simp;omega,BYT,λm f hf=>?_,λm hm=>?_,hI.nr.app λop cK=>q5 op cK _,st,sm,hw,?_⟩
  .rcases aCD m qs.length with hm|hm
   .rw[dd m hm];rw[aDe hm]at hf;exact hI.I m f hf
   .rw[aDt hm]at hf;have hm0:m=qs.length:=by
     have:=(aDh.1 hf).1;simp at this;omega
    subst hm0;rw[dn];simp at hf;subst hf;exact⟨rfl,λx=>absurd rfl x⟩
  .rcases aCD m qs.length with di|di
   .rw[dd m di];obtain⟨k1,k2⟩:=hI.rl m di;exact⟨k1,λx=>let ⟨p,p1,p2,p3,p4⟩:=k2 x;⟨p,p1,BYT,by rw[act?_old p2];exact p3,(heard_old p2).2 p4⟩⟩
   .have:m=qs.length:=by simp at hm;omega
    subst this;rw[dn];exact⟨λ_=>⟨rfl,rfl⟩,λx=>absurd rfl x⟩
  .rw[h3,h4];have:((CN (λm=>(D (n0+m)).st) qs.length+xR.pe.pd:Nat):Int)=((CN (λm=>(D (n0+m)).st) qs.length+1+xR.op.pd:Nat):Int):=rfl;rw[this,<-cnn];refine .opn (ph:=.op) rfl trivial λm hm=>?_;rcases aCD m qs.length with di|di
   .rw[dd m di];exact h2 m di
   .have:m=qs.length:=by simp at hm;omega
    subst this;rw[dn];rfl
 | @load _ _ _ g' _ _ bd v zr _ e0 e1 e2 e3 e4=>
  obtain⟨dL,q1,q2,q3,q4⟩:=iH (sl:=sl) (WM:=1) h ha hs e1 (λV _=>bZ.refl V w) (λe he=>by simp at he;subst he;exact .inr ⟨_,.inl rfl,hI.pb⟩) rfl h.qV;obtain⟨h1,h2,h3,h4⟩:=hM.open (.inr (.inr (.inr ⟨_,rfl⟩)));obtain⟨u1,_⟩:=hw.unique e0;have hv:v=CN (λm=>(D (n0+m)).st) qs.length:=by simp only[xR.pd,KK]at h3 u1;omega
  have hn:=mD (fn:=a.frame.fn) (pos:=a.frame.place) (es:= #[rd (stA Wg)]) (b:=stA Wg) λe he=>by simp at he;subst he;simp[rd]
  rcases e4 with rfl|⟨rfl,rfl⟩
  .refine .inl ⟨dL,_,_,n0,D,Pb,_,_,_,_,none,q1,q4,?_,q3,e3⟩;rw[q2];refine hI.main hn ⟨st,sm,hw,?_⟩;rw[h3,h4];exact .opn (ph:=.df v) rfl (Nat.le_of_eq hv.symm) h2
  .refine .inl ⟨dL,_,_,n0,D,Pb,_,_,_,_,none,q1,q4,?_,q3,e3⟩;rw[q2];refine hI.main hn ⟨st,sm,hw,?_⟩;rw[h3,h4,<-hv];have:=AL.fin (E:=λm=>(D (n0+m)).st) (q:=qs.length) (ph:=.TQ) (.inr (.inl rfl)) (I0 hv.symm h2);simpa[xR.pd] using this
 | @vv _ _ _ g' _ _ bd v _ e0 e00 e1 e2 e3=>
  obtain⟨h1,h2,h3,h4⟩:=hM.open (.inr (.inr (.inr ⟨_,rfl⟩)));obtain⟨u1,_⟩:=hw.unique e00;have hv:v=CN (λm=>(D (n0+m)).st) qs.length:=by simp only[xR.pd,KK]at h3 u1;omega
  have BU:=e00.setSt (v*KK+1);obtain⟨dL,q1,q2,q3,q4⟩:=iH (sl:=sl) (WM:=1) h ha hs e1 (λV hV=>hAs _ _ V hV) (λe he=>by simp at he;rcases he with rfl|rfl;exact .inr ⟨_,.inl rfl,hI.pb⟩;exact .inr ⟨_,.inr (.inl rfl),hI.pb⟩) rfl (wL h.qV ⟨_,_,BU⟩);refine .inl ⟨dL,_,_,n0,D,Pb,_,_,_,_,none,q1,q4,?_,q3,e3⟩;rw[q2];exact hI.main (mD λe he=>by simp at he;rcases he with rfl|rfl<;>simp[rd,wr]) ⟨_,_,BU,.reg hv h2 e0⟩
 |ZG e0 e1=>
  obtain⟨dL,q1,q2,q3,q4⟩:=iH (sl:=sl) (WM:=1) h ha hs e1 (λV _=>bZ.refl V w) (λe he=>by simp at he) rfl h.qV;rw[DF]at q1 q4;have q5:Core P lo ty dL w t n0 D Pb S R 1:=by simpa using q4
  exact .inr ⟨dL,_,q1,q2,q3,q5,rfl,_,_,_,rfl,e0⟩
 |ZH e0 e1 e2 e3=>
  have BU:=e0.setSm 0;obtain⟨dL,q1,q2,q3,q4⟩:=iH (sl:=sl) (WM:=1) h ha hs e1 (λV hV=>hAs _ _ V hV) (λe he=>by
   simp[semEvents]at he;rcases he with rfl|rfl|rfl|rfl
   .exact .inl ⟨_,rfl,rfl,trivial⟩
   .exact .inr ⟨smA Wg,.inl rfl,hI.pb⟩
   .exact .inr ⟨smA Wg,.inr (.inl rfl),hI.pb⟩
   .exact .inl ⟨_,rfl,rfl,trivial⟩) rfl (wL h.qV ⟨_,_,BU⟩)
  refine .inl ⟨dL,_,_,n0,D,Pb,_,_,_,_,none,q1,q4,?_,q3,e3⟩;rw[q2];refine hI.main (mD λe he=>by simp[semEvents]at he;rcases he with rfl|rfl|rfl|rfl<;>simp) ⟨_,_,BU,.fin (.inl rfl) ?_⟩
  exact hM.up (hw.unique e0).2
 |FD e1 e2 e3=>
  obtain⟨dL,q1,q2,q3,q4⟩:=iH (sl:=sl) (WM:=1) h ha hs e1 (λV _=>bZ.refl V w) (λe he=>by simp at he;subst he;exact .inr ⟨_,.inl rfl,hI.pb⟩) rfl h.qV;obtain⟨h2,h3,h4⟩:=hM.done (.inl rfl);refine .inl ⟨dL,_,_,n0,D,Pb,_,_,_,_,none,q1,q4,?_,q3,e3⟩;rw[q2];refine hI.main (mD λe he=>by simp at he;subst he;simp[rd]) ⟨st,sm,hw,?_⟩;rw[h3,h4];exact .fin (.inr (.inl rfl)) h2
 |acq e1 e2 e3=>
  obtain⟨dL,q1,q2,q3,q4⟩:=iH (sl:=sl) (WM:=0) h ha hs e1 (λV _=>bZ.refl V w) (λe he=>by simp at he;subst he;exact .inl ⟨_,rfl,rfl,h.low hI.pb⟩) rfl h.qV;obtain⟨h2,h3,h4⟩:=hM.done (.inr (.inr rfl));rw[AM]at q1 q4;have oC:=hI.sz;have Qw:=hI.nr.app (u:= #[({g:=0,fn:=a.frame.fn,pos:=a.frame.place,act:=.mark (.acquire (stA Wg))}:MemOp)]) λop cK=>by simp at cK;subst cK;simp
  have kq:=q4.calm λi hi=>by
   rw[q2]at hi;obtain⟨m,rfl⟩:∃m,i=n0+m:=⟨i-n0,by have:=hi.1;omega⟩;have hm:m<qs.length:=by have:=hi.2;omega
   obtain⟨d,hd⟩:=h2 m hm;have BS:(D (n0+m)).st=.quit d:=hd;obtain⟨p,p1,p2,p3,p4⟩:=(hI.rl m hm).2 (by rw[BS];simp);refine⟨⟨d,BS⟩,p,p1,JO rfl (.marked p2 (.inr (by rw[act?_old p2];exact p3)) (by simp[Trace.act?]) (λk _ _=>Qw k)) ((heard_old p2).2 p4) h.deaf0⟩
  refine .inl ⟨dL,_,_,dL.size,D,Pb,.calm,_,_,_,none,q1,kq,rfl,q3,e3 λf hf=>?_⟩;obtain⟨m,hm⟩:=List.mem_iff_getElem?.1 hf;have hml:=(aDh.1 hm).1;obtain⟨d,hd⟩:=h2 m hml;have BS:(D (n0+m)).st=.quit d:=hd;exact h.fin (n0+m) ⟨BYO,BYO⟩ f ((hI.I m f hm).2 (by rw[BS];simp)) w (bZ.refl _ _)
 |xS e0=>rcases e0 with⟨e0,_⟩|e0<;>cases e0
end
open Go.ConcR (KK WgAt stA smA rd wr)
section
variable{P:Program}{lo:Nat}{ty:TypeId}{Post:Value->World->Prop}{K:Option (World×Value)->MS->PS->PS->Goroutine->World->Prop}{gs:Array Goroutine}{w':World}{n0:Nat}{D:Nat->oF}{Pb:Nat->Prop}{S R:PS}{d0:Nat}{a g:Goroutine}{sl:Option (Nat×Nat)}{ms:MS}
def JP(h:Core P lo ty gs w t n0 D Pb S R 0)(ha:gs[0]?=some a)(hs:DG a g){qs:QL}(hI:NI qs none [] false n0 gs.size D w t Pb)(e1:stepG P true g w=.go g' (w.alloc (.chan 1 #[] false 0 0 false)) #[])(oP:lo<=w.heap.size)(e2:K none (.ch qs (some w.heap.size) [] false) S R g' (w.alloc (.chan 1 #[] false 0 0 false))):
  Nx P lo ty K gs w t sl:=by
 have hn:(w.alloc (.chan 1 #[] false 0 0 false)).heap[w.heap.size]?=some (.chan 1 #[] false 0 0 false):=by show(w.heap.push _)[_]?=_;simp
 obtain⟨dL,q1,q2,q3,q4⟩:=ZJ (sl:=sl) h ha hs e1 ⟨oP,.inr ⟨_,_,_,_,_,_,hn⟩⟩;have old:∀b,b<w.heap.size->(w.alloc (.chan 1 #[] false 0 0 false)).heap[b]?=w.heap[b]?:=λb hb=>by
  show(w.heap.push _)[b]?=_;rw[aDK,if_neg BYO]
 have h2:=hI.main (u:= #[]) (w':=w.alloc (.chan 1 #[] false 0 0 false)) λk hk=>old k (h.low hk);rw[aD7]at h2;refine⟨dL,_,_,n0,D,_,.ch qs (some w.heap.size) [] false,_,_,_,none,q1,by rw[aD7];exact q4,?_,q3,e2⟩;rw[q2,aD7];refine⟨h2.sz,h2.le,h2.gt,λr hr=>?_,h2.AJ,λm r Q hm=>?_,h2.acq⟩
 .cases hr;refine⟨.inr rfl,hn,λm r' Q hm e=>?_⟩;have:=h.low (hI.fN m r' Q hm).1;omega
 .obtain⟨k1,k2,k3⟩:=h2.fN m r Q hm;exact⟨.inl k1,k2,k3⟩
def ky{qs:QL}{nx:Option Nat}{vs:List Value}{got:Bool}(h:Core P lo ty gs w t n0 D Pb S R 0)(hI:NI qs nx vs got n0 gs.size D w t Pb)(ha:gs[0]?=some a)(hs:DG a g)(dI:fO P lo ty Post K (.ch qs nx vs got) S R g w):
  Nx P lo ty K gs w t sl\/∃dL a',runT P (crowd gs w sl) 0=(.next (crowd dL w sl),#[])/\dL.size=gs.size/\dL[0]?=some a'/\Core P lo ty dL w t n0 D Pb S R 0/\aAW (λw2 v=>K (some (w2,v))) (.ch qs nx vs got) S R n0 D w g a':=by
 have nA:=h.pos;have parts:∀(r:Nat) (s:Bool),partners (gs.setIfInBounds 0 ph) r s=[]:=λr s=>QF h λ_ _ x=>absurd rfl x;have one:∀{y:MemOp},(y.g<gs.size/\y.act.touch?=none/\y.act.low w.heap.size/\y.act≠.mark .disable/\y.act≠.mark .enable)->∀op∈[y],op.g<gs.size/\op.act.touch?=none/\op.act.low w.heap.size/\op.act≠.mark .disable/\op.act≠.mark .enable:=λhy op cK=>by simp at cK;rw[cK];exact hy
 have aO:∀{r:Nat} {z:Value},stepG P true g w=.comm (core g) #[rcase r z] true (.recv true) w #[]->stepG P (0==0) a w=.comm (core g) #[rcase r z] true (.recv true) w #[]:=λGN=>(hs.step true w).trans GN;have wait:∀{r:Nat} {Q:Value->World->Prop} {z:Value} {idx s rc:Nat},stepG P true g w=.comm (core g) #[rcase r z] true (.recv true) w #[]->w.heap[r]?=some (.chan 1 #[] false s rc false)->qs[idx]?=some (r,Q)->nx=none->
   ((got=false/\idx=vs.length/\(D (n0+idx)).st=.work/\∀v w2,bZ (S.or R) w w2->(∃w3,Q v w3)->K (some (w2,v)) (.ch qs none (vs++[v]) true) S R (served (core g) (.tuple #[v,.bool true])) w2)\/(got=true/\idx+1=vs.length/\∃v,(D (n0+idx)).st=.iG v))->
   ∃dL a',runT P (crowd gs w sl) 0=(.next (crowd dL w sl),#[])/\dL.size=gs.size/\dL[0]?=some a'/\Core P lo ty dL w t n0 D Pb S R 0/\aAW (λw2 v=>K (some (w2,v))) (.ch qs nx vs got) S R n0 D w g a':=λ{r Q z idx s rc} GN hc hq Rf hx=>by
  have lV:=crowd_waits (P:=P) (sl:=sl) ha (aO GN) λcc Y6=>by simp at Y6;subst Y6;exact ways_recv_none hc (parts r true)
  have h1:=yQ (w':=w) (l:=[]) h (parked (core g) #[rcase r z] (.recv true)) (λV _=>bZ.refl V w) h.qV (λop cK=>by simp at cK);refine⟨_,_,lV,BYS,by rw[aCr BYO],by simpa using h1,qs,vs,got,r,Q,z,idx,by rw[Rf],rfl,hq,hx⟩
 cases dI with
 |own e1 e3 e4=>
  obtain⟨⟨dL,q1,q2,q3,q4⟩,q5⟩:=JN (sl:=sl) h ha hs e1 e3;exact .inl ⟨dL,_,_,n0,D,Pb,.ch qs nx vs got,_,_,_,none,q1,q4,by rw[q2];exact hI.main q5,q3,e4⟩
 |xS e0 e1 e2 e3 oP e4=>
  subst e3;rcases e0 with⟨e0,_⟩|e0
  .cases e0
  .cases e0;exact .inl (JP h ha hs hI e1 oP e4)
 | @ZI _ _ S' R' Sc Rc _ g' c _ r _ Q e1 e2 e3 e4 e5=>
  obtain⟨ρ,hK⟩:=e4;obtain⟨dL,u,q1,q2,q3,q4,_⟩:=QG (sl:=sl) h rfl ha hs e1 e3 hK;obtain⟨n1,n2,n3⟩:=hI.nx r rfl;have oC:=hI.sz;refine .inl ⟨dL,_,_,n0,_,Pb,.ch (qs++[(r,Q)]) none [] false,_,_,_,none,q1,q4,?_,q3,e5⟩;have dd:∀m,m<qs.length->put D gs.size ⟨.ch r Q,.work,ρ,Sc,Rc,w,none,none⟩ (n0+m)=D (n0+m):=λm hm=>cC D _ BYO;have dn:put D gs.size ⟨.ch r Q,.work,ρ,Sc,Rc,w,none,none⟩ (n0+qs.length)=⟨.ch r Q,.work,ρ,Sc,Rc,w,none,none⟩:=by rw[<-oC,bC]
  have new:∀{m r':Nat} {Q':Value->World->Prop},(qs++[(r,Q)])[m]?=some (r',Q')->(m<qs.length/\qs[m]?=some (r',Q'))\/(m=qs.length/\r'=r/\Q'=Q):=λ{m r' Q'} hf=>by
   rcases aCD m qs.length with hm|hm
   .rw[aDe hm]at hf;exact .inl ⟨hm,hf⟩
   .rw[aDt hm]at hf;have:=(aDh.1 hf).1;simp at this;have e0:m=qs.length:=BYO;subst e0;simp at hf;exact .inr ⟨rfl,hf.1.symm,hf.2.symm⟩
  refine⟨by rw[q2];simp;omega,BYS,λx=>(by cases x),λr x=>(by cases x),λm m' r1 r2 Q1 Q2 h1 h2 cQ=>?_,λm r1 Q1 hm=>?_,λm hm=>by simp at hm⟩
  .rcases new h1 with⟨_,j1⟩|⟨j1,j2,_⟩<;>rcases new h2 with⟨_,j3⟩|⟨j3,j4,_⟩
   .exact hI.AJ m m' r1 r2 Q1 Q2 j1 j3 cQ
   .rw[j4];exact n3 m r1 Q1 j1
   .rw[j2];exact(n3 m' r2 Q2 j3).symm
   .omega
  .rcases new hm with⟨hl,hm⟩|⟨rfl,rfl,rfl⟩
   .rw[dd m hl];obtain⟨k1,k2,k3⟩:=hI.fN m r1 Q1 hm;exact⟨k1,k2,k3.move rfl⟩
   .rw[dn];exact⟨n1,rfl,.work rfl rfl rfl n2⟩
 | @recv _ _ _ _ r Q z _ _ e0 e1 e2=>
  obtain⟨k1,k2,k3⟩:=hI.fN _ r Q e0;have dD:=h.low k1;have take:∀{v:Value} {cl:Bool},w.heap[r]?=some (.chan 1 #[v] cl 1 0 false)->(∀{w':World} {u:Trace},w'.heap[r]?=some (.chan 1 #[] cl 1 1 false)->Hw (D (n0+vs.length)) r Q w' (t++u) (some v))->(D (n0+vs.length)).F=some (Q v)->Nx P lo ty K gs w t sl:=λ{v cl} hc hM hF=>by
   have lV:=crowd_recv_buf (P:=P) (sl:=sl) ha (aO e1) hc BYS (parts r true);rw[finishComm_recv]at lV;have hA:∀V:PS,(∀b x,Pb b->¬V b x)->bZ V w (w.setChan r 1 #[] cl 1 1 false):=λV hV=>vI λx=>hV r x k1;have h1:=yQ (w':=w.setChan r 1 #[] cl 1 1 false) (l:=[{g:=0,fn:=(core g).frame.fn,pos:=(core g).frame.place,act:=.recv r 0 1},{g:=0,fn:=(core g).frame.fn,pos:=(core g).frame.place,act:=.recvDone r 0}]) h (served (core g) (.tuple #[v,.bool true])) hA (JL h.qV dD) (λop cK=>by
    simp at cK;rcases cK with rfl|rfl
    .exact⟨by show 0<gs.size;omega,rfl,dD,BYS,BYS⟩
    .exact⟨by show 0<gs.size;omega,rfl,dD,BYS,BYS⟩)
   refine⟨_,_,_,n0,D,Pb,.ch qs none (vs++[v]) true,_,_,_,some (w.setChan r 1 #[] cl 1 1 false,v),lV,h1,?_,by rw[aCr BYO];rfl,e2 v _ (hA _ h.JK) ⟨w,h.fin _ ⟨BYO,by have:=hI.sz;have:=(aDh.1 e0).1;omega⟩ _ hF w (bZ.refl _ _)⟩⟩;rw[aGt];exact hI.take e0 (λ_ _=>rfl) k2 (hM (heap_setChan w r 1 _ _ _ _ _ dD)) (λk _ hk=>lL hk)
  have hv0:vs[vs.length]?=none:=BYS;rw[hv0]at k3;cases k3 with
  |work a1 a2 a3 a4=>exact .inr (wait e1 a4 e0 rfl (.inl ⟨rfl,rfl,a1,e2⟩))
  |iG a1 a2 a3 a4=>exact .inl (take a4 (λhc=>.took a1 a2 a3 hc) a3)
  |shut a1 a2 a3 a4 a5 a6 a7=>exact .inl (take a7 (λhc=>.gone a1 a2 a3 BYT (by rw[act?_old a4];exact a5) ((heard_old a4).2 a6) hc) a2)
 | @shut _ _ _ _ r Q z v _ vs e0 e1 e2 e3=>
  obtain⟨k1,k2,k3⟩:=hI.fN _ r Q e0;have dD:=h.low k1;have hv0:(vs++[v])[vs.length]?=some v:=BYS;rw[hv0]at k3;cases k3 with
  |took a1 a2 a3 a4=>exact .inr (wait e1 a4 e0 rfl (.inr ⟨rfl,BYS,v,a1⟩))
  | @gone v d p a1 a2 a3 a4 a5 a6 a7=>
   have lV:=crowd_recv_closed (P:=P) (sl:=sl) ha (aO e1) a7 (parts r true);rw[finishComm_recv]at lV;have h1:=yQ (w':=w) (l:=[{g:=0,fn:=(core g).frame.fn,pos:=(core g).frame.place,act:=.recvClosed r}]) h (served (core g) (.tuple #[z,.bool false])) (λV _=>bZ.refl V w) h.qV (one ⟨by show 0<gs.size;omega,rfl,dD,BYS,BYS⟩);have hk:Knows (t++ #[({g:=0,fn:=(core g).frame.fn,pos:=(core g).frame.place,act:=.recvClosed r}:MemOp)]) 0 p:=JO rfl (.closed (c:=r) (by rw[act?_old a4];exact a5) (by simp[Trace.act?])) ((heard_old a4).2 a6) h.deaf0;have h2:=hI.main (u:= #[({g:=0,fn:=(core g).frame.fn,pos:=(core g).frame.place,act:=.recvClosed r}:MemOp)]) (w':=w) λ_ _=>rfl;have hle:=hI.le;simp only[aBh,aBJ,aBv]at hle;have acq:∀m,m<vs.length+1->(∃d,(D (n0+m)).st=.quit d)/\∃p,(D (n0+m)).rl=some p/\Knows (t++ #[({g:=0,fn:=(core g).frame.fn,pos:=(core g).frame.place,act:=.recvClosed r}:MemOp)]) 0 p:=λm hm=>by
    by_cases e:m=vs.length
    .subst e;exact⟨⟨d,a1⟩,p,a3,hk⟩
    .exact h2.acq m BYT
   have hg0:(gs.setIfInBounds 0 (served (core g) (.tuple #[z,.bool false])))[0]?=some (served (core g) (.tuple #[z,.bool false])):=by rw[aCr BYO]
   rcases aCD (vs.length+1) qs.length with hl|hl
   .refine .inl ⟨_,_,_,n0,D,Pb,.ch qs none (vs++[v]) false,_,_,_,none,lV,h1,?_,hg0,e2 hl⟩;rw[aGt];exact⟨h2.sz,h2.le,λx=>(by cases x),λr x=>(by cases x),h2.AJ,h2.fN,λm hm=>acq m (by simpa using hm)⟩
   .have oC:=hI.sz;have hq:vs.length+1=qs.length:=BYO;have kq:=h1.calm λi hi=>by
     rw[aGt]at hi;obtain⟨m,rfl⟩:∃m,i=n0+m:=⟨i-n0,by have:=hi.1;omega⟩;exact acq m (by have:=hi.2;omega)
    refine .inl ⟨_,_,_,_,D,Pb,.calm,_,_,_,none,lV,kq,rfl,hg0,e3 hq λm r' Q' u hm hu=>?_⟩;have sj:=(aDh.1 hm).1;obtain⟨_,_,c3⟩:=hI.fN m r' Q' hm;rw[hu]at c3;have fin:=h.fin (n0+m) ⟨BYO,BYO⟩;cases c3 with
    |took b1 b2 b3=>exact fin _ b3 w (bZ.refl _ _)
    |gone b1 b2=>exact fin _ b2 w (bZ.refl _ _)
def Tj(h:Core P lo ty gs w t n0 D Pb S R 0)(hI:n0=gs.size)(ha:gs[0]?=some a)(hs:DG a g)(dI:fO P lo ty Post K .calm S R g w):
  Nx P lo ty K gs w t sl\/∃v,runT P (crowd gs w sl) 0=(.ended (.done v) w,#[])/\Post v w:=by
 cases dI with
 |own e1 e3 e4=>
  obtain⟨⟨dL,q1,q2,q3,q4⟩,q5⟩:=JN (sl:=sl) h ha hs e1 e3;exact .inl ⟨dL,_,_,n0,D,Pb,.calm,_,_,_,none,q1,q4,by rw[q2];exact hI,q3,e4⟩
 |ends e1 e2=>
  have:=runT_many_ended (P:=P) (sl:=sl) (i:=0) ha (show stepG P (0==0) a w=_ from(hs.step true w).trans e1);exact .inr ⟨_,this,e2⟩
 |FC e1 e2 e3 e0 e4=>
  subst e3;have hn:WgAt ty w.heap.size (w.alloc (ConcR.wgBlock ty 0 0)) 0 0:=by show(w.heap.push _)[_]?=_;simp
  obtain⟨dL,q1,q2,q3,q4⟩:=ZJ (sl:=sl) h ha hs e1 ⟨e0,.inl ⟨_,_,hn⟩⟩;refine .inl ⟨dL,_,_,n0,D,_,.wg w.heap.size [] .op,_,_,_,none,q1,by rw[aD7];exact q4,?_,q3,e4⟩;rw[q2,aD7];refine⟨.inr rfl,by simpa using hI.symm,BYS,λm f hf=>by simp at hf,λm hm=>by simp at hm,λi hi=>?_,0,0,hn,?_⟩
  .obtain⟨op,ho,zR⟩:=Option.map_eq_some_iff.1 hi;have:=h.ti.low op (aDl ho);rw[zR]at this;have:w.heap.size<w.heap.size:=this;omega
  .exact .opn (E:=λm=>(D (n0+m)).st) (q:=0) (ph:=.op) (c:=0) rfl trivial λm hm=>absurd hm (Nat.not_lt_zero _)
 |xS e0 e1 e2 e3 oP e4=>
  subst e3;rcases e0 with⟨_,rfl⟩|e0
  .exact .inl (JP h ha hs ⟨by simpa using hI.symm,BYS,λx=>(by cases x),λr x=>(by cases x),λm m' r r' Q Q' h1=>by simp at h1,λm r Q h1=>by simp at h1,λm h1=>by simp at h1⟩ e1 oP e4)
  .cases e0
end
end Rk.Cw
