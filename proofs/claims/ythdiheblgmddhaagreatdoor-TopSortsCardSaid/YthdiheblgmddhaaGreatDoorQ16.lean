/- Part of the proof of TopSorts. -/
import Derived.Conc.LoneCalls
import Derived.Conc.Beside
import Derived.Conc.CrowdRun
import Derived.Test.YthdiheblgmddhaaGreatDoorQ15
set_option linter.all false
namespace Rk.fD
open Go Go.Conc
variable{T':Array Value}{v:Value}{f:FuncId}{ops:Array Oper}{i:Nat}{k:List Item}{main:Bool}{cs asL bs:List Frame}{w W W1:World}{α:Type}{e1:Array Event}{o:Oper}{fn:Func}
variable{P:Program}{σ:Nm}
def HC{T:Array Value}(h:eY σ T T')(d:Option Tmp){v':Value}(hv:VR σ v v'):∃U U',(⟨T,[]⟩:Act).put d v=⟨U,[]⟩/\(⟨T',[]⟩:Act).put d v'=⟨U',[]⟩/\eY σ U U':=by
 cases d with
 |none=>exact⟨T,T',rfl,rfl,h⟩
 |some d=>exact⟨_,_,rfl,rfl,h.set d hv⟩
def VR.undef:VR σ undef undef:=.tuple rfl λi h=>by simp at h
def step_skip{T:Array Value}{rest:List Nat}(h:((ops[i]?).map (Region.wanted · (yielded ops T))).getD false=false):
  stepG P main (G (Fr f T (.inRegion ops (i::rest)::k)) cs) w=.go (G ((base f).at ((⟨T,[]⟩:Act).put ((ops[i]?).bind (·.dst)) undef) (.inRegion ops rest::k)) cs) w #[]:=by
 rw[<-Frame.finish_at];simp only[G,Fr,stepG,stepG.exec,Frame.at,base,default]at h⊢;simp[h]
def vE{T:Array Value}{id:Nat}{c0:Frame}(hT:eY σ T T')(hS:YZ P σ asL bs)(hk:(Item.code (.region id ops true)::k).all (dV P)=true)(hO:oY P f):
  Out P σ (Fr f T (.code (.region id ops true)::k)) (Fr f T' (.code (.region id ops true)::k)) asL bs c0 W:=by
 have HT:(Item.inRegion ops (Region.schedule (P.follows .mixedOrders) ops (W.tape W.drawn (.order f id)))::k).all (dV P)=true:=hk;refine .inl ⟨Fr f T (.inRegion ops (Region.schedule (P.follows .mixedOrders) ops (W.tape W.drawn (.order f id)))::k),asL,{W with drawn:=W.drawn+1},⟨λU hU=>⟨#[],?_⟩,rfl,Nat.le_succ _,λmain cs w hw _ ht=>?_⟩⟩
 .have:=hU W.drawn (.order f id) (aAB _) (aH3 _);rw[<-this];exact stepG_region_draw
 .have h0:=ht 0 (.order f id) (aH3 _);rw[aDV,aDV]at h0;refine⟨σ,Fr f T' (.inRegion ops (Region.schedule (P.follows .mixedOrders) ops (W.tape W.drawn (.order f id)))::k),bs,{w with drawn:=w.drawn+1},#[],?_,.run hT HT hO,hS,hw.draw _ _,qT.refl _ _,by simp only;omega⟩;rw[h0];exact stepG_region_draw
def CZ{T:Array Value}{rest:List Nat}{c0:Frame}(hT:eY σ T T')(hS:YZ P σ asL bs)(hk:(Item.inRegion ops (i::rest)::k).all (dV P)=true)(hO:oY P f)
  (h:((ops[i]?).map (Region.wanted · (yielded ops T))).getD false=false):Out P σ (Fr f T (.inRegion ops (i::rest)::k)) (Fr f T' (.inRegion ops (i::rest)::k)) asL bs c0 W:=by
 have h':((ops[i]?).map (Region.wanted · (yielded ops T'))).getD false=false:=by rw[<-FA hT];exact h
 obtain⟨U,U',e1,e2,hU⟩:=HC hT ((ops[i]?).bind (·.dst)) (VR.undef (σ:=σ));refine .inl ⟨_,asL,W,NU.ctl (λw=>step_skip h) (λmain cs w=>step_skip h') ?_ hS⟩;rw[e1,e2];exact .run hU hk hO
def QB{asL Dz:Array Value}(hO:oY P f)(ha:eY σ asL Dz):Hp P σ (Frame.enter P f asL .normal) (Frame.enter P f Dz .normal):=by
 obtain⟨fn,c,h1,h2,h3,h4⟩:=hO;rw[enter_at asL h1 h2,enter_at Dz h1 h2];refine .run (ha.append ⟨by simp[ha.size],λi h1 h2=>?_⟩) (by simp[dV,h3]) ⟨fn,c,h1,h2,h3,h4⟩;rw[Array.getElem_replicate,Array.getElem_replicate];exact VR.undef
def qT.sub{τ:Nm}{w1:World}{f g:Array Event}(h:qT σ τ W W1 w w1 f)(hg:∀e∈g,e∈f):qT σ τ W W1 w w1 g:=
 ⟨h.le,h.size,h.PQ,h.ice,h.still,h.other,h.fresh,h.all,h.os,h.tape,h.output,λe he=>h.events e (hg e he)⟩
def fR(f:FuncId):(base f).kind≠.early:=by intro h;cases h
def fI{s:Sem α}{es:Array Event}{a:α}(h:s.runT P W es=(.ok a W1,e1)):s.run P W=.ok a W1:=by
 rw[<-Sem.runT_fst P s W es,h]
def jX{s:Sem α}{a:α}(h:s.runT P W #[]=(.ok a W1,e1)):s.events P W #[]=e1:=by
 unfold Sem.events;rw[h]
def TG{T:Array Value}{rest:List Nat}{x:Halt}(hO:oY P f)(ho:ops[i]?=some o)(hw:Region.wanted o (yielded ops T)=true)
  (h:(execOp (⟨T,[]⟩:Act).eval o).runT P W #[]=(.halt x W1,e1))(hx:NP x=true):NT P cs (stepG P true (G (Fr f T (.inRegion ops (i::rest)::k)) cs) W):=by
 have he:stepG P true (G (Fr f T (.inRegion ops (i::rest)::k)) cs) W=stepG.apply P true ((base f).at ⟨T,[]⟩ (.inRegion ops (i::rest)::k)) cs none (execOp (⟨T,[]⟩:Act).eval o) W:=stepG_oper ho hw;rw[he];unfold stepG.apply;simp only[h,if_true];obtain⟨fn,c,h1,_⟩:=hO;cases x with
 |panic v=>exact⟨f,T,_,_,rfl,fn,h1⟩
 |stuck s=>trivial
 |unsupported u=>cases u<;>first|trivial|cases hx
 |_=>cases hx
def TH(F:Fx P)(B:oZ P){T:Array Value}{rest:List Nat}{c0:Frame}{w0:World}(hT:eY σ T T')(hS:YZ P σ asL bs)(hk:(Item.inRegion ops (i::rest)::k).all (dV P)=true)(hO:oY P f)
 (ho:ops[i]?=some o)(hw:Region.wanted o (yielded ops T)=true)(hW:WR σ W w0)(hG:GB<=W.heap.size)(hg:GB<=w0.heap.size):Out P σ (Fr f T (.inRegion ops (i::rest)::k)) (Fr f T' (.inRegion ops (i::rest)::k)) asL bs c0 W:=by
 have dY:Region.wanted o (yielded ops T')=true:=by rw[<-FA hT];exact hw
 have bY:mB P o.op=true:=by
  simp only[aCR,aBg,dV]at hk;exact aCJ.1 hk.1 o (by simpa using aDl ho)
 have hsr:=Sx.op (P:=P) (σ:=σ) F (ρ:=(⟨T,[]⟩:Act).eval) (ρ':=(⟨T',[]⟩:Act).eval) (λx hx=>ZA hT x hx) (λ_=>rfl) (λ_=>rfl) (λ_=>rfl) (λ_=>rfl) o bY;rcases hsr.soft (es:= #[]) hW hG hg with⟨nx,W1,e1,hr⟩|⟨x,W1,e1,hr,hx⟩
 .have hl:=λU hU=>hsr.local (T:=U) hW hG hg hr hU;have hd:=hsr.drawn hW hG hg hr;have htp:=(hl W.tape λ_ _ _ _=>rfl).2;have right:∀w,WR σ W w->GB<=w.heap.size->(∀i q,W.drawn+i<W1.drawn->W.tape (W.drawn+i) q=w.tape (w.drawn+i) q)->
    ∃τ b w1 g,(execOp (⟨T',[]⟩:Act).eval o).runT P w #[]=(.ok b w1,g)/\Ru τ nx b/\WR τ W1 w1/\qT σ τ W W1 w w1 g/\w1.drawn+W.drawn=w.drawn+W1.drawn:=λw h1 h2 h3=>by
   obtain⟨τ,b,w1,g,g1,g2,g3,g4,g5⟩:=hsr.run (mO:= #[]) h1 hG h2 hr h3;exact⟨τ,b,w1,g,by simpa using g1,g2,g3,g4,g5⟩
  have sub:∀{τ:Nm} {w w1:World} {g:Array Event},(execOp (⟨T',[]⟩:Act).eval o).runT P w #[]=(.ok nx w1,g)\/True->qT σ τ W W1 w w1 g->qT σ τ W W1 w w1 (seen P f g):=λ_ h=>h.sub λe he=>mem_seen he;cases nx with
  |value v=>
   refine .inl ⟨(base f).at ((⟨T,[]⟩:Act).put o.dst v) (.inRegion ops rest::k),asL,W1,⟨λU hU=>⟨_,stepG_value ho hw (fR f) (fI (hl U hU).1)⟩,htp,hd,λmain cs w h1 h2 h3=>?_⟩⟩;obtain⟨τ,b,w1,g,g1,g2,g3,g4,g5⟩:=right w h1 h2 h3;cases g2 with
   |value hv=>
    obtain⟨V,V',e1,e2,hV⟩:=HC (hT.mono g4.le) o.dst hv;refine⟨τ,_,bs,w1,_,stepG_value ho dY (fR f) (fI g1),?_,hS.mono g4.le,g3,?_,g5⟩
    .rw[e1,e2];exact .run hV hk hO
    .unfold listed;rw[jX g1];exact sub (.inr trivial) g4
  |skip=>
   refine .inl ⟨(base f).at ((⟨T,[]⟩:Act).put o.dst undef) (.inRegion ops rest::k),asL,W1,⟨λU hU=>⟨_,stepG_none ho hw (fR f) (fI (hl U hU).1)⟩,htp,hd,λmain cs w h1 h2 h3=>?_⟩⟩;obtain⟨τ,b,w1,g,g1,g2,g3,g4,g5⟩:=right w h1 h2 h3;cases g2 with
   |skip=>
    obtain⟨V,V',e1,e2,hV⟩:=HC (hT.mono g4.le) o.dst VR.undef;refine⟨τ,_,bs,w1,_,stepG_none ho dY (fR f) (fI g1),?_,hS.mono g4.le,g3,?_,g5⟩
    .rw[e1,e2];exact .run hV hk hO
    .unfold listed;rw[jX g1];exact sub (.inr trivial) g4
  |enter f' Dz=>
   refine .inl ⟨Frame.enter P f' Dz .normal,Fr f T (.inRegion ops (i::rest)::k)::asL,W1,⟨λU hU=>⟨_,stepG_enter ho hw (fR f) (fI (hl U hU).1)⟩,htp,hd,λmain cs w h1 h2 h3=>?_⟩⟩;obtain⟨τ,b,w1,g,g1,g2,g3,g4,g5⟩:=right w h1 h2 h3;cases g2 with
   |enter Qy ha=>
    refine⟨τ,_,Fr f T' (.inRegion ops (i::rest)::k)::bs,w1,_,stepG_enter ho dY (fR f) (fI g1),QB (B _ Qy) ha,.cons (.mk (hT.mono g4.le) hk hO) (hS.mono g4.le),g3,?_,g5⟩;unfold listed;rw[jX g1];exact sub (.inr trivial) g4
  |_=>
   exfalso;obtain⟨τ,b,w1,g,g1,g2,g3,g4,g5⟩:=right (w0.on λj q=>W.tape (W.drawn+(j-w0.drawn)) q) ⟨hW.fn,hW.inj,hW.cell⟩ hg (λi q _=>by
    show _=W.tape (W.drawn+(w0.drawn+i-w0.drawn)) q;rw[aID])
   cases g2
 .exact .inr (TG hO ho hw hr hx)
def Nw(hr:fn.results= #[]\/(∃t,fn.results= #[.tmp t])\/∃t u,fn.results= #[.tmp t,.tmp u]){T:Array Value}(hT:eY σ T T'):
  ∃v v',VR σ v v'/\∀w,((results fn T).run P w=.ok v w/\(results fn T).events P w #[]= #[])/\((results fn T').run P w=.ok v' w/\(results fn T').events P w #[]= #[]):=by
 rcases hr with h|⟨t,h⟩|⟨t,u,h⟩
 .exact⟨_,_,VR.undef,λw=>⟨⟨results_none h _ P w,events_results_none h _ _⟩,⟨results_none h _ P w,events_results_none h _ _⟩⟩⟩
 .exact⟨_,_,hT.kp t,λw=>⟨⟨results_tmp h _ P w,events_results_tmp h _ _⟩,⟨results_tmp h _ P w,events_results_tmp h _ _⟩⟩⟩
 .exact⟨.tuple #[T.getD t undef,T.getD u undef],.tuple #[T'.getD t undef,T'.getD u undef],.tuple rfl (aQH (hT.kp t) (hT.kp u)).at_,λw=>⟨⟨results_tmp2 h _ P w,events_results_tmp2 h _ _⟩,⟨results_tmp2 h _ P w,events_results_tmp2 h _ _⟩⟩⟩
def JG{T:Array Value}{c:Frame}(hf:P.funcs[f]?=some fn)(h:(results fn T).run P w=.ok v w/\(results fn T).events P w #[]= #[]):
  stepG P main (G (Rt f T k) (c::cs)) w=.go (G (c.finish v) cs) w #[]:=stepG_leave (b:=base f) (a:=⟨T,[]⟩) rfl rfl hf h.1 h.2
def TJ{T:Array Value}{a b:Frame}{c0:Frame}(hT:eY σ T T')(hO:oY P f)(hL:YY P σ a b)(hS:YZ P σ asL bs):Out P σ (Rt f T k) (Rt f T' k) (a::asL) (b::bs) c0 W:=by
 obtain⟨fn,c,h1,h2,h3,h4⟩:=hO;obtain⟨v,v',hv,hr⟩:=Nw (P:=P) h4 hT;cases hL with
 |mk hU hk tk=>
  rename_i g U U' ops i rest l;obtain⟨V,V',e1,e2,hV⟩:=HC hU ((ops[i]?).bind (·.dst)) hv;refine .inl ⟨_,asL,W,NU.ctl (λw=>JG h1 (hr w).1) (λmain cs w=>JG h1 (hr w).2) ?_ hS⟩;unfold Fr;rw[Frame.finish_at,Frame.finish_at,e1,e2];exact .run hV hk tk
def G7(F:Fx P)(B:oZ P){A C:Frame}{c0:Frame}{w0:World}(hT:Hp P σ A C)(hS:YZ P σ asL bs)(hW:WR σ W w0)(hG:GB<=W.heap.size)(hg:GB<=w0.heap.size):
  (asL=[]/\bs=[]/\∃f T T' k,A=Rt f T k/\C=Rt f T' k/\eY σ T T'/\oY P f)\/Out P σ A C asL bs c0 W:=by
 cases hT with
 |rt hA hO=>
  cases hS with
  |nil=>exact .inl ⟨rfl,rfl,_,_,_,_,rfl,rfl,hA,hO⟩
  |cons hL hS=>exact .inr (TJ hA hO hL hS)
 | @run f T T' k hA hk hO=>
  refine .inr ?_;cases k with
  |nil=>exact .inl ⟨_,asL,W,NU.ctl (λw=>stepG_end) (λmain cs w=>stepG_end) (.rt hA hO) hS⟩
  |cons x k=>
   by_cases h1:∃ops l,x=.inRegion ops l
   .obtain⟨ops,l,rfl⟩:=h1;cases l with
    |nil=>
     simp only[aCR,aBg]at hk;exact .inl ⟨_,asL,W,NU.ctl (λw=>stepG_region_end) (λmain cs w=>stepG_region_end) (.run hA hk.2 hO) hS⟩
    |cons i rest=>
     cases hn:((ops[i]?).map (Region.wanted · (yielded ops T))).getD false with
     |false=>exact CZ hA hS hk hO hn
     |true=>
      cases ho:ops[i]? with
      |none=>rw[ho]at hn;cases hn
      |some o=>
       rw[ho]at hn;exact TH F B hA hS hk hO ho hn hW hG hg
   .by_cases h2:∃id ops,x=.code (.region id ops true)
    .obtain⟨id,ops,rfl⟩:=h2;exact vE hA hS hk hO
    .exact JF hA hS hk hO (λops l e=>h1 ⟨ops,l,e⟩) (λid ops e=>h2 ⟨id,ops,e⟩)
structure Cf where
 A:Frame
 asL:List Frame
 W:World
def LS(P:Program)(c0:Frame)(x y:Cf):Prop:=x.W.drawn<=y.W.drawn/\∃U:Nat->Question->Nat,∀T,(∀i q,x.W.drawn<=i->i<y.W.drawn->T i q=U i q)->∃es,stepG P true (G x.A (x.asL++[c0])) (x.W.on T)=.go (G y.A (y.asL++[c0])) (y.W.on T) es
def least{p:Nat->Prop}:(∃k,p k)->∃k,p k/\∀j,j<k->¬p j:=by
 rintro⟨k,hk⟩;induction k using Nat.strongRecOn with
 |_ k ih=>
  by_cases h:∃j,j<k/\p j
  .obtain⟨j,h1,h2⟩:=h;exact ih j h1 h2
  .exact⟨k,hk,λj h1 h2=>h ⟨j,h1,h2⟩⟩
def G8{r:α->α->Prop}{x:α}(h:¬Acc r x):∃s:Nat->α,s 0=x/\∀k,r (s (k+1)) (s k):=by
 have nx:∀z:{z//¬Acc r z},∃y:{z//¬Acc r z},r y.1 z.1:=λ⟨z,hz⟩=>by
  by_cases h:∃y,r y z/\¬Acc r y
  .obtain⟨y,h1,h2⟩:=h;exact⟨⟨y,h2⟩,h1⟩
  .exact absurd (Acc.intro z λy hy=>aD0 λhn=>h ⟨y,hy,hn⟩) hz
 let s:Nat->{z//¬Acc r z}:=λn=>Nat.rec ⟨x,h⟩ (λ_ z=>Classical.choose (nx z)) n
 exact⟨λk=>(s k).1,rfl,λk=>aD2 (nx (s k))⟩
def jG{fr zf:Frame}{MU:List Frame}{w':World}(h:lone fr cs w=lone zf MU w'):fr=zf/\cs=MU/\w=w':=by
 unfold lone at h;injection h with h1 h2 h3;simp at h2;exact⟨h2.1,h2.2,h1⟩
def LS.acc{c0:Frame}{x:Cf}(h:∀T,∃n fr w',runN P n (lone x.A (x.asL++[c0]) (x.W.on T))=.next (lone fr [c0] w')/\∀A1 uJ W1 es,stepG P true (G fr [c0]) w'≠.go (G A1 (uJ++[c0])) W1 es):Acc (λy x=>LS P c0 x y) x:=by
 refine aD0 λhn=>?_;obtain⟨s,rfl,hs⟩:=G8 hn;have mono:∀j k,j<=k->(s j).W.drawn<=(s k).W.drawn:=λj k Es=>by
  induction Es with
  |refl=>exact aAB _
  |step _ ih=>exact aBS ih (hs _).1
 let U:Nat->Nat->Question->Nat:=λk=>Classical.choose (hs k).2
 have hU:∀k T,(∀i q,(s k).W.drawn<=i->i<(s (k+1)).W.drawn->T i q=U k i q)->∃es,stepG P true (G (s k).A ((s k).asL++[c0])) ((s k).W.on T)=.go (G (s (k+1)).A ((s (k+1)).asL++[c0])) ((s (k+1)).W.on T) es:=λk=>aD2 (hs k).2;have hT:∃T:Nat->Question->Nat,∀k i q,(s k).W.drawn<=i->i<(s (k+1)).W.drawn->T i q=U k i q:=by
  have:∀i,∃f:Question->Nat,∀k q,(s k).W.drawn<=i->i<(s (k+1)).W.drawn->f q=U k i q:=λi=>by
   by_cases he:∃k,i<(s (k+1)).W.drawn
   .obtain⟨k0,h1,h2⟩:=least he;refine⟨U k0 i,λk q h3 h4=>?_⟩;have:k0=k:=by
     rcases aFS k0 k with dD|heq|MX
     .have:=mono (k0+1) k dD;omega
     .exact heq
     .exact absurd h4 (h2 k MX)
    rw[this]
   .exact⟨λ_=>0,λk q _ h4=>absurd ⟨k,h4⟩ he⟩
  exact⟨λi=>Classical.choose (this i),λk i q=>aD2 (this i) k q⟩
 obtain⟨T,hT⟩:=hT;have eH:∀k,∃es,stepG P true (G (s k).A ((s k).asL++[c0])) ((s k).W.on T)=.go (G (s (k+1)).A ((s (k+1)).asL++[c0])) ((s (k+1)).W.on T) es:=λk=>hU k T (hT k);have lV:∀n j,runN P n (lone (s j).A ((s j).asL++[c0]) ((s j).W.on T))=.next (lone (s (j+n)).A ((s (j+n)).asL++[c0]) ((s (j+n)).W.on T)):=by
  intro n;induction n with
  |zero=>intro j;rfl
  |succ n ih=>
   intro j;obtain⟨es,he⟩:=eH j;have h1:step P (lone (s j).A ((s j).asL++[c0]) ((s j).W.on T))=.next (lone (s (j+1)).A ((s (j+1)).asL++[c0]) ((s (j+1)).W.on T)):=step_solo_go rfl he
   have h2:=ih (j+1);rw[show j+1+n=j+(n+1) by omega]at h2;simp only[runN,h1];exact h2
 obtain⟨n,fr,w',h1,h2⟩:=h T;have h3:=lV n 0;rw[aAn]at h3;rw[h3]at h1;injection h1 with h1;obtain⟨e1,e2,e3⟩:=jG h1;obtain⟨es,he⟩:=eH n;rw[e1,e2,e3]at he;exact h2 _ _ _ _ he
variable{c:Frame}
def c0(P:Program):Frame:={fn:=P.funcs.size,tmps:= #[],todo:=[.call ⟨.nil,#[]⟩ false "fmt's door, shut" #[]],defers:=[],mode:=.run,kind:=.normal}
def kr:P.funcs[P.funcs.size]?=none:=BYS
def Pan(P:Program)(fr:Frame):Prop:=∃ch,fr.mode=.panicking ch/\fr.defers=[]/\∃fn,P.funcs[fr.fn]?=some fn
def Wt(P:Program)(fr:Frame):Prop:=fr.mode=.run/\fr.defers=[]/\∃fn,P.funcs[fr.fn]?=some fn
def YY.wt{a b:Frame}(h:YY P σ a b):Wt P a:=by
 cases h with
 |mk _ _ hO=>obtain⟨fn,c,h1,_⟩:=hO;exact⟨rfl,rfl,fn,h1⟩
def YZ.wt(h:YZ P σ asL bs):∀a∈asL,Wt P a:=by
 induction h with
 |nil=>intro a ha;cases ha
 |cons h _ ih=>
  intro a ha;rcases aBI.1 ha with rfl|ha
  .exact h.wt
  .exact ih a ha
def ZB{fr:Frame}(h:Pan P fr):∃ch,fr.mode=.panicking ch/\step P (lone fr (c::cs) W)=.next (lone (c.raise ch) cs W):=by
 obtain⟨ch,h1,h2,fn,h3⟩:=h;exact⟨ch,h1,step_leave_panicked ⟨h1,h2,fn,h3⟩⟩
def Td(h:Wt P c)(ch:List PanicEntry):Pan P (c.raise ch):=by
 obtain⟨h1,h2,fn,h3⟩:=h;unfold Frame.raise;rw[h1];exact⟨ch,rfl,h2,fn,h3⟩
def ks:("fmt's door, shut" :String).startsWith "fmt's door" =true:=BYK
def Hq(ch:List PanicEntry):Frame.catches P ((c0 P).raise ch)=true:=by
 show(match P.funcs[P.funcs.size]?,([.call ⟨.nil,#[]⟩ false "fmt's door, shut" #[]]:List Item) with|none,.call _ _ resume _::_=>resume.startsWith "fmt's door" |_,_=>false)=true;rw[kr];exact ks
def kt{ch:List PanicEntry}:∃o W1,step P (lone ((c0 P).raise ch) [] W)=.ended o W1:=by
 refine⟨.unsupported (.noEntry "a panic or Goexit out of a method that fmt calls behind a cut's door") (((c0 P).raise ch).pos P),W,step_lone_ended ?_⟩;have hc:=Hq (P:=P) ch;have hm:((c0 P).raise ch).mode=.panicking ch:=rfl;have hd:((c0 P).raise ch).defers=[]:=rfl;simp[stepG,unwind,hm,hd,hc]
def ZC:∀(asL:List Frame) (fr:Frame) (n:Nat) (W:World) (zf:Frame) (W':World),(∀a∈asL,Wt P a)->Pan P fr->runN P n (lone fr (asL++[c0 P]) W)=.next (lone zf [c0 P] W')->∃ch,zf.mode=.panicking ch:=by
 intro asL;induction asL with
 |nil=>
  intro fr n W zf W' _ hp h;cases n with
  |zero=>
   injection h with h;obtain⟨e,_,_⟩:=jG h;obtain⟨ch,h1,_⟩:=hp;exact⟨ch,e▸h1⟩
  |succ n=>
   exfalso;obtain⟨ch,h1,h2⟩:=ZB (c:=c0 P) (cs:=[]) (W:=W) hp;simp only[aDF,runN,h2]at h;cases n with
   |zero=>
    injection h with h;obtain⟨_,e,_⟩:=jG h;cases e
   |succ n=>
    obtain⟨o,W1,h3⟩:=kt (P:=P) (ch:=ch) (W:=W);simp only[runN,h3]at h;cases h
 |cons a asL ih=>
  intro fr n W zf W' hw hp h;cases n with
  |zero=>
   injection h with h;obtain⟨e,_,_⟩:=jG h;obtain⟨ch,h1,_⟩:=hp;exact⟨ch,e▸h1⟩
  |succ n=>
   obtain⟨ch,h1,h2⟩:=ZB (c:=a) (cs:=asL++[c0 P]) (W:=W) hp;simp only[aCq,runN,h2]at h;exact ih _ n W zf W' (λx hx=>hw x (aBm _ hx)) (Td (hw a BYS) ch) h
def Te:Extern.next "fmt's door, shut" =none:=BYK
def QC:∃o W1,step P (lone ((c0 P).finish v) [] W)=.ended o W1:=by
 have he:(c0 P).finish v={c0 P with todo:=[.extern "fmt's door, shut" #[v]]}:=rfl;rw[he];refine⟨.stuck ("no extern row " ++ "fmt's door, shut") (({c0 P with todo:=[.extern "fmt's door, shut" #[v]]}:Frame).pos P),W,step_lone_ended ?_⟩;simp[stepG,stepG.exec,c0,Te,GStep.bare]
end Rk.fD
namespace Rk.Al
open Go Go.Conc Rk.fD
variable{A:Frame}{asL cs:List Frame}{W w w1:World}{P:Program}{f:FuncId}{k:List Item}{ops:Array Oper}{i:Nat}{fn:Func}{es:Array Event}{o:Oper}{x:Halt}{main:Bool}
def fV:Code->Bool
 | .skip| .ret| .exit _| .label _| .refuse _=>true
 | .region _ ops _=>ops.toList.all λo=>mB o.op
 | .seq a b=>fV a&&fV b
 | .cond _ a b=>fV a&&fV b
 | .block _ b| .loop b=>fV b
 |_=>false
def dV:Item->Bool
 | .code c=>fV c
 | .inBlock _=>true
 | .inLoop b=>fV b
 | .inRegion ops _=>ops.toList.all λo=>mB o.op
 |_=>false
structure aJy(P:Program)(F:Array Func)(f:FuncId)(fn:Func)(c:Code):Prop where
 ku:P.funcs[f]?=some fn
 here:F[f]?=some fn
 body:fn.body=some c
 code:fV c=true
 race:fn.norace=false
def oY(P:Program)(F:Array Func)(f:FuncId):Prop:=∃fn c,aJy P F f fn c
def oZ(P:Program)(F:Array Func):Prop:=∀(f:FuncId) (fn:Func) (c:Code),F[f]?=some fn->fn.body=some c->oY P F f
inductive vq(P:Program)(F:Array Func):Frame->Prop
 |run {f:FuncId} {T:Array Value} {k:List Item}:k.all dV=true->oY P F f->vq P F (Fr f T k)
 |rt {f:FuncId} {T:Array Value} {k:List Item}:oY P F f->vq P F (Rt f T k)
inductive G9(P:Program)(F:Array Func):Frame->Prop
 |mk {f:FuncId} {T:Array Value} {ops:Array Oper} {i:Nat} {rest:List Nat} {k:List Item}:(Item.inRegion ops (i::rest)::k).all dV=true->oY P F f->G9 P F (Fr f T (.inRegion ops (i::rest)::k))
def cl2(B:Nat)(e:Event):Prop:=e=⟨.mark .noRoom,false,true⟩\/(e.sync=false/\((∃a,e.loc=.cell a/\a.block<B)\/∃r,e.loc=.obj r/\r<B))\/∃r,e=⟨.obj r,false,true⟩/\r<B
structure Twin(P:Program)(F:Array Func)(A:Frame)(asL:List Frame)(W:World)(A1:Frame)(uJ:List Frame)(W1:World):Prop where
 left:∀cs,∃es,stepG (stub P F) true (G A (asL++cs)) (gw W)=.go (G A1 (uJ++cs)) (gw W1) es
 right:∃es,(∀main cs,stepG P main (G A (asL++cs)) W=.go (G A1 (uJ++cs)) W1 es)/\∀e∈es,cl2 W1.heap.size e
 top:vq P F A1
 low:∀a∈uJ,G9 P F a
 kin:uB W W1
section
variable{F:Array Func}
def Out(P:Program)(F:Array Func)(A:Frame)(asL:List Frame)(W:World):Prop:=
 (∃A1 uJ W1,Twin P F A asL W A1 uJ W1)\/∀cs,NT (stub P F) (asL++cs) (stepG (stub P F) true (G A (asL++cs)) (gw W))
def Twin.ctl{A1:Frame}{uJ:List Frame}(h:∀(p:Program) main cs W,(p=P\/p=stub P F)->stepG p main (G A (asL++cs)) W=.go (G A1 (uJ++cs)) W #[])(ht:vq P F A1)(hl:∀a∈uJ,G9 P F a):Twin P F A asL W A1 uJ W:=
 ⟨λcs=>⟨_,h _ _ _ _ (.inr rfl)⟩,⟨_,λmain cs=>h _ _ _ _ (.inl rfl),λe he=>by simp at he⟩,ht,hl,uB.refl W⟩
def ZD:∀{k k':List Item} {id:Nat},k.all dV=true->exitTo id k=some k'->k'.all dV=true:=by
 intro k;induction k with
 |nil=>intro k' id _ h;simp[exitTo]at h
 |cons x k ih=>
  intro k' id hk h;simp only[aCR,aBg]at hk;cases x<;>simp only[exitTo]at h<;>first|exact ih hk.2 h|skip
  split at h
  .cases h;exact hk.2
  .exact ih hk.2 h
def ZE{T:Array Value}{m:String}:NT P cs (stepG P true (G (Fr f T (.code (.refuse m)::k)) cs) W):=by
 simp[G,Fr,stepG,stepG.exec,Frame.at,base,NT,default]
def JF{T:Array Value}{x:Item}(hS:∀a∈asL,G9 P F a)(hk:(x::k).all dV=true)(hO:oY P F f)(hx:∀ops l,x≠.inRegion ops l)(hr:∀id ops,x≠.code (.region id ops true)):
  Out P F (Fr f T (x::k)) asL W:=by
 simp only[aCR,aBg]at hk;have go:∀{k1:List Item},(∀p main cs W,stepG p main (G (Fr f T (x::k)) cs) W=.go (G (Fr f T k1) cs) W #[])->k1.all dV=true->Out P F (Fr f T (x::k)) asL W:=λh h1=>
  .inl ⟨_,asL,W,Twin.ctl (λp main cs W _=>h _ _ _ _) (.run h1 hO) hS⟩
 cases x with
 |inBlock id=>exact go (λ_ _ _ _=>stepG_inBlock) hk.2
 |inLoop c=>exact go (λ_ _ _ _=>stepG_inLoop) (by simp only[aCR,aBg];exact⟨hk.1,hk.1,hk.2⟩)
 |inRegion ops l=>exact absurd rfl (hx ops l)
 |code c=>
  have hc:=hk.1;cases c with
  |skip=>exact go (λ_ _ _ _=>stepG_skip) hk.2
  |label l=>exact go (λ_ _ _ _=>stepG_label) hk.2
  |ret=>exact .inl ⟨_,asL,W,Twin.ctl (λp main cs W _=>stepG_ret') (.rt hO) hS⟩
  |refuse m=>exact .inr λcs=>ZE
  |seq a b=>
   simp only[dV,fV,aBg]at hc;exact go (λ_ _ _ _=>stepG_seq) (by simp only[aCR,aBg];exact⟨hc.1,hc.2,hk.2⟩)
  |block id b=>exact go (λ_ _ _ _=>stepG_block) (by simp only[aCR,aBg];exact⟨hc,rfl,hk.2⟩)
  |loop b=>exact go (λ_ _ _ _=>stepG_loop) (by simp only[aCR,aBg];exact⟨hc,hc,hk.2⟩)
  |exit id=>
   cases he:exitTo id k with
   |none=>exact .inr λcs=>PZ he
   |some k'=>exact go (λ_ _ _ _=>stepG_exit he) (ZD hk.2 he)
  |region id ops d=>
   cases d with
   |true=>exact absurd rfl (hr id ops)
   |false=>exact go (λ_ _ _ _=>stepG_region) (by simp only[aCR,aBg];exact⟨hc,hk.2⟩)
  |cond c a b=>
   simp only[dV,fV,aBg]at hc;by_cases hb:∃t,(⟨T,[]⟩:Act).eval c=.bool t
   .obtain⟨t,ht⟩:=hb;refine .inl ⟨_,asL,W,Twin.ctl (λp main cs W _=>stepG_cond ht) (.run ?_ hO) hS⟩;simp only[aCR,aBg];refine⟨?_,hk.2⟩;cases t<;>first|exact hc.1|exact hc.2
   .exact .inr λcs=>QA λt ht=>hb ⟨t,ht⟩
  |_=>simp[dV,fV]at hc
 |_=>simp[dV]at hk
def vE{T:Array Value}{id:Nat}(hS:∀a∈asL,G9 P F a)(hk:(Item.code (.region id ops true)::k).all dV=true)(hO:oY P F f):Out P F (Fr f T (.code (.region id ops true)::k)) asL W:=by
 have HT:(Item.inRegion ops (Region.schedule (P.follows .mixedOrders) ops (W.tape W.drawn (.order f id)))::k).all dV=true:=hk;refine .inl ⟨Fr f T (.inRegion ops (Region.schedule (P.follows .mixedOrders) ops (W.tape W.drawn (.order f id)))::k),asL,{W with drawn:=W.drawn+1},⟨λcs=>⟨#[],stepG_region_draw⟩,⟨#[],λmain cs=>stepG_region_draw,λe he=>by simp at he⟩,.run HT hO,hS,⟨λ_ _ _=>.rfl,aAB _,rfl,rfl,rfl⟩⟩⟩
def aOV(f:FuncId)(T:Array Value)(d:Option Tmp)(v:Value)(k:List Item):∃U,(base f).at ((⟨T,[]⟩:Act).put d v) k=Fr f U k:=by
 cases d<;>exact⟨_,rfl⟩
def CZ{T:Array Value}{rest:List Nat}(hS:∀a∈asL,G9 P F a)(hk:(Item.inRegion ops (i::rest)::k).all dV=true)(hO:oY P F f)
  (h:((ops[i]?).map (Region.wanted · (yielded ops T))).getD false=false):Out P F (Fr f T (.inRegion ops (i::rest)::k)) asL W:=by
 obtain⟨U,hU⟩:=aOV f T ((ops[i]?).bind (·.dst)) undef (.inRegion ops rest::k);refine .inl ⟨Fr f U (.inRegion ops rest::k),asL,W,Twin.ctl (λp main cs W _=>?_) (.run hk hO) hS⟩;rw[<-hU];exact step_skip h
def H0{fn:FuncId}:∀e∈seen P fn es,e∈es/\∀f,e.loc≠.mark (.extern f):=by
 have:∀(l:List Event) (s:Bool×Array Event) (Q:Event->Prop),(∀e∈s.2,Q e/\∀f,e.loc≠.mark (.extern f))->(∀e∈l,Q e)->
   ∀e∈(l.foldl (λ(q,kept) e=>match e.loc with| .mark (.extern f)=>((P.funcs[f]?).any (·.norace),kept)|_=>(q,if q&& !e.sync then kept else kept.push e)) s).2,Q e/\∀f,e.loc≠.mark (.extern f):=by
  intro l;induction l with
  |nil=>intro s Q h _ e he;exact h e he
  |cons x r ih=>
   intro s Q h hQ e he;refine ih _ Q (λe he=>?_) (λe he=>hQ e (aBm _ he)) e he;obtain⟨q,kept⟩:=s;dsimp only at he;split at he
   .exact h e he
   .rename_i cQ;dsimp only at he;split at he
    .exact h e he
    .rcases aDa.1 he with he|rfl
     .exact h e he
     .exact⟨hQ _ (aBw ..),λf hf=>cQ f hf⟩
 intro e he;unfold seen at he;dsimp only at he;rw[<-aHZ]at he;exact this es.toList _ (·∈es) (λe he=>by simp at he) (λe he=>by simpa using he) e he
def H2{B:Nat}{fn:FuncId}(h:∀e∈es,cl B e):∀e∈seen P fn es,cl2 B e:=λe he=>by
 obtain⟨h1,h2⟩:=H0 e he;rcases h e h1 with h3|⟨f,h3⟩|h3|h3
 .exact .inl h3
 .exact absurd h3 (h2 f)
 .exact .inr (.inl h3)
 .exact .inr (.inr h3)
def TG{T:Array Value}{rest:List Nat}{W1:World}{e1:Array Event}(hE:P.follows .staticDataAhead=true/\∀g,P.stepOf g=none)(hf:P.funcs[f]?=some fn)(ho:ops[i]?=some o)(hw:Region.wanted o (yielded ops T)=true)
  (h:(execOp (⟨T,[]⟩:Act).eval o).runT P W #[]=(.halt x W1,e1))(hx:stop x=true):NT P cs (stepG P true (G (Fr f T (.inRegion ops (i::rest)::k)) cs) W):=by
 have he:stepG P true (G (Fr f T (.inRegion ops (i::rest)::k)) cs) W=stepG.apply P true ((base f).at ⟨T,[]⟩ (.inRegion ops (i::rest)::k)) cs none (execOp (⟨T,[]⟩:Act).eval o) W:=stepG_oper ho hw;rw[he];unfold stepG.apply;simp only[h,if_true];cases x with
 |panic v=>exact⟨f,T,_,_,rfl,fn,hf⟩
 |stuck s=>trivial
 |unsupported u=>
  cases u with
  |initOrder g=>
   show NT P cs (GStep.after _ (early P _ cs none g W1));unfold early;rw[hE.1,hE.2];trivial
  |_=>trivial
 |_=>cases hx
def JH(h:oY P F f)(asL:Array Value):Frame.enter (stub P F) f asL .normal=Frame.enter P f asL .normal:=by
 obtain⟨fn,c,h1⟩:=h;have e1:(stub P F).funcs[f]?=some fn:=h1.here;rw[enter_at asL h1.ku h1.body,enter_at asL e1 h1.body]
def DC(h:oY P F f)(asL:Array Value):vq P F (Frame.enter P f asL .normal):=by
 obtain⟨fn,c,h1⟩:=id h;rw[enter_at asL h1.ku h1.body];exact .run (by simp[dV,h1.code]) h
def TH(H:Fs P F)(B:oZ P F){T:Array Value}{rest:List Nat}(hS:∀a∈asL,G9 P F a)(hk:(Item.inRegion ops (i::rest)::k).all dV=true)(hO:oY P F f)
 (ho:ops[i]?=some o)(hw:Region.wanted o (yielded ops T)=true):Out P F (Fr f T (.inRegion ops (i::rest)::k)) asL W:=by
 have bY:mB o.op=true:=by
  simp only[aCR,aBg,dV]at hk;exact aCJ.1 hk.1 o (by simpa using aDl ho)
 obtain⟨fn,c,XM⟩:=id hO;cases hr:(execOp (⟨T,[]⟩:Act).eval o).runT (stub P F) (gw W) #[] with
 |mk r es=>
  rcases(aEo H (⟨T,[]⟩:Act).eval o bY).run #[] hr with⟨nx,W1,es1,rfl,Rf,hrp,aBy,hev⟩|⟨x,W1,rfl,hx⟩
  .have hl:=fI hrp;have WI:=fI hr;have Z8:∀e∈listed P f ⟨T,[]⟩ o W,cl2 W1.heap.size e:=by
    unfold listed;rw[jX hrp];exact H2 λe he=>(hev e he).resolve_left BYS
   cases Rf with
   |value=>
    rename_i v;obtain⟨U,hU⟩:=aOV f T o.dst v (.inRegion ops rest::k);refine .inl ⟨Fr f U (.inRegion ops rest::k),asL,W1,⟨λcs=>⟨listed (stub P F) f ⟨T,[]⟩ o (gw W),?_⟩,⟨listed P f ⟨T,[]⟩ o W,λmain cs=>?_,Z8⟩,.run hk hO,hS,aBy⟩⟩
    .rw[<-hU];exact stepG_value ho hw (fR f) WI
    .rw[<-hU];exact stepG_value ho hw (fR f) hl
   |skip=>
    obtain⟨U,hU⟩:=aOV f T o.dst undef (.inRegion ops rest::k);refine .inl ⟨Fr f U (.inRegion ops rest::k),asL,W1,⟨λcs=>⟨listed (stub P F) f ⟨T,[]⟩ o (gw W),?_⟩,⟨listed P f ⟨T,[]⟩ o W,λmain cs=>?_,Z8⟩,.run hk hO,hS,aBy⟩⟩
    .rw[<-hU];exact stepG_none ho hw (fR f) WI
    .rw[<-hU];exact stepG_none ho hw (fR f) hl
   |enter ei rD=>
    rename_i f' fn' c' Dz;have tk:=B _ _ _ ei rD;refine .inl ⟨Frame.enter P f' Dz .normal,Fr f T (.inRegion ops (i::rest)::k)::asL,W1,⟨λcs=>⟨listed (stub P F) f ⟨T,[]⟩ o (gw W),?_⟩,⟨listed P f ⟨T,[]⟩ o W,λmain cs=>?_,Z8⟩,DC tk Dz,λa ha=>?_,aBy⟩⟩
    .rw[<-JH tk];exact stepG_enter ho hw (fR f) WI
    .exact stepG_enter ho hw (fR f) hl
    .rcases aBI.1 ha with rfl|ha
     .exact .mk hk hO
     .exact hS a ha
  .have ei:(stub P F).funcs[f]?=some fn:=XM.here;exact .inr λcs=>TG H.early ei ho hw hr hx
def Tf(fn:Func)(T:Array Value):A1 P F (results fn T):=by
 unfold results;refine nT (E1 _ _ λr=>?_) λvs=>gJ;cases r with
 |tmp t=>exact gJ
 |cell a t=>exact nT (YS _) λ_=>CY _ _
def TO(fn:Func)(T:Array Value)(W:World):(∃v W1 es mO,(results fn T).runT (stub P F) (gw W) #[]=(.ok v (gw W1),es)/\(results fn T).runT P W #[]=(.ok v W1,mO)/\uB W W1/\∀e∈mO,cl W1.heap.size e)\/
  ∃x W1 es,(results fn T).runT (stub P F) (gw W) #[]=(.halt x W1,es):=by
 cases hr:(results fn T).runT (stub P F) (gw W) #[] with
 |mk r es=>
  rcases(Tf (P:=P) (F:=F) fn T).run #[] hr with⟨v,W1,mO,rfl,_,h1,h2,h3⟩|⟨x,W1,rfl,_⟩
  .exact .inl ⟨v,W1,es,mO,rfl,h1,h2,λe he=>(h3 e he).resolve_left BYS⟩
  .exact .inr ⟨x,W1,es,rfl⟩
def Hr{T:Array Value}{v:Value}{c:Frame}(hf:P.funcs[f]?=some fn)(h:(results fn T).runT P w #[]=(.ok v w1,es)):
  stepG P main (G (Rt f T k) (c::cs)) w=.go (G (c.finish v) cs) w1 (seen P f es):=by
 have h1:=fI h;have h2:=jX h;simp[G,Rt,Fr,base,stepG,unwind,doReturn,Frame.at,hf,h1,h2,GStep.after]
def H3{T:Array Value}(hf:P.funcs[f]?=some fn)(h:(results fn T).runT P w #[]=(.halt x w1,es)):
  ∃o w2 g,stepG P main (G (Rt f T k) cs) w=.ended o w2 g:=by
 cases x<;>exact⟨_,_,_,by simp only[G,Rt,Fr,base,stepG,unwind,Frame.at,hf,h,GStep.after];rfl⟩
def TJ{T:Array Value}{a:Frame}(hO:oY P F f)(hL:G9 P F a)(hS:∀a∈asL,G9 P F a):Out P F (Rt f T k) (a::asL) W:=by
 obtain⟨fn,c,XM⟩:=hO;have dI:(stub P F).funcs[f]?=some fn:=XM.here;rcases TO (P:=P) (F:=F) fn T W with⟨v,W1,es,mO,h1,h2,h3,h4⟩|⟨x,W1,es,h1⟩
 .cases hL with
  |mk hk tk=>
   rename_i g U ops i rest l;obtain⟨V,hV⟩:=aOV g U ((ops[i]?).bind (·.dst)) v (.inRegion ops rest::l);refine .inl ⟨Fr g V (.inRegion ops rest::l),asL,W1,⟨λcs=>⟨seen (stub P F) f es,?_⟩,⟨seen P f mO,λmain cs=>?_,H2 h4⟩,.run hk tk,hS,h3⟩⟩
   .rw[<-hV,<-Frame.finish_at];exact Hr dI h1
   .rw[<-hV,<-Frame.finish_at];exact Hr XM.ku h2
 .exact .inr λcs=>by
   obtain⟨o,w2,g,h⟩:=H3 (k:=k) (main:=true) (cs:=a::asL++cs) dI h1;rw[h];trivial
def aJz(H:Fs P F)(B:oZ P F)(hT:vq P F A)(hS:∀a∈asL,G9 P F a):
  (asL=[]/\∃f T k,A=Rt f T k/\oY P F f)\/Out P F A asL W:=by
 cases hT with
 |rt hO=>
  cases asL with
  |nil=>exact .inl ⟨rfl,_,_,_,rfl,hO⟩
  |cons a asL=>exact .inr (TJ hO (hS a (aBw ..)) (λx hx=>hS x (aBm _ hx)))
 | @run f T k hk hO=>
  refine .inr ?_;cases k with
  |nil=>exact .inl ⟨_,asL,W,Twin.ctl (λp main cs W _=>stepG_end) (.rt hO) hS⟩
  |cons x k=>
   by_cases h1:∃ops l,x=.inRegion ops l
   .obtain⟨ops,l,rfl⟩:=h1;cases l with
    |nil=>
     simp only[aCR,aBg]at hk;exact .inl ⟨_,asL,W,Twin.ctl (λp main cs W _=>stepG_region_end) (.run hk.2 hO) hS⟩
    |cons i rest=>
     cases hn:((ops[i]?).map (Region.wanted · (yielded ops T))).getD false with
     |false=>exact CZ hS hk hO hn
     |true=>
      cases ho:ops[i]? with
      |none=>rw[ho]at hn;cases hn
      |some o=>
       rw[ho]at hn;exact TH H B hS hk hO ho hn
   .by_cases h2:∃id ops,x=.code (.region id ops true)
    .obtain⟨id,ops,rfl⟩:=h2;exact vE hS hk hO
    .exact JF hS hk hO (λops l e=>h1 ⟨ops,l,e⟩) (λid ops e=>h2 ⟨id,ops,e⟩)
end
end Rk.Al
namespace Rk.fD
open Go Go.Conc
variable{main:Bool}{O:Nat->Prop}{w W w1 W1:World}{f:Array Event}{Post:Value->Array Obj->Prop}{c:Frame}{cs:List Frame}
variable{P:Program}
def NV(Rd O:Nat->Prop)(w w1:World):Prop:=(∀b,Rd b\/O b->w1.heap[b]?=w.heap[b]?)/\w.heap.size<=w1.heap.size
structure kv(Rd O O':Nat->Prop)(w w':World)(es:Array Event):Prop where
 le:∀b,O b->O' b
 fresh:∀b,O' b->O b\/(w.heap.size<=b/\b<w'.heap.size)
 all:∀b,w.heap.size<=b->b<w'.heap.size->O' b
 size:w.heap.size<=w'.heap.size
 still:∀b,b<w.heap.size->¬O b->w'.heap[b]?=w.heap[b]?
 os:w'.os=w.os
 tape:w'.tape=w.tape
 output:w'.output=w.output
 events:∀e∈es,e=⟨.mark .noRoom,false,true⟩\/(e.sync=false/\((∃b,e.loc=.obj b/\e.write=false/\(O' b\/Rd b))\/∃b o,e.loc=.cell ⟨b,o,none⟩/\(O' b\/(Rd b/\e.write=false))))
inductive Walk(P:Program)(main:Bool)(Rd:Nat->Prop)(Stop:(Nat->Prop)->Goroutine->World->Prop):(Nat->Prop)->Goroutine->World->Prop
 |stop {O:Nat->Prop} {g:Goroutine} {w:World}:(∀w1,NV Rd O w w1->Stop O g w1)->Walk P main Rd Stop O g w
 |go {O:Nat->Prop} {g:Goroutine} {w:World} (O':World->Nat->Prop) (g':World->Goroutine) (w':World->World) (es:World->Array Event):g.status=.running->(∀w1,NV Rd O w w1->stepG P main g w1=.go (g' w1) (w' w1) (es w1))->
  (∀w1,NV Rd O w w1->kv Rd O (O' w1) w1 (w' w1) (es w1))->(∀w1,NV Rd O w w1->Walk P main Rd Stop (O' w1) (g' w1) (w' w1))->Walk P main Rd Stop O g w
def Walk.step{Rd:Nat->Prop}{Stop:(Nat->Prop)->Goroutine->World->Prop}{g:Goroutine}(hs:g.status=.running)
  (h:∀w1,NV Rd O w w1->∃O' g' w' es,stepG P main g w1=.go g' w' es/\kv Rd O O' w1 w' es/\Walk P main Rd Stop O' g' w'):Walk P main Rd Stop O g w:=by
 have:∀w1,∃z:(Nat->Prop)×Goroutine×World×Array Event,NV Rd O w w1->stepG P main g w1=.go z.2.1 z.2.2.1 z.2.2.2/\kv Rd O z.1 w1 z.2.2.1 z.2.2.2/\Walk P main Rd Stop z.1 z.2.1 z.2.2.1:=λw1=>by
  by_cases hr:NV Rd O w w1
  .obtain⟨O',g',w',es,h1⟩:=h w1 hr;exact⟨(O',g',w',es),λ_=>h1⟩
  .exact⟨(O,g,w,#[]),λh=>absurd h hr⟩
 let z:=λw1=>Classical.choose (this w1)
 have hz:=λw1=>aD2 (this w1);exact .go (λw1=>(z w1).1) (λw1=>(z w1).2.1) (λw1=>(z w1).2.2.1) (λw1=>(z w1).2.2.2) hs (λw1 hr=>(hz w1 hr).1) (λw1 hr=>(hz w1 hr).2.1) (λw1 hr=>(hz w1 hr).2.2)
structure xE(σ0:Nm)(O:Nat->Prop)(τ:Nm)(W w:World):Prop where
 wr:WR τ W w
 gB:GB<=W.heap.size
 gb:GB<=w.heap.size
 low:∀a b,σ0 a b->τ a b/\xD W a
 vu:∀a b,τ a b->σ0 a b\/O b
 own:∀b,O b->∃a,τ a b
def Rd0(σ0:Nm)(b:Nat):Prop:=∃a,σ0 a b
def xE.rely{σ0 τ:Nm}(h:xE σ0 O τ W w)(hr:NV (Rd0 σ0) O w w1):xE σ0 O τ W w1:=
 ⟨⟨h.wr.fn,h.wr.inj,λa b WU=>by
  rw[hr.1 b ((h.vu a b WU).imp (λx=>⟨a,x⟩) id)];exact h.wr.cell a b WU⟩,h.gB,aBS h.gb hr.2,h.low,h.vu,h.own⟩
def xE.on{σ0 τ:Nm}(h:xE σ0 O τ W w)(T:Nat->Question->Nat):xE σ0 O τ (W.on T) w:=⟨h.wr.on T,h.gB,h.gb,h.low,h.vu,h.own⟩
def grown(O:Nat->Prop)(w w':World)(b:Nat):Prop:=O b\/(w.heap.size<=b/\b<w'.heap.size)
def xE.aKA{σ0 τ υ:Nm}(h:xE σ0 O τ W w)(t:qT τ υ W W1 w w1 f)(hw:WR υ W1 w1):xE σ0 (grown O w w1) υ W1 w1:=
 ⟨hw,aBS h.gB t.PQ,aBS h.gb t.size,λa b WU=>⟨t.le _ _ (h.low a b WU).1,t.ice a (h.low a b WU).2⟩,λa b WU=>by
  rcases t.fresh a b WU with h1|⟨_,h2,h3⟩
  .exact(h.vu a b h1).imp id .inl
  .exact .inr (.inr ⟨h2,h3⟩),λb hb=>by
  rcases hb with hb|⟨h1,h2⟩
  .obtain⟨a,ha⟩:=h.own b hb;exact⟨a,t.le _ _ ha⟩
  .exact t.all b h1 h2⟩
def xE.aKB{σ0 τ υ:Nm}(h:xE σ0 O τ W w)(t:qT τ υ W W1 w w1 f):kv (Rd0 σ0) O (grown O w w1) w w1 f:=
 ⟨λb hb=>.inl hb,λb hb=>hb,λb h1 h2=>.inr ⟨h1,h2⟩,t.size,λb hb ho=>by
  by_cases hn:∃a,τ a b
  .obtain⟨a,ha⟩:=hn;rcases h.vu a b ha with h1|h1
   .exact t.still a b ha (h.low a b h1).2
   .exact absurd h1 ho
  .exact t.other b hb λa ha=>hn ⟨a,ha⟩,t.os,t.tape,t.output,λe he=>by
  rcases t.events e he with h1|⟨a,b,h1,h2,h3⟩
  .exact .inl h1
  .refine .inr ⟨h2,?_⟩;have hb:σ0 a b\/grown O w w1 b:=by
    rcases t.fresh a b h1 with h4|⟨_,h4,h5⟩
    .exact(h.vu a b h4).imp id .inl
    .exact .inr (.inr ⟨h4,h5⟩)
   rcases h3 with⟨h3,h4⟩|⟨o,h3,h4⟩
   .exact .inl ⟨b,h3,h4,hb.elim (λx=>.inr ⟨a,x⟩) .inl⟩
   .refine .inr ⟨b,o,h3,?_⟩;rcases hb with hb|hb
    .refine .inr ⟨⟨a,hb⟩,?_⟩;cases hw:e.write with
     |false=>rfl
     |true=>exact absurd (h.low a b hb).2 (h4 hw)
    .exact .inl hb⟩
def Ends(P:Program)(d0:Nat)(Post:Value->Array Obj->Prop)(x:Cf)(X:Nat->Question->Nat):Prop:=
 ∀T:Nat->Question->Nat,(∀i q,d0<=i->i<x.W.drawn->T i q=X i q)->∃n fr W' v,runN P n (lone x.A (x.asL++[c0 P]) (x.W.on T))=.next (lone fr [c0 P] W')/\fr.leaving P W' (.returned v)/\Post v W'.heap
def aEp(σ0:Nm)(Post:Value->Array Obj->Prop)(c:Frame)(cs:List Frame)(O:Nat->Prop)(g:Goroutine)(w:World):Prop:=
 ∃τ W' v v',g=G (c.finish v') cs/\Post v W'.heap/\VR τ v v'/\xE σ0 O τ W' w
def Ny{α:Type}{l:List α}{x y:α}(h:l++[x]=[y]):l=[]:=by
 cases l with
 |nil=>rfl
 |cons a l=>simp at h
def H4(F:Fx P)(B:oZ P){σ0:Nm}{d0:Nat}{x:Cf}(hA:Acc (λy x=>LS P (c0 P) x y) x):
  ∀{τ:Nm} {O:Nat->Prop} {C:Frame} {bs:List Frame} {w:World} {X:Nat->Question->Nat},d0<=x.W.drawn->xE σ0 O τ x.W w->Hp P τ x.A C->YZ P τ x.asL bs->Ends P d0 Post x X->
   Walk P main (Rd0 σ0) (aEp σ0 Post c cs) O (G C (bs++c::cs)) w:=by
 induction hA with
 |intro x _ ih=>
  intro τ O C bs w X hd hI hT hS hE;by_cases dm:x.asL=[]/\∃f T k,x.A=Rt f T k
  .obtain⟨ha,f,T,k,hk⟩:=dm;rw[ha]at hS;cases hS;rw[hk]at hT;generalize hR:Rt f T k=R at hT;cases hT with
   |run WN HU tk=>exact absurd (congrArg Frame.mode hR) (by simp[Rt,Fr,Frame.at])
   | @rt f' U U' k' WN tk=>
    obtain⟨fn,code,h1,h2,h3,h4⟩:=tk;obtain⟨v,v',hv,hr⟩:=Nw (P:=P) h4 WN;have aIJ:Post v x.W.heap:=by
     obtain⟨n,fr,W',u,e1,e2,e3⟩:=hE X λ_ _ _ _=>rfl;rw[ha,hk,hR]at e1;cases n with
     |zero=>
      injection e1 with e1;obtain⟨e4,_,e5⟩:=jG e1;subst e4;subst e5;obtain⟨_,_,_,fn',g1,g2⟩:=e2;have g1':P.funcs[f']?=some fn':=g1;rw[h1]at g1';cases g1';have g2':(results fn U).run P (x.W.on X)=.ok u (x.W.on X):=g2;rw[(hr _).1.1]at g2';cases g2';exact e3
     |succ n=>
      exfalso;have hs:step P (lone (Rt f' U k') [c0 P] (x.W.on X))=.next (lone ((c0 P).finish v) [] (x.W.on X)):=step_leave_returned ⟨rfl,rfl,rfl,fn,h1,(hr _).1.1⟩
      simp only[aDF,runN,hs]at e1;cases n with
      |zero=>
       injection e1 with e1;obtain⟨_,e,_⟩:=jG e1;cases e
      |succ n=>
       obtain⟨o,W1,h5⟩:=QC (P:=P) (v:=v) (W:=x.W.on X);simp only[runN,h5]at e1;cases e1
    refine .step rfl λw1 hw1=>⟨O,_,w1,#[],JG h1 (hr w1).2,⟨λ_ h=>h,λ_ h=>.inl h,λb h1 h2=>absurd h1 BYO,aAB _,λ_ _ _=>rfl,rfl,rfl,rfl,λe he=>by simp at he⟩,.stop λw2 BU=>?_⟩;exact⟨τ,x.W,v,v',rfl,aIJ,hv,(hI.rely hw1).rely BU⟩
  .have c8:∀fr W' v,lone x.A (x.asL++[c0 P]) W'=lone fr [c0 P] W'->fr.leaving P W' (.returned v)->False:=λfr W' v e h=>by
    obtain⟨e1,e2,_⟩:=jG e;subst e1;have hm:x.A.mode=.returning:=h.1;refine dm ⟨Ny e2,?_⟩;generalize x.A=A at hT hm;cases hT with
    |run _ _ _=>cases hm
    |rt _ _=>exact⟨_,_,_,rfl⟩
   refine .step rfl λw1 hw1=>?_;have hI1:=hI.rely hw1
   let T:Nat->Question->Nat:=λi q=>if i<x.W.drawn then X i q else w1.tape (w1.drawn+(i-x.W.drawn)) q
   have hTX:∀i q,d0<=i->i<x.W.drawn->T i q=X i q:=λi q _ h=>if_pos h;rcases G7 (c0:=c0 P) F B (W:=x.W.on T) (w0:=w1) hT hS (hI1.wr.on T) hI1.gB hI1.gb with⟨h1,_,f,U,U',k,h2,_⟩|⟨A1,uJ,W1,hB⟩|hL
   .exact absurd ⟨h1,f,U,k,h2⟩ dm
   .obtain⟨υ,B1,bs1,w',f,g1,g2,g3,g4,g5,g6⟩:=hB.right main (c::cs) w1 (hI1.wr.on T) hI1.gb (λi q _=>by
     show(if x.W.drawn+i<x.W.drawn then _ else _)=_;rw[if_neg BYO];show w1.tape (w1.drawn+(x.W.drawn+i-x.W.drawn)) q=_;rw[aID])
    have hdd:x.W.drawn<=W1.drawn:=hB.drawn;have e9:∀T2,(∀i q,x.W.drawn<=i->i<W1.drawn->T2 i q=T i q)->∃es,stepG P true (G x.A (x.asL++[c0 P])) (x.W.on T2)=.go (G A1 (uJ++[c0 P])) (W1.on T2) es:=λT2 h=>hB.left T2 h;refine⟨_,_,w',f,g1,(hI1.on T).aKB g5,ih ⟨A1,uJ,W1⟩ ⟨hdd,T,e9⟩ (X:=T) (aBS hd hdd) ((hI1.on T).aKA g5 g4) g2 g3 λT2 h2=>?_⟩;obtain⟨n,fr,W',v,e1,e2,e3⟩:=hE T2 λi q h3 h4=>(h2 i q h3 (aAx h4 hdd)).trans (hTX i q h3 h4);cases n with
    |zero=>
     injection e1 with e1;have e5:=(jG e1).2.2;subst e5;exact(c8 fr _ v e1 e2).elim
    |succ n=>
     obtain⟨es,he⟩:=e9 T2 λi q h3 h4=>h2 i q (aBS hd h3) h4;have hs:step P (lone x.A (x.asL++[c0 P]) (x.W.on T2))=.next (lone A1 (uJ++[c0 P]) (W1.on T2)):=step_solo_go rfl he
     simp only[runN,hs]at e1;exact⟨n,fr,W',v,e1,e2,e3⟩
   .exfalso;obtain⟨n,fr,W',v,e1,e2,e3⟩:=hE T hTX;cases n with
    |zero=>
     injection e1 with e1;have e5:=(jG e1).2.2;subst e5;exact c8 fr _ v e1 e2
    |succ n=>
     generalize hs:stepG P true (G x.A (x.asL++[c0 P])) (x.W.on T)=s at hL;cases s with
     |ended o w2 es=>
      have h1:step P (lone x.A (x.asL++[c0 P]) (x.W.on T))=.ended o w2:=step_lone_ended (by
       have MO:stepG P true {frame:=x.A,callers:=x.asL++[c0 P],status:=.running,dying:=none} (x.W.on T)=.ended o w2 es:=hs;rw[MO];rfl)
      simp only[runN,h1]at e1;cases e1
     |go g w2 es=>
      obtain⟨f,U,k,ch,rfl,fn,hf⟩:=hL;have h1:step P (lone x.A (x.asL++[c0 P]) (x.W.on T))=.next (lone {Fr f U k with mode:=.panicking ch} (x.asL++[c0 P]) w2):=step_solo_go rfl hs
      simp only[runN,h1]at e1;obtain⟨ch',hc⟩:=ZC x.asL _ n w2 fr W' hS.wt ⟨ch,rfl,rfl,fn,hf⟩ e1;have hm:fr.mode=.returning:=e2.1;rw[hm]at hc;cases hc
     |_=>exact hL
def NW(F:Fx P)(B:oZ P){σ0:Nm}{f:FuncId}(hf:f∈wl){args e7:Array Value}
  (hw:WR σ0 W w)(hG:GB<=W.heap.size)(hg:GB<=w.heap.size)(hi:∀a b,σ0 a b->xD W a)(ha:eY σ0 args e7)
  (hc:∀T,Calls P f args (W.on T) λe W'=>∃v,e=.returned v/\Post v W'.heap):
  Walk P main (Rd0 σ0) (aEp σ0 Post c cs) (λ_=>False) (G (Frame.enter P f e7 .normal) (c::cs)) w:=by
 have aG4:Ends P W.drawn Post ⟨Frame.enter P f args .normal,[],W⟩ W.tape:=λT _=>by
  obtain⟨e,W',fr,⟨v,rfl,hp⟩,⟨n,hn⟩,_,hl⟩:=hc T [c0 P];exact⟨n,fr,W',v,hn,hl,hp⟩
 have aM4:Acc (λy x=>LS P (c0 P) x y) ⟨Frame.enter P f args .normal,[],W⟩:=LS.acc λT=>by
  obtain⟨e,W',fr,⟨v,rfl,hp⟩,⟨n,hn⟩,_,hl⟩:=hc T [c0 P];refine⟨n,fr,W',hn,λA1 uJ W1 es h=>?_⟩;have h1:step P (lone fr [c0 P] W')=.next (lone A1 (uJ++[c0 P]) W1):=step_solo_go rfl h
  have h2:step P (lone fr [c0 P] W')=.next (lone ((c0 P).finish v) [] W'):=step_leave_returned hl
  rw[h1]at h2;injection h2 with h2;obtain⟨_,h3,_⟩:=jG h2;cases uJ<;>cases h3
 exact H4 F B (bs:=[]) aM4 (aAB _) ⟨hw,hG,hg,λa b h=>⟨h,hi a b h⟩,λa b h=>.inl h,λb h=>h.elim⟩ (QB (B f hf) ha) .nil aG4
end Rk.fD
namespace Rk.Cw
open Go Go.Conc Rk.fD
variable{l:Loc}{B:Nat}{w w1 w':World}{es:Array Event}
abbrev PS:=Nat->Option Nat->Prop
def PS.or(S R:PS):PS:=λb x=>S b x\/R b x
def has(S:PS):Loc->Prop
 | .cell a=>S a.block none\/S a.block (some a.off)
 | .obj r=>S r none
 |_=>False
def lap(x y:Option Nat):Prop:=x=none\/y=none\/x=y
def xQ(S T:PS):Prop:=∀b x y,S b x->T b y->¬lap x y
def mQ(B:Nat)(S:PS):Prop:=∀b x,S b x->b<B
def xQ.has{S T:PS}(h:xQ S T)(h1:has S l)(h2:Cw.has T l):False:=by
 cases l with
 |cell a=>
  rcases h1 with h1|h1<;>rcases h2 with h2|h2
  .exact h _ _ _ h1 h2 (.inl rfl)
  .exact h _ _ _ h1 h2 (.inl rfl)
  .exact h _ _ _ h1 h2 (.inr (.inl rfl))
  .exact h _ _ _ h1 h2 (.inr (.inr rfl))
 |obj r=>exact h _ _ _ h1 h2 (.inl rfl)
 |_=>exact h1
def xQ.symm{S T:PS}(h:xQ S T):xQ T S:=λb x y h1 h2 h3=>h b y x h2 h1 (by
 rcases h3 with e|e|e
 .exact .inr (.inl e)
 .exact .inl e
 .exact .inr (.inr e.symm))
def fZ{S R:PS}:has (S.or R) l↔has S l\/has R l:=by
 cases l with
 |cell a=>
  constructor
  .rintro((h|h)|(h|h))
   .exact .inl (.inl h)
   .exact .inr (.inl h)
   .exact .inl (.inr h)
   .exact .inr (.inr h)
  .rintro((h|h)|(h|h))
   .exact .inl (.inl h)
   .exact .inr (.inl h)
   .exact .inl (.inr h)
   .exact .inr (.inr h)
 |obj r=>exact Iff.rfl
 |_=>exact⟨λh=>.inl h,λh=>h.elim id id⟩
def TP{S:PS}(h:mQ B S)(hl:has S l):l.low B:=by
 cases l with
 |cell a=>rcases hl with hl|hl<;>exact h _ _ hl
 |obj r=>exact h _ _ hl
 |_=>exact hl.elim
def Part(p:Nat->Prop)(b:Nat)(w w1:World):Prop:=∃c c' T fz,w.heap[b]?=some (.cells c T fz)/\w1.heap[b]?=some (.cells c' T fz)/\c'.size=c.size/\∀j,¬p j->c'[j]?=c[j]?
def Part.none{p:Nat->Prop}{b:Nat}(h:Part p b w w1)(hp:∀j,¬p j):w1.heap[b]?=w.heap[b]?:=by
 obtain⟨c,c',T,fz,h1,h2,h3,h4⟩:=h;have:c'=c:=Array.ext_getElem? λj=>h4 j (hp j);rw[h1,h2,this]
structure bZ(V:PS)(w w1:World):Prop where
 all:∀b,V b none->w1.heap[b]?=w.heap[b]?
 one:∀b o,V b (some o)->∀c T fz,w.heap[b]?=some (.cells c T fz)->∃c',w1.heap[b]?=some (.cells c' T fz)/\c'.size=c.size/\c'[o]?=c[o]?
 size:w.heap.size<=w1.heap.size
 os:w1.os=w.os
 tape:w1.tape=w.tape
 output:w1.output=w.output
def bZ.refl(V:PS)(w:World):bZ V w w:=⟨λ_ _=>rfl,λ_ _ _ c _ _ h=>⟨c,h,rfl,rfl⟩,aAB _,rfl,rfl,rfl⟩
def bZ.trans{V:PS}{w2:World}(h:bZ V w w1)(g:bZ V w1 w2):bZ V w w2:=
 ⟨λb hb=>(g.all b hb).trans (h.all b hb),λb o hb c T fz hc=>by
  obtain⟨c1,h1,h2,h3⟩:=h.one b o hb c T fz hc;obtain⟨c2,g1,g2,g3⟩:=g.one b o hb c1 T fz h1;exact⟨c2,g1,g2.trans h2,g3.trans h3⟩,aBS h.size g.size,g.os.trans h.os,g.tape.trans h.tape,g.output.trans h.output⟩
def bZ.sub{V U:PS}(h:bZ V w w1)(hs:∀b x,U b x->V b x):bZ U w w1:=
 ⟨λb hb=>h.all b (hs _ _ hb),λb o hb=>h.one b o (hs _ _ hb),h.size,h.os,h.tape,h.output⟩
def bZ.at(V:PS)(w:World)(d:Nat):bZ V w (w.at d):=⟨λ_ _=>rfl,λ_ _ _ c _ _ h=>⟨c,h,rfl,rfl⟩,aAB _,rfl,rfl,rfl⟩
structure Gu(S R S':PS)(w w':World)(es:Array Event):Prop where
 le:∀b x,S b x->S' b x
 fresh:∀b x,S' b x->S b x\/(w.heap.size<=b/\b<w'.heap.size)
 size:w.heap.size<=w'.heap.size
 still:∀b,b<w.heap.size->¬S b none->w'.heap[b]?=w.heap[b]?\/Part (λj=>S b (some j)) b w w'
 os:w'.os=w.os
 tape:w'.tape=w.tape
 output:w'.output=w.output
 events:∀e∈es,e=⟨.mark .noRoom,false,true⟩\/(e.sync=false/\(has S' e.loc\/(has R e.loc/\e.write=false)))
def Gu.refl(S R:PS)(w:World):Gu S R S w w #[]:=⟨λ_ _ h=>h,λ_ _ h=>.inl h,aAB _,λ_ _ _=>.inl rfl,rfl,rfl,rfl,λe he=>by simp at he⟩
def Gu.iQ{S R S' V:PS}(h:Gu S R S' w w' es)(ho:xQ S V)(hb:mQ w.heap.size V):bZ V w w':=by
 refine⟨λb hv=>?_,λb o hv c T fz hc=>?_,h.size,h.os,h.tape,h.output⟩
 .rcases h.still b (hb _ _ hv) λhs=>ho _ _ _ hs hv (.inl rfl) with e|e
  .exact e
  .exact e.none λj hs=>ho _ _ _ hs hv (.inr (.inl rfl))
 .rcases h.still b (hb _ _ hv) λhs=>ho _ _ _ hs hv (.inl rfl) with e|⟨c0,c1,T1,fz1,h1,h2,h3,h4⟩
  .exact⟨c,e.trans hc,rfl,rfl⟩
  .rw[hc]at h1;cases h1;exact⟨c1,h2,h3,h4 o λhs=>ho _ _ _ hs hv (.inr (.inr rfl))⟩
def Gu.off{S R S' V:PS}(h:Gu S R S' w w' es)(ho:xQ S V)(hb:mQ w.heap.size V):xQ S' V:=λb x y hs hv hl=>by
 rcases h.fresh b x hs with h1|⟨h1,_⟩
 .exact ho _ _ _ h1 hv hl
 .have:=hb _ _ hv;omega
def Gu.inB{S R S':PS}(h:Gu S R S' w w' es)(hb:mQ w.heap.size S):mQ w'.heap.size S':=λb x hs=>by
 rcases h.fresh b x hs with h1|⟨_,h1⟩
 .exact aAx (hb _ _ h1) h.size
 .exact h1
def mQ.mono{S:PS}{B':Nat}(h:mQ B S)(hb:B<=B'):mQ B' S:=λb x hs=>aAx (h b x hs) hb
def Gu.has{S R S':PS}(h:Gu S R S' w w' es)(hl:has S' l):Cw.has S l\/¬l.low w.heap.size:=by
 cases l with
 |cell a=>
  rcases hl with hl|hl<;>rcases h.fresh _ _ hl with h1|⟨h1,_⟩
  .exact .inl (.inl h1)
  .exact .inr (Nat.not_lt.2 h1)
  .exact .inl (.inr h1)
  .exact .inr (Nat.not_lt.2 h1)
 |obj r=>
  rcases h.fresh _ _ hl with h1|⟨h1,_⟩
  .exact .inl h1
  .exact .inr (Nat.not_lt.2 h1)
 |_=>exact hl.elim
def H5{S T:PS}(h:∀b x,S b x->T b x)(hl:has S l):has T l:=by
 cases l with
 |cell a=>exact hl.imp (h _ _) (h _ _)
 |obj r=>exact h _ _ hl
 |_=>exact hl
inductive iB where
 |z
 |mk(f:World->Option (World×Value)->iB)
def iB.nat:Nat->iB
 |0=>.z
 |n+1=>.mk λ_ _=>.nat n
def iB.lt:iB->iB->Prop
 |r,.mk f=>∃w v,r=f w v
 |_,.z=>False
def iB.wf:WellFounded iB.lt:=⟨λr=>by
 induction r with
 |z=>exact⟨_,λy h=>h.elim⟩
 |mk f ih=>exact⟨_,λy ⟨w,v,e⟩=>e▸ih w v⟩⟩
def vF:Nat->(Nat->iB)->(Nat->iB)->Prop
 |0,_,_=>False
 |n+1,D',D=>vF n D' D\/((∀i,i<n->D' i=D i)/\(D' n).lt (D n))
def vF.one{D:Nat->iB}{i:Nat}{r:iB}(h:r.lt (D i)):∀{n:Nat},i<n->vF n (λj=>if j=i then r else D j) D
 |0,hi=>absurd hi (Nat.not_lt_zero _)
 |n+1,hi=>by
  by_cases e:i=n
  .subst e;exact .inr ⟨λj hj=>if_neg BYO,by simpa using h⟩
  .exact .inl (vF.one h BYO)
def vF.acc:∀(n:Nat) (D:Nat->iB),Acc (vF n) D
 |0,D=>⟨_,λy h=>h.elim⟩
 |n+1,D=>by
  have:∀X:Nat->iB,Acc (vF n) X->∀D:Nat->iB,(∀i,i<n->D i=X i)->Acc (vF (n+1)) D:=by
   intro X hX;induction hX with
   |intro X _ ih=>
    intro D hD;have h2:∀r:iB,Acc iB.lt r->∀D:Nat->iB,(∀i,i<n->D i=X i)->D n=r->Acc (vF (n+1)) D:=by
     intro r hr;induction hr with
     |intro r _ ih2=>
      intro D hD hr;refine⟨_,λy hy=>?_⟩;rcases hy with hy|⟨hy,hl⟩
      .have hyX:vF n y X:=by
        have cg:∀(m:Nat),m<=n->vF m y D->vF m y X:=by
         intro m;induction m with
         |zero=>intro _ h;exact h
         |succ m ihm=>
          intro hm h;rcases h with h|⟨h3,h4⟩
          .exact .inl (ihm BYO h)
          .exact .inr ⟨λi hi=>(h3 i hi).trans (hD i BYO),by rw[<-hD m BYO];exact h4⟩
        exact cg n (aAB _) hy
       exact ih y hyX y λ_ _=>rfl
      .exact ih2 (y n) (hr▸hl) y (λi hi=>(hy i hi).trans (hD i hi)) rfl
    exact h2 (D n) (iB.wf.apply _) D hD rfl
  exact this D (vF.acc n D) D λ_ _=>rfl
variable{y:MemOp}
def QD{x:MemAct}{a:Touch}(h:x.touch?=some a)(hl:x.low B):a.loc.low B:=by
 cases x with
 |access e=>simp only[MemAct.touch?,aDu]at h;subst h;exact hl
 |mark m=>cases m<;>simp[MemAct.touch?]at h<;>subst h<;>exact hl
 |_=>simp[MemAct.touch?]at h
structure TI(Sh:Loc->Prop)(n:Nat)(live:Nat->Prop)(S R:Nat->PS)(rl:Nat->Option Nat)(t:Trace)(B:Nat):Prop where
 known:∀j a,touchAt t j=some a->a.loc.isMemory=true->Knows t 0 j\/(Sh a.loc/\a.kind=.atomic/\¬t.heard j)\/
  ∃i,live i/\t.g? j=some i/\(∀p,rl i=some p->j<=p)/\(has (S i) a.loc\/(has (R i) a.loc/\a.write=false)\/(Sh a.loc/\a.kind=.atomic))
 mine:∀i,live i->∀j a,touchAt t j=some a->(has (S i) a.loc\/(has (R i) a.loc/\a.write=true))->Knows t i j
 quiet:∀j a,touchAt t j=some a->Sh a.loc->a.kind=.atomic\/(a.kind=.said/\t.g? j=some 0)
 nr:∀said,¬Race said t
 gs:∀op∈t,op.g<n
 low:∀op∈t,op.act.low B
 shl:∀l,Sh l->l.low B
 apart:∀i,live i->∀l,Sh l->¬has (S i) l/\¬has (R i) l
 fN:∀i,live i->0<i/\i<n
 rel:∀i p,live i->rl i=some p->p<t.size/\t.g? p=some i
section
variable{Sh:Loc->Prop}{n:Nat}{live:Nat->Prop}{S S' R:Nat->PS}{rl:Nat->Option Nat}{t u:Trace}{B':Nat}
def nJ(Sh:Loc->Prop)(live:Nat->Prop)(S R:Nat->PS)(g:Nat)(x:Touch):Prop:=
 (Sh x.loc/\(x.kind=.atomic\/(x.kind=.said/\g=0)))\/(¬Sh x.loc/\(g=0\/has (S g) x.loc\/(has (R g) x.loc/\x.write=false))/\∀i,live i->i≠g->¬has (S i) x.loc/\(x.write=true->¬has (R i) x.loc))
def TI.app(h:TI Sh n live S R rl t B){g:Nat}(hg:∀op∈u,op.g=g)(gn:g<n)
  (hk:g=0\/(live g/\rl g=none)\/((∀op∈u,∀x,op.act.touch?=some x->Sh x.loc)/\∀j x,t.size<=j->touchAt (t++u) j=some x->¬(t++u).heard j))
  (hS:∀i,i≠g->S' i=S i)(le:∀l,has (S g) l->has (S' g) l)(grow:∀l,has (S' g) l->has (S g) l\/¬l.low B)
  (hu:∀op∈u,∀x,op.act.touch?=some x->nJ Sh live S' R g x)(hB:B<=B')(hl:∀op∈u,op.act.low B'):TI Sh n live S' R rl (t++u) B':=by
 have hle:∀i l,has (S i) l->has (S' i) l:=λi l hl=>by
  by_cases e:i=g
  .subst e;exact le l hl
  .rw[hS i e];exact hl
 have hgr:∀i l,has (S' i) l->has (S i) l\/¬l.low B:=λi l hl=>by
  by_cases e:i=g
  .subst e;exact grow l hl
  .rw[hS i e]at hl;exact .inl hl
 have old:∀{j a},j<t.size->touchAt (t++u) j=some a->touchAt t j=some a:=λhj ha=>by rwa[touchAt_old hj]at ha
 have new:∀{j a},touchAt (t++u) j=some a->j<t.size\/(t.size<=j/\∃op,(t++u)[j]?=some op/\op∈u/\op.act.touch?=some a):=λ{j a} ha=>by
  obtain⟨op,ho,zR⟩:=touch_of ha;rcases getElem?_append_cases ho with⟨hj,_⟩|⟨hj,GK⟩
  .exact .inl hj
  .exact .inr ⟨hj,op,ho,GK,zR⟩
 have low:∀{j a},touchAt t j=some a->a.loc.low B:=λha=>by
  obtain⟨op,ho,zR⟩:=touch_of ha;exact QD zR (h.low op (aDl ho))
 have apart:∀i,live i->∀l,Sh l->¬has (S' i) l/\¬has (R i) l:=λi hi l hl=>⟨λhs=>by
  rcases hgr i l hs with h1|h1
  .exact(h.apart i hi l hl).1 h1
  .exact h1 (h.shl l hl),(h.apart i hi l hl).2⟩
 have zt:∀i,live i->∀{j a},touchAt t j=some a->(has (S' i) a.loc\/(has (R i) a.loc/\a.write=true))->Knows t i j:=λi hi {j a} ha hc=>by
  rcases hc with hc|hc
  .rcases hgr i _ hc with h1|h1
   .exact h.mine i hi j a ha (.inl h1)
   .exact absurd (low ha) h1
  .exact h.mine i hi j a ha (.inr hc)
 refine⟨λj a ha hm=>?_,λi hi j a ha hc=>?_,λj a ha hs=>?_,λsaid=>?_,λop cK=>?_,λop cK=>?_,λl hl=>Loc.low_mono hB (h.shl l hl),apart,h.fN,λi p hi hp=>?_⟩
 .rcases new ha with hj|⟨hj,op,ho,GK,zR⟩
  .rcases h.known j a (old hj ha) hm with h1|⟨h1,h2,h3⟩|⟨i,h1,h2,h3,h4⟩
   .exact .inl (h1.app u)
   .exact .inr (.inl ⟨h1,h2,λhh=>h3 ((heard_old hj).1 hh)⟩)
   .exact .inr (.inr ⟨i,h1,by rw[g?_old hj];exact h2,h3,h4.imp (hle i _) id⟩)
  .have hgj:(t++u).g? j=some g:=by simp[Trace.g?,ho,hg op GK]
   rcases hk with rfl|⟨h1,h2⟩|⟨h1,h2⟩
   .have:=knows_own ho;rw[hg op GK]at this;exact .inl this
   .refine .inr (.inr ⟨g,h1,hgj,(λp hp=>by rw[h2]at hp;cases hp),?_⟩);rcases hu op GK a zR with⟨h3,h4|⟨_,h4⟩⟩|⟨_,h3,_⟩
    .exact .inr (.inr ⟨h3,h4⟩)
    .exact absurd (h4▸(h.fN g h1).1) (Nat.lt_irrefl 0)
    .rcases h3 with rfl|h3|h3
     .exact absurd (h.fN 0 h1).1 (Nat.lt_irrefl 0)
     .exact .inl h3
     .exact .inr (.inl h3)
   .have lI:=h1 op GK a zR;rcases hu op GK a zR with⟨_,h3|⟨_,rfl⟩⟩|⟨h3,_⟩
    .exact .inr (.inl ⟨lI,h3,h2 j a hj ha⟩)
    .have:=knows_own ho;rw[hg op GK]at this;exact .inl this
    .exact absurd lI h3
 .rcases new ha with hj|⟨hj,op,ho,GK,zR⟩
  .exact(zt i hi (old hj ha) hc).app u
  .by_cases e:i=g
   .have:=knows_own ho;rw[hg op GK,<-e]at this;exact this
   .exfalso;rcases hu op GK a zR with h3|⟨_,_,h3⟩
    .rcases hc with hc|hc
     .exact(apart i hi _ h3.1).1 hc
     .exact(apart i hi _ h3.1).2 hc.1
    .rcases hc with hc|hc
     .exact(h3 i hi e).1 hc
     .exact(h3 i hi e).2 hc.2 hc.1
 .rcases new ha with hj|⟨hj,op,ho,GK,zR⟩
  .rw[g?_old hj];exact h.quiet j a (old hj ha) hs
  .rcases hu op GK a zR with h3|⟨h3,_⟩
   .exact h3.2.imp id λx=>⟨x.1,by simp[Trace.g?,ho,hg op GK,x.2]⟩
   .exact absurd hs h3
 .refine noRace_append (h.nr said) hg λj a ha op GK b hb hc=>?_;have bg:=hc.1;rcases hu op GK b hb with h3|⟨h3,h4,h5⟩
  .have ka:=h.quiet j a ha (bg▸h3.1);obtain⟨_,_,_,h6|h6|⟨_,h6,h7⟩⟩:=hc
   .rcases ka with ka|⟨ka,_⟩<;>rw[ka]at h6<;>cases h6
   .rcases h3.2 with k3|⟨k3,_⟩<;>rw[k3]at h6<;>cases h6
   .rcases ka with ka|⟨_,ka⟩
    .rw[ka]at h6;cases h6
    .rcases h3.2 with k3|⟨_,k3⟩
     .rw[k3]at h7;cases h7
     .obtain⟨z,hz,_⟩:=touch_of ha;have:=knows_own hz;rw[show z.g=g by simpa[Trace.g?,hz,k3] using ka]at this;exact this
  .by_cases g0:g=0
   .subst g0;rcases h.known j a ha hc.2.1 with h6|⟨h6,_⟩|⟨i,h6,_,_,h7⟩
    .exact h6
    .exact absurd (bg▸h6) h3
    .exfalso;have ine:i≠0:=by have:=(h.fN i h6).1;omega
     rw[bg]at h7;rcases h7 with h7|⟨h7,h8⟩|⟨h7,_⟩
     .exact(h5 i h6 ine).1 (hle i _ h7)
     .have:b.write=true:=by
       rcases hc.2.2.1 with e|e
       .rw[h8]at e;cases e
       .exact e
      exact(h5 i h6 ine).2 this h7
     .exact h3 h7
   .have lg:live g:=by
     rcases hk with e|e|e
     .exact absurd e g0
     .exact e.1
     .exact absurd (e.1 op GK b hb) h3
    refine zt g lg ha ?_;rcases h4 with e|h4|⟨h4,h6⟩
    .exact absurd e g0
    .exact .inl (bg▸h4)
    .refine .inr ⟨bg▸h4,?_⟩;rcases hc.2.2.1 with e|e
     .exact e
     .rw[h6]at e;cases e
 .rcases aD4.1 cK with h1|h1
  .exact h.gs op h1
  .rw[hg op h1];exact gn
 .rcases aD4.1 cK with h1|h1
  .exact MemAct.low_mono hB (h.low op h1)
  .exact hl op h1
 .obtain⟨h1,h2⟩:=h.rel i p hi hp;exact⟨BYT,by rw[g?_old h1];exact h2⟩
def TI.more{Sh':Loc->Prop}(h:TI Sh n live S R rl t B)(hB:B<=B')(hs:∀l,Sh l->Sh' l)(hn:∀l,Sh' l->Sh l\/¬l.low B)(hl:∀l,Sh' l->l.low B')
  (ha:∀i,live i->∀l,has (S i) l\/has (R i) l->l.low B):TI Sh' n live S R rl t B':=by
 have low:∀{j a},touchAt t j=some a->a.loc.low B:=λha=>by
  obtain⟨op,ho,zR⟩:=touch_of ha;exact QD zR (h.low op (aDl ho))
 refine⟨λj a NC hm=>?_,h.mine,λj a NC lI=>?_,h.nr,h.gs,λop cK=>MemAct.low_mono hB (h.low op cK),hl,λi hi l lI=>?_,h.fN,h.rel⟩
 .rcases h.known j a NC hm with h1|⟨h1,h2,h3⟩|⟨i,h1,h2,h3,h4⟩
  .exact .inl h1
  .exact .inr (.inl ⟨hs _ h1,h2,h3⟩)
  .exact .inr (.inr ⟨i,h1,h2,h3,h4.imp id (Or.imp id λx=>⟨hs _ x.1,x.2⟩)⟩)
 .rcases hn _ lI with h1|h1
  .exact h.quiet j a NC h1
  .exact absurd (low NC) h1
 .rcases hn _ lI with h1|h1
  .exact h.apart i hi l h1
  .exact⟨λx=>h1 (ha i hi l (.inl x)),λx=>h1 (ha i hi l (.inr x))⟩
def TI.fork(h:TI Sh n live S R rl t B){x:MemOp}(hx:x.g=0/\x.act=.go n)(hy:y.g=n/\y.act=.start)(h0:Deaf t 0=0)(hn:0<n){Sc Rc:PS}
  (hS:∀l,has Sc l->¬Sh l/\∀i,live i->¬has (S i) l/\¬has (R i) l)(hR:∀l,has Rc l->¬Sh l/\∀i,live i->¬has (S i) l):
  TI Sh (n+1) (λi=>live i\/i=n) (λi=>if i=n then Sc else S i) (λi=>if i=n then Rc else R i) (λi=>if i=n then none else rl i) (t++ #[x,y]) B:=by
 have hk:Deaf t n=0:=ConcN.Deaf_absent λi op hi e=>by have:=h.gs op (aDl hi);omega
 have nt:∀op∈#[x,y],op.act.touch?=none:=by
  intro op cK;simp only[aD8,aBI,aDU,or_false]at cK;rcases cK with rfl|rfl
  .rw[hx.2];rfl
  .rw[hy.2];rfl
 have old:∀{j a},touchAt (t++ #[x,y]) j=some a->j<t.size/\touchAt t j=some a:=λ{j a} ha=>by
  obtain⟨op,ho,zR⟩:=touch_of ha;rcases getElem?_append_cases ho with⟨hj,lJ⟩|⟨_,GK⟩
  .exact⟨hj,by rw[touchAt_of lJ];exact zR⟩
  .rw[nt op GK]at zR;cases zR
 have ne:∀i,live i->i≠n:=λi hi e=>by have:=(h.fN i hi).2;omega
 refine⟨λj a NC hm=>?_,λi hi j a NC hc=>?_,λj a NC hs=>(by rw[g?_old (old NC).1];exact h.quiet j a (old NC).2 hs),λsaid=>?_,λop cK=>?_,λop cK=>?_,h.shl,λi hi l lI=>?_,λi hi=>?_,λi p hi hp=>?_⟩
 .obtain⟨hj,NC⟩:=old NC;rcases h.known j a NC hm with h1|⟨h1,h2,h3⟩|⟨i,h1,h2,h3,h4⟩
  .exact .inl (h1.app _)
  .exact .inr (.inl ⟨h1,h2,λhh=>h3 ((heard_old hj).1 hh)⟩)
  .exact .inr (.inr ⟨i,.inl h1,by rw[g?_old hj];exact h2,by simp only[if_neg (ne i h1)];exact h3,by simp only[if_neg (ne i h1)];exact h4⟩)
 .obtain⟨hj,NC⟩:=old NC;by_cases e:i=n
  .subst e;simp only[if_true]at hc;refine ConcN.fork_knows hx hy h0 hk ?_;have hm:a.loc.isMemory=true:=by
    have:has Sc a.loc\/has Rc a.loc:=hc.imp id λx=>x.1;cases hl:a.loc with
    |cell _=>rfl
    |obj _=>rfl
    |_=>rw[hl]at this;exact(this.elim id id).elim
   rcases h.known j a NC hm with h1|⟨h1,_⟩|⟨k,h1,_,_,h4⟩
   .exact h1
   .rcases hc with hc|hc
    .exact absurd h1 (hS _ hc).1
    .exact absurd h1 (hR _ hc.1).1
   .exfalso;rcases hc with hc|hc
    .rcases h4 with h4|h4|h4
     .exact((hS _ hc).2 k h1).1 h4
     .exact((hS _ hc).2 k h1).2 h4.1
     .exact(hS _ hc).1 h4.1
    .rcases h4 with h4|h4|h4
     .exact(hR _ hc.1).2 k h1 h4
     .rw[hc.2]at h4;cases h4.2
     .exact(hR _ hc.1).1 h4.1
  .simp only[if_neg e]at hc;exact(h.mine i (hi.resolve_right e) j a NC hc).app _
 .have e:t++ #[x,y]=(t++ #[x])++ #[y]:=by apply Array.ext';simp
  rw[e];refine noRace_append (g:=n) (noRace_append (g:=0) (h.nr said) (λop cK=>by simp at cK;rw[cK];exact hx.1) (λi a _ op cK b hb _=>?_)) (λop cK=>by simp at cK;rw[cK];exact hy.1) (λi a _ op cK b hb _=>?_)
  .rw[nt op (by simp at cK⊢;exact .inl cK)]at hb;cases hb
  .rw[nt op (by simp at cK⊢;exact .inr cK)]at hb;cases hb
 .rcases aD4.1 cK with h1|h1
  .exact aIe (h.gs op h1)
  .simp only[aD8,aBI,aDU,or_false]at h1;rcases h1 with rfl|rfl
   .rw[hx.1];omega
   .rw[hy.1];omega
 .rcases aD4.1 cK with h1|h1
  .exact h.low op h1
  .simp only[aD8,aBI,aDU,or_false]at h1;rcases h1 with rfl|rfl
   .rw[hx.2];trivial
   .rw[hy.2];trivial
 .by_cases e:i=n
  .subst e;simp only[if_true];exact⟨λx=>(hS _ x).1 lI,λx=>(hR _ x).1 lI⟩
  .simp only[if_neg e];exact h.apart i (hi.resolve_right e) l lI
 .rcases hi with hi|rfl
  .have:=h.fN i hi;omega
  .omega
 .by_cases e:i=n
  .simp[e]at hp
  .simp only[if_neg e]at hp;obtain⟨h1,h2⟩:=h.rel i p (hi.resolve_right e) hp;exact⟨BYT,by rw[g?_old h1];exact h2⟩
def TI.release(h:TI Sh n live S R rl t B){i:Nat}(hi:live i)(hr:rl i=none)(hy:y.g=i)(hn:y.act.touch?=none)(hl:y.act.low B):
  TI Sh n live S R (λk=>if k=i then some t.size else rl k) (t++ #[y]) B:=by
 have qQ:(t++ #[y])[t.size]?=some y:=BYS;have h1:=h.app (S':=S) (B':=B) (u:= #[y]) (g:=i) (λop cK=>by simp at cK;rw[cK];exact hy) (h.fN i hi).2 (.inr (.inl ⟨hi,hr⟩)) (λ_ _=>rfl) (λ_ x=>x) (λ_ x=>.inl x)
  (λop cK x hx=>by simp at cK;rw[cK,hn]at hx;cases hx) (aAB _) (λop cK=>by simp at cK;rw[cK];exact hl)
 refine⟨λj a NC hm=>?_,h1.mine,h1.quiet,h1.nr,h1.gs,h1.low,h1.shl,h1.apart,h1.fN,λk p hk hp=>?_⟩
 .rcases h1.known j a NC hm with h2|h2|⟨k,h2,h3,h4,h5⟩
  .exact .inl h2
  .exact .inr (.inl h2)
  .refine .inr (.inr ⟨k,h2,h3,λp hp=>?_,h5⟩);by_cases e:k=i
   .simp only[e,if_true,aDu]at hp;obtain⟨op,ho,_⟩:=touch_of NC;have:=lt_size_of_getElem? ho;simp at this;omega
   .simp only[if_neg e]at hp;exact h4 p hp
 .by_cases e:k=i
  .simp only[e,if_true,aDu]at hp;subst hp;exact⟨BYS,by simp[Trace.g?,hy,e]⟩
  .simp only[if_neg e]at hp;exact h1.rel k p hk hp
def TI.aAT(h:TI Sh n live S R rl t B)(ha:∀i,live i->∃p,rl i=some p/\Knows t 0 p):TI Sh n (λ_=>False) S R rl t B:=by
 refine⟨λj a NC hm=>?_,λi hi=>hi.elim,h.quiet,h.nr,h.gs,h.low,h.shl,λi hi=>hi.elim,λi hi=>hi.elim,λi p hi=>hi.elim⟩;rcases h.known j a NC hm with h1|h1|⟨i,h1,h2,h3,_⟩
 .exact .inl h1
 .exact .inr (.inl h1)
 .obtain⟨p,hp,hk⟩:=ha i h1;have hle:=h3 p hp;obtain⟨h4,h5⟩:=h.rel i p h1 hp;refine .inl (Knows.of_before ?_ hk);rcases aCD j p with dD|CL
  .exact .inr (.single (.inl ⟨dD,i,h2,h5⟩))
  .exact .inl BYO
def TI.over(h:TI Sh n (λ_=>False) S R rl t B):t.HandedOver:=by
 intro i g hg cQ hc;obtain⟨x,hx,hm,hk⟩:=hc;rcases h.known i x hx hm with⟨q,z,h1,h2,h3⟩|⟨_,h2,h3⟩|⟨_,h2,_⟩
 .refine⟨q,by simp[Trace.g?,h1,h2],?_⟩;rcases h3 with rfl|h3
  .exact absurd (by simpa[Trace.g?,h1,h2] using hg.symm) cQ
  .exact h3
 .rcases hk with hk|hk
  .exact absurd h2 hk
  .exact absurd hk h3
 .exact h2.elim
def TI.nil:TI (λ_=>False) 1 (λ_=>False) S R rl #[] 0:=
 ⟨λj a h=>by simp[touchAt,Trace.act?]at h,λi hi=>hi.elim,λj a h=>by simp[touchAt,Trace.act?]at h,λsaid=>ConcN.noRace_nil said,BYS,BYS,λl h=>h.elim,λi hi=>hi.elim,λi hi=>hi.elim,λi p hi=>hi.elim⟩
end
end Rk.Cw
