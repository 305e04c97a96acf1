/- Part of the proof of TopSorts. -/
import Derived.Test.YthdiheblgmddhaaGreatDoorQ16
set_option linter.all false
namespace Rk.Cw
open Go Go.Conc Rk.fD
open Go.ConcR (KK WgAt stA smA rd wr mk)
variable{q d:Nat}{ρ:iB}{w':World}
inductive KI where
 |wg(Wg:Nat)(Q:World->Prop)
 |ch(r:Nat)(Q:Value->World->Prop)
inductive KS where
 |work|rel|deaf|l4|l3|l2|iG(v:Value)|quit(d:Nat)
def KS.mute:KS->Nat
 | .deaf| .l4| .l3| .l2=>1
 | .quit d=>d
 |_=>0
def WgLive(ty:TypeId)(Wg:Nat)(w:World):Prop:=∃st sm,WgAt ty Wg w st sm
def NX(ty:TypeId)(I:KI)(st:KS)(w:World):Prop:=match I with
 | .wg Wg _=>WgLive ty Wg w/\match st with
  | .deaf=>∃v wt:Nat,wt<=1/\v<2147483647/\WgAt ty Wg w ((v+1)*KK+wt) 0
  | .l4| .l3=>WgAt ty Wg w 1 0
  | .l2=>WgAt ty Wg w 0 0
  |_=>True
 | .ch r _=>match st with
  | .iG _=>∃buf s rc,w.heap[r]?=some (.chan 1 buf false s rc false)
  |_=>True
inductive lE(P:Program)(ty:TypeId)(I:KI)(K:KS->PS->Goroutine->World->Prop):KS->PS->PS->Goroutine->World->Prop
 |own {S R S':PS} {g g':Goroutine} {w w':World} {es:Array Event}:stepG P false g w=.go g' w' es->Gu S R S' w w' es->K .work S' g' w'->lE P ty I K .work S R g w
 |rel {S R:PS} {g g':Goroutine} {w:World} {Wg:Nat} {Q:World->Prop}:I=.wg Wg Q->stepG P false g w=.go g' w #[mk (.releaseMerge (stA Wg))]->(∀w1,bZ S w w1->Q w1)->K .rel S g' w->lE P ty I K .work S R g w
 |idle {S R:PS} {g g':Goroutine} {w:World} {st:KS}:(∀d,st≠.quit d)->stepG P false g w=.go g' w #[]->K st S g' w->lE P ty I K st S R g w
 |AJ {S R:PS} {g g':Goroutine} {w:World}:stepG P false g w=.go g' w #[mk .disable]->K .deaf S g' w->lE P ty I K .rel S R g w
 |add {S R:PS} {g g':Goroutine} {w:World} {Wg v wt:Nat} {Q:World->Prop}:I=.wg Wg Q->wt<=1->WgAt ty Wg w ((v+1)*KK+wt) 0->stepG P false g w=.go g' (w.setCell (stA Wg) (.int .u64 (v*KK+wt))) #[rd (stA Wg),wr (stA Wg)]->
   K (if v=0/\wt=1 then .l4 else .quit 1) S g' (w.setCell (stA Wg) (.int .u64 (v*KK+wt)))->lE P ty I K .deaf S R g w
 |d4 {S R:PS} {g g':Goroutine} {w:World} {Wg:Nat} {Q:World->Prop}:I=.wg Wg Q->stepG P false g w=.go g' w #[rd (stA Wg)]->K .l3 S g' w->lE P ty I K .l4 S R g w
 |d3 {S R:PS} {g g':Goroutine} {w:World} {Wg:Nat} {Q:World->Prop}:I=.wg Wg Q->stepG P false g w=.go g' (w.setCell (stA Wg) (.int .u64 0)) #[wr (stA Wg)]->K .l2 S g' (w.setCell (stA Wg) (.int .u64 0))->lE P ty I K .l3 S R g w
 |d2 {S R:PS} {g g':Goroutine} {w:World} {Wg:Nat} {Q:World->Prop}:I=.wg Wg Q->mayWake P g=true->stepG P false g w=.go g' (w.setCell (smA Wg) (.int .u32 1)) (semEvents (smA Wg))->K (.quit 1) S g' (w.setCell (smA Wg) (.int .u32 1))->lE P ty I K .l2 S R g w
 |send {S R:PS} {g g2:Goroutine} {w:World} {r:Nat} {v z:Value} {Q:Value->World->Prop}:I=.ch r Q->stepG P false g w=.comm g2 #[scase r v z] true .send w #[]->(∀w1,bZ S w w1->Q v w1)->K (.iG v) S (served g2 undef) w->lE P ty I K .work S R g w
 |close {S R:PS} {g g':Goroutine} {w:World} {r s rc:Nat} {v:Value} {buf:Array Value} {Q:Value->World->Prop}:I=.ch r Q->mayWake P g=true->w.heap[r]?=some (.chan 1 buf false s rc false)->
   stepG P false g w=.go g' (w.setChan r 1 buf true s rc false) #[⟨.obj r,false,true⟩,⟨.obj r,true,true⟩]->K (.quit 0) S g' (w.setChan r 1 buf true s rc false)->lE P ty I K (.iG v) S R g w
def FB(P:Program)(ty:TypeId)(I:KI):iB->KS->PS->PS->Goroutine->World->Prop
 | .z,st,_,_,g,_=>∃d,st=.quit d/\QuitsD P 0 d g
 | .mk f,st,S,R,g,w=>(∃d q,st=.quit d/\QuitsD P q d g/\iB.mk f=.nat q)\/
   (g.status=.running/\(∀d,st≠.quit d)/\∀w1,bZ (S.or R) w w1->NX ty I st w1->lE P ty I (λMq S' g' w'=>FB P ty I (f w1 none) Mq S' R g' w') st S R g w1)
def KT(P:Program)(ty:TypeId)(I:KI)(st:KS)(S R:PS)(g:Goroutine)(w:World):Prop:=∃ρ,FB P ty I ρ st S R g w
section
variable{P:Program}{lo:Nat}{ty:TypeId}{I:KI}{st:KS}{S R:PS}{g:Goroutine}{w:World}
def lE.ex{K:iB->KS->PS->Goroutine->World->Prop}(h:lE P ty I (λst S g w=>∃ρ,K ρ st S g w) st S R g w):∃ρ,lE P ty I (K ρ) st S R g w:=by
 cases h with
 |own h1 h2 h3=>obtain⟨ρ,h3⟩:=h3;exact⟨ρ,.own h1 h2 h3⟩
 |rel h1 h2 h3 h4=>obtain⟨ρ,h4⟩:=h4;exact⟨ρ,.rel h1 h2 h3 h4⟩
 |idle h1 h2 h3=>obtain⟨ρ,h3⟩:=h3;exact⟨ρ,.idle h1 h2 h3⟩
 |AJ h1 h2=>obtain⟨ρ,h2⟩:=h2;exact⟨ρ,.AJ h1 h2⟩
 |add h1 h0 h2 h3 h4=>obtain⟨ρ,h4⟩:=h4;exact⟨ρ,.add h1 h0 h2 h3 h4⟩
 |d4 h1 h2 h3=>obtain⟨ρ,h3⟩:=h3;exact⟨ρ,.d4 h1 h2 h3⟩
 |d3 h1 h2 h3=>obtain⟨ρ,h3⟩:=h3;exact⟨ρ,.d3 h1 h2 h3⟩
 |d2 h1 h2 h3 h4=>obtain⟨ρ,h4⟩:=h4;exact⟨ρ,.d2 h1 h2 h3 h4⟩
 |send h1 h2 h3 h4=>obtain⟨ρ,h4⟩:=h4;exact⟨ρ,.send h1 h2 h3 h4⟩
 |close h1 h2 h3 h4 h5=>obtain⟨ρ,h5⟩:=h5;exact⟨ρ,.close h1 h2 h3 h4 h5⟩
def KT.step(hs:g.status=.running)(hq:∀d,st≠.quit d)(h:∀w1,bZ (S.or R) w w1->NX ty I st w1->lE P ty I (λMq S' g' w'=>KT P ty I Mq S' R g' w') st S R g w1):KT P ty I st S R g w:=by
 have:∀w1,∃ρ,bZ (S.or R) w w1->NX ty I st w1->lE P ty I (λMq S' g' w'=>FB P ty I ρ Mq S' R g' w') st S R g w1:=λw1=>by
  by_cases h1:bZ (S.or R) w w1
  .by_cases h2:NX ty I st w1
   .obtain⟨ρ,h3⟩:=lE.ex (h w1 h1 h2);exact⟨ρ,λ_ _=>h3⟩
   .exact⟨.z,λ_ h=>absurd h h2⟩
  .exact⟨.z,λh=>absurd h h1⟩
 exact⟨.mk λw1 _=>Classical.choose (this w1),.inr ⟨hs,hq,λw1=>aD2 (this w1)⟩⟩
def FB.Nz(h:QuitsD P q d g):FB P ty I (.nat q) (.quit d) S R g w:=by
 cases q with
 |zero=>exact⟨d,rfl,h⟩
 |succ q=>exact .inl ⟨d,q+1,rfl,h,rfl⟩
def FB.quit(h:FB P ty I ρ (.quit d) S R g w):∃q,QuitsD P q d g/\ρ=.nat q:=by
 cases ρ with
 |z=>obtain⟨d',e,h⟩:=h;cases e;exact⟨0,h,rfl⟩
 |mk f=>
  rcases h with⟨d',q,e,h,hr⟩|⟨_,h,_⟩
  .cases e;exact⟨q,h,hr⟩
  .exact absurd rfl (h d)
def KT.quit(h:QuitsD P q d g):KT P ty I (.quit d) S R g w:=⟨_,.Nz h⟩
def FB.move(h:FB P ty I ρ st S R g w)(hq:∀d,st≠.quit d):∃f,ρ=.mk f/\g.status=.running/\∀w1,bZ (S.or R) w w1->NX ty I st w1->lE P ty I (λMq S' g' w'=>FB P ty I (f w1 none) Mq S' R g' w') st S R g w1:=by
 cases ρ with
 |z=>obtain⟨d,e,_⟩:=h;exact absurd e (hq d)
 |mk f=>
  rcases h with⟨d,_,e,_⟩|⟨h1,_,h2⟩
  .exact absurd e (hq d)
  .exact⟨f,rfl,h1,h2⟩
def FB.status(h:FB P ty I ρ st S R g w):g.status=.running\/g.status=.finished:=by
 cases ρ with
 |z=>obtain⟨d,_,h⟩:=h;exact h.status
 |mk f=>
  rcases h with⟨_,_,_,h,_⟩|⟨h,_⟩
  .exact h.status
  .exact .inl h
def FB.rely(h:FB P ty I ρ st S R g w)(ha:bZ (S.or R) w w'):FB P ty I ρ st S R g w':=by
 cases ρ with
 |z=>exact h
 |mk f=>exact h.imp id λ⟨h1,h2,h3⟩=>⟨h1,h2,λw1 h4=>h3 w1 (ha.trans h4)⟩
def KT.rely(h:KT P ty I st S R g w)(ha:bZ (S.or R) w w'):KT P ty I st S R g w':=h.imp λ_ h=>h.rely ha
end
inductive xR where
 |op|df(bd:Nat)|pend|pe|reg|sm|TQ|Hs
inductive MS where
 |calm
 |wg(Wg:Nat)(qs:List (World->Prop))(ph:xR)
 |ch(qs:List (Nat×(Value->World->Prop)))(nx:Option Nat)(vs:List Value)(got:Bool)
def MS.mute:MS->Nat
 | .wg _ _ ph=>match ph with
  | .op| .pe| .Hs=>0
  |_=>1
 |_=>0
def ZF(ty:TypeId)(ms:MS)(w:World):Prop:=match ms with
 | .wg Wg _ ph=>WgLive ty Wg w/\match ph with
  | .df bd=>∃v:Nat,v<=bd/\WgAt ty Wg w (v*KK) 0
  | .reg=>(∃st,WgAt ty Wg w st 0)\/WgAt ty Wg w 0 1
  | .sm=>WgAt ty Wg w 0 0
  |_=>True
 |_=>True
def JI(lo:Nat)(ty:TypeId)(w:World)(b:Nat):Prop:=lo<=b/\(WgLive ty b w\/∃cap buf cl s rc tm,w.heap[b]?=some (.chan cap buf cl s rc tm))
def Whole(lo:Nat)(ty:TypeId)(w:World):PS:=λb x=>x=none/\b<w.heap.size/\¬JI lo ty w b
def bP(A B:PS):Prop:=∀b x,A b x->B b none\/B b x
structure NY(S R S' R' Sc Rc:PS):Prop where
 s:bP S' S
 r:bP R' (S.or R)
 c:bP Sc S
 d:bP Rc (S.or R)
 o1:xQ S' (Sc.or Rc)
 o2:xQ Sc (S'.or R')
inductive fO(P:Program)(lo:Nat)(ty:TypeId)(Post:Value->World->Prop)(K:Option (World×Value)->MS->PS->PS->Goroutine->World->Prop):MS->PS->PS->Goroutine->World->Prop
 |own {ms:MS} {S R S':PS} {g g':Goroutine} {w w':World} {es:Array Event}:stepG P true g w=.go g' w' es->Gu S R S' w w' es->K none ms S' R g' w'->fO P lo ty Post K ms S R g w
 |ends {S R:PS} {g:Goroutine} {w:World} {v:Value}:stepG P true g w=.ended (.done v) w #[]->Post v w->fO P lo ty Post K .calm S R g w
 |FC {S R:PS} {g g':Goroutine} {w w':World}:stepG P true g w=.go g' w' #[]->g'.status=.running->w'=w.alloc (ConcR.wgBlock ty 0 0)->lo<=w.heap.size->K none (.wg w.heap.size [] .op) S R g' w'->fO P lo ty Post K .calm S R g w
 |AJ {S R:PS} {g g':Goroutine} {w:World} {Wg:Nat} {qs:List (World->Prop)}:stepG P true g w=.go g' w #[mk .disable]->g'.status=.running->K none (.wg Wg qs (.df qs.length)) S R g' w->fO P lo ty Post K (.wg Wg qs .op) S R g w
 |add {S R:PS} {g g':Goroutine} {w:World} {Wg bd v:Nat} {qs:List (World->Prop)}:WgAt ty Wg w (v*KK) 0->stepG P true g w=.go g' (w.setCell (stA Wg) (.int .u64 ((v+1:Nat)*KK))) #[rd (stA Wg),wr (stA Wg)]->g'.status=.running->
   K none (.wg Wg qs .pend) S R g' (w.setCell (stA Wg) (.int .u64 ((v+1:Nat)*KK)))->fO P lo ty Post K (.wg Wg qs (.df bd)) S R g w
 |H6 {S R:PS} {g g':Goroutine} {w:World} {Wg:Nat} {qs:List (World->Prop)} {ph zr:xR}:(ph=.pend/\zr=.pe)\/(ph=.TQ/\zr=.Hs)->stepG P true g w=.go g' w #[mk .enable]->g'.status=.running->K none (.wg Wg qs zr) S R g' w->fO P lo ty Post K (.wg Wg qs ph) S R g w
 |said {S R:PS} {g g':Goroutine} {w:World} {Wg:Nat} {qs:List (World->Prop)} {ph:xR} {m:Mark}:m=.read (smA Wg)\/m=.write (smA Wg)->stepG P true g w=.go g' w #[mk m]->K none (.wg Wg qs ph) S R g' w->fO P lo ty Post K (.wg Wg qs ph) S R g w
 |go {S R S' R' Sc Rc:PS} {g g' c:Goroutine} {w:World} {Wg:Nat} {qs:List (World->Prop)} {Q:World->Prop}:stepG P true g w=.spawn g' c w #[]->g'.status=.running->NY S R S' R' Sc Rc->qs.length<1000->KT P ty (.wg Wg Q) .work Sc Rc c w->
   K none (.wg Wg (qs++[Q]) .op) S' R' g' w->fO P lo ty Post K (.wg Wg qs .pe) S R g w
 |load {S R:PS} {g g':Goroutine} {w:World} {Wg bd v:Nat} {ph:xR} {qs:List (World->Prop)}:WgAt ty Wg w (v*KK) 0->stepG P true g w=.go g' w #[rd (stA Wg)]->g'.status=.running->K none (.wg Wg qs ph) S R g' w->ph=.df v\/(v=0/\ph=.TQ)->fO P lo ty Post K (.wg Wg qs (.df bd)) S R g w
 |vv {S R:PS} {g g':Goroutine} {w:World} {Wg bd v:Nat} {qs:List (World->Prop)}:0<v->WgAt ty Wg w (v*KK) 0->stepG P true g w=.go g' (w.setCell (stA Wg) (.int .u64 (v*KK+1))) #[rd (stA Wg),wr (stA Wg)]->g'.status=.running->
   K none (.wg Wg qs .reg) S R g' (w.setCell (stA Wg) (.int .u64 (v*KK+1)))->fO P lo ty Post K (.wg Wg qs (.df bd)) S R g w
 |ZG {S R:PS} {g:Goroutine} {w:World} {Wg:Nat} {qs:List (World->Prop)} {st:Int}:WgAt ty Wg w st 0->stepG P true g w=.go {g with status:=.blocked,offers:=none} w #[]->fO P lo ty Post K (.wg Wg qs .reg) S R g w
 |ZH {S R:PS} {g g':Goroutine} {w:World} {Wg:Nat} {qs:List (World->Prop)}:WgAt ty Wg w 0 1->stepG P true g w=.go g' (w.setCell (smA Wg) (.int .u32 0)) (semEvents (smA Wg))->g'.status=.running->K none (.wg Wg qs .sm) S R g' (w.setCell (smA Wg) (.int .u32 0))->fO P lo ty Post K (.wg Wg qs .reg) S R g w
 |FD {S R:PS} {g g':Goroutine} {w:World} {Wg:Nat} {qs:List (World->Prop)}:stepG P true g w=.go g' w #[rd (stA Wg)]->g'.status=.running->K none (.wg Wg qs .TQ) S R g' w->fO P lo ty Post K (.wg Wg qs .sm) S R g w
 |acq {S R:PS} {g g':Goroutine} {w:World} {Wg:Nat} {qs:List (World->Prop)}:stepG P true g w=.go g' w #[mk (.acquire (stA Wg))]->g'.status=.running->
   ((∀f∈qs,f w)->K none .calm (Whole lo ty w) (λ_ _=>False) g' w)->fO P lo ty Post K (.wg Wg qs .Hs) S R g w
 |xS {S R:PS} {g g':Goroutine} {w w':World} {qs:List (Nat×(Value->World->Prop))} {ms:MS}:(ms=.calm/\qs=[])\/ms=.ch qs none [] false->stepG P true g w=.go g' w' #[]->g'.status=.running->w'=w.alloc (.chan 1 #[] false 0 0 false)->lo<=w.heap.size->K none (.ch qs (some w.heap.size) [] false) S R g' w'->fO P lo ty Post K ms S R g w
 |ZI {S R S' R' Sc Rc:PS} {g g' c:Goroutine} {w:World} {r:Nat} {qs:List (Nat×(Value->World->Prop))} {Q:Value->World->Prop}:stepG P true g w=.spawn g' c w #[]->g'.status=.running->NY S R S' R' Sc Rc->KT P ty (.ch r Q) .work Sc Rc c w->
   K none (.ch (qs++[(r,Q)]) none [] false) S' R' g' w->fO P lo ty Post K (.ch qs (some r) [] false) S R g w
 |recv {S R:PS} {g:Goroutine} {w:World} {r:Nat} {Q:Value->World->Prop} {z:Value} {qs:List (Nat×(Value->World->Prop))} {vs:List Value}:qs[vs.length]?=some (r,Q)->stepG P true g w=.comm (core g) #[rcase r z] true (.recv true) w #[]->
   (∀v w2,bZ (S.or R) w w2->(∃w3,Q v w3)->K (some (w2,v)) (.ch qs none (vs++[v]) true) S R (served (core g) (.tuple #[v,.bool true])) w2)->fO P lo ty Post K (.ch qs none vs false) S R g w
 |shut {S R:PS} {g:Goroutine} {w:World} {r:Nat} {Q:Value->World->Prop} {z v:Value} {qs:List (Nat×(Value->World->Prop))} {vs:List Value}:qs[vs.length]?=some (r,Q)->stepG P true g w=.comm (core g) #[rcase r z] true (.recv true) w #[]->
   (vs.length+1<qs.length->K none (.ch qs none (vs++[v]) false) S R (served (core g) (.tuple #[z,.bool false])) w)->
   (vs.length+1=qs.length->(∀(m:Nat) (r:Nat) (Q:Value->World->Prop) (u:Value),qs[m]?=some (r,Q)->(vs++[v])[m]?=some u->Q u w)->K none .calm (Whole lo ty w) (λ_ _=>False) (served (core g) (.tuple #[z,.bool false])) w)->
   fO P lo ty Post K (.ch qs none (vs++[v]) true) S R g w
def Oa(P:Program)(lo:Nat)(ty:TypeId)(Post:Value->World->Prop):iB->MS->PS->PS->Goroutine->World->Prop
 | .z,_,_,_,_,_=>False
 | .mk f,ms,S,R,g,w=>g.status=.running/\∀w1,bZ (S.or R) w w1->ZF ty ms w1->fO P lo ty Post (λo Xv S' R' g' w'=>Oa P lo ty Post (f w1 o) Xv S' R' g' w') ms S R g w1
def MT(P:Program)(lo:Nat)(ty:TypeId)(Post:Value->World->Prop)(ms:MS)(S R:PS)(g:Goroutine)(w:World):Prop:=∃ρ,Oa P lo ty Post ρ ms S R g w
section
variable{P:Program}{lo:Nat}{ty:TypeId}{Post:Value->World->Prop}{ms:MS}{S R:PS}{g:Goroutine}{w:World}
def cho{p:Prop}{q:iB->Prop}(h:p->∃ρ,q ρ):∃ρ,p->q ρ:=by
 by_cases hp:p
 .obtain⟨ρ,hq⟩:=h hp;exact⟨ρ,λ_=>hq⟩
 .exact⟨.z,λh=>absurd h hp⟩
def fO.ex{K:iB->MS->PS->PS->Goroutine->World->Prop}(h:fO P lo ty Post (λ_ ms S R g w=>∃ρ,K ρ ms S R g w) ms S R g w):∃F:Option (World×Value)->iB,fO P lo ty Post (λo=>K (F o)) ms S R g w:=by
 cases h with
 |own h1 h2 h3=>obtain⟨ρ,h⟩:=h3;exact⟨λ_=>ρ,.own h1 h2 h⟩
 |ends h1 h2=>exact⟨λ_=>.z,.ends h1 h2⟩
 |FC h1 h2 h3 h0 h4=>obtain⟨ρ,h⟩:=h4;exact⟨λ_=>ρ,.FC h1 h2 h3 h0 h⟩
 |AJ h1 h2 h3=>obtain⟨ρ,h⟩:=h3;exact⟨λ_=>ρ,.AJ h1 h2 h⟩
 |add h1 h2 h3 h4=>obtain⟨ρ,h⟩:=h4;exact⟨λ_=>ρ,.add h1 h2 h3 h⟩
 |H6 h1 h2 h3 h4=>obtain⟨ρ,h⟩:=h4;exact⟨λ_=>ρ,.H6 h1 h2 h3 h⟩
 |said h1 h2 h3=>obtain⟨ρ,h⟩:=h3;exact⟨λ_=>ρ,.said h1 h2 h⟩
 |go h1 h2 h3 h4 h5 h6=>obtain⟨ρ,h⟩:=h6;exact⟨λ_=>ρ,.go h1 h2 h3 h4 h5 h⟩
 |load h1 h2 h3 h4 h5=>obtain⟨ρ,h⟩:=h4;exact⟨λ_=>ρ,.load h1 h2 h3 h h5⟩
 |vv h1 h2 h3 h4 h5=>obtain⟨ρ,h⟩:=h5;exact⟨λ_=>ρ,.vv h1 h2 h3 h4 h⟩
 |ZG h1 h2=>exact⟨λ_=>.z,.ZG h1 h2⟩
 |ZH h1 h2 h3 h4=>obtain⟨ρ,h⟩:=h4;exact⟨λ_=>ρ,.ZH h1 h2 h3 h⟩
 |FD h1 h2 h3=>obtain⟨ρ,h⟩:=h3;exact⟨λ_=>ρ,.FD h1 h2 h⟩
 |acq h1 h2 h3=>obtain⟨ρ,h⟩:=cho h3;exact⟨λ_=>ρ,.acq h1 h2 h⟩
 |xS h1 h2 h3 h4 h0 h5=>obtain⟨ρ,h⟩:=h5;exact⟨λ_=>ρ,.xS h1 h2 h3 h4 h0 h⟩
 |ZI h1 h2 h3 h4 h5=>obtain⟨ρ,h⟩:=h5;exact⟨λ_=>ρ,.ZI h1 h2 h3 h4 h⟩
 | @recv S R g w r Q z qs vs h1 h2 h3=>
  have:∀o:Option (World×Value),∃ρ,∀w2 v,o=some (w2,v)->bZ (S.or R) w w2->(∃w3,Q v w3)->K ρ (.ch qs none (vs++[v]) true) S R (served (core g) (.tuple #[v,.bool true])) w2:=λo=>by
   cases o with
   |none=>exact⟨.z,λ_ _ e=>by cases e⟩
   |some x=>
    obtain⟨ρ,h⟩:=cho λ(y:bZ (S.or R) w x.1/\∃w3,Q x.2 w3)=>h3 x.2 x.1 y.1 y.2;exact⟨ρ,λw2 v e=>by cases e;exactλy z=>h ⟨y,z⟩⟩
  exact⟨λo=>Classical.choose (this o),.recv h1 h2 λv w2=>aD2 (this (some (w2,v))) w2 v rfl⟩
 | @shut S R g w r Q z v qs vs h1 h2 h3 h4=>
  obtain⟨ρ1,g1⟩:=cho h3;by_cases e:vs.length+1<qs.length
  .exact⟨λ_=>ρ1,.shut h1 h2 g1 λe'=>absurd e' BYO⟩
  .by_cases e':vs.length+1=qs.length
   .have h5:=h4 e';obtain⟨ρ4,g4⟩:=cho h5;exact⟨λ_=>ρ4,.shut h1 h2 (λx=>absurd x e) λ_=>g4⟩
   .exact⟨λ_=>.z,.shut h1 h2 (λx=>absurd x e) λx=>absurd x e'⟩
def MT.step(hs:g.status=.running)(h:∀w1,bZ (S.or R) w w1->ZF ty ms w1->fO P lo ty Post (λ_ Xv S' R' g' w'=>MT P lo ty Post Xv S' R' g' w') ms S R g w1):MT P lo ty Post ms S R g w:=by
 have:∀w1,∃F:Option (World×Value)->iB,bZ (S.or R) w w1->ZF ty ms w1->fO P lo ty Post (λo Xv S' R' g' w'=>Oa P lo ty Post (F o) Xv S' R' g' w') ms S R g w1:=λw1=>by
  by_cases h1:bZ (S.or R) w w1
  .by_cases h2:ZF ty ms w1
   .obtain⟨F,h3⟩:=fO.ex (h w1 h1 h2);exact⟨F,λ_ _=>h3⟩
   .exact⟨λ_=>.z,λ_ h=>absurd h h2⟩
  .exact⟨λ_=>.z,λh=>absurd h h1⟩
 exact⟨.mk λw1=>Classical.choose (this w1),hs,λw1=>aD2 (this w1)⟩
def Oa.rely(h:Oa P lo ty Post ρ ms S R g w)(ha:bZ (S.or R) w w'):Oa P lo ty Post ρ ms S R g w':=by
 cases ρ with
 |z=>exact h
 |mk f=>exact⟨h.1,λw1 h4=>h.2 w1 (ha.trans h4)⟩
def MT.rely(h:MT P lo ty Post ms S R g w)(ha:bZ (S.or R) w w'):MT P lo ty Post ms S R g w':=h.imp λ_ h=>h.rely ha
end
open Go.ConcR (KK WgAt stA smA rd wr mk)
variable{l:Loc}{α:Type}{i:Nat}{A B:PS}
structure oF where
 I:KI
 st:KS
 ρ:iB
 S:PS
 R:PS
 w:World
 rl:Option Nat
 F:Option (World->Prop)
def sh(Pb:Nat->Prop):Loc->Prop
 | .cell a=>Pb a.block
 | .obj r=>Pb r
 |_=>False
def DD{Pb:Nat->Prop}{V:PS}(h:∀b x,Pb b->¬V b x)(hl:sh Pb l):¬has V l:=by
 cases l with
 |cell a=>exactλhv=>hv.elim (h _ _ hl) (h _ _ hl)
 |obj r=>exact h _ _ hl
 |_=>exact hl.elim
abbrev Live(n0 n:Nat)(i:Nat):Prop:=n0<=i/\i<n
structure Core(P:Program)(lo:Nat)(ty:TypeId)(gs:Array Goroutine)(w:World)(t:Trace)(n0:Nat)(D:Nat->oF)(Pb:Nat->Prop)(S R:PS)(d0:Nat):Prop where
 pos:0<n0/\n0<=gs.size
 fN:∀i,0<i->i<gs.size->∃g,gs[i]?=some g/\FB P ty (D i).I (D i).ρ (D i).st (D i).S (D i).R g (D i).w/\(n0<=i->bZ ((D i).S.or (D i).R) (D i).w w)
 old:∀i,0<i->i<n0->∃d,(D i).st=.quit d
 ti:TI (sh Pb) gs.size (Live n0 gs.size) (λi=>(D i).S) (λi=>(D i).R) (λi=>(D i).rl) t w.heap.size
 JJ:∀i j,Live n0 gs.size i->Live n0 gs.size j->i≠j->xQ (D i).S ((D j).S.or (D j).R)
 pA:∀i,Live n0 gs.size i->xQ S ((D i).S.or (D i).R)/\xQ (D i).S (S.or R)
 QE:∀i,Live n0 gs.size i->∀b x,Pb b->¬((D i).S.or (D i).R) b x
 JK:∀b x,Pb b->¬(S.or R) b x
 vG:∀i,Live n0 gs.size i->mQ w.heap.size ((D i).S.or (D i).R)
 Ht:mQ w.heap.size (S.or R)
 qV:∀b,Pb b->JI lo ty w b
 deaf0:Deaf t 0=d0
 vH:∀i,0<i->i<gs.size->Deaf t i=(D i).st.mute
 fin:∀i,Live n0 gs.size i->∀f,(D i).F=some f->∀w1,bZ (D i).S w w1->f w1
def put(D:Nat->α)(i:Nat)(x:α):Nat->α:=λj=>if j=i then x else D j
def bC(D:Nat->α)(i:Nat)(x:α):put D i x i=x:=if_pos rfl
def cC(D:Nat->α){j:Nat}(x:α)(h:j≠i):put D i x j=D j:=if_neg h
section
variable{P:Program}{lo:Nat}{ty:TypeId}{gs dL:Array Goroutine}{w:World}{t t' u:Trace}{n0:Nat}{D:Nat->oF}{Pb Mj:Nat->Prop}{S R S' R':PS}{d0 WM:Nat}
def xQ.sub{T:PS}(h:xQ B T)(hs:bP A B):xQ A T:=λb x y ha ht hl=>by
 rcases hs b x ha with h1|h1
 .exact h b none y h1 ht (.inl rfl)
 .exact h b x y h1 ht hl
def aRy{T:PS}(h:xQ A B)(g:xQ A T):xQ A (B.or T):=λb x y ha ht hl=>ht.elim (λhb=>h b x y ha hb hl) λht=>g b x y ha ht hl
def xQ.left{T:PS}(h:xQ A (B.or T)):xQ A B:=λb x y ha hb=>h b x y ha (.inl hb)
def xQ.right{T:PS}(h:xQ A (B.or T)):xQ A T:=λb x y ha hb=>h b x y ha (.inr hb)
def lK(h:bP A B)(hl:has A l):has B l:=by
 cases l with
 |cell a=>
  rcases hl with hl|hl
  .exact(h _ _ hl).elim .inl .inl
  .exact h _ _ hl
 |obj r=>exact(h _ _ hl).elim id id
 |_=>exact hl
def Core.at(h:Core P lo ty gs w t n0 D Pb S R d0)(d:Nat):Core P lo ty gs (w.at d) t n0 D Pb S R d0:=
 ⟨h.pos,λi h1 h2=>let ⟨g,a,b,c⟩:=h.fN i h1 h2;⟨g,a,b,λe=>(c e).trans (bZ.at _ w d)⟩,h.old,h.ti,h.JJ,h.pA,h.QE,h.JK,h.vG,h.Ht,h.qV,h.deaf0,h.vH,
  λi hi f hf w1 ha=>h.fin i hi f hf w1 ((bZ.at _ w d).trans ha)⟩
def Core.step(h:Core P lo ty gs w t n0 D Pb S R d0)(hi:0<i)(dD:i<gs.size){g':Goroutine}{κ:oF}(hz:dL.size=gs.size)(hg:dL[i]?=some g')(ho:∀j,0<j->j≠i->dL[j]?=gs[j]?)
  (hK:FB P ty κ.I κ.ρ κ.st κ.S κ.R g' κ.w)(hw:bZ (κ.S.or κ.R) κ.w w')(hold:i<n0->∃d,κ.st=.quit d)(hR:κ.R=(D i).R)
  (hle:∀b x,(D i).S b x->κ.S b x)(Ej:∀b x,κ.S b x->(D i).S b x\/(w.heap.size<=b/\b<w'.heap.size))(hs:w.heap.size<=w'.heap.size)
  (hA:∀V,(n0<=i->xQ (D i).S V)->mQ w.heap.size V->(∀b x,Pb b->¬V b x)->bZ V w w')
  (Fu:TI (sh Pb) gs.size (Live n0 gs.size) (λj=>(put D i κ j).S) (λj=>(put D i κ j).R) (λj=>(put D i κ j).rl) t' w'.heap.size)
  (hd0:Deaf t' 0=d0)(hd:∀j,0<j->j<gs.size->Deaf t' j=(put D i κ j).st.mute)(hF:n0<=i->∀f,κ.F=some f->∀w1,bZ κ.S w' w1->f w1)(hP:∀b,Pb b->JI lo ty w' b):
  Core P lo ty dL w' t' n0 (put D i κ) Pb S R d0:=by
 have aHg:n0<=i->∀V,xQ (D i).S V->mQ w.heap.size V->xQ κ.S V:=λ_ V h1 h2 b x y hk hv hl=>by
  rcases Ej b x hk with h3|⟨h3,_⟩
  .exact h1 b x y h3 hv hl
  .have:=h2 b y hv;omega
 have pbS:∀b,Pb b->b<w.heap.size:=λb hb=>by
  rcases(h.qV b hb).2 with⟨_,_,hx⟩|⟨_,_,_,_,_,_,hx⟩<;>exact(aCH.1 hx).1
 refine⟨⟨h.pos.1,by rw[hz];exact h.pos.2⟩,λj hj wY=>?_,λj hj yv=>?_,by rw[hz];exact Fu,λj k hj hk Es=>?_,λj hj=>?_,λj hj b x hb=>?_,h.JK,λj hj=>?_,h.Ht.mono hs,hP,hd0,λj hj wY=>?_,λj hj f hf w1 ha=>?_⟩
 .rw[hz]at wY;by_cases e:j=i
  .subst e;rw[bC];exact⟨g',hg,hK,λ_=>hw⟩
  .rw[cC D κ e,ho j hj e];obtain⟨g,h1,h2,h3⟩:=h.fN j hj wY;refine⟨g,h1,h2,λhn=>(h3 hn).trans (hA _ (λHW=>?_) (h.vG j ⟨hn,wY⟩) (h.QE j ⟨hn,wY⟩))⟩;exact h.JJ i j ⟨HW,dD⟩ ⟨hn,wY⟩ (Ne.symm e)
 .by_cases e:j=i
  .subst e;rw[bC];exact hold yv
  .rw[cC D κ e];exact h.old j hj yv
 .rw[hz]at hj hk;by_cases e:j=i
  .subst e;rw[bC,cC D κ (Ne.symm Es)];exact aHg hj.1 _ (h.JJ j k hj hk Es) (h.vG k hk)
  .rw[cC D κ e];by_cases e':k=i
   .subst e';rw[bC,hR];intro b x y h1 h2 hl;rcases h2 with h2|h2
    .rcases Ej b y h2 with h3|⟨h3,_⟩
     .exact h.JJ j k hj hk Es b x y h1 (.inl h3) hl
     .have:=h.vG j hj b x (.inl h1);omega
    .exact h.JJ j k hj hk Es b x y h1 (.inr h2) hl
   .rw[cC D κ e'];exact h.JJ j k hj hk Es
 .rw[hz]at hj;by_cases e:j=i
  .subst e;rw[bC,hR];refine⟨λb x y h1 h2 hl=>?_,aHg hj.1 _ (h.pA j hj).2 h.Ht⟩;rcases h2 with h2|h2
   .rcases Ej b y h2 with h3|⟨h3,_⟩
    .exact(h.pA j hj).1 b x y h1 (.inl h3) hl
    .have:=h.Ht b x (.inl h1);omega
   .exact(h.pA j hj).1 b x y h1 (.inr h2) hl
  .rw[cC D κ e];exact h.pA j hj
 .rw[hz]at hj;by_cases e:j=i
  .subst e;rw[bC,hR];rintro(h1|h1)
   .rcases Ej b x h1 with h3|⟨h3,_⟩
    .exact h.QE j hj b x hb (.inl h3)
    .have:=pbS b hb;omega
   .exact h.QE j hj b x hb (.inr h1)
  .rw[cC D κ e];exact h.QE j hj b x hb
 .rw[hz]at hj;by_cases e:j=i
  .subst e;rw[bC,hR];rintro b x (h1|h1)
   .rcases Ej b x h1 with h3|⟨_,h3⟩
    .have:=h.vG j hj b x (.inl h3);omega
    .exact h3
   .have:=h.vG j hj b x (.inr h1);omega
  .rw[cC D κ e];exact(h.vG j hj).mono hs
 .rw[hz]at wY;exact hd j hj wY
 .rw[hz]at hj;by_cases e:j=i
  .subst e;rw[bC]at hf ha;exact hF hj.1 f hf w1 ha
  .rw[cC D κ e]at hf ha;refine h.fin j hj f hf w1 (bZ.trans (hA _ (λHW=>(h.JJ i j ⟨HW,dD⟩ hj (Ne.symm e)).left) (λb x hx=>h.vG j hj b x (.inl hx)) λb x hb hx=>h.QE j hj b x hb (.inl hx)) ha)
def Core.main(h:Core P lo ty gs w t n0 D Pb S R d0)(hz:dL.size=gs.size)(ho:∀j,0<j->dL[j]?=gs[j]?)
  (hA:∀V,xQ S V->mQ w.heap.size V->(∀b x,Pb b->¬V b x)->bZ V w w')(hs:w.heap.size<=w'.heap.size)
  (hS:∀b x,S' b x->S b x\/(w.heap.size<=b/\b<w'.heap.size))(hp:∀b,Mj b->(Pb b\/w.heap.size<=b)/\∀x,¬(S'.or R) b x)
  (Fu:TI (sh Mj) gs.size (Live n0 gs.size) (λj=>(D j).S) (λj=>(D j).R) (λj=>(D j).rl) t' w'.heap.size)
  (hd0:Deaf t' 0=WM)(hd:∀j,0<j->j<gs.size->Deaf t' j=(D j).st.mute)(hP:∀b,Mj b->JI lo ty w' b):
  Core P lo ty dL w' t' n0 D Mj S' R WM:=by
 refine⟨⟨h.pos.1,by rw[hz];exact h.pos.2⟩,λj hj wY=>?_,h.old,by rw[hz];exact Fu,by rw[hz];exact h.JJ,λj hj=>?_,λj hj b x hb=>?_,λb x hb=>(hp b hb).2 x,λj hj=>?_,?_,hP,hd0,by rw[hz];exact hd,λj hj f hf w1 ha=>?_⟩
 .rw[hz]at wY;rw[ho j hj];obtain⟨g,h1,h2,h3⟩:=h.fN j hj wY;exact⟨g,h1,h2,λhn=>(h3 hn).trans (hA _ (h.pA j ⟨hn,wY⟩).1 (h.vG j ⟨hn,wY⟩) (h.QE j ⟨hn,wY⟩))⟩
 .rw[hz]at hj;refine⟨λb x y h1 h2 hl=>?_,λb x y h1 h2 hl=>?_⟩
  .rcases hS b x h1 with h3|⟨h3,_⟩
   .exact(h.pA j hj).1 b x y h3 h2 hl
   .have:=h.vG j hj b y h2;omega
  .rcases h2 with h2|h2
   .rcases hS b y h2 with h3|⟨h3,_⟩
    .exact(h.pA j hj).2 b x y h1 (.inl h3) hl
    .have:=h.vG j hj b x (.inl h1);omega
   .exact(h.pA j hj).2 b x y h1 (.inr h2) hl
 .rw[hz]at hj;rcases(hp b hb).1 with h1|h1
  .exact h.QE j hj b x h1
  .intro h2;have:=h.vG j hj b x h2;omega
 .rw[hz]at hj;exact(h.vG j hj).mono hs
 .rintro b x (h1|h1)
  .rcases hS b x h1 with h3|⟨_,h3⟩
   .have:=h.Ht b x (.inl h3);omega
   .exact h3
  .have:=h.Ht b x (.inr h1);omega
 .rw[hz]at hj;exact h.fin j hj f hf w1 (bZ.trans (hA _ (h.pA j hj).1.left (λb x hx=>h.vG j hj b x (.inl hx)) λb x hb hx=>h.QE j hj b x hb (.inl hx)) ha)
def Core.fork(h:Core P lo ty gs w t n0 D Pb S R d0){κ:oF}{c:Goroutine}(hG:NY S R S' R' κ.S κ.R)(hz:dL.size=gs.size+1)(hc:dL[gs.size]?=some c)(ho:∀j,0<j->j<gs.size->dL[j]?=gs[j]?)
  (hK:FB P ty κ.I κ.ρ κ.st κ.S κ.R c κ.w)(hw:κ.w=w)(dI:κ.st=.work)(XR:κ.rl=none)(hF:κ.F=none){x y:MemOp}(hx:x.g=0/\x.act=.go gs.size)(hy:y.g=gs.size/\y.act=.start)(h0:d0=0):
  Core P lo ty dL w (t++ #[x,y]) n0 (put D gs.size κ) Pb S' R' d0:=by
 have ne:∀i,i<gs.size->i≠gs.size:=λi hi=>BYO;have lv:∀i,Live n0 (gs.size+1) i->Live n0 gs.size i\/i=gs.size:=λi ⟨h1,h2⟩=>by
  by_cases e:i=gs.size
  .exact .inr e
  .exact .inl ⟨h1,BYO⟩
 have hnt:∀op∈#[x,y],op.act≠.mark .disable/\op.act≠.mark .enable:=by
  intro op cK;simp only[aD8,aBI,aDU,or_false]at cK;rcases cK with rfl|rfl
  .rw[hx.2];exact⟨BYS,BYS⟩
  .rw[hy.2];exact⟨BYS,BYS⟩
 have dk:∀j,Deaf (t++ #[x,y]) j=Deaf t j:=λj=>ConcN.Deaf_still t j _ hnt;have dn:Deaf t gs.size=0:=ConcN.Deaf_absent λi op hi e=>by have:=h.ti.gs op (aDl hi);omega
 have Fu:=h.ti.fork hx hy (h.deaf0.trans h0) (by have:=h.pos;omega) (Sc:=κ.S) (Rc:=κ.R)
  (λl hl=>⟨λhs=>DD h.JK hs (fZ.2 (.inl (lK hG.c hl))),λi hi=>⟨λh1=>(h.pA i hi).1.has (lK hG.c hl) (fZ.2 (.inl h1)),λh1=>(h.pA i hi).1.has (lK hG.c hl) (fZ.2 (.inr h1))⟩⟩)
  (λl hl=>⟨λhs=>DD h.JK hs (lK hG.d hl),λi hi h1=>(h.pA i hi).2.has h1 (lK hG.d hl)⟩)
 refine⟨⟨h.pos.1,by rw[hz];have:=h.pos;omega⟩,λj hj wY=>?_,λj hj yv=>?_,?_,λj k hj hk Es=>?_,λj hj=>?_,λj hj b z hb=>?_,λb z hb=>?_,λj hj=>?_,?_,h.qV,(dk 0).trans h.deaf0,λj hj wY=>?_,λj hj f hf w1 ha=>?_⟩
 .rw[hz]at wY;by_cases e:j=gs.size
  .subst e;rw[bC];exact⟨c,hc,hK,λ_=>by rw[hw];exact bZ.refl _ _⟩
  .rw[cC D κ e,ho j hj BYO];exact h.fN j hj BYO
 .rw[cC D κ (by have:=h.pos;omega)];exact h.old j hj yv
 .rw[hz];have e1:(λi=>(put D gs.size κ i).S)=λi=>if i=gs.size then κ.S else(D i).S:=by funext i;unfold put;split<;>rfl
  have e2:(λi=>(put D gs.size κ i).R)=λi=>if i=gs.size then κ.R else(D i).R:=by funext i;unfold put;split<;>rfl
  have e3:(λi=>(put D gs.size κ i).rl)=λi=>if i=gs.size then none else(D i).rl:=by funext i;unfold put;split<;>simp[XR]
  have e4:Live n0 (gs.size+1)=λi=>Live n0 gs.size i\/i=gs.size:=by
   funext i;refine propext ⟨lv i,?_⟩;rintro(⟨h1,h2⟩|rfl)
   .exact⟨h1,BYO⟩
   .exact⟨h.pos.2,BYO⟩
  rw[e1,e2,e3,e4];exact Fu
 .rw[hz]at hj hk;rcases lv j hj with hj|rfl
  .rw[cC D κ (ne j hj.2)];rcases lv k hk with hk|rfl
   .rw[cC D κ (ne k hk.2)];exact h.JJ j k hj hk Es
   .rw[bC];refine aRy (xQ.symm ((h.pA j hj).1.left.sub hG.c)) ?_;exact(((h.pA j hj).2.symm).sub hG.d).symm
  .rcases lv k hk with hk|rfl
   .rw[bC,cC D κ (ne k hk.2)];exact(h.pA k hk).1.sub hG.c
   .exact absurd rfl Es
 .rw[hz]at hj;rcases lv j hj with hj|rfl
  .rw[cC D κ (ne j hj.2)];refine⟨(h.pA j hj).1.sub hG.s,aRy ?_ ?_⟩
   .exact((h.pA j hj).1.left.sub hG.s).symm
   .exact(((h.pA j hj).2.symm).sub hG.r).symm
  .rw[bC];exact⟨hG.o1,hG.o2⟩
 .rw[hz]at hj;rcases lv j hj with hj|rfl
  .rw[cC D κ (ne j hj.2)];exact h.QE j hj b z hb
  .rw[bC];rintro(h1|h1)
   .rcases hG.c b z h1 with h2|h2<;>exact h.JK b _ hb (.inl h2)
   .rcases hG.d b z h1 with h2|h2<;>exact h.JK b _ hb h2
 .rintro(h1|h1)
  .rcases hG.s b z h1 with h2|h2<;>exact h.JK b _ hb (.inl h2)
  .rcases hG.r b z h1 with h2|h2<;>exact h.JK b _ hb h2
 .rw[hz]at hj;rcases lv j hj with hj|rfl
  .rw[cC D κ (ne j hj.2)];exact h.vG j hj
  .rw[bC];rintro b z (h1|h1)
   .rcases hG.c b z h1 with h2|h2<;>exact h.Ht b _ (.inl h2)
   .rcases hG.d b z h1 with h2|h2<;>exact h.Ht b _ h2
 .rintro b z (h1|h1)
  .rcases hG.s b z h1 with h2|h2<;>exact h.Ht b _ (.inl h2)
  .rcases hG.r b z h1 with h2|h2<;>exact h.Ht b _ h2
 .rw[hz]at wY;rw[dk];by_cases e:j=gs.size
  .subst e;rw[bC,dI,dn];rfl
  .rw[cC D κ e];exact h.vH j hj BYO
 .rw[hz]at hj;rcases lv j hj with hj|rfl
  .rw[cC D κ (ne j hj.2)]at hf ha;exact h.fin j hj f hf w1 ha
  .rw[bC,hF]at hf;cases hf
def Core.calm(h:Core P lo ty gs w t n0 D Pb S R d0)(hq:∀i,Live n0 gs.size i->(∃d,(D i).st=.quit d)/\∃p,(D i).rl=some p/\Knows t 0 p):
  Core P lo ty gs w t gs.size D Pb (Whole lo ty w) (λ_ _=>False) d0:=by
 have no:∀i,¬Live gs.size gs.size i:=λi ⟨h1,h2⟩=>BYO;have e:Live gs.size gs.size=λ_=>False:=by funext i;exact propext ⟨no i,False.elim⟩
 refine⟨⟨by have:=h.pos;omega,aAB _⟩,λi h1 h2=>?_,λi h1 h2=>?_,by rw[e];exact h.ti.aAT λi hi=>(hq i hi).2,λi _ hi=>absurd hi (no i),λi hi=>absurd hi (no i),λi hi=>absurd hi (no i),λb x hb hx=>?_,λi hi=>absurd hi (no i),λb x hx=>?_,h.qV,h.deaf0,h.vH,λi hi=>absurd hi (no i)⟩
 .obtain⟨g,h3,h4,_⟩:=h.fN i h1 h2;exact⟨g,h3,h4,λh5=>absurd ⟨h5,h2⟩ (no i)⟩
 .rcases aCD i n0 with h3|h3
  .exact h.old i h1 h3
  .exact(hq i ⟨h3,h2⟩).1
 .rcases hx with⟨_,_,h3⟩|h3
  .exact h3 (h.qV b hb)
  .exact h3
 .rcases hx with⟨_,h3,_⟩|h3
  .exact h3
  .exact h3.elim
end
open Go.ConcR (KK WgAt stA smA rd wr mk)
variable{S R S':PS}
section
variable{P:Program}{lo:Nat}{ty:TypeId}{gs:Array Goroutine}{w:World}{t:Trace}{n0:Nat}{D:Nat->oF}{Pb:Nat->Prop}{d0:Nat}{gi g':Goroutine}{es:Array Event}{κ:oF}{fn:FuncId}{pos:String}
def fA{β:Type}(D:Nat->α)(i:Nat)(x:α)(f:α->β)(h:f x=f (D i)):(λj=>f (put D i x j))=λj=>f (D j):=by
 funext j;by_cases e:j=i
 .subst e;rw[bC,h]
 .rw[cC D x e]
def AK{e:Event}(h:e.sync=false)(hm:∀m,e.loc≠.mark m):MemAct.ofEvent e=.access e:=by
 obtain⟨l,wr,sy⟩:=e;cases h;cases l with
 |mark m=>exact absurd rfl (hm m)
 |_=>cases wr<;>rfl
def sP{V:PS}(h:has V l):∀m,l≠.mark m:=by rintro m rfl;exact h
def Gu.ops(h:Gu S R S' w w' es){op:MemOp}(cK:op∈MemOp.ofEvents i fn pos es):op.g=i/\((∀x,op.act.touch?=some x->x.kind=.plain/\(Cw.has S' x.loc\/(Cw.has R x.loc/\x.write=false)))/\(op.act≠.mark .disable/\op.act≠.mark .enable)/\(mQ w'.heap.size (S'.or R)->op.act.low w'.heap.size)/\∀a,op.act≠.mark (.release a)):=by
 obtain⟨e,he,rfl⟩:=mem_ofEvents cK;refine⟨rfl,?_⟩;rcases h.events e he with rfl|⟨h1,h2⟩
 .exact⟨λx hx=>by simp[MemAct.ofEvent,MemAct.touch?]at hx,⟨by simp[MemAct.ofEvent],by simp[MemAct.ofEvent]⟩,λ_=>trivial,λa=>by simp[MemAct.ofEvent]⟩
 .have hm:∀m,e.loc≠.mark m:=h2.elim (λx=>sP x) λx=>sP x.1;simp only[AK h1 hm];refine⟨λx hx=>?_,⟨BYS,BYS⟩,λhb=>?_,λa=>BYS⟩
  .simp only[MemAct.touch?,aDu]at hx;subst hx;exact⟨by simp[h1],h2⟩
  .show e.loc.low _;exact TP hb (fZ.2 (h2.imp id λx=>x.1))
def Gu.deaf(h:Gu S R S' w w' es)(d:Nat):deafBehind d es=d:=by
 refine deafBehind_still (λe he=>?_) d;rcases h.events e he with rfl|⟨_,h2⟩
 .exact⟨BYS,BYS⟩
 .have hm:∀m,e.loc≠.mark m:=h2.elim (λx=>sP x) λx=>sP x.1;exact⟨hm _,hm _⟩
def Core.low(h:Core P lo ty gs w t n0 D Pb S R d0){b:Nat}(hb:Pb b):b<w.heap.size:=by
 rcases(h.qV b hb).2 with⟨_,_,hx⟩|⟨_,_,_,_,_,_,hx⟩<;>exact(aCH.1 hx).1
def Core.woken(h:Core P lo ty gs w t n0 D Pb S R d0){j:Nat}(hj:0<j){x:Goroutine}(hx:gs[j]?=some x)(a a':Goroutine)(w1:World):Go.Conc.woken P a a' w1 x=x:=by
 obtain⟨g,h1,h2,_⟩:=h.fN j hj (aCH.1 hx).1;rw[hx]at h1;cases h1;unfold Go.Conc.woken;split
 .exact again_running _ h2.status
 .rfl
def Core.nU(h:Core P lo ty gs w t n0 D Pb S R d0)(hi:0<i)(hg:gs[i]?=some gi)(hK:FB P ty κ.I κ.ρ κ.st κ.S κ.R g' w')(hw:κ.w=w')(hold:i<n0->∃d,κ.st=.quit d)(hR:κ.R=(D i).R)
  (hle:∀b x,(D i).S b x->κ.S b x)(Ej:∀b x,κ.S b x->(D i).S b x\/(w.heap.size<=b/\b<w'.heap.size))(hs:w.heap.size<=w'.heap.size)
  (hA:∀V,(n0<=i->xQ (D i).S V)->mQ w.heap.size V->(∀b x,Pb b->¬V b x)->bZ V w w')
  (Fu:TI (sh Pb) gs.size (Live n0 gs.size) (λj=>(put D i κ j).S) (λj=>(put D i κ j).R) (λj=>(put D i κ j).rl) (t++MemOp.ofEvents i gi.frame.fn gi.frame.place es) w'.heap.size)
  (hd:deafBehind (D i).st.mute es=κ.st.mute)(hF:n0<=i->∀f,κ.F=some f->∀w1,bZ κ.S w' w1->f w1)(hP:∀b,Pb b->JI lo ty w' b):
  Core P lo ty ((gs.map (Go.Conc.woken P gi g' w')).setIfInBounds i g') w' (t++MemOp.ofEvents i gi.frame.fn gi.frame.place es) n0 (put D i κ) Pb S R d0:=by
 have dD:=(aCH.1 hg).1;have ops:∀op∈MemOp.ofEvents i gi.frame.fn gi.frame.place es,op.g=i:=λop cK=>by obtain⟨e,_,rfl⟩:=mem_ofEvents cK;rfl
 refine h.step hi dD BYS (ConcN.get_map_set_same _ _ _ dD) (λj hj zW=>?_) (by rw[hw];exact hK) (by rw[hw];exact bZ.refl _ _) hold hR hle Ej hs hA Fu ?_ (λj hj wY=>?_) hF hP
 .rw[ConcN.get_map_set _ _ _ _ (Ne.symm zW)];cases hx:gs[j]? with
  |none=>rfl
  |some x=>simp[h.woken hj hx]
 .rw[Deaf_other t BYO _ ops];exact h.deaf0
 .by_cases e:j=i
  .subst e;rw[bC,Deaf_own,h.vH j hj wY,hd]
  .rw[cC D κ e,Deaf_other t (Ne.symm e) _ ops];exact h.vH j hj wY
def Core.vw(h:Core P lo ty gs w t n0 D Pb S R d0)(hi:Live n0 gs.size i)(XR:(D i).rl=none)(hG:Gu (D i).S (D i).R κ.S w w' es)(hR:κ.R=(D i).R)(hr:κ.rl=(D i).rl):
  TI (sh Pb) gs.size (Live n0 gs.size) (λj=>(put D i κ j).S) (λj=>(put D i κ j).R) (λj=>(put D i κ j).rl) (t++MemOp.ofEvents i fn pos es) w'.heap.size:=by
 rw[fA D i κ oF.R hR,fA D i κ oF.rl hr];have iD:mQ w'.heap.size (κ.S.or (D i).R):=λb x hx=>hx.elim (λx1=>hG.inB (λb x hx=>h.vG i hi b x (.inl hx)) b x x1) λx1=>aAx (h.vG i hi b x (.inr x1)) hG.size;refine h.ti.app (g:=i) (λop cK=>(hG.ops cK).1) hi.2 (.inr (.inl ⟨hi,XR⟩)) (λj hj=>by simp only[cC D κ hj]) (λl hl=>by simp only[bC];exact H5 hG.le hl) (λl hl=>?_) (λop cK x hx=>?_) hG.size (λop cK=>(hG.ops cK).2.2.2.1 iD)
 .simp only[bC]at hl;exact hG.has hl
 .obtain⟨h1,h2⟩:=(hG.ops cK).2.1 x hx;have hS:has (κ.S.or (D i).R) x.loc:=fZ.2 (h2.imp id And.left);refine .inr ⟨λhs=>?_,.inr (by simp only[bC];exact h2),λj hj zW=>?_⟩
  .rcases fZ.1 hS with h3|h3
   .rcases hG.has h3 with h4|h4
    .exact DD (h.QE i hi) hs (fZ.2 (.inl h4))
    .exact h4 (h.ti.shl _ hs)
   .exact DD (h.QE i hi) hs (fZ.2 (.inr h3))
  .simp only[cC D κ zW];have oj:=hG.off (h.JJ i j hi hj (Ne.symm zW)) (h.vG j hj);refine⟨λhsj=>?_,λhw hrj=>?_⟩
   .rcases h2 with h3|⟨h3,_⟩
    .exact oj.has h3 (fZ.2 (.inl hsj))
    .exact(h.JJ j i hj hi zW).has hsj (fZ.2 (.inr h3))
   .rcases h2 with h3|⟨_,h3⟩
    .exact oj.has h3 (fZ.2 (.inr hrj))
    .rw[h3]at hw;cases hw
def Core.TR(h:Core P lo ty gs w t n0 D Pb S R d0)(hi:0<i)(dD:i<gs.size)(hS:κ.S=(D i).S)(hR:κ.R=(D i).R)(hr:κ.rl=(D i).rl){u:Trace}(hu:∀op∈u,op.g=i/\op.act.touch?=none/\op.act.low w.heap.size):
  TI (sh Pb) gs.size (Live n0 gs.size) (λj=>(put D i κ j).S) (λj=>(put D i κ j).R) (λj=>(put D i κ j).rl) (t++u) w.heap.size:=by
 rw[fA D i κ oF.S hS,fA D i κ oF.R hR,fA D i κ oF.rl hr];refine h.ti.app (g:=i) (λop cK=>(hu op cK).1) dD (.inr (.inr ⟨λop cK x hx=>?_,λj x hj hx=>?_⟩)) (λ_ _=>rfl) (λ_ hl=>hl) (λ_ hl=>.inl hl) (λop cK x hx=>?_) (aAB _) (λop cK=>(hu op cK).2.2)
 .rw[(hu op cK).2.1]at hx;cases hx
 .obtain⟨op,ho,zR⟩:=touch_of hx;rcases getElem?_append_cases ho with⟨hj',_⟩|⟨_,GK⟩
  .omega
  .rw[(hu op GK).2.1]at zR;cases zR
 .rw[(hu op cK).2.1]at hx;cases hx
def Core.TT(h:Core P lo ty gs w t n0 D Pb S R d0)(hi:0<i)(dD:i<gs.size)(hS:κ.S=(D i).S)(hR:κ.R=(D i).R)(hr:κ.rl=(D i).rl)(hB:w.heap.size<=w'.heap.size)
  (hes:∀e∈es,(∃m,e=ConcR.mk m/\(m=.disable\/m=.enable))\/∃a:Addr,(e=rd a\/e=wr a)/\Pb a.block)(hd:∀j,j<es.size->0<deafBehind (Deaf t i) (es.extract 0 j)):
  TI (sh Pb) gs.size (Live n0 gs.size) (λj=>(put D i κ j).S) (λj=>(put D i κ j).R) (λj=>(put D i κ j).rl) (t++MemOp.ofEvents i fn pos es) w'.heap.size:=by
 rw[fA D i κ oF.S hS,fA D i κ oF.R hR,fA D i κ oF.rl hr];have ht:∀op∈MemOp.ofEvents i fn pos es,∀x,op.act.touch?=some x->sh Pb x.loc/\x.kind=.atomic:=λop cK x hx=>by
  obtain⟨e,he,rfl⟩:=mem_ofEvents cK;rcases hes e he with⟨m,rfl,rfl|rfl⟩|⟨a,rfl|rfl,ha⟩
  .simp[ConcR.mk,MemAct.ofEvent,MemAct.touch?]at hx
  .simp[ConcR.mk,MemAct.ofEvent,MemAct.touch?]at hx
  .simp[rd,MemAct.ofEvent,MemAct.touch?]at hx;subst hx;exact⟨ha,rfl⟩
  .simp[wr,MemAct.ofEvent,MemAct.touch?]at hx;subst hx;exact⟨ha,rfl⟩
 refine h.ti.app (g:=i) (λop cK=>by obtain⟨e,_,rfl⟩:=mem_ofEvents cK;rfl) dD (.inr (.inr ⟨λop cK x hx=>(ht op cK x hx).1,λj x hj hx=>?_⟩)) (λ_ _=>rfl) (λ_ hl=>hl) (λ_ hl=>.inl hl) (λop cK x hx=>.inl ⟨(ht op cK x hx).1,.inl (ht op cK x hx).2⟩) hB (λop cK=>?_)
 .rintro⟨g,hgj,hdj⟩;obtain⟨op,ho,zR⟩:=touch_of hx;obtain⟨aSL,_⟩:=aCH.1 ho;have hg:g=i:=by
   rcases getElem?_append_cases ho with⟨hj',_⟩|⟨_,GK⟩
   .omega
   .obtain⟨e,_,rfl⟩:=mem_ofEvents GK;simpa[Trace.g?,ho] using hgj.symm
  subst hg;have oC:j-t.size<es.size:=by
   have:(t++MemOp.ofEvents g fn pos es).size=t.size+es.size:=by rw[ofEvents_eq];simp
   omega
  have h1:=deaf_inside t g fn pos es (j-t.size) BYO;rw[show t.size+(j-t.size)=j by omega,hdj]at h1;have h2:=hd (j-t.size) oC;omega
 .obtain⟨e,he,rfl⟩:=mem_ofEvents cK;rcases hes e he with⟨m,rfl,rfl|rfl⟩|⟨a,rfl|rfl,ha⟩
  .trivial
  .trivial
  .exact aAx (h.low ha) hB
  .exact aAx (h.low ha) hB
def Core.leave(h:Core P lo ty gs w t n0 D Pb S R d0)(hi:0<i)(hg:gs[i]?=some gi)(hr:gi.status=.running)(dI:(D i).st=.quit d):
  ∃g' es ρ,stepG P false gi w=.go g' w es/\(∀e∈es,Event.mute e=true)/\ρ.lt (D i).ρ/\Core P lo ty ((gs.map (Go.Conc.woken P gi g' w)).setIfInBounds i g') w (t++MemOp.ofEvents i gi.frame.fn gi.frame.place es) n0 (put D i {D i with ρ:=ρ,st:=.quit (deafBehind d es),w:=w}) Pb S R d0:=by
 have dD:=(aCH.1 hg).1;obtain⟨g,h1,h2,h3⟩:=h.fN i hi dD;rw[hg]at h1;cases h1;rw[dI]at h2;obtain⟨q,hq,hρ⟩:=h2.quit;cases q with
 |zero=>rw[hq.1]at hr;cases hr
 |succ q=>
  rcases hq with⟨h4,_⟩|⟨_,g',es,hm,hs,hq⟩
  .rw[h4]at hr;cases hr
  .refine⟨g',es,.nat q,hs w,hm,by rw[hρ];exact⟨w,none,rfl⟩,h.nU (κ:={D i with ρ:=.nat q,st:=.quit (deafBehind d es),w:=w}) hi hg (.Nz hq) rfl (λ_=>⟨_,rfl⟩) rfl (λ_ _ x=>x) (λ_ _ x=>.inl x) (aAB _) (λV _ _ _=>bZ.refl V w) (h.TR (κ:={D i with ρ:=.nat q,st:=.quit (deafBehind d es),w:=w}) hi dD rfl rfl rfl λop cK=>?_) (by rw[dI];rfl) (λhn=>h.fin i ⟨hn,dD⟩) h.qV⟩;obtain⟨e,he,rfl⟩:=mem_ofEvents cK;exact⟨rfl,touch_mute (hm e he),low_mute (hm e he) _⟩
end
open Go.ConcR (KK WgAt stA smA rd wr)
open Go.ConcN (sumTo sumTo_congr sumTo_upd)
variable{m b o:Nat}{st sm:Int}{v:Value}
def KS.cnt:KS->Nat
 | .work| .rel| .deaf=>1
 |_=>0
def KS.opn:KS->Bool
 | .work| .rel| .deaf| .quit _=>true
 |_=>false
def KS.Tg(s:KS):Prop:=∃d,s=.quit d
def CN(E:Nat->KS)(q:Nat):Nat:=sumTo q λm=>(E m).cnt
def xR.pd:xR->Nat
 | .pend| .pe=>1
 |_=>0
def xR.isOpen(c:Nat):xR->Prop
 | .op| .pend| .pe=>True
 | .df bd=>c<=bd
 |_=>False
inductive AL(E:Nat->KS)(q:Nat):xR->Int->Int->Prop
 |opn {ph:xR} {c:Nat}:c=CN E q->ph.isOpen c->(∀m,m<q->(E m).opn=true)->AL E q ph (((c+ph.pd:Nat):Int)*KK) 0
 |reg {c:Nat}:c=CN E q->(∀m,m<q->(E m).opn=true)->0<c->AL E q .reg (((c:Nat):Int)*KK+1) 0
 |last (L:Nat):L<q->E L=.l4\/E L=.l3->(∀m,m<q->m≠L->(E m).Tg)->AL E q .reg 1 0
 |rJ (L:Nat):L<q->E L=.l2->(∀m,m<q->m≠L->(E m).Tg)->AL E q .reg 0 0
 |sema:(∀m,m<q->(E m).Tg)->AL E q .reg 0 1
 |fin {ph:xR}:ph=.sm\/ph=.TQ\/ph=.Hs->(∀m,m<q->(E m).Tg)->AL E q ph 0 0
def Hu{E:Nat->KS}(h:m<q)(s:KS):CN (put E m s) q+(E m).cnt=CN E q+s.cnt:=sumTo_upd E s KS.cnt h
def vx{E:Nat->KS}:CN E q<=q:=by
 unfold CN;have:=ConcN.sumTo_le (f:=λm=>(E m).cnt) (c:=1) (j:=q) λi _=>by
  show(E i).cnt<=1;cases E i<;>simp[KS.cnt]
 omega
def Hv{E:Nat->KS}(h:m<q):(E m).cnt<=CN E q:=ConcN.le_sumTo (f:=λm=>(E m).cnt) h
def AL.same{E:Nat->KS}{ph:xR}(h:AL E q ph st sm)(hm:m<q){s:KS}(hc:s.cnt=(E m).cnt)(ho:(E m).opn=true->s.opn=true)(hq:(E m).Tg->s.Tg)(hl:E m=.l4\/E m=.l3->s=.l4\/s=.l3)(CG:E m=.l2->s=.l2):
  AL (put E m s) q ph st sm:=by
 have hcn:CN (put E m s) q=CN E q:=by have:=Hu hm s (E:=E);omega
 have op:(∀k,k<q->(E k).opn=true)->∀k,k<q->(put E m s k).opn=true:=λh k hk=>by
  by_cases e:k=m
  .subst e;rw[bC];exact ho (h k hk)
  .rw[cC E s e];exact h k hk
 have iq:∀{L:Nat},(∀k,k<q->k≠L->(E k).Tg)->∀k,k<q->k≠L->(put E m s k).Tg:=λh k hk hL=>by
  by_cases e:k=m
  .subst e;rw[bC];exact hq (h k hk hL)
  .rw[cC E s e];exact h k hk hL
 have iq0:(∀k,k<q->(E k).Tg)->∀k,k<q->(put E m s k).Tg:=λh k hk=>by
  by_cases e:k=m
  .subst e;rw[bC];exact hq (h k hk)
  .rw[cC E s e];exact h k hk
 cases h with
 |opn h1 h2 h3=>exact .opn (h1.trans hcn.symm) h2 (op h3)
 |reg h1 h2 h3=>exact .reg (h1.trans hcn.symm) (op h2) h3
 |last L h1 h2 h3=>
  refine .last L h1 ?_ (iq h3);by_cases e:L=m
  .subst e;rw[bC];exact hl h2
  .rw[cC E s e];exact h2
 |rJ L h1 h2 h3=>
  refine .rJ L h1 ?_ (iq h3);by_cases e:L=m
  .subst e;rw[bC];exact CG h2
  .rw[cC E s e];exact h2
 |sema h1=>exact .sema (iq0 h1)
 |fin h1 h2=>exact .fin h1 (iq0 h2)
def AL.add{E:Nat->KS}{q m:Nat}{ph:xR}{st:Int}(h:AL E q ph st 0)(hm:m<q)(hs:E m=.deaf){v wt:Nat}(hv:st=((v:Int)+1)*KK+wt)(hw:wt<=1):
  AL (put E m (if v=0/\wt=1 then .l4 else .quit 1)) q ph ((v:Int)*KK+wt) 0:=by
 have hcn:∀s:KS,s.cnt=0->CN (put E m s) q+1=CN E q:=λs h0=>by have:=Hu hm s (E:=E);rw[hs,h0]at this;simpa[KS.cnt] using this
 have op:∀s:KS,s.opn=true->(∀k,k<q->(E k).opn=true)->∀k,k<q->(put E m s k).opn=true:=λs h0 h k hk=>by
  by_cases e:k=m
  .subst e;rw[bC];exact h0
  .rw[cC E s e];exact h k hk
 cases h with
 | @opn ph c h1 h2 h3=>
  have e0:c+ph.pd=v+1/\wt=0:=by simp only[KK]at hv;omega
  obtain⟨e1,rfl⟩:=e0;rw[if_neg BYS];have h4:=hcn (.quit 1) rfl;have e2:v=(CN (put E m (.quit 1)) q)+ph.pd:=BYO;have:((v:Int)*KK+((0:Nat):Int))=(((CN (put E m (.quit 1)) q+ph.pd:Nat):Int))*KK:=by rw[<-e2];simp
  rw[this];refine .opn rfl ?_ (op _ rfl h3);cases ph<;>simp only[xR.isOpen]at h2⊢
  omega
 | @reg c h1 h2 h3=>
  have e0:c=v+1/\wt=1:=by simp only[KK]at hv;omega
  obtain⟨e1,rfl⟩:=e0;by_cases hv0:v=0
  .subst hv0;rw[if_pos ⟨rfl,rfl⟩];have:(((0:Nat):Int)*KK+((1:Nat):Int))=1:=BYS;rw[this];refine .last m hm (.inl (bC _ _ _)) λk hk WO=>?_;rw[cC E _ WO];have h4:=h2 k hk;have h5:(E k).cnt=0:=by
    have h6:CN (put E k (.quit 0)) q+(E k).cnt=CN E q:=Hu hk (.quit 0) (E:=E);have h7:1<=CN (put E k (.quit 0)) q:=by
     have:=Hv (E:=put E k (.quit 0)) hm;rw[cC E _ (Ne.symm WO),hs]at this;exact this
    rw[<-h1,e1]at h6;omega
   cases hE:E k<;>rw[hE]at h4 h5<;>simp[KS.opn,KS.cnt]at h4 h5
   exact⟨_,rfl⟩
  .rw[if_neg BYO];have h4:=hcn (.quit 1) rfl;have:=AL.reg (E:=put E m (.quit 1)) (q:=q) (c:=v) BYO (op _ rfl h2) BYO;simpa using this
 |last L h1 h2 h3=>
  exfalso;by_cases e:m=L
  .subst e;rw[hs]at h2;rcases h2 with h2|h2<;>cases h2
  .obtain⟨d,hd⟩:=h3 m hm e;rw[hs]at hd;cases hd
 |rJ L h1 h2 h3=>
  exfalso;by_cases e:m=L
  .subst e;rw[hs]at h2;cases h2
  .obtain⟨d,hd⟩:=h3 m hm e;rw[hs]at hd;cases hd
 |fin h1 h2=>obtain⟨d,hd⟩:=h2 m hm;rw[hs]at hd;cases hd
structure Ob(ty:TypeId)(Wg:Nat)(qs:List (World->Prop))(ph:xR)(n0 n:Nat)(D:Nat->oF)(w:World)(t:Trace)(Pb:Nat->Prop):Prop where
 pb:Pb Wg
 sz:n=n0+qs.length
 few:qs.length<=1000
 I:∀(m:Nat) f,qs[m]?=some f->(D (n0+m)).I=.wg Wg f/\((D (n0+m)).st≠.work->(D (n0+m)).F=some f)
 rl:∀m,m<qs.length->((D (n0+m)).st=.work->(D (n0+m)).rl=none/\(D (n0+m)).F=none)/\((D (n0+m)).st≠.work->∃p,(D (n0+m)).rl=some p/\p<t.size/\t.act? p=some (.mark (.releaseMerge (stA Wg)))/\t.heard p)
 nr:NoRelease (stA Wg) t
 cnt:∃st sm,WgAt ty Wg w st sm/\AL (λm=>(D (n0+m)).st) qs.length ph st sm
section
variable{P:Program}{lo:Nat}{ty:TypeId}{gs:Array Goroutine}{w:World}{t u:Trace}{n0 n:Nat}{D:Nat->oF}{Pb:Nat->Prop}{d0:Nat}{gi g':Goroutine}{es:Array Event}{κ:oF}{Wg:Nat}{qs:List (World->Prop)}{ph:xR}
def H7(D:Nat->oF)(n0 m:Nat)(κ:oF):(λk=>(put D (n0+m) κ (n0+k)).st)=put (λk=>(D (n0+k)).st) m κ.st:=by
 funext k;by_cases e:k=m
 .subst e;rw[bC,bC]
 .rw[cC _ _ e,cC D κ BYO]
def Ob.put(h:Ob ty Wg qs ph n0 n D w t Pb)(hm:m<qs.length)(hI:κ.I=(D (n0+m)).I)(hF:κ.st≠.work->∀f,qs[m]?=some f->κ.F=some f)(hr:κ.st=.work->κ.rl=none/\κ.F=none)
  (pT:κ.st≠.work->∃p,κ.rl=some p/\p<(t++u).size/\(t++u).act? p=some (.mark (.releaseMerge (stA Wg)))/\(t++u).heard p)(hn:∀op∈u,op.act≠.mark (.release (stA Wg)))
 (hw:WgAt ty Wg w' st sm)(hM:AL (Cw.put (λk=>(D (n0+k)).st) m κ.st) qs.length ph st sm):Ob ty Wg qs ph n0 n (Cw.put D (n0+m) κ) w' (t++u) Pb:=by
 refine⟨h.pb,h.sz,h.few,λk f hf=>?_,λk hk=>?_,h.nr.app hn,st,sm,hw,by rw[H7];exact hM⟩
 .by_cases e:k=m
  .subst e;rw[bC];exact⟨hI.trans (h.I k f hf).1,λx=>hF x f hf⟩
  .rw[cC D κ BYO];exact h.I k f hf
 .by_cases e:k=m
  .subst e;rw[bC];exact⟨hr,pT⟩
  .rw[cC D κ BYO];obtain⟨h1,h2⟩:=h.rl k hk;refine⟨h1,λx=>?_⟩;obtain⟨p,h3,h4,h5,h6⟩:=h2 x;exact⟨p,h3,BYT,by rw[act?_old h4];exact h5,(heard_old h4).2 h6⟩
def HD{V:PS}(h:∀x,¬V b x):bZ V w (w.setCell ⟨b,o,none⟩ v):=by
 have ne:∀k x,V k x->(w.setCell ⟨b,o,none⟩ v).heap[k]?=w.heap[k]?:=λk x hx=>eZ λe=>h x (e▸hx);exact⟨λk hk=>ne k _ hk,λk o' hk c T fz hc=>⟨c,(ne k _ hk).trans hc,rfl,rfl⟩,by rw[cL];exact aAB _,rfl,rfl,rfl⟩
def wL(h:∀k,Pb k->JI lo ty w k)(hb:WgLive ty b (w.setCell ⟨b,o,none⟩ v)):∀k,Pb k->JI lo ty (w.setCell ⟨b,o,none⟩ v) k:=λk hk=>by
 by_cases e:k=b
 .subst e;exact⟨(h k hk).1,.inl hb⟩
 .rcases h k hk with⟨h0,⟨st,sm,h1⟩|⟨a1,a2,a3,a4,a5,a6,h1⟩⟩
  .exact⟨h0,.inl ⟨st,sm,(eZ e).trans h1⟩⟩
  .exact⟨h0,.inr ⟨a1,a2,a3,a4,a5,a6,(eZ e).trans h1⟩⟩
def Ob.pre(h:Ob ty Wg qs ph n0 n D w t Pb)(hm:m<qs.length):NX ty (D (n0+m)).I (D (n0+m)).st w:=by
 obtain⟨st,sm,h1,h2⟩:=h.cnt;rw[(h.I m qs[m] (by simp[hm])).1];refine⟨⟨st,sm,h1⟩,?_⟩;have hf:=h.few;cases e:(D (n0+m)).st<;>try trivial
 .
  have hc:(D (n0+m)).st.cnt<=CN (λk=>(D (n0+k)).st) qs.length:=Hv (E:=λk=>(D (n0+k)).st) hm;have hle:=vx (E:=λk=>(D (n0+k)).st) (q:=qs.length);rw[e]at hc;cases h2 with
  | @opn ph c g1 g2 g3=>
   have:ph.pd<=1:=by cases ph<;>simp[xR.pd]
   refine⟨c+ph.pd-1,0,BYO,BYO,?_⟩;have e1:((c+ph.pd-1:Nat):Int)+1=((c+ph.pd:Nat):Int):=by simp only[KS.cnt]at hc;omega
   rw[e1];simpa using h1
  | @reg c g1 g2 g3=>
   refine⟨c-1,1,BYO,BYO,?_⟩;have e1:((c-1:Nat):Int)+1=(c:Int):=BYO;rw[e1];exact h1
  |last L g1 g2 g3=>
   exfalso;by_cases x:m=L
   .subst x;rw[e]at g2;rcases g2 with g2|g2<;>cases g2
   .obtain⟨d,hd⟩:=g3 m hm x;rw[e]at hd;cases hd
  |rJ L g1 g2 g3=>
   exfalso;by_cases x:m=L
   .subst x;rw[e]at g2;cases g2
   .obtain⟨d,hd⟩:=g3 m hm x;rw[e]at hd;cases hd
  |sema g1=>obtain⟨d,hd⟩:=g1 m hm;rw[e]at hd;cases hd
  |fin g1 g2=>obtain⟨d,hd⟩:=g2 m hm;rw[e]at hd;cases hd
 all_goals
  cases h2 with
  |opn g1 g2 g3=>have:=g3 m hm;rw[e]at this;cases this
  |reg g1 g2 g3=>have:=g2 m hm;rw[e]at this;cases this
  |last L g1 g2 g3=>
   by_cases x:m=L
   .subst x;rw[e]at g2;first|exact h1|(exfalso;rcases g2 with g2|g2<;>cases g2)
   .exfalso;obtain⟨d,hd⟩:=g3 m hm x;rw[e]at hd;cases hd
  |rJ L g1 g2 g3=>
   by_cases x:m=L
   .subst x;rw[e]at g2;first|(exfalso;cases g2;done)|exact h1
   .exfalso;obtain⟨d,hd⟩:=g3 m hm x;rw[e]at hd;cases hd
  |sema g1=>exfalso;obtain⟨d,hd⟩:=g1 m hm;rw[e]at hd;cases hd
  |fin g1 g2=>exfalso;obtain⟨d,hd⟩:=g2 m hm;rw[e]at hd;cases hd
end
open Go.ConcR (KK WgAt stA smA rd wr)
variable{fn:FuncId}{pos:String}
def AL.d3{E:Nat->KS}{q m:Nat}{ph:xR}{st sm:Int}(h:AL E q ph st sm)(hm:m<q)(hs:E m=.l3):st=1/\sm=0/\AL (put E m .l2) q ph 0 0:=by
 cases h with
 |opn h1 h2 h3=>have:=h3 m hm;rw[hs]at this;cases this
 |reg h1 h2 h3=>have:=h2 m hm;rw[hs]at this;cases this
 |last L h1 h2 h3=>
  by_cases e:m=L
  .subst e;exact⟨rfl,rfl,.rJ m hm (bC _ _ _) λk hk WO=>by rw[cC E _ WO];exact h3 k hk WO⟩
  .obtain⟨d,hd⟩:=h3 m hm e;rw[hs]at hd;cases hd
 |rJ L h1 h2 h3=>
  by_cases e:m=L
  .subst e;rw[hs]at h2;cases h2
  .obtain⟨d,hd⟩:=h3 m hm e;rw[hs]at hd;cases hd
 |sema h1=>obtain⟨d,hd⟩:=h1 m hm;rw[hs]at hd;cases hd
 |fin h1 h2=>obtain⟨d,hd⟩:=h2 m hm;rw[hs]at hd;cases hd
def AL.d2{E:Nat->KS}{q m:Nat}{ph:xR}{st sm:Int}(h:AL E q ph st sm)(hm:m<q)(hs:E m=.l2):st=0/\sm=0/\AL (put E m (.quit 1)) q ph 0 1:=by
 cases h with
 |opn h1 h2 h3=>have:=h3 m hm;rw[hs]at this;cases this
 |reg h1 h2 h3=>have:=h2 m hm;rw[hs]at this;cases this
 |last L h1 h2 h3=>
  by_cases e:m=L
  .subst e;rw[hs]at h2;rcases h2 with h2|h2<;>cases h2
  .obtain⟨d,hd⟩:=h3 m hm e;rw[hs]at hd;cases hd
 |rJ L h1 h2 h3=>
  by_cases e:m=L
  .subst e;refine⟨rfl,rfl,.sema λk hk=>?_⟩;by_cases e:k=m
   .subst e;rw[bC];exact⟨_,rfl⟩
   .rw[cC E _ e];exact h3 k hk e
  .obtain⟨d,hd⟩:=h3 m hm e;rw[hs]at hd;cases hd
 |sema h1=>obtain⟨d,hd⟩:=h1 m hm;rw[hs]at hd;cases hd
 |fin h1 h2=>obtain⟨d,hd⟩:=h2 m hm;rw[hs]at hd;cases hd
def DF:MemOp.ofEvents i fn pos #[]= #[]:=rfl
def AM(m:Mark):MemOp.ofEvents i fn pos #[ConcR.mk m]= #[{g:=i,fn,pos,act:=.mark m}]:=by rw[ofEvents_eq];simp[ConcR.mk,MemAct.ofEvent]
def yP{t:Trace}{y:MemOp}(hd:Deaf t y.g=0):(t++ #[y]).heard t.size:=⟨y.g,by simp[Trace.g?],by rw[deaf_old (aAB _)];exact hd⟩
def TU{es:Array Event}(h:∀e∈es,e.loc≠.mark .disable/\e.loc≠.mark .enable)(hd:0<d):∀j,j<es.size->0<deafBehind d (es.extract 0 j):=λj _=>by
 rw[deafBehind_still (λe he=>h e (by
  obtain⟨k,hk,rfl⟩:=Array.mem_iff_getElem.1 he;rw[Array.getElem_extract];exact Array.getElem_mem _))]
 exact hd
section
variable{P:Program}{lo:Nat}{ty:TypeId}{gs:Array Goroutine}{w:World}{t:Trace}{n0:Nat}{D:Nat->oF}{Pb:Nat->Prop}{d0:Nat}{gi:Goroutine}{Wg:Nat}{qs:List (World->Prop)}{ph:xR}
def aAU(h:Core P lo ty gs w t n0 D Pb S R d0)(hI:Ob ty Wg qs ph n0 gs.size D w t Pb)(hi:Live n0 gs.size i)(hg:gs[i]?=some gi)(hq:∀d,(D i).st≠.quit d):
  ∃g' w' es κ,stepG P false gi w=.go g' w' es/\κ.ρ.lt (D i).ρ/\bZ (S.or R) w w'/\Core P lo ty ((gs.map (Go.Conc.woken P gi g' w')).setIfInBounds i g') w' (t++MemOp.ofEvents i gi.frame.fn gi.frame.place es) n0 (put D i κ) Pb S R d0/\
   Ob ty Wg qs ph n0 gs.size (put D i κ) w' (t++MemOp.ofEvents i gi.frame.fn gi.frame.place es) Pb/\(g'.status=.running\/g'.status=.finished)/\((∀st,WgAt ty Wg w st 0->∃Mq,WgAt ty Wg w' Mq 0)\/mayWake P gi=true):=by
 have EH:0<i:=by have:=h.pos;have:=hi.1;omega
 obtain⟨m,rfl⟩:∃m,i=n0+m:=⟨i-n0,by have:=hi.1;omega⟩;have hm:m<qs.length:=by have:=hi.2;have:=hI.sz;omega
 obtain⟨g,h1,h2,h3⟩:=h.fN _ EH hi.2;rw[hg]at h1;cases h1;have WV:=hI.pre hm;obtain⟨f,hρ,lV,eH⟩:=h2.move hq;have hs:=eH w (h3 hi.1) WV;obtain⟨st,sm,hw,hM⟩:=hI.cnt;have El:=hI.I m qs[m] (by simp[hm]);have hQ:∀g,qs[m]?=some g->g=qs[m]:=λg hg=>by rw[aDZ hm]at hg;exact(aG6 hg).symm
 have XR:=hI.rl m hm;have Xq:=h.vH _ EH hi.2;generalize dI:(D (n0+m)).st=s at hs;have aCv:(λk=>(D (n0+k)).st) m=s:=dI;have frl:s≠.work->∃p,(D (n0+m)).rl=some p/\p<t.size/\t.act? p=some (.mark (.releaseMerge (stA Wg)))/\t.heard p:=λcQ=>XR.2 (by rw[dI];exact cQ);have keep:∀{u:Trace},s≠.work->∃p,(D (n0+m)).rl=some p/\p<(t++u).size/\(t++u).act? p=some (.mark (.releaseMerge (stA Wg)))/\(t++u).heard p:=λ{u} cQ=>by
  obtain⟨p,p1,p2,p3,p4⟩:=frl cQ;exact⟨p,p1,BYT,by rw[act?_old p2];exact p3,(heard_old p2).2 p4⟩
 have MW:∀{es:Array Event},(∀e∈es,e.loc≠.mark (.release (stA Wg)))->∀op∈MemOp.ofEvents (n0+m) gi.frame.fn gi.frame.place es,op.act≠.mark (.release (stA Wg)):=λhe op cK e=>by
  obtain⟨x,hx,rfl⟩:=mem_ofEvents cK;exact he x hx (ConcR.loc_of_ofEvent e)
 have lt:(f w none).lt (D (n0+m)).ρ:=by rw[hρ];exact⟨w,none,rfl⟩
 have hF0:s≠.work->(D (n0+m)).F=some qs[m]:=λcQ=>El.2 (by rw[dI];exact cQ);have hFk:∀w',(∀V,(∀b x,Pb b->¬V b x)->bZ V w w')->∀F,(D (n0+m)).F=some F->∀w1,bZ (D (n0+m)).S w' w1->F w1:=λw' ha F hF w1 h5=>h.fin _ hi F hF w1 ((ha _ λb x hb hx=>h.QE _ hi b x hb (.inl hx)).trans h5);cases hs with
 | @own S1 R1 S' _ g' _ w' es e1 e2 e3=>
  have hr:=XR.1 dI;refine⟨g',w',es,{D (n0+m) with ρ:=f w none,S:=S',w:=w'},e1,lt,e2.iQ (h.pA _ hi).2 h.Ht,?_,?_,e3.status,.inl λXb MQ=>?_⟩
  .refine h.nU (κ:={D (n0+m) with ρ:=f w none,S:=S',w:=w'}) EH hg (by show FB P ty _ _ (D (n0+m)).st _ _ _ _;rw[dI];exact e3) rfl (λhn=>absurd hn (by have:=hi.1;omega)) rfl e2.le e2.fresh e2.size
    (λV ho hb _=>e2.iQ (ho hi.1) hb) (h.vw (κ:={D (n0+m) with ρ:=f w none,S:=S',w:=w'}) hi hr.1 e2 rfl rfl) (e2.deaf _) (λ_ F hF=>by have:(D (n0+m)).F=some F:=hF;rw[hr.2]at this;cases this) (λb hb=>?_)
   have iW:w'.heap[b]?=w.heap[b]?:=(e2.iQ (V:=λk x=>k=b/\x=none) (λk x y hk hv _=>by obtain⟨rfl,_⟩:=hv;exact h.QE _ hi _ x hb (.inl hk)) (λk x hx=>by obtain⟨rfl,_⟩:=hx;exact h.low hb)).all b ⟨rfl,rfl⟩;rcases(h.qV b hb).2 with⟨a1,a2,a3⟩|⟨a1,a2,a3,a4,a5,a6,a7⟩
   .exact⟨(h.qV b hb).1,.inl ⟨a1,a2,iW.trans a3⟩⟩
   .exact⟨(h.qV b hb).1,.inr ⟨a1,a2,a3,a4,a5,a6,iW.trans a7⟩⟩
  .have iW:w'.heap[Wg]?=w.heap[Wg]?:=(e2.iQ (V:=λk x=>k=Wg/\x=none) (λk x y hk hv _=>by obtain⟨rfl,_⟩:=hv;exact h.QE _ hi _ x hI.pb (.inl hk)) (λk x hx=>by obtain⟨rfl,_⟩:=hx;exact h.low hI.pb)).all Wg ⟨rfl,rfl⟩;exact hI.put (κ:={D (n0+m) with ρ:=f w none,S:=S',w:=w'}) hm rfl (λcQ=>absurd dI cQ) (λ_=>hr) (λcQ=>absurd dI cQ) (λop cK=>(e2.ops cK).2.2.2.2 _) (hw.of_block iW)
    (hM.same hm (s:=(D (n0+m)).st) rfl id id id id)
  .have iW:w'.heap[Wg]?=w.heap[Wg]?:=(e2.iQ (V:=λk x=>k=Wg/\x=none) (λk x y hk hv _=>by obtain⟨rfl,_⟩:=hv;exact h.QE _ hi _ x hI.pb (.inl hk)) (λk x hx=>by obtain⟨rfl,_⟩:=hx;exact h.low hI.pb)).all Wg ⟨rfl,rfl⟩;exact⟨Xb,MQ.of_block iW⟩
 | @rel S1 R1 _ g' _ Wg' Q e0 e1 e2 e3=>
  rw[El.1]at e0;cases e0;have hr:=XR.1 dI;have ed:Deaf t (n0+m)=0:=by rw[Xq,dI];rfl
  refine⟨g',w,_,{D (n0+m) with ρ:=f w none,st:=.rel,w:=w,rl:=some t.size,F:=some qs[m]},e1,lt,bZ.refl _ _,?_,?_,e3.status,.inl λXb MQ=>⟨Xb,MQ⟩⟩
  .refine h.nU (κ:={D (n0+m) with ρ:=f w none,st:=.rel,w:=w,rl:=some t.size,F:=some qs[m]}) EH hg e3 rfl (λhn=>absurd hn (by have:=hi.1;omega)) rfl (λ_ _ x=>x) (λ_ _ x=>.inl x) (aAB _) (λV _ _ _=>bZ.refl V w) ?_ (by rw[dI];rfl) (λ_ F hF w1 ha=>by cases hF;exact e2 w1 ha) h.qV;rw[AM];have h5:=h.ti.release (i:=n0+m) hi hr.1 (y:={g:=n0+m,fn:=gi.frame.fn,pos:=gi.frame.place,act:=.mark (.releaseMerge (stA Wg))}) rfl rfl (h.low hI.pb);rw[fA D (n0+m) {D (n0+m) with ρ:=f w none,st:=.rel,w:=w,rl:=some t.size,F:=some qs[m]} oF.S rfl,fA D (n0+m) {D (n0+m) with ρ:=f w none,st:=.rel,w:=w,rl:=some t.size,F:=some qs[m]} oF.R rfl];have e4:(λj=>(put D (n0+m) {D (n0+m) with ρ:=f w none,st:=.rel,w:=w,rl:=some t.size,F:=some qs[m]} j).rl)=λk=>if k=n0+m then some t.size else(D k).rl:=by funext k;unfold put;split<;>rfl
   rw[e4];exact h5
  .refine hI.put (κ:={D (n0+m) with ρ:=f w none,st:=.rel,w:=w,rl:=some t.size,F:=some qs[m]}) hm rfl (λ_ g hg=>by rw[hQ g hg]) (λe=>by cases e) (λ_=>?_) (MW λe he=>by simp at he;subst he;simp[ConcR.mk]) hw (hM.same hm (s:=.rel) (by rw[dI];rfl) (λ_=>rfl) (λhq=>by obtain⟨d,hd⟩:=hq;rw[dI]at hd;cases hd) (λhq=>by rw[dI]at hq;rcases hq with hq|hq<;>cases hq) (λhq=>by rw[dI]at hq;cases hq))
   rw[AM];exact⟨t.size,rfl,BYS,by simp[Trace.act?],yP ed⟩
 | @idle S1 R1 _ g' _ _ e0 e1 e2=>
  refine⟨g',w,_,{D (n0+m) with ρ:=f w none,w:=w},e1,lt,bZ.refl _ _,?_,?_,e2.status,.inl λXb MQ=>⟨Xb,MQ⟩⟩
  .exact h.nU (κ:={D (n0+m) with ρ:=f w none,w:=w}) EH hg (by show FB P ty _ _ (D (n0+m)).st _ _ _ _;rw[dI];exact e2) rfl (λhn=>absurd hn (by have:=hi.1;omega)) rfl (λ_ _ x=>x) (λ_ _ x=>.inl x) (aAB _) (λV _ _ _=>bZ.refl V w)
    (h.TR (κ:={D (n0+m) with ρ:=f w none,w:=w}) EH hi.2 rfl rfl rfl λop cK=>by rw[DF]at cK;simp at cK) rfl (λ_=>h.fin _ hi) h.qV
  .exact hI.put (κ:={D (n0+m) with ρ:=f w none,w:=w}) hm rfl (λcQ g hg=>by rw[hQ g hg];exact El.2 cQ) XR.1 (λcQ=>keep (by rw[<-dI];exact cQ)) (MW λe he=>by simp at he) hw (hM.same hm rfl id id id id)
 | @AJ S1 R1 _ g' _ e1 e2=>
  refine⟨g',w,_,{D (n0+m) with ρ:=f w none,st:=.deaf,w:=w},e1,lt,bZ.refl _ _,?_,?_,e2.status,.inl λXb MQ=>⟨Xb,MQ⟩⟩
  .exact h.nU (κ:={D (n0+m) with ρ:=f w none,st:=.deaf,w:=w}) EH hg e2 rfl (λhn=>absurd hn (by have:=hi.1;omega)) rfl (λ_ _ x=>x) (λ_ _ x=>.inl x) (aAB _) (λV _ _ _=>bZ.refl V w)
    (h.TR (κ:={D (n0+m) with ρ:=f w none,st:=.deaf,w:=w}) EH hi.2 rfl rfl rfl λop cK=>by rw[AM]at cK;simp at cK;subst cK;exact⟨rfl,rfl,trivial⟩) (by rw[dI];rfl) (λ_=>h.fin _ hi) h.qV
  .exact hI.put (κ:={D (n0+m) with ρ:=f w none,st:=.deaf,w:=w}) hm rfl (λ_ g hg=>by rw[hQ g hg];exact hF0 BYS) (λe=>by cases e) (λ_=>keep BYS) (MW λe he=>by simp at he;subst he;simp[ConcR.mk]) hw
    (hM.same hm (s:=.deaf) (by rw[dI];rfl) (λ_=>rfl) (λhq=>by obtain⟨d,hd⟩:=hq;rw[dI]at hd;cases hd) (λhq=>by rw[dI]at hq;rcases hq with hq|hq<;>cases hq) (λhq=>by rw[dI]at hq;cases hq))
 | @add S1 R1 _ g' _ Wg' v wt Q e0 hwt e1 e2 e3=>
  rw[El.1]at e0;cases e0;obtain⟨u1,u2⟩:=hw.unique e1;subst u1;subst u2;have ed:Deaf t (n0+m)=1:=by rw[Xq,dI];rfl
  have hA:∀V:PS,(∀b x,Pb b->¬V b x)->bZ V w (w.setCell (stA Wg) (.int .u64 (v*KK+wt))):=λV hV=>HD λx=>hV Wg x hI.pb;have BU:=e1.setSt (v*KK+wt);refine⟨g',_,_,{D (n0+m) with ρ:=f w none,st:=if v=0/\wt=1 then .l4 else .quit 1,w:=w.setCell (stA Wg) (.int .u64 (v*KK+wt))},e2,lt,hA _ h.JK,?_,?_,e3.status,.inl λXb MQ=>⟨_,BU⟩⟩
  .refine h.nU (κ:={D (n0+m) with ρ:=f w none,st:=if v=0/\wt=1 then .l4 else .quit 1,w:=w.setCell (stA Wg) (.int .u64 (v*KK+wt))}) EH hg e3 rfl (λhn=>absurd hn (by have:=hi.1;omega)) rfl (λ_ _ x=>x) (λ_ _ x=>.inl x) (by rw[stA,cL];exact aAB _) (λV _ _ hV=>hA V hV)
    (h.TT (κ:={D (n0+m) with ρ:=f w none,st:=if v=0/\wt=1 then .l4 else .quit 1,w:=w.setCell (stA Wg) (.int .u64 (v*KK+wt))}) EH hi.2 rfl rfl rfl (by rw[stA,cL];exact aAB _) (λe he=>?_) ?_) ?_ (λ_=>hFk _ hA) (wL h.qV ⟨_,_,BU⟩)
   .simp at he;rcases he with rfl|rfl
    .exact .inr ⟨stA Wg,.inl rfl,hI.pb⟩
    .exact .inr ⟨stA Wg,.inr rfl,hI.pb⟩
   .rw[ed];exact TU (λe he=>by simp at he;rcases he with rfl|rfl<;>simp[rd,wr]) Nat.one_pos
   .rw[dI];show deafBehind 1 _=_;split<;>rfl
  .refine hI.put (κ:={D (n0+m) with ρ:=f w none,st:=if v=0/\wt=1 then .l4 else .quit 1,w:=w.setCell (stA Wg) (.int .u64 (v*KK+wt))}) hm rfl (λ_ g hg=>by rw[hQ g hg];exact hF0 BYS) (λe=>by have e:(if v=0/\wt=1 then KS.l4 else .quit 1)=.work:=e;split at e<;>cases e) (λ_=>keep BYS)
    (MW λe he=>by simp at he;rcases he with rfl|rfl<;>simp[rd,wr]) BU (hM.add hm aCv rfl hwt)
 | @d4 S1 R1 _ g' _ Wg' Q e0 e1 e2=>
  rw[El.1]at e0;cases e0;have ed:Deaf t (n0+m)=1:=by rw[Xq,dI];rfl
  refine⟨g',w,_,{D (n0+m) with ρ:=f w none,st:=.l3,w:=w},e1,lt,bZ.refl _ _,?_,?_,e2.status,.inl λXb MQ=>⟨Xb,MQ⟩⟩
  .refine h.nU (κ:={D (n0+m) with ρ:=f w none,st:=.l3,w:=w}) EH hg e2 rfl (λhn=>absurd hn (by have:=hi.1;omega)) rfl (λ_ _ x=>x) (λ_ _ x=>.inl x) (aAB _) (λV _ _ _=>bZ.refl V w)
    (h.TT (κ:={D (n0+m) with ρ:=f w none,st:=.l3,w:=w}) EH hi.2 rfl rfl rfl (aAB _) (λe he=>?_) ?_) (by rw[dI];rfl) (λ_=>h.fin _ hi) h.qV
   .simp at he;subst he;exact .inr ⟨stA Wg,.inl rfl,hI.pb⟩
   .rw[ed];exact TU (λe he=>by simp at he;subst he;simp[rd]) Nat.one_pos
  .exact hI.put (κ:={D (n0+m) with ρ:=f w none,st:=.l3,w:=w}) hm rfl (λ_ g hg=>by rw[hQ g hg];exact hF0 BYS) (λe=>by cases e) (λ_=>keep BYS) (MW λe he=>by simp at he;subst he;simp[rd]) hw
    (hM.same hm (s:=.l3) (by rw[dI];rfl) (λe=>by rw[dI]at e;cases e) (λhq=>by obtain⟨d,hd⟩:=hq;rw[dI]at hd;cases hd) (λ_=>.inr rfl) (λhq=>by rw[dI]at hq;cases hq))
 | @d3 S1 R1 _ g' _ Wg' Q e0 e1 e2=>
  rw[El.1]at e0;cases e0;obtain⟨rfl,rfl,Xs⟩:=hM.d3 hm aCv;have ed:Deaf t (n0+m)=1:=by rw[Xq,dI];rfl
  have hA:∀V:PS,(∀b x,Pb b->¬V b x)->bZ V w (w.setCell (stA Wg) (.int .u64 0)):=λV hV=>HD λx=>hV Wg x hI.pb;have BU:=hw.setSt 0;refine⟨g',_,_,{D (n0+m) with ρ:=f w none,st:=.l2,w:=w.setCell (stA Wg) (.int .u64 0)},e1,lt,hA _ h.JK,?_,?_,e2.status,.inl λXb MQ=>⟨_,BU⟩⟩
  .refine h.nU (κ:={D (n0+m) with ρ:=f w none,st:=.l2,w:=w.setCell (stA Wg) (.int .u64 0)}) EH hg e2 rfl (λhn=>absurd hn (by have:=hi.1;omega)) rfl (λ_ _ x=>x) (λ_ _ x=>.inl x) (by rw[stA,cL];exact aAB _) (λV _ _ hV=>hA V hV)
    (h.TT (κ:={D (n0+m) with ρ:=f w none,st:=.l2,w:=w.setCell (stA Wg) (.int .u64 0)}) EH hi.2 rfl rfl rfl (by rw[stA,cL];exact aAB _) (λe he=>?_) ?_) (by rw[dI];rfl) (λ_=>hFk _ hA) (wL h.qV ⟨_,_,BU⟩)
   .simp at he;subst he;exact .inr ⟨stA Wg,.inr rfl,hI.pb⟩
   .rw[ed];exact TU (λe he=>by simp at he;subst he;simp[wr]) Nat.one_pos
  .exact hI.put (κ:={D (n0+m) with ρ:=f w none,st:=.l2,w:=w.setCell (stA Wg) (.int .u64 0)}) hm rfl (λ_ g hg=>by rw[hQ g hg];exact hF0 BYS) (λe=>by cases e) (λ_=>keep BYS) (MW λe he=>by simp at he;subst he;simp[wr]) BU Xs
 | @d2 S1 R1 _ g' _ Wg' Q e0 e1 e2 e3=>
  rw[El.1]at e0;cases e0;obtain⟨rfl,rfl,Xs⟩:=hM.d2 hm aCv;have ed:Deaf t (n0+m)=1:=by rw[Xq,dI];rfl
  have hA:∀V:PS,(∀b x,Pb b->¬V b x)->bZ V w (w.setCell (smA Wg) (.int .u32 1)):=λV hV=>HD λx=>hV Wg x hI.pb;have BU:=hw.setSm 1;refine⟨g',_,_,{D (n0+m) with ρ:=f w none,st:=.quit 1,w:=w.setCell (smA Wg) (.int .u32 1)},e2,lt,hA _ h.JK,?_,?_,e3.status,.inr e1⟩
  .refine h.nU (κ:={D (n0+m) with ρ:=f w none,st:=.quit 1,w:=w.setCell (smA Wg) (.int .u32 1)}) EH hg e3 rfl (λhn=>absurd hn (by have:=hi.1;omega)) rfl (λ_ _ x=>x) (λ_ _ x=>.inl x) (by rw[smA,cL];exact aAB _) (λV _ _ hV=>hA V hV)
    (h.TT (κ:={D (n0+m) with ρ:=f w none,st:=.quit 1,w:=w.setCell (smA Wg) (.int .u32 1)}) EH hi.2 rfl rfl rfl (by rw[smA,cL];exact aAB _) (λe he=>?_) ?_) (by rw[dI];rfl) (λ_=>hFk _ hA) (wL h.qV ⟨_,_,BU⟩)
   .simp[semEvents]at he;rcases he with rfl|rfl|rfl|rfl
    .exact .inl ⟨_,rfl,.inl rfl⟩
    .exact .inr ⟨smA Wg,.inl rfl,hI.pb⟩
    .exact .inr ⟨smA Wg,.inr rfl,hI.pb⟩
    .exact .inl ⟨_,rfl,.inr rfl⟩
   .rw[ed];intro j hj;have:j=0\/j=1\/j=2\/j=3:=by simp[semEvents]at hj;omega
    rcases this with rfl|rfl|rfl|rfl<;>simp[semEvents,deafBehind]
  .exact hI.put (κ:={D (n0+m) with ρ:=f w none,st:=.quit 1,w:=w.setCell (smA Wg) (.int .u32 1)}) hm rfl (λ_ g hg=>by rw[hQ g hg];exact hF0 BYS) (λe=>by cases e) (λ_=>keep BYS) (MW λe he=>by simp[semEvents]at he;rcases he with rfl|rfl|rfl|rfl<;>simp) BU Xs
 |send e0=>rw[El.1]at e0;cases e0
 |close e0=>rw[El.1]at e0;cases e0
end
end Rk.Cw
