/- Part of the proof of TopSorts. -/
import Derived.Below
import Derived.Test.YthdiheblgmddhaaGreatDoorQ01
set_option linter.all false
namespace Rk
open Go Go.RowKit
inductive Tr|fin|read(i:Nat)(t:Tr)|act(i:Nat)(t:Tr)|fork(i:Nat)(t:Tr)(j:Nat)(u:Tr)|QN(i:Nat)(t:Tr)(j:Nat)(u:Tr)(k:Nat)(v:Tr)
def Tr.depth:Tr->Nat
 | .fin=>0
 | .read _ t=>t.depth+1
 | .act _ t=>t.depth+1
 | .fork _ t _ _=>t.depth+1
 | .QN _ t _ _ _ _=>t.depth+1
def AR(md:Region.Mode)(ops:Array Oper):Tr->Array Bool->Bool
 | .fin,L=>(Region.ready md ops L).isEmpty
 | .read i t,L=>Region.free md ops L i&&(Region.ready md ops L).contains i&&AR md ops t (L.setIfInBounds i true)
 | .act i t,L=>(Region.ready md ops L==[i])&&AR md ops t (L.setIfInBounds i true)
 | .fork i t j u,L=>(Region.ready md ops L==[i,j])&&(t.depth==u.depth)&&AR md ops t (L.setIfInBounds i true)&&AR md ops u (L.setIfInBounds j true)
 | .QN i t j u k v,L=>(Region.ready md ops L==[i,j,k])&&(t.depth==u.depth)&&(t.depth==v.depth)&&AR md ops t (L.setIfInBounds i true)&&AR md ops u (L.setIfInBounds j true)&&AR md ops v (L.setIfInBounds k true)
def UE(P:Program)(ops:Array Oper)(H:World->Prop)(Q:Exit->Act->World->Prop):Tr->Act->World->Prop
 | .fin,a,w=>Q .normal a w
 | .read i t,a,w=>∃o v,ops[i]?=some o/\YieldsIf P ops H o v a/\UE P ops H Q t (a.put o.dst v) w
 | .act i t,a,w=>wpOp P ops Q i (λa w=>H w/\UE P ops H Q t a w) a w
 | .fork i t j u,a,w=>wpOp P ops Q i (λa w=>H w/\UE P ops H Q t a w) a w/\wpOp P ops Q j (λa w=>H w/\UE P ops H Q u a w) a w
 | .QN i t j u k v,a,w=>wpOp P ops Q i (λa w=>H w/\UE P ops H Q t a w) a w/\wpOp P ops Q j (λa w=>H w/\UE P ops H Q u a w) a w/\wpOp P ops Q k (λa w=>H w/\UE P ops H Q v a w) a w
section
variable{P:Program}{ops:Array Oper}{Q:Exit->Act->World->Prop}{md:Region.Mode}{H:World->Prop}
def UF(hs:Region.noSelect ops=true)(hQ:∀c a b w,Q (.panic c) a w->Q (.panic c) b w):∀(t:Tr) (L:Array Bool) (a:Act) (w:World),AR md ops t L=true->H w->
  UE P ops H Q t a w->wpAnyS P md ops Q [] H t.depth L a w:=by
 intro t;induction t with
 |fin=>
  intro L a w bY _ h;simp only[AR,aH6]at bY;exact⟨bY,h⟩
 |read i t ih=>
  intro L a w bY hH h;simp only[AR,aBg]at bY;obtain⟨o,v,ho,hy,hr⟩:=h;exact vJ ho (Region.noSelect_spec hs) (λc a w h=>hQ c _ _ w h) BYS (λx hx=>by simp at hx) _ L a w (Region.free_spec ho bY.1.1) (by simpa using bY.1.2) hy
   (λ⟨x,hx,_⟩=>by simp at hx) hH (ih _ _ w bY.2 hH hr)
 |act i t ih=>
  intro L a w bY hH h;simp only[AR,aBg,beq_iff_eq]at bY;refine⟨λh0=>absurd (bY.1.symm.trans h0) BYS,λj hj=>?_⟩;rw[bY.1]at hj;obtain rfl:=aCj.1 hj;exact wpOp_mono (λa' w' h3=>⟨.inr h3.1,ih _ a' w' bY.2 h3.1 h3.2⟩) h
 |fork i t j u iht ihu=>
  intro L a w bY hH h;simp only[AR,aBg,beq_iff_eq]at bY;refine⟨λh0=>absurd (bY.1.1.1.symm.trans h0) BYS,λk hk=>?_⟩;rw[bY.1.1.1]at hk;simp only[aBI,aDU,or_false]at hk;rcases hk with rfl|rfl
  .exact wpOp_mono (λa' w' h3=>⟨.inr h3.1,iht _ a' w' bY.1.2 h3.1 h3.2⟩) h.1
  .exact wpOp_mono (λa' w' h3=>⟨.inr h3.1,by have:=ihu _ a' w' bY.2 h3.1 h3.2;rw[<-bY.1.1.2]at this;exact this⟩) h.2
 |QN i t j u k v iht ihu ihv=>
  intro L a w bY hH h;simp only[AR,aBg,beq_iff_eq]at bY;refine⟨λh0=>absurd (bY.1.1.1.1.1.symm.trans h0) BYS,λk hk=>?_⟩;rw[bY.1.1.1.1.1]at hk;simp only[aBI,aDU,or_false]at hk;rcases hk with rfl|rfl|rfl
  .exact wpOp_mono (λa' w' h3=>⟨.inr h3.1,iht _ a' w' bY.1.1.2 h3.1 h3.2⟩) h.1
  .exact wpOp_mono (λa' w' h3=>⟨.inr h3.1,by have:=ihu _ a' w' bY.1.2 h3.1 h3.2;rw[<-bY.1.1.1.1.2]at this;exact this⟩) h.2.1
  .exact wpOp_mono (λa' w' h3=>⟨.inr h3.1,by have:=ihv _ a' w' bY.2 h3.1 h3.2;rw[<-bY.1.1.1.2]at this;exact this⟩) h.2.2
end
def TL(P:Program)(ops:Array Oper)(H:World->Prop)(K:Env->World->Prop)(N:Nat)(E:Env)(t:Tr)(w:World):Prop:=∀a,Ag a N E->UE P ops H (Fin K N) t a w
section
variable{P:Program}{l:List Oper}{K:Env->World->Prop}{H:World->Prop}{N:Nat}{E:Env}{w:World}{t u s:Tr}{i j k:Nat}{o o1 o2:Oper}
def TL.fin(h:K E w):TL P l.toArray H K N E .fin w:=λ_ ha=>⟨rfl,E,ha,h⟩
def TL.read(lJ:pC l i=some o)(h:RL P l.toArray H (λE'=>TL P l.toArray H K N E' t w) N E o):TL P l.toArray H K N E (.read i t) w:=by
 have ho:=pD lJ;intro a ha;obtain⟨v,hy,E',uL,hr⟩:=h a ha;exact⟨o,v,ho,hy,hr _ uL⟩
def jZ{F:Act->World->Prop}{K':Env->World->Prop}(lJ:pC l i=some o)(hF:∀E' a' w',Ag a' N E'->K' E' w'->F a' w')(h:WL P l.toArray K' N E [o] w):∀a,Ag a N E->wpOp P l.toArray (Fin K N) i F a w:=by
 have ho:=pD lJ;intro a ha;have h1:=h a ha;simp only[wpOp,ho];unfold wpList at h1;have conv:∀a' w',wpList P l.toArray (Fin K' N) [] a' w'->F a' w':=by
  rintro a' w' ⟨_,E',uL,hr⟩;exact hF _ _ _ uL hr
 split
 .rename_i hw;rw[if_pos hw]at h1;rcases h1 with h1|⟨_,a1,w1,h1,_⟩
  .left;have h2:=Oper.wp_mono conv h1
   unfold Oper.wp at h2⊢;generalize (execOp a.eval o).run P w=res at*;cases res with
   |ok n w'=>
    cases n<;>simp only[Oper.upon]at h2⊢<;>first
     |exact h2
     |exact h2.mono λe j0 he=>by
       cases e with
       |returned v=>exact he
       |panicked ch=>exact absurd he.1 BYS
       |outgrown=>obtain⟨a1,w1,h,_⟩:=he;cases h
   |halt x w'=>
    cases x<;>simp only[Oper.upon]at h2⊢<;>first
     |exact h2
     |exact absurd h2.1 BYS
  .cases h1
 .rename_i hw;rw[if_neg hw]at h1;exact conv _ _ h1
def TL.act(ho:pC l i=some o)(h:WL P l.toArray (λE' w'=>H w'/\TL P l.toArray H K N E' t w') N E [o] w):TL P l.toArray H K N E (.act i t) w:=
 jZ ho (λ_ _ _ ha h=>⟨h.1,h.2 _ ha⟩) h
def TL.QN(ho:pC l i=some o)(Xp:pC l j=some o1)(kT:pC l k=some o2)(h:WL P l.toArray (λE' w'=>H w'/\TL P l.toArray H K N E' t w') N E [o] w)
  (h1:WL P l.toArray (λE' w'=>H w'/\TL P l.toArray H K N E' u w') N E [o1] w)(h2:WL P l.toArray (λE' w'=>H w'/\TL P l.toArray H K N E' s w') N E [o2] w):TL P l.toArray H K N E (.QN i t j u k s) w:=
 λa ha=>⟨jZ ho (λ_ _ _ ha h=>⟨h.1,h.2 _ ha⟩) h a ha,jZ Xp (λ_ _ _ ha h=>⟨h.1,h.2 _ ha⟩) h1 a ha,jZ kT (λ_ _ _ ha h=>⟨h.1,h.2 _ ha⟩) h2 a ha⟩
def aRT(h:RL P l.toArray H (λE'=>TL P l.toArray H K N E' t w) N E o)(lJ:pC l i=some o:=by with_unfolding_all exact rfl):TL P l.toArray H K N E (.read i t) w:=TL.read lJ h
def aPS{id:Nat}{l:List Oper}{Q:Exit->Act->World->Prop}(H:World->Prop)(t:Tr)(hm:P.follows .mixedOrders=true)(hs:Region.noSelect l.toArray=true)(hlen:t.depth=l.toArray.size)
  (bY:AR .any l.toArray t (Array.replicate l.toArray.size false)=true)(hH:∀w',Below w.heap.size w w'->w'.heap=w.heap->H w')
  (h:∀K:Env->World->Prop,(∀E w,WX Q .normal N E w->K E w)->∀w',Below w.heap.size w w'->w'.heap=w.heap->TL P l.toArray H K N E t w'):WC P Q N E (.region id l.toArray true) w:=by
 intro a ha;have hB:Below w.heap.size w {w with drawn:=w.drawn+1}:=⟨rfl,rfl,rfl,aAB _,λ_ _=>rfl⟩;have h1:=h (λE w=>WX Q .normal N E w) (λ_ _ h=>h) {w with drawn:=w.drawn+1} hB rfl a ha;have h2:=UF (H:=H) (Q:=Fin (λE w=>WX Q .normal N E w) N) hs (λc a b w h=>absurd h.1 BYS) t _ a {w with drawn:=w.drawn+1} bY (hH _ hB rfl) h1;rw[hlen]at h2;refine wp_mono (wp_region_any (id:=id) (Q:=Fin (λE w=>WX Q .normal N E w) N) hm (sQ _ _ _ _ h2)) ?_;rintro e a' w' ⟨rfl,E',uL,hK⟩;exact hK a' uL
end
variable{E E':Env}{σ σ1 σ2 σ3 σ4 σ5 α:Type}{n:Nat}
section
variable{P:Program}{w:World}{t:TypeId}{x y:Operand}{xt yt:TypeId}{a b:Int}{k kb kc:IntKind}
def aA.conv(hs:∃k',P.underlying xt=some (.int k'))(ht:P.underlying yt=some (.int kc))(hx:aM E x=some (.int k a))(hw:kc.wrap a=a):aA P (.convert xt yt x) t E w (.int kc a) w:=λρ hρ _ _ _ _=>by
 obtain⟨k',hs⟩:=hs;simp[execOp,hρ _ _ hx,convert,run_underlying hs,run_underlying ht,Conv.intToInt,go_sem,hw]
def aA.shr(hx:aM E x=some (.int k a))(hy:aM E y=some (.int kb b))(h0:0<=b)(h1:b<=k.bits):aA P (.binOp .shr xt x y yt) t E w (.int k (a/2 ^ b.toNat)) w:=λρ hρ _ _ _ _=>by
 simp[execOp,hρ _ _ hx,hρ _ _ hy,go_sem,eqGuard,shift_shr k kb a b h0 h1]
end
inductive Sub(E:Env):Env->Prop
 |nil:Sub E []
 |cons {k:Nat} {v:Value} {r:Env} (h:look E k=some v) (hs:Sub E r):Sub E ((k,v)::r)
def aSV{k:Nat}{kd:IntKind}{a b:Int}{r:Env}(h:look E k=some (.int kd a))(e:a=b)(hs:Sub E r):Sub E ((k,.int kd b)::r):=.cons (e▸h) hs
def aJA(h:Sub E E':=by repeat' first|exact Sub.nil|refine Sub.cons (by with_unfolding_all exact rfl) ?_|refine aSV (by with_unfolding_all exact rfl) (by omega) ?_):Sub E E':=h
def Sub.ag{a:Act}{N:Nat}(h:Sub E E')(ha:Ag a N E):Ag a N E':=by
 induction h with
 |nil=>exact ha.nil
 |cons h _ ih=>exact ih.keep ha h
section
variable{P:Program}{Q:Exit->Act->World->Prop}{N:Nat}{w:World}{x y c:Code}
def K6(N:Nat)(env:σ->Env)(Inv:σ->Nat->World->Prop)(m:Nat)(a:Act)(w:World):Prop:=∃s,Inv s m w/\Ag a N (env s)
def aMP(env:σ->Env)(Inv:σ->Nat->World->Prop)(n:Nat)(s:σ)(h0:Inv s n w)(hs:Sub E (env s))
  (round:∀s n w,Inv s n w->WC P (Exit.then (tP (K6 N env Inv) n) Q) N (env s) c w):WC P Q N E (.loop c) w:=
 WC.loop (K6 N env Inv) n (λ_ ha=>⟨s,h0,hs.ag ha⟩) (λn a w ⟨s,hi,ha⟩=>round s n w hi a ha)
def aMF{env:σ->Env}{Inv:σ->Nat->World->Prop}(s:σ)(m:Nat)(hm:m<n)(hi:Inv s m w)(hs:Sub E (env s)):
  WX (Exit.then (tP (K6 N env Inv) n) Q) .normal N E w:=WX.again hm λ_ ha=>⟨s,hi,hs.ag ha⟩
def Ot(N:Nat)(env:σ->Env)(Inv:σ->World->Prop)(a:Act)(w:World):Prop:=∃s,Inv s w/\Ag a N (env s)
def aTS(env:σ->Env)(Inv:σ->World->Prop)(h1:WC P (Exit.then (Ot N env Inv) Q) N E x w)(h2:∀s w,Inv s w->WC P Q N (env s) y w):WC P Q N E (.seq x y) w:=
 aRM (Ot N env Inv) h1 λa w ⟨s,hi,ha⟩=>h2 s w hi a ha
def aMV{env:σ->Env}{Inv:σ->World->Prop}(s:σ)(hi:Inv s w)(hs:Sub E (env s)):WX (Exit.then (Ot N env Inv) Q) .normal N E w:=
 aOE λ_ ha=>⟨s,hi,hs.ag ha⟩
def Ik(N:Nat)(env:σ1->σ2->Env)(Inv:σ1->σ2->Nat->World->Prop)(m:Nat)(a:Act)(w:World):Prop:=∃a1 a2,Inv a1 a2 m w/\Ag a N (env a1 a2)
def aMK(env:σ1->σ2->Env)(Inv:σ1->σ2->Nat->World->Prop)(n:Nat)(a1:σ1)(a2:σ2)(h0:Inv a1 a2 n w)(hs:Sub E (env a1 a2))
  (round:∀a1 a2 n w,Inv a1 a2 n w->WC P (Exit.then (tP (Ik N env Inv) n) Q) N (env a1 a2) c w):WC P Q N E (.loop c) w:=
 WC.loop (Ik N env Inv) n (λ_ ha=>⟨a1,a2,h0,hs.ag ha⟩) (λn a w ⟨a1,a2,hi,ha⟩=>round a1 a2 n w hi a ha)
def aLm{env:σ1->σ2->Env}{Inv:σ1->σ2->Nat->World->Prop}(a1:σ1)(a2:σ2)(m:Nat)(hm:m<n)(hi:Inv a1 a2 m w)(hs:Sub E (env a1 a2)):
  WX (Exit.then (tP (Ik N env Inv) n) Q) .normal N E w:=WX.again hm λ_ ha=>⟨a1,a2,hi,hs.ag ha⟩
def K7(N:Nat)(env:σ1->σ2->Env)(Inv:σ1->σ2->World->Prop)(a:Act)(w:World):Prop:=∃a1 a2,Inv a1 a2 w/\Ag a N (env a1 a2)
def aOn{env:σ1->σ2->Env}{Inv:σ1->σ2->World->Prop}(a1:σ1)(a2:σ2)(hi:Inv a1 a2 w)(hs:Sub E (env a1 a2)):WX (Exit.then (K7 N env Inv) Q) .normal N E w:=
 aOE λ_ ha=>⟨a1,a2,hi,hs.ag ha⟩
def Il(N:Nat)(env:σ1->σ2->σ3->Env)(Inv:σ1->σ2->σ3->Nat->World->Prop)(m:Nat)(a:Act)(w:World):Prop:=∃a1 a2 a3,Inv a1 a2 a3 m w/\Ag a N (env a1 a2 a3)
def aPT(env:σ1->σ2->σ3->Env)(Inv:σ1->σ2->σ3->Nat->World->Prop)(n:Nat)(a1:σ1)(a2:σ2)(a3:σ3)(h0:Inv a1 a2 a3 n w)(hs:Sub E (env a1 a2 a3))
  (round:∀a1 a2 a3 n w,Inv a1 a2 a3 n w->WC P (Exit.then (tP (Il N env Inv) n) Q) N (env a1 a2 a3) c w):WC P Q N E (.loop c) w:=
 WC.loop (Il N env Inv) n (λ_ ha=>⟨a1,a2,a3,h0,hs.ag ha⟩) (λn a w ⟨a1,a2,a3,hi,ha⟩=>round a1 a2 a3 n w hi a ha)
def aMq{env:σ1->σ2->σ3->Env}{Inv:σ1->σ2->σ3->Nat->World->Prop}(a1:σ1)(a2:σ2)(a3:σ3)(m:Nat)(hm:m<n)(hi:Inv a1 a2 a3 m w)(hs:Sub E (env a1 a2 a3)):
  WX (Exit.then (tP (Il N env Inv) n) Q) .normal N E w:=WX.again hm λ_ ha=>⟨a1,a2,a3,hi,hs.ag ha⟩
def K8(N:Nat)(env:σ1->σ2->σ3->Env)(Inv:σ1->σ2->σ3->World->Prop)(a:Act)(w:World):Prop:=∃a1 a2 a3,Inv a1 a2 a3 w/\Ag a N (env a1 a2 a3)
def aQr{env:σ1->σ2->σ3->Env}{Inv:σ1->σ2->σ3->World->Prop}(a1:σ1)(a2:σ2)(a3:σ3)(hi:Inv a1 a2 a3 w)(hs:Sub E (env a1 a2 a3)):WX (Exit.then (K8 N env Inv) Q) .normal N E w:=
 aOE λ_ ha=>⟨a1,a2,a3,hi,hs.ag ha⟩
def Im(N:Nat)(env:σ1->σ2->σ3->σ4->Env)(Inv:σ1->σ2->σ3->σ4->Nat->World->Prop)(m:Nat)(a:Act)(w:World):Prop:=∃a1 a2 a3 a4,Inv a1 a2 a3 a4 m w/\Ag a N (env a1 a2 a3 a4)
def aPU(env:σ1->σ2->σ3->σ4->Env)(Inv:σ1->σ2->σ3->σ4->Nat->World->Prop)(n:Nat)(a1:σ1)(a2:σ2)(a3:σ3)(a4:σ4)(h0:Inv a1 a2 a3 a4 n w)(hs:Sub E (env a1 a2 a3 a4))
  (round:∀a1 a2 a3 a4 n w,Inv a1 a2 a3 a4 n w->WC P (Exit.then (tP (Im N env Inv) n) Q) N (env a1 a2 a3 a4) c w):WC P Q N E (.loop c) w:=
 WC.loop (Im N env Inv) n (λ_ ha=>⟨a1,a2,a3,a4,h0,hs.ag ha⟩) (λn a w ⟨a1,a2,a3,a4,hi,ha⟩=>round a1 a2 a3 a4 n w hi a ha)
def aMz{env:σ1->σ2->σ3->σ4->Env}{Inv:σ1->σ2->σ3->σ4->Nat->World->Prop}(a1:σ1)(a2:σ2)(a3:σ3)(a4:σ4)(m:Nat)(hm:m<n)(hi:Inv a1 a2 a3 a4 m w)(hs:Sub E (env a1 a2 a3 a4)):
  WX (Exit.then (tP (Im N env Inv) n) Q) .normal N E w:=WX.again hm λ_ ha=>⟨a1,a2,a3,a4,hi,hs.ag ha⟩
def L0(N:Nat)(env:σ1->σ2->σ3->σ4->Env)(Inv:σ1->σ2->σ3->σ4->World->Prop)(a:Act)(w:World):Prop:=∃a1 a2 a3 a4,Inv a1 a2 a3 a4 w/\Ag a N (env a1 a2 a3 a4)
def aPV{env:σ1->σ2->σ3->σ4->Env}{Inv:σ1->σ2->σ3->σ4->World->Prop}(a1:σ1)(a2:σ2)(a3:σ3)(a4:σ4)(hi:Inv a1 a2 a3 a4 w)(hs:Sub E (env a1 a2 a3 a4)):WX (Exit.then (L0 N env Inv) Q) .normal N E w:=
 aOE λ_ ha=>⟨a1,a2,a3,a4,hi,hs.ag ha⟩
def Io(N:Nat)(env:σ1->σ2->σ3->σ4->σ5->Env)(Inv:σ1->σ2->σ3->σ4->σ5->Nat->World->Prop)(m:Nat)(a:Act)(w:World):Prop:=∃a1 a2 a3 a4 a5,Inv a1 a2 a3 a4 a5 m w/\Ag a N (env a1 a2 a3 a4 a5)
def aPw(env:σ1->σ2->σ3->σ4->σ5->Env)(Inv:σ1->σ2->σ3->σ4->σ5->Nat->World->Prop)(n:Nat)(a1:σ1)(a2:σ2)(a3:σ3)(a4:σ4)(a5:σ5)(h0:Inv a1 a2 a3 a4 a5 n w)(hs:Sub E (env a1 a2 a3 a4 a5))
  (round:∀a1 a2 a3 a4 a5 n w,Inv a1 a2 a3 a4 a5 n w->WC P (Exit.then (tP (Io N env Inv) n) Q) N (env a1 a2 a3 a4 a5) c w):WC P Q N E (.loop c) w:=
 WC.loop (Io N env Inv) n (λ_ ha=>⟨a1,a2,a3,a4,a5,h0,hs.ag ha⟩) (λn a w ⟨a1,a2,a3,a4,a5,hi,ha⟩=>round a1 a2 a3 a4 a5 n w hi a ha)
def aN6{env:σ1->σ2->σ3->σ4->σ5->Env}{Inv:σ1->σ2->σ3->σ4->σ5->Nat->World->Prop}(a1:σ1)(a2:σ2)(a3:σ3)(a4:σ4)(a5:σ5)(m:Nat)(hm:m<n)(hi:Inv a1 a2 a3 a4 a5 m w)(hs:Sub E (env a1 a2 a3 a4 a5)):
  WX (Exit.then (tP (Io N env Inv) n) Q) .normal N E w:=WX.again hm λ_ ha=>⟨a1,a2,a3,a4,a5,hi,hs.ag ha⟩
def L1(N:Nat)(env:σ1->σ2->σ3->σ4->σ5->Env)(Inv:σ1->σ2->σ3->σ4->σ5->World->Prop)(a:Act)(w:World):Prop:=∃a1 a2 a3 a4 a5,Inv a1 a2 a3 a4 a5 w/\Ag a N (env a1 a2 a3 a4 a5)
def aPW{env:σ1->σ2->σ3->σ4->σ5->Env}{Inv:σ1->σ2->σ3->σ4->σ5->World->Prop}(a1:σ1)(a2:σ2)(a3:σ3)(a4:σ4)(a5:σ5)(hi:Inv a1 a2 a3 a4 a5 w)(hs:Sub E (env a1 a2 a3 a4 a5)):WX (Exit.then (L1 N env Inv) Q) .normal N E w:=
 aOE λ_ ha=>⟨a1,a2,a3,a4,a5,hi,hs.ag ha⟩
def aOB{K K':Act->World->Prop}{Q:Exit->Act->World->Prop}(h1:WC P (Exit.then K' Q) N E c w)(h2:∀a w,K' a w->K a w):WC P (Exit.then K Q) N E c w:=
 λa ha=>wp_mono (h1 a ha) λe a' w' hq=>by cases e<;>first|exact h2 _ _ hq|exact hq
def aOF{Q2:Exit->Act->World->Prop}(env:σ->Env)(Inv:σ->World->Prop)(h1:WC P (Exit.then (Ot N env Inv) Q) N E c w)(h2:∀s w,Inv s w->WC P Q2 N (env s) y w):WC P (Exit.then (λa w=>y.wp P Q2 a w) Q) N E c w:=
 aOB h1 λa w ⟨s,hi,ha⟩=>h2 s w hi a ha
def aOm{Q2:Exit->Act->World->Prop}(env:Env)(Inv:World->Prop)(h1:WC P (Exit.then (λa w=>Inv w/\Ag a N env) Q) N E c w)(h2:∀w,Inv w->WC P Q2 N env y w):WC P (Exit.then (λa w=>y.wp P Q2 a w) Q) N E c w:=
 aOB h1 λa w ⟨hi,ha⟩=>h2 w hi a ha
def aNf{env:Env}{Inv:World->Prop}(hi:Inv w)(hs:Sub E env):WX (Exit.then (λa w=>Inv w/\Ag a N env) Q) .normal N E w:=
 aOE λ_ ha=>⟨hi,hs.ag ha⟩
def aPx{Q2:Exit->Act->World->Prop}(env:σ1->σ2->Env)(Inv:σ1->σ2->World->Prop)(h1:WC P (Exit.then (K7 N env Inv) Q) N E c w)(h2:∀a1 a2 w,Inv a1 a2 w->WC P Q2 N (env a1 a2) y w):WC P (Exit.then (λa w=>y.wp P Q2 a w) Q) N E c w:=
 aOB h1 λa w ⟨a1,a2,hi,ha⟩=>h2 a1 a2 w hi a ha
def aSY{Q2:Exit->Act->World->Prop}(env:σ1->σ2->σ3->Env)(Inv:σ1->σ2->σ3->World->Prop)(h1:WC P (Exit.then (K8 N env Inv) Q) N E c w)(h2:∀a1 a2 a3 w,Inv a1 a2 a3 w->WC P Q2 N (env a1 a2 a3) y w):WC P (Exit.then (λa w=>y.wp P Q2 a w) Q) N E c w:=
 aOB h1 λa w ⟨a1,a2,a3,hi,ha⟩=>h2 a1 a2 a3 w hi a ha
def aSZ{Q2:Exit->Act->World->Prop}(env:σ1->σ2->σ3->σ4->Env)(Inv:σ1->σ2->σ3->σ4->World->Prop)(h1:WC P (Exit.then (L0 N env Inv) Q) N E c w)(h2:∀a1 a2 a3 a4 w,Inv a1 a2 a3 a4 w->WC P Q2 N (env a1 a2 a3 a4) y w):WC P (Exit.then (λa w=>y.wp P Q2 a w) Q) N E c w:=
 aOB h1 λa w ⟨a1,a2,a3,a4,hi,ha⟩=>h2 a1 a2 a3 a4 w hi a ha
def aQC{Q2:Exit->Act->World->Prop}(env:σ1->σ2->σ3->σ4->σ5->Env)(Inv:σ1->σ2->σ3->σ4->σ5->World->Prop)(h1:WC P (Exit.then (L1 N env Inv) Q) N E c w)(h2:∀a1 a2 a3 a4 a5 w,Inv a1 a2 a3 a4 a5 w->WC P Q2 N (env a1 a2 a3 a4 a5) y w):WC P (Exit.then (λa w=>y.wp P Q2 a w) Q) N E c w:=
 aOB h1 λa w ⟨a1,a2,a3,a4,a5,hi,ha⟩=>h2 a1 a2 a3 a4 a5 w hi a ha
section
variable{z:Code}{id:Nat}{l:Array Oper}{b:Bool}
def aQK(h:WC P (Exit.then (λa w=>(Code.seq y z).wp P Q a w) Q) N E x w):WC P Q N E (.seq x (.seq y z)) w:=WC.seq h
def aQM(h:WC P (Exit.then (λa w=>(Code.block id y).wp P Q a w) Q) N E x w):WC P Q N E (.seq x (.block id y)) w:=WC.seq h
end
def aJ6{s:Nat}{p:Prop}[Decidable p](hb:look E s=some (.bool (decide p)))(h1:p->WC P Q N ((s,.bool true)::E) x w)(h2:¬p->WC P Q N ((s,.bool false)::E) y w):WC P Q N E (.cond (.tmp s) x y) w:=
 WC.cond hb (λh=>h1 (of_decide_eq_true h)) (λh=>h2 (of_decide_eq_false h))
def aPf{s:Nat}{p:Prop}[Decidable p](hb:look E s=some (.bool (!decide p)))(h1:¬p->WC P Q N ((s,.bool true)::E) x w)(h2:p->WC P Q N ((s,.bool false)::E) y w):WC P Q N E (.cond (.tmp s) x y) w:=
 WC.cond hb (λh=>h1 (by simpa using h)) (λh=>h2 (by simpa using h))
def aP4{s:Nat}{b:Bool}(hb:look E s=some (.bool b))(e:b=true)(h1:WC P Q N E x w):WC P Q N E (.cond (.tmp s) x y) w:=aLO (e▸hb) h1
def aOU{s:Nat}{b:Bool}(hb:look E s=some (.bool b))(e:b=false)(h1:WC P Q N E y w):WC P Q N E (.cond (.tmp s) x y) w:=aJh (e▸hb) h1
def aPX{fn:Func}{S:Value->World->Prop}{s1 s2 s3:Nat}{v1 v2 v3:Value}(hr:fn.results= #[.tmp s1,.tmp s2,.tmp s3])(h1:look E s1=some v1)(h2:look E s2=some v2)(h3:look E s3=some v3)(h:S (.tuple #[v1,v2,v3]) w):WX (bodyPost P fn (eT S)) .ret N E w:=by
 intro a ha;have e:(results fn a.tmps).run P w=.ok (.tuple #[v1,v2,v3]) w:=by simp[results,hr,ha.at_ _ _ h1,ha.at_ _ _ h2,ha.at_ _ _ h3]
 exact bodyPost_ret e ha.defers h
end
def aE.ne{enc:α->List Value}{k:Nat}{w:World}{A:Option Addr}{f:Nat->α}(h:aE enc k w A n f)(hn:0<n):∃b o,A=some ⟨b,o,none⟩/\b<w.heap.size:=by
 obtain⟨b,o,h1,h2,_⟩:=h hn;exact⟨b,o,h1,h2⟩
section
variable{enc:α->List Value}{k:Nat}{w:World}{b o i:Nat}{f:Nat->α}
def aE.get(h:aE enc k w (some ⟨b,o,none⟩) n f)(hi:i<n):∀j u,(enc (f i))[j]?=some u->w.cell? ⟨b,o+i*k+j,none⟩=some u:=by
 obtain⟨b',o',h1,_,h3⟩:=h BYO;injection h1 with h1;injection h1 with h1 h2;subst h1 h2;exact h3 i hi
end
section
variable{P:Program}{ops:Array Oper}{K:Env->World->Prop}{C:World->Prop}{R:Env->Prop}{N:Nat}{rest:List Oper}{w w':World}{op:Op}{t:TypeId}{pos:String}{after:Array Edge}{d:Nat}
 {x y i:Operand}{v z:Value}{e:TypeId}{sz bytes:Nat}{p:Addr}
def aXI(hx:aM E x=some (.pointer (some p)))(ty:Ty P e false sz bytes z)(hd:Nat.blt d N=true)(hc:w.cell? p=some v)(h:WL P ops K N ((d,v)::E) rest w):
  WL P ops K N E (⟨some d,.load e x,t,pos,after,none⟩::rest) w:=WL.step (aJC ty hx hc) hd h
def aXJ{enc:α->List Value}{k b o i:Nat}{f:Nat->α}(hx:aM E x=some (.pointer (some ⟨b,o+i*k,none⟩)))(ty:Ty P e true k bytes z)(hd:Nat.blt d N=true)(hk:∀x,(enc x).length=k)
  (hr:aE enc k w (some ⟨b,o,none⟩) n f)(hi:i<n)(h:WL P ops K N ((d,.agg (enc (f i)).toArray)::E) rest w):
  WL P ops K N E (⟨some d,.load e x,t,pos,after,none⟩::rest) w:=WL.step (aL5 (cs:=enc (f i)) ty hx (hk _) (hr.get hi)) hd h
def aRU{H:World->Prop}{l:List Oper}{r:List (Nat×Nat)}{o:Oper}{j:Nat}(h:RL P l.toArray H (λE'=>OL P l.toArray H K N E' r w) N E o)(hH:H w:=by first|assumption|rfl)(lJ:pC l j=some o:=by with_unfolding_all exact rfl):
  OL P l.toArray H K N E ((j,1)::r) w:=OL.read hH lJ h
def aLh{Q:Exit->Act->World->Prop}{id:Nat}{l:List Oper}(hm:P.follows .mixedOrders=true)(hB:Region.lexB .any l.toArray=true)
  (h:QL P l.toArray (λw'=>Below w.heap.size w w') (λE=>∀w',Below w.heap.size w w'->WX Q .normal N E w') N E l):WC P Q N E (.region id l.toArray true) w:=
 WC.quiet hm hB λK hK=>by
  intro a ha;exact xU l a (h a ha) (λa' ⟨E',uL,hh⟩=>⟨E',uL,hK E' hh⟩)
def QL.done{C':World->Prop}{R':Env->Prop}(h:R' E):QL P ops C' R' N E []:=QL.nil h
end
def lO{P:Program}{f:FuncId}{args:Array Value}{w w0:World}{u:Value}(hc:Calls P f args w (eT λv w'=>v=u/\Below w.heap.size w w'))(hb:Below w0.heap.size w0 w):
  Calls P f args w (eT λv w'=>v=u/\Below w0.heap.size w0 w'):=hc.mono λe w1 he=>by
 cases e with
 |returned v=>exact⟨he.1,hb.tr he.2⟩
 |panicked ch=>exact he
 |outgrown=>exact he
structure Sep(w:World)(v u:Value):Prop where
 left:∀g,v.ownBlock=some g->g<w.heap.size
 right:∀g,u.ownBlock=some g->g<w.heap.size
 apart:∀g,v.ownBlock=some g->u.ownBlock≠some g
def bT.rO{α:Type}{enc:α->List Value}{k:Nat}{e:TypeId}{w:World}{B:Nat}{v:Value}{l:List α}(h:bT enc k e w B v l)(hl:l≠[]):∀g,v.ownBlock=some g->g<w.heap.size/\B<=g:=by
 intro g hg;have:=Own.blk h g hg (λh0=>hl (aCQ h0));exact⟨this.2,this.1⟩
section
variable{P:Program}{ops:Array Oper}{K:Env->World->Prop}{N d d2:Nat}{w:World}{rest:List Oper}{st e:TypeId}{agg:Bool}{k bytes:Nat}{z v av:Value}{t t2:TypeId}{pos dz:String}{after MV:Array Edge}{x s:Operand}
 {α:Type}{enc:α->List Value}{l:List α}{B:Nat}{a:α}
def WL.push(hk:∀x,(enc x).length=k)(h1:∀x,∀u∈enc x,u.oneCell'=true)(OW:0<k)(ht:P.underlying st=some (.slice e))(ty:Ty P e agg k bytes z)(hd:Nat.blt d N=true)(hd2:Nat.blt d2 N=true)
  (hx:aM E x=some av)(hav:av.cells.toList=enc a)(hs:∀q,aM ((d,q)::E) s=some v)(ho:bT enc k e w B v l)(hb:(l.length+1)*bytes<=140737488355328)(hlen:l.length+1<=1000000)(aSS:k<=16)(hB:B<=w.heap.size)
  (h:∀v' w' row q,bT enc k e w' B v' (l++[a])->w.grownBy w' row->(row=none\/row=v.ownBlock)->(∀g,row=some g->B<=g)->(∀g,v'.ownBlock=some g->g<w'.heap.size)->(∀u,Sep w v u->Sep w' v' u)->w.heap.size<w'.heap.size->
   WL P ops K N ((d2,v')::(d,q)::E) rest w'):
  WL P ops K N E (⟨some d,.buildSlice st 1 #[(0,x)],t,pos,after,none⟩::⟨some d2,.call {callee:=.builtin .append,args:= #[s,.tmp d],argTypes:= #[st,st]},t2,dz,MV,none⟩::rest) w:=by
 have hac:av.cells.size=k:=by have:=congrArg List.length hav;rw[hk]at this;simpa using this
 refine WL.lit (xs:=[x]) (vs:=[av]) ht ty hd (by simp[evs,hx]) (by simp[hac]) rfl rfl BYO λw1 fQ dM mP=>?_;have EJ:aE enc k w1 (some ⟨w.heap.size,0,none⟩) 1 (λ_=>a):=dM.bK (enc:=enc) (k:=k) (f:=λ_=>a) 0 λi hi j u hu=>by
  obtain rfl:i=0:=BYO;simpa[hav] using hu
 refine WL.append (A:=some ⟨w.heap.size,0,none⟩) (m:=1) (c:=1) (f:=λ_=>a) hk h1 OW ht ty hd2 (hs _) (by simp[aM,look]) (ho.below (aC fQ)) EJ hb (by simp[maxLen];omega) BYO λv' w' row lJ uA eE NL XO=>?_;have oC:=uA.size;have eB:w.grownBy w' row:=aU ⟨fQ.os,fQ.tape,fQ.output,fQ.size,λk hk _=>fQ.block k hk BYS⟩ uA;have cQ:l++aG (λ_=>a) 1≠[]:=by simp[aG]
 have h2:∀g,v'.ownBlock=some g->g<w'.heap.size:=λg hg=>(lJ.rO cQ g hg).1;refine h v' w' row _ (by simpa[aG] using lJ) eB eE NL h2 (λu hu=>?_) BYO;refine⟨h2,λg hg=>by have:=hu.right g hg;omega,λg hg Fg=>?_⟩;rcases XO with e1|e1
 .exact hu.apart g (e1▸hg) Fg
 .rw[e1]at hg;injection hg with hg;subst hg;have:=hu.right _ Fg;omega
end
open Go.Proofs
variable{xt yt:TypeId}{a:Nat}
section
variable{w:World}{t:TypeId}{x y:Operand}
def aOS{P:Program}{e:TypeId}{agg:Bool}{sz bytes:Nat}{z:Value}{A:Option Addr}{c j1 j2:Nat}{k k2:IntKind}{lo hi:Operand}(ht:P.underlying xt=some (.slice e))(ty:Ty P e agg sz bytes z)(hx:aM E x=some (.slice A n c))
  (hl:aM E lo=some (.int k (j1:Int)))(hh:aM E hi=some (.int k2 (j2:Int)))(h0:j1<=j2)(hc:j2<=c):
  aA P (.slice xt x (some lo) (some hi) none) t E w (.slice (if c=j1 then A else A.map (·.add (j1*sz))) (j2-j1) (c-j1)) w:=λρ hρ _ _ _ _=>by
 have h1:(j1:Int)<=(j2:Int):=BYO;have h2:(j2:Int)<=(c:Int):=BYO;have h3:(j1:Int)<=(c:Int):=BYO;simp[execOp,hρ _ _ hx,hρ _ _ hl,hρ _ _ hh,Instr.sliceAt,Instr.slice,Instr.sliceBounds,Instr.sliceBound,asIntOf,run_underlying ht,h0,hc,h1,h2,h3,ty.size]
end
section
variable{w:World}{t:TypeId}{x y:Operand}{bk o c:Nat}
def aP9{x y:Operand}{b:Nat}(hx:aM E x=some (.int .i64 (a:Int)):=by with_unfolding_all exact rfl)(hy:aM E y=some (.int .i64 (b:Int)):=by with_unfolding_all exact rfl)(h:b<=a/\a<=9223372036854775807:=by omega):
  aA tz (.binOp .sub xt x y yt) t E w (.int .i64 ((a-b:Nat):Int)) w:=by
 rw[show((a-b:Nat):Int)=(a:Int)-(b:Int) from by omega];exact aA.sub hx hy BYO
def aQ8(hx:aM E x=some (.int .i64 (a:Int)):=by with_unfolding_all exact rfl)(hy:aM E y=some (.int .i64 2):=by with_unfolding_all exact rfl)(h:a<=9223372036854775807:=by omega):
  aA tz (.binOp .quo xt x y yt) t E w (.int .i64 ((a/2:Nat):Int)) w:=by
 rw[show((a/2:Nat):Int)=(a:Int)/2 from by simp];exact aA.quo hx hy BYO BYO
def aOX(hx:aM E x=some (.int .i64 (a:Int)):=by with_unfolding_all exact rfl)(hy:aM E y=some (.int .i64 1):=by with_unfolding_all exact rfl)(h:1<=a/\a<=9223372036854775807:=by omega):
  aA tz (.binOp .sub xt x y yt) t E w (.int .i64 ((a-1:Nat):Int)) w:=by
 rw[show((a-1:Nat):Int)=(a:Int)-1 from by omega];exact aA.sub hx hy BYO
section
variable{ops:Array Oper}{K:Env->World->Prop}{N d_:Nat}{rest:List Oper}{pos:String}{after:Array Edge}{C:World->Prop}{R:Env->Prop}
end
end
variable{A:Option Addr}
def aL:Ty tz 38 true 2 16 (.agg #[.int .i64 0,.int .i64 0]):=aLt BYK (λ_=>BYK) rfl
def aY:tz.underlying 22=some (.slice 38):=BYK
def Is:tz.underlying 38=some (.struct (tz.fieldsOf 38)):=BYK
def aFR:((tz.fieldsOf 38)[0]?).map (λf=>(f.offset,f.type))=some (0,3):=BYK
def aKG:((tz.fieldsOf 38)[1]?).map (λf=>(f.offset,f.type))=some (1,3):=BYK
def cB(x:Int×Int):List Value:=[.int .i64 x.1,.int .i64 x.2]
def bN(x:Int×Int):(cB x).length=2:=rfl
def cJ(x:Int×Int):∀u∈cB x,u.oneCell'=true:=by simp[cB,Value.oneCell']
section
variable{w:World}{t:TypeId}{x i:Operand}{bk o c:Nat}{j:Int}
def aMh(hx:aM E x=some (.slice (some ⟨bk,o,none⟩) n c):=by with_unfolding_all exact rfl)(hi:aM E i=some (.int .i64 j):=by with_unfolding_all exact rfl)(h0:0<=j:=by omega)(hn:j<n:=by omega):
  aA tz (.indexAddr 22 x i) t E w (.pointer (some ⟨bk,o+j.toNat*2,none⟩)) w:=aA.indexAddr aY aL.size hx hi h0 hn
def aM5(hx:aM E x=some (.pointer (some ⟨bk,o,none⟩)):=by with_unfolding_all exact rfl):aA tz (.fieldAddr 38 x 0) t E w (.pointer (some ⟨bk,o,none⟩)) w:=aA.fieldAddr (off:=0) Is aFR aN BYO hx
def aOH(hx:aM E x=some (.pointer (some ⟨bk,o,none⟩)):=by with_unfolding_all exact rfl):aA tz (.fieldAddr 38 x 1) t E w (.pointer (some ⟨bk,o+1,none⟩)) w:=aA.fieldAddr Is aKG aN BYO hx
def aMv(hx:aM E x=some (.slice A n c):=by with_unfolding_all exact rfl){rt:TypeId}:aA tz (.call {callee:=.builtin .len,args:= #[x],argTypes:= #[22]}) rt E w (.int .i64 n) w:=aL3 aY hx
def aPo:aA tz (.build 38 #[]) t E w (.agg (cB (0,0)).toArray) w:=aA.build (parts:=[]) (ps:=[]) rfl BYK
def aQI{y:Operand}{a b:Int}(hx:aM E x=some (.int .i64 a):=by with_unfolding_all exact rfl)(hy:aM E y=some (.int .i64 b):=by with_unfolding_all exact rfl):aA tz (.build 38 #[(0,x),(1,y)]) t E w (.agg (cB (a,b)).toArray) w:=
 aA.build (parts:=[(0,x),(1,y)]) (ps:=[(0,.int .i64 a),(1,.int .i64 b)]) (by simp[OA,hx,hy]) BYK
def aNr{hi:Operand}(hx:aM E x=some (.slice A n c):=by with_unfolding_all exact rfl)(hh:aM E hi=some (.int .i64 j):=by with_unfolding_all exact rfl)(h0:0<=j:=by omega)(hc:j<=c:=by omega):
  aA tz (.slice 22 x none (some hi) none) t E w (.slice A j.toNat c) w:=aNH aY aL hx hh h0 hc
def aNT{lo:Operand}(hx:aM E x=some (.slice A n c):=by with_unfolding_all exact rfl)(hh:aM E lo=some (.int .i64 j):=by with_unfolding_all exact rfl)(h0:0<=j:=by omega)(hc:j<=n:=by omega):
  aA tz (.slice 22 x (some lo) none none) t E w (.slice (if c=j.toNat then A else A.map (·.add (j.toNat*2))) (n-j.toNat) (c-j.toNat)) w:=aMi aY aL hx hh h0 hc
def aOr(hx:aM E x=some (.slice A n c):=by with_unfolding_all exact rfl):aA tz (.binOp .eql 22 x (.const (.slice none 0 0)) 22) t E w (.bool A.isNone) w:=aSR aY hx
section
variable{ops:Array Oper}{K:Env->World->Prop}{N d_:Nat}{rest:List Oper}{pos:String}{after:Array Edge}{C:World->Prop}{R:Env->Prop}
end
end
abbrev It:=Int×Int
def kV(k:Int)(l:List It):List It:=l.filter λx=>decide (x.1=k)
def cW(l:List It):Prop:=l.Pairwise λa b=>a.1<=b.1
def iC(a b:List It):Prop:=∀k,kV k a=kV k b
def iC.refl(a:List It):iC a a:=λ_=>rfl
def iC.symm{a b:List It}(h:iC a b):iC b a:=λk=>(h k).symm
def iC.trans{a b c:List It}(h:iC a b)(g:iC b c):iC a c:=λk=>(h k).trans (g k)
def fJ(k:Int)(a b:List It):kV k (a++b)=kV k a++kV k b:=by simp[kV]
def iC.append{a b c d:List It}(h:iC a b)(g:iC c d):iC (a++c) (b++d):=λk=>by
 rw[fJ,fJ,h k,g k]
def pG{x:It}{k:Int}{l:List It}:x∈kV k l↔x∈l/\x.1=k:=by simp[kV]
def iC.mem{a b:List It}(h:iC a b){x:It}:x∈a↔x∈b:=by
 have:=h x.1;constructor<;>intro hx
 .have:x∈kV x.1 a:=pG.2 ⟨hx,rfl⟩;rw[h x.1]at this;exact(pG.1 this).1
 .have:x∈kV x.1 b:=pG.2 ⟨hx,rfl⟩;rw[<-h x.1]at this;exact(pG.1 this).1
def JX(x:It)(l:List It):(kV x.1 l).count x=l.count x:=by
 induction l with
 |nil=>rfl
 |cons y r ih=>
  simp only[kV]at*;by_cases h:y.1=x.1
  .simp[h,List.count_cons,ih]
  .have:y≠x:=λe=>h (by rw[e]);simp[h,ih,this]
def iC.count{a b:List It}(h:iC a b)(x:It):a.count x=b.count x:=by
 rw[<-JX x a,<-JX x b,h x.1]
def iC.perm{a b:List It}(h:iC a b):a.Perm b:=aHD.2 h.count
def iC.length{a b:List It}(h:iC a b):a.length=b.length:=h.perm.length_eq
def ZS:∀{a b:List It},cW a->cW b->iC a b->a=b:=by
 intro a;induction a with
 |nil=>
  intro b _ _ h;cases b with
  |nil=>rfl
  |cons y r=>exact absurd (h.mem.2 (aBw)) BYS
 |cons x a ih=>
  intro b ha hb h;cases b with
  |nil=>exact absurd (h.mem.1 (aBw)) BYS
  |cons y b=>
   have h1:y.1<=x.1:=by
    have:x∈y::b:=h.mem.1 aBw;rcases aBI.1 this with e|hm
    .rw[e];exact aC0 _
    .exact(aCG.1 hb).1 x hm
   have h2:x.1<=y.1:=by
    have:y∈x::a:=h.mem.2 aBw;rcases aBI.1 this with e|hm
    .rw[e];exact aC0 _
    .exact(aCG.1 ha).1 y hm
   have hk:x.1=y.1:=Int.le_antisymm h2 h1;have hx:=h x.1;simp only[kV,aGR,hk,decide_true,if_true,List.cons.injEq]at hx;obtain⟨NK,_⟩:=hx;subst NK;have:iC a b:=λk=>by
    have:=h k;simp only[kV,aGR]at this;by_cases e:x.1=k
    .simpa[e,kV] using this
    .simpa[e,kV] using this
   rw[ih (aCG.1 ha).2 (aCG.1 hb).2 this]
def vK(x:It):List It->List It
 |[]=>[x]
 |y::r=>if y.1<=x.1 then y::vK x r else x::y::r
def bS(l:List It):List It:=l.foldl (λacc x=>vK x acc) []
def L4{x z:It}{l:List It}:z∈vK x l↔z=x\/z∈l:=by
 induction l with
 |nil=>simp[vK]
 |cons y r ih=>
  simp only[vK];split
  .simp only[aBI,ih];constructor<;>(intro h;rcases h with h|h|h<;>simp[h])
  .simp only[aBI]
def ZT{x:It}{l:List It}(h:cW l):cW (vK x l):=by
 induction l with
 |nil=>simp[vK,cW]
 |cons y r ih=>
  have h':=aCG.1 h;simp only[vK];split
  .rename_i hyx;refine aCG.2 ⟨λz hz=>?_,ih h'.2⟩;rcases L4.1 hz with e|hm
   .rw[e];exact hyx
   .exact h'.1 z hm
  .rename_i hyx;refine aCG.2 ⟨λz hz=>?_,h⟩;rcases aBI.1 hz with e|hm
   .rw[e];omega
   .have:=h'.1 z hm;omega
def To{x:It}{l:List It}(h:cW l)(k:Int):kV k (vK x l)=kV k (l++[x]):=by
 induction l with
 |nil=>simp[vK]
 |cons y r ih=>
  have h':=aCG.1 h;simp only[vK];split
  .have:=ih h'.2;simp only[kV,aCq,aGR]at*;rw[this]
  .rename_i hyx;by_cases hk:x.1=k
   .have Ql:∀z∈y::r,¬z.1=k:=by
     intro z hz;rcases aBI.1 hz with e|hm
     .rw[e];omega
     .have:=h'.1 z hm;omega
    have e1:kV k (y::r)=[]:=by
     simp only[kV,List.filter_eq_nil_iff,decide_eq_true_eq];exact Ql
    rw[fJ,e1];have:kV k (x::y::r)=[x]++kV k (y::r):=by simp[kV,hk]
    rw[this,e1];simp[kV,hk]
   .rw[fJ];simp[kV,hk]
def QO(l acc:List It)(h:cW acc):cW (l.foldl (λacc x=>vK x acc) acc)/\iC (l.foldl (λacc x=>vK x acc) acc) (acc++l):=by
 induction l generalizing acc with
 |nil=>exact⟨h,by simpa using iC.refl acc⟩
 |cons x r ih=>
  obtain⟨h1,h2⟩:=ih (vK x acc) (ZT h);refine⟨h1,h2.trans λk=>?_⟩;rw[fJ,To h k,<-fJ];simp
def jA(l:List It):cW (bS l):=(QO l [] (by simp[cW])).1
def kA(l:List It):iC (bS l) l:=by simpa[bS] using(QO l [] (by simp[cW])).2
def vL{a l:List It}(h:cW a)(hs:iC a l):a=bS l:=
 ZS h (jA l) (hs.trans (kA l).symm)
def kW(l:List It):(bS l).length=l.length:=(kA l).length
def tS{l:List It}(h:cW l):bS l=l:=(vL h (iC.refl l)).symm
def ZU(l:List It):cW l↔∀i,(h:i+1<l.length)->(l[i]).1<=(l[i+1]).1:=by
 constructor
 .intro h i hi;exact aDq.1 h i (i+1) BYO hi BYO
 .intro h;refine aDq.2 λi j hi hj XH=>?_;induction j with
  |zero=>omega
  |succ j ih=>
   by_cases e:i=j
   .subst e;exact h i hj
   .exact aDG (ih BYO BYO) (h j hj)
end Rk
namespace Rk
open Go Go.RowKit Go.Proofs
attribute [local irreducible] aA jH OpC WL QL WC WX OL RL
def sT(a lo hi:Int)(w:World):Calls tz 61 #[.int .i64 a,.int .i64 lo,.int .i64 hi] w (eT λv w'=>v=.bool (decide (lo<=a)&&decide (a<=hi))/\w'=w):=by
 refine aI Oi rfl Tryz.ntmps61 rfl ?_;refine lA λK hK=>?_;refine WL.guard rfl rfl (λh=>?_) (λh=>?_)
 .refine bB ?_;exact aLV rfl rfl ⟨by rw[h];rfl,rfl⟩
 .refine bB ?_;exact aLV rfl rfl ⟨by rw[h];rfl,rfl⟩
end Rk
namespace Rk
open Go Go.RowKit Go.Proofs
variable{n:Nat}
attribute [local irreducible] aA jH OpC WL QL WC WX
def iR(x:It):Bool:=(decide (-1000000<=x.1)&&decide (x.1<=1000000))&&(decide (0<=x.2)&&decide (x.2<=1000000))
def aH(n:Nat)(f:Nat->It):Nat:=if 60<n then 4 else if(aG f n).all iR then 0 else 1
def vM{f:Nat->It}:(aG f n).all iR=true↔∀i,i<n->iR (f i)=true:=by
 simp only[aG,aIi,aCJ,aC5,Function.comp]
def jJ(A:Option Addr)(n c:Nat)(f:Nat->It)(w:World)(hr:aE cB 2 w A n f):
  Calls tz 24 #[.slice A n c] w (eT λv w'=>v=cI (aH n f)/\Below w.heap.size w w'):=by
 refine aI xT rfl Tryz.ntmps24 rfl ?_;refine bB ?_;refine WC.cond rfl (λh=>?_) (λh=>?_)
 .have h':60<n:=by have:=of_decide_eq_true h;omega
  refine bB ?_;exact aLV rfl rfl ⟨by simp[aH,h',cI],Below.refl _ _⟩
 .have h':¬60<n:=by have:=of_decide_eq_false h;omega
  refine bB ?_;refine WC.loop (λm a wr=>∃k:Nat,k<=n/\m=n-k/\(∀i,i<k->iR (f i)=true)/\Below w.heap.size w wr/\Ag a 27 [(9,.slice A n c),(10,.int .i64 n),(11,.int .i64 k)]) n ?_ ?_
  .intro a ha;exact⟨0,BYO,BYO,λi hi=>BYO,Below.refl _ _,((ha.nil.keep ha rfl).keep ha rfl).keep ha rfl⟩
  .rintro m a wr ⟨k,hk,rfl,bY,hB,ha⟩;refine WC.at ?_ ha;clear ha a;refine bB ?_;refine WC.cond rfl (λh=>?_) (λh=>?_)
   .have dD:k<n:=by have:=of_decide_eq_true h;omega
    obtain⟨b,o,rfl,hb,hc⟩:=(hr.below hB) BYO;refine lA λK hK=>?_;refine WL.step (aL5 (cs:=cB (f k)) aL rfl rfl (hc k dD)) rfl ?_;refine WL.box aL rfl rfl rfl (cJ _) λw1 fQ dM mP=>?_;replace dM:Bk w1 wr.heap.size _ (cB (f k)):=dM;refine lA λK hK=>?_;refine WL.step (aJC aN rfl (dM.cell (i:=0) rfl)) rfl ?_;refine aKQ Oi (sT _ _ _ _) ?_;rintro v w2 ⟨rfl,rfl⟩;refine bB ?_;have GF:iR (f k)=false->∀w3,Below w.heap.size w w3->(λv w'=>v=cI (aH n f)/\Below w.heap.size w w') (.iface 68 (.int .i64 1)) w3:=λCK w3 hw3=>by
     have:¬(aG f n).all iR=true:=λfM=>by rw[vM.1 fM k dD]at CK;cases CK
     exact⟨by simp[aH,h',this,cI],hw3⟩
    have bM:Below w.heap.size w w2:=hB.rM fQ BYS;have hgo:iR (f k)=true->∀i,i<k+1->iR (f i)=true:=λWm i hi=>by
     rcases aDg.1 hi with h1|h1
     .exact bY i h1
     .rw[h1];exact Wm
    have hu:iR (f k)=((decide (-1000000<=(f k).1)&&decide ((f k).1<=1000000))&&(decide (0<=(f k).2)&&decide ((f k).2<=1000000))):=rfl;refine WL.guard rfl rfl (λHT=>?_) (λHT=>?_)
    .refine bB ?_;have CK:iR (f k)=false:=by rw[hu,aFO HT];rfl
     refine aLO rfl ?_;refine bB ?_;exact aLV rfl rfl (GF CK _ bM)
    .have uQ:=aFP HT;refine bB ?_;refine WL.step (aJC aN rfl (dM.cell (i:=1) rfl)) rfl ?_;refine aTE rfl rfl ?_;refine aKQ Oi (sT _ _ _ _) ?_;rintro v w2 ⟨rfl,rfl⟩;refine bB ?_;refine WC.cond rfl (λEk=>?_) (λEk=>?_)
     .have CK:iR (f k)=false:=by rw[hu,uQ,aFO Ek];rfl
      refine bB ?_;exact aLV rfl rfl (GF CK _ bM)
     .have Wm:iR (f k)=true:=by rw[hu,uQ,aFP Ek];rfl
      refine bB ?_;refine WX.again (m:=n-(k+1)) BYO λa ha=>⟨k+1,BYO,rfl,hgo Wm,bM,((ha.nil.keep ha rfl).keep ha rfl).keep ha rfl⟩
   .have fM:(aG f n).all iR=true:=vM.2 λi hi=>bY i (by have:=of_decide_eq_false h;omega);refine bB ?_;exact aLV rfl rfl ⟨by simp[aH,h',fM,cI],hB⟩
end Rk
namespace Rk
open Go Go.RowKit
variable{α:Type}{n:Nat}
def bT.lit{enc:α->List Value}{k:Nat}(hk:∀x,(enc x).length=k){e:TypeId}{w:World}{B g:Nat}{l:List α}(hb:Bk w g e (l.flatMap enc))(hB:B<=g)(hm:l.length<=maxLen)(hn:n=l.length):
  bT enc k e w B (.slice (some ⟨g,0,none⟩) n n) l:=by
 subst hn;exact aST hb hB (jY hk l) hm
end Rk
namespace Rk
open Go Go.RowKit Go.Proofs
attribute [local irreducible] aA jH OpC WL QL WC WX OL RL
abbrev mU(w:World)(B:Nat)(v:Value)(l:List It):Prop:=bT cB 2 38 w B v l
abbrev mV(x:It):Value:=.agg (cB x).toArray
end Rk
namespace Rk
open Go Go.RowKit Go.Proofs
attribute [local irreducible] aA jH OpC WL QL WC WX OL RL TL
def KA(a b:Int):Int:=if a<b then-1 else if b<a then 1 else 0
def QP(a:Int)(w:World):Calls tz 100 #[.int .i64 a] w (eT λv w'=>v=.bool false/\w'=w):=by
 refine aI Hz rfl Tryz.ntmps100 rfl ?_;refine bB ?_;exact aLV rfl rfl ⟨BYS,rfl⟩
def ZV(a b:Int)(w:World):Calls tz 68 #[.int .i64 a,.int .i64 b] w (eT λv w'=>v=.int .i64 (KA a b)/\w'=w):=by
 refine aI xm rfl Tryz.ntmps68 rfl ?_;refine lA λK hK=>?_;refine aKQ Hz (QP a _) ?_;rintro v w1 ⟨rfl,rfl⟩;refine lA λK hK=>?_;refine aKQ Hz (QP b _) ?_;rintro v w2 ⟨rfl,rfl⟩;refine bB ?_;refine aJh rfl ?_;refine bB ?_;refine aJh rfl ?_;refine bB ?_;refine WC.cond rfl (λh=>?_) (λh=>?_)
 .refine bB ?_;exact aLV rfl rfl ⟨by rw[KA,if_pos (of_decide_eq_true h)],rfl⟩
 .refine bB ?_;refine WC.cond rfl (λh2=>?_) (λh2=>?_)
  .refine bB ?_;exact aLV rfl rfl ⟨by rw[KA,if_neg (of_decide_eq_false h),if_pos (of_decide_eq_true h2)],rfl⟩
  .refine bB ?_;exact aLV rfl rfl ⟨by rw[KA,if_neg (of_decide_eq_false h),if_neg (of_decide_eq_false h2)],rfl⟩
def rP(a b:It)(w:World):Calls tz 27 #[.agg (cB a).toArray,.agg (cB b).toArray] w (eT λv w'=>v=.int .i64 (KA a.1 b.1)/\Below w.heap.size w w'):=by
 refine aI QI rfl Tryz.ntmps27 rfl ?_;refine lA λK hK=>?_;refine aM3 rfl rfl λw1 fQ dM mP=>?_;refine aM3 rfl rfl λw2 eB iW qO=>?_;have cA:=aC fQ;have bM:=aC eB;refine lA λK hK=>?_;refine WL.step (aJC aN rfl ((dM.below bM).cell (i:=0) rfl)) rfl ?_;refine bB ?_;refine WL.step (aJC aN rfl (iW.cell (i:=0) rfl)) rfl ?_;refine bB ?_;refine aKQ xm (ZV a.1 b.1 _) ?_;rintro v w3 ⟨rfl,rfl⟩;refine bB ?_;exact aLV rfl rfl ⟨rfl,cA.tr bM⟩
abbrev dF:Value:=.func (.func 27) #[] #[]
end Rk
namespace Rk
variable{a m b c d i s e:Nat}{f g f':Nat->It}
def iU(f:Nat->It)(a b:Nat):List It:=(List.range' a (b-a)).map f
def aJ(f:Nat->It)(a b:Nat):Prop:=∀i j,a<=i->i<j->j<b->(f i).1<=(f j).1
def aW(f:Nat->It)(h1:a<=m)(h2:m<=b):iU f a b=iU f a m++iU f m b:=by
 unfold iU;have e:b-a=(m-a)+(b-m):=BYO;rw[e,<-aDp]
 congr 1
 have:=List.range'_append (s:=a) (m:=m-a) (n:=b-m) (step:=1);rw[<-this]
 congr 2
 omega
def dJ(h:∀i,a<=i->i<b->f i=g i):iU f a b=iU g a b:=by
 unfold iU;refine aGm λi hi=>?_;have:=aH2.1 hi;exact h i BYO BYO
def QQ(n:Nat)(h:∀i,i<n->f (a+i)=g (c+i)):iU f a (a+n)=iU g c (c+n):=by
 unfold iU;have e1:a+n-a=n:=BYO;have e2:c+n-c=n:=BYO;rw[e1,e2];refine aHa BYS λi h1 h2=>?_;simp at h1;simp only[aH7,aI6];simpa using h i h1
def wM{x:It}:x∈iU f a b↔∃i,a<=i/\i<b/\f i=x:=by
 unfold iU;simp only[aCc,aH2];constructor
 .rintro⟨i,hi,e⟩;exact⟨i,BYO,BYO,e⟩
 .rintro⟨i,h1,h2,e⟩;exact⟨i,BYO,e⟩
def gQ(f:Nat->It)(a:Nat):iU f a (a+1)=[f a]:=by
 unfold iU;rw[show a+1-a=1 from by omega];rfl
def Tp{A B:List It}(h:∀x∈A,∀y∈B,y.1<x.1):iC (B++A) (A++B):=λk=>by
 rw[fJ,fJ];by_cases hA:kV k A=[]
 .rw[hA];simp
 .have hB:kV k B=[]:=by
   obtain⟨x,hx⟩:=List.exists_mem_of_ne_nil _ hA;have BW:=pG.1 hx;refine aHz.2 λy hy=>?_;have fi:=pG.1 hy;have:=h x BW.1 y fi.1;omega
  rw[hB];simp
def aJ.sub(h:aJ f a b)(h1:a<=c)(h2:d<=b):aJ f c d:=
 λi j hi XH hj=>h i j BYO XH BYO
def aJ.congr(h:aJ f a b)(e:∀i,a<=i->i<b->g i=f i):aJ g a b:=
 λi j hi XH hj=>by rw[e i hi BYO,e j BYO hj];exact h i j hi XH hj
def aJ.shift{n:Nat}(h:aJ f a (a+n))(e:∀i,i<n->g (c+i)=f (a+i)):aJ g c (c+n):=by
 intro i j hi XH hj;obtain⟨i',rfl⟩:∃i',i=c+i':=⟨i-c,BYO⟩;obtain⟨j',rfl⟩:∃j',j=c+j':=⟨j-c,BYO⟩;rw[e i' BYO,e j' BYO];exact h (a+i') (a+j') BYO BYO BYO
def aJ.le(h:aJ f a b){j:Nat}(h1:a<=i)(h2:i<=j)(h3:j<b):(f i).1<=(f j).1:=by
 by_cases e:i=j
 .subst e;exact aC0 _
 .exact h i j h1 BYO h3
def ZW:cW (iU f a b)↔aJ f a b:=by
 unfold cW iU aJ;rw[aDq];constructor
 .intro h i j hi XH hj;have:=h (i-a) (j-a) BYT BYT BYO;simp only[aH7,aI6]at this;rw[show a+1*(i-a)=i from BYO,show a+1*(j-a)=j from by omega]at this;exact this
 .intro h i j hi hj XH;simp only[aH7,aI6];simp at hi hj;exact h _ _ BYO BYO BYO
def aJ.join{g:Nat->It}{a mid b:Nat}(h1:aJ g a mid)(h2:aJ g mid b)(hx:∀x∈iU g a mid,∀y∈iU g mid b,x.1<=y.1):aJ g a b:=by
 intro i j hi XH hj;by_cases c1:j<mid
 .exact h1 i j hi XH c1
 .by_cases c2:mid<=i
  .exact h2 i j c2 XH hj
  .exact hx _ (wM.2 ⟨i,hi,BYO,rfl⟩) _ (wM.2 ⟨j,BYO,hj,rfl⟩)
def dN(f f':Nat->It)(s m e:Nat):Prop:=
 (∀i,i<e-m->f' (s+i)=f (m+i))/\(∀i,i<m-s->f' (s+(e-m)+i)=f (s+i))/\∀i,(i<s\/e<=i)->f' i=f i
def bP(f g:Nat->It)(a b:Nat):Prop:=iC (iU g a b) (iU f a b)/\∀i,(i<a\/b<=i)->g i=f i
def bP.refl(f:Nat->It)(a b:Nat):bP f f a b:=⟨iC.refl _,λ_ _=>rfl⟩
def bP.trans{h:Nat->It}(x:bP f g a b)(y:bP g h a b):bP f h a b:=
 ⟨y.1.trans x.1,λi hi=>(y.2 i hi).trans (x.2 i hi)⟩
def bP.tT(x:bP f g a b)(h1:c<=a)(h2:a<=b)(h3:b<=d):bP f g c d:=by
 refine⟨?_,λi hi=>x.2 i BYO⟩;rw[aW g h1 (by omega:a<=d),aW g h2 h3,aW f h1 (by omega:a<=d),aW f h2 h3];rw[dJ (f:=g) (g:=f) (a:=c) (b:=a) λi _ hi=>x.2 i BYO];rw[dJ (f:=g) (g:=f) (a:=b) (b:=d) λi hi _=>x.2 i BYO];exact iC.append (iC.refl _) (iC.append x.1 (iC.refl _))
def dN.aFU(h:dN f f' s m e)(h1:s<=m)(h2:m<=e):
  iU f' s (s+(e-m))=iU f m e/\iU f' (s+(e-m)) e=iU f s m:=by
 constructor
 .have:=QQ (f:=f') (g:=f) (a:=s) (c:=m) (e-m) (λi hi=>h.1 i hi);rw[this];congr 1;omega
 .have:=QQ (f:=f') (g:=f) (a:=s+(e-m)) (c:=s) (m-s) (λi hi=>h.2.1 i hi);rw[show s+(e-m)+(m-s)=e from BYO,show s+(m-s)=m from by omega]at this;exact this
def dN.within(h:dN f f' s m e)(h1:s<=m)(h2:m<=e)
  (dD:s<m->m<e->(f (e-1)).1<(f s).1)(hs:aJ f s m)(hm:aJ f m e):bP f f' s e:=by
 obtain⟨e1,e2⟩:=h.aFU h1 h2;refine⟨?_,h.2.2⟩;rw[aW f' (show s<=s+(e-m) by omega) (show s+(e-m)<=e by omega),e1,e2,aW f h1 h2];refine Tp λx hx y hy=>?_;obtain⟨i,Qz,hi2,rfl⟩:=wM.1 hx;obtain⟨j,hj1,hj2,rfl⟩:=wM.1 hy;have:=dD BYO BYO;have a1:=hs.le (i:=s) (j:=i) BYO Qz hi2;have a2:=hm.le (i:=j) (j:=e-1) hj1 BYO BYO;omega
def KB{g1:Nat->It}{mid:Nat}(has:a<=s)(Qx:s<=m)(hme:m<=e)(heb:e<=b)(rv:mid+m=s+e)
  (h1:aJ f a m)(h2:aJ f m b)
  (c1:a<s->e<b->(f (s-1)).1<=(f e).1)(c2:s<m->m<e->(f (e-1)).1<(f s).1)
  (hr:dN f f' s m e)(w1:bP f' g1 a mid)(s1:aJ g1 a mid)(w2:bP g1 g mid b)(s2:aJ g mid b):
  aJ g a b/\bP f g a b:=by
 have hW:bP f f' s e:=hr.within Qx hme c2 (h1.sub has (aAB _)) (h2.sub (aAB _) heb);have hA:bP f g1 a b:=(hW.tT has BYO heb).trans (w1.tT (aAB _) BYO BYO);have fM:bP f g a b:=hA.trans (w2.tT BYO BYO (aAB _));refine⟨?_,fM⟩;have sg1:aJ g a mid:=s1.congr λi _ hi=>w2.2 i (Or.inl hi);refine sg1.join s2 λx hx y hy=>?_;have BW:x∈iU f' a mid:=by
  have:x∈iU g1 a mid:=by rw[dJ (f:=g1) (g:=g) λi _ hi=>(w2.2 i (Or.inl hi)).symm];exact hx
  exact w1.1.mem.1 this
 have fi:y∈iU f' mid b:=by
  have:y∈iU g1 mid b:=w2.1.mem.1 hy;rw[dJ (f:=g1) (g:=f') λi hi _=>w1.2 i (Or.inr hi)]at this;exact this
 obtain⟨e1,e2⟩:=hr.aFU Qx hme;have em:s+(e-m)=mid:=BYO;rw[em]at e1 e2;rw[aW f' has (show s<=mid by omega),e1,aBR]at BW;rw[aW f' (show mid<=e by omega) heb,e2,aBR]at fi;rw[dJ (f:=f') (g:=f) (a:=a) (b:=s) λi _ hi=>hr.2.2 i (Or.inl hi)]at BW;rw[dJ (f:=f') (g:=f) (a:=e) (b:=b) λi hi _=>hr.2.2 i (Or.inr hi)]at fi;rcases BW with BW|BW<;>rcases fi with fi|fi<;>obtain⟨i,Qz,hi2,rfl⟩:=wM.1 BW<;>obtain⟨j,hj1,hj2,rfl⟩:=wM.1 fi
 .exact h1.le Qz BYO BYO
 .have q:=c1 BYO BYO;have a1:=h1.le (i:=i) (j:=s-1) Qz BYO BYO;have a2:=h2.le (i:=e) (j:=j) BYO hj1 hj2;omega
 .have q:=c2 BYO BYO;have a1:=h1.le (i:=s) (j:=j) BYO hj1 BYO;have a2:=h2.le (i:=i) (j:=e-1) Qz BYO BYO;omega
 .exact h2.le Qz BYO BYO
def Tq(hai:a<i)(th:i<=b)(h:aJ f (a+1) b)
  (c1:a+1<i->(f (i-1)).1<(f a).1)(c2:i<b->(f a).1<=(f i).1)(hr:dN f g a (a+1) i):aJ g a b/\bP f g a b:=by
 have aCn:aJ f a (a+1):=λx y hx NK hy=>BYO;refine KB (s:=a) (m:=a+1) (e:=i) (mid:=i-1) (aAB _) BYO BYO th BYO aCn h (λh=>BYO) (λ_ h2=>c1 h2) hr
  (bP.refl _ _ _) ?_ (bP.refl _ _ _) ?_
 .refine(aJ.shift (f:=f) (a:=a+1) (c:=a) (n:=i-1-a) (h.sub (aAB _) BYO) λj hj=>?_).sub (aAB _) BYO;exact hr.1 j BYO
 .intro x y hx NK hy;have fi:g y=f y:=hr.2.2 y BYO;rw[fi];by_cases e:x=i-1
  .have:g x=f a:=by
    have:=hr.2.1 0 BYO;simp only[aDV]at this;rw[show a+(i-(a+1))=i-1 from by omega]at this;rw[e];exact this
   rw[this];have:=c2 BYO;have:=h.le (i:=i) (j:=y) BYO BYO hy;omega
  .rw[hr.2.2 x BYO];exact h.le BYO BYO hy
def ZX(hai:a<=i)(CM:i<=m)(h:aJ f a m)
  (c1:a<i->(f (i-1)).1<=(f m).1)(c2:i<m->(f m).1<(f i).1)(hr:dN f g i m (m+1)):aJ g a (m+1)/\bP f g a (m+1):=by
 have aCn:aJ f m (m+1):=λx y hx NK hy=>BYO;refine KB (s:=i) (m:=m) (e:=m+1) (mid:=i+1) hai CM BYO (aAB _) BYO h aCn (λ_ h=>BYO) (λh1 _=>by simpa using c2 h1) hr
  (bP.refl _ _ _) ?_ (bP.refl _ _ _) ?_
 .intro x y hx NK hy;have BW:g x=f x:=hr.2.2 x BYO;rw[BW];by_cases e:y=i
  .have:g y=f m:=by
    have:=hr.1 0 BYO;simp only[aDV]at this;rw[e];exact this
   rw[this];have:=c1 BYO;have:=h.le (i:=x) (j:=i-1) BYO BYO BYO;omega
  .rw[hr.2.2 y BYO];exact h.le BYO BYO BYO
 .have e1:i+(m+1-m)=i+1:=BYO;have:=aJ.shift (f:=f) (g:=g) (a:=i) (c:=i+1) (n:=m-i) (h.sub hai BYO) λj hj=>by
   have:=hr.2.1 j hj;rw[e1]at this;exact this
  exact this.sub (aAB _) BYO
variable{j n:Nat}
def aP(f:Nat->It)(i j:Nat):Nat->It:=λk=>if k=i then f j else if k=j then f i else f k
def iJ(f:Nat->It){k:Nat}(h1:k≠i)(h2:k≠j):aP f i j k=f k:=by simp[aP,h1,h2]
def sV(f:Nat->It)(hi:i<n)(hj:j<n):(iU (aP f i j) 0 n).Perm (iU f 0 n):=by
 rcases aFS i j with h|h|h
 .have key:∀(i j:Nat),i<j->j<n->(iU (aP f i j) 0 n).Perm (iU f 0 n):=by
   intro i j h hj;rw[aW _ (aBt i) (by omega:i<=n),aW _ (by omega:i<=i+1) (by omega:i+1<=n),aW _ (by omega:i+1<=j) (by omega:j<=n),aW _ (by omega:j<=j+1) (by omega:j+1<=n)];rw[aW f (aBt i) (by omega:i<=n),aW f (by omega:i<=i+1) (by omega:i+1<=n),aW f (by omega:i+1<=j) (by omega:j<=n),aW f (by omega:j<=j+1) (by omega:j+1<=n)];rw[gQ,gQ,gQ,gQ];have e0:aP f i j i=f j:=by simp[aP]
   have e1:aP f i j j=f i:=by simp[aP];intro h;rw[h]
   rw[e0,e1,dJ (f:=aP f i j) (g:=f) (a:=0) (b:=i) λk _ hk=>iJ f BYO BYO,
    dJ (f:=aP f i j) (g:=f) (a:=i+1) (b:=j) λk HU hk=>iJ f BYO BYO,
    dJ (f:=aP f i j) (g:=f) (a:=j+1) (b:=n) λk HU hk=>iJ f BYO BYO]
   refine aDC _ ?_;have p1:([f j]++(iU f (i+1) j++([f i]++iU f (j+1) n))).Perm ([f i]++([f j]++(iU f (i+1) j++iU f (j+1) n))):=by
    simp only[aD1];refine(List.Perm.cons _ aH5).trans (List.Perm.swap _ _ _)
   refine p1.trans ?_;simp only[aD1];refine List.Perm.cons _ List.perm_middle.symm
  exact key i j h hj
 .subst h;rw[dJ (f:=aP f i i) (g:=f) λk _ _=>by simp only[aP];split<;>simp_all]
 .have key:aP f i j=aP f j i:=by
   funext k;simp only[aP];split<;>split<;>simp_all
  rw[key];rw[aW _ (aBt j) (by omega:j<=n),aW _ (by omega:j<=j+1) (by omega:j+1<=n),aW _ (by omega:j+1<=i) (by omega:i<=n),aW _ (by omega:i<=i+1) (by omega:i+1<=n)];rw[aW f (aBt j) (by omega:j<=n),aW f (by omega:j<=j+1) (by omega:j+1<=n),aW f (by omega:j+1<=i) (by omega:i<=n),aW f (by omega:i<=i+1) (by omega:i+1<=n)];rw[gQ,gQ,gQ,gQ];have e0:aP f j i j=f i:=by simp[aP]
  have e1:aP f j i i=f j:=by simp[aP];intro h;rw[h]
  rw[e0,e1,dJ (f:=aP f j i) (g:=f) (a:=0) (b:=j) λk _ hk=>iJ f BYO BYO,
   dJ (f:=aP f j i) (g:=f) (a:=j+1) (b:=i) λk HU hk=>iJ f BYO BYO,
   dJ (f:=aP f j i) (g:=f) (a:=i+1) (b:=n) λk HU hk=>iJ f BYO BYO]
  refine aDC _ ?_;have p1:([f i]++(iU f (j+1) i++([f j]++iU f (i+1) n))).Perm ([f j]++([f i]++(iU f (j+1) i++iU f (i+1) n))):=by
   simp only[aD1];refine(List.Perm.cons _ aH5).trans (List.Perm.swap _ _ _)
  refine p1.trans ?_;simp only[aD1];refine List.Perm.cons _ List.perm_middle.symm
def hZ(f:Nat->It)(n:Nat):Prop:=∀i,0<i->i<n->(f ((i-1)/2)).1<=(f i).1
def UK(f:Nat->It)(n s p:Nat):Prop:=
 (∀i,0<i->i<n->s<=(i-1)/2->(i-1)/2≠p->(f ((i-1)/2)).1<=(f i).1)
def nK(f:Nat->It)(n s:Nat):Prop:=∀i,0<i->i<n->s<=(i-1)/2->(f ((i-1)/2)).1<=(f i).1
def fN(f:Nat->It)(n i:Nat):Nat:=if 2*i+2<n/\(f (2*i+2)).1<(f (2*i+1)).1 then 2*i+2 else 2*i+1
def dA(n:Nat):Nat->Nat->(Nat->It)->(Nat->It)
 |0,_,f=>f
 |k+1,i,f=>if n<=2*i+1 then f else if(f i).1<=(f (fN f n i)).1 then f else dA n k (fN f n i) (aP f i (fN f n i))
def pH(h:2*i+1<n):fN f n i<n:=by unfold fN;split<;>omega
def pI(f:Nat->It)(n i:Nat):i<fN f n i:=by unfold fN;split<;>omega
def Iy(f:Nat->It)(n i:Nat):(fN f n i-1)/2=i:=by unfold fN;split<;>omega
def Iz(n:Nat):∀(k m i:Nat) (f:Nat->It),n<=i+k->n<=i+m->dA n k i f=dA n m i f:=by
 intro k;induction k with
 |zero=>
  intro m i f h _;cases m with
  |zero=>rfl
  |succ m=>simp only[dA];rw[if_pos BYO]
 |succ k ih=>
  intro m i f h h';cases m with
  |zero=>simp only[dA];rw[if_pos BYO]
  |succ m=>
   simp only[dA];have:=pI f n i;rw[ih m (fN f n i) _ BYO BYO]
def pJ(n:Nat):∀(k i:Nat) (f:Nat->It),i<n->(iU (dA n k i f) 0 n).Perm (iU f 0 n):=by
 intro k;induction k with
 |zero=>intro i f _;exact aBx _
 |succ k ih=>
  intro i f hi;simp only[dA];split
  .exact aBx _
  .split
   .exact aBx _
   .have:=pH (f:=f) (n:=n) (i:=i) BYO;exact(ih _ _ this).trans (sV f hi this)
def Ts(n:Nat):∀(k i:Nat) (f:Nat->It) (j:Nat),i<n->(j<i\/n<=j)->dA n k i f j=f j:=by
 intro k;induction k with
 |zero=>intro i f j _ _;rfl
 |succ k ih=>
  intro i f j hi h;simp only[dA];split
  .rfl
  .split
   .rfl
   .have h1:=pI f n i;have h2:=pH (f:=f) (n:=n) (i:=i) BYO;rw[ih _ _ _ h2 BYO];simp only[aP];rw[if_neg BYO,if_neg BYO]
def sW(n s:Nat):∀(k p:Nat) (f:Nat->It),n<=p+k->s<=p->p<n->UK f n s p->
  (∀i,0<i->i<n->(i-1)/2=p->0<p->s<=(p-1)/2->(f ((p-1)/2)).1<=(f i).1)->nK (dA n k p f) n s:=by
 intro k;induction k with
 |zero=>intro p f h _ hp _ _;omega
 |succ k ih=>
  intro p f h hs hp hb hg;simp only[dA];split
  .intro i hi iD XF;by_cases e:(i-1)/2=p
   .omega
   .exact hb i hi iD XF e
  .rename_i yD;have HT:=pI f n p;have uQ:=pH (f:=f) (n:=n) (i:=p) BYO;have Ek:=Iy f n p;have Mb:∀i,0<i->i<n->(i-1)/2=p->(f (fN f n p)).1<=(f i).1:=by
    intro i hi iD e;have uK:i=2*p+1\/i=2*p+2:=BYO;unfold fN;split
    .rename_i hc;rcases uK with rfl|rfl
     .omega
     .exact aC0 _
    .rename_i hc;rcases uK with rfl|rfl
     .exact aC0 _
     .by_cases h2:(f (2*p+2)).1<(f (2*p+1)).1
      .exact absurd ⟨iD,h2⟩ hc
      .omega
   split
   .rename_i hle;intro i hi iD XF;by_cases e:(i-1)/2=p
    .have:=Mb i hi iD e;rw[e];omega
    .exact hb i hi iD XF e
   .rename_i hle;generalize aMB:fN f n p=c at*;refine ih c (aP f p c) BYO BYO uQ ?_ ?_
    .intro i hi iD XF cQ;by_cases e1:(i-1)/2=p
     .by_cases e2:i=c
      .rw[e1,e2];simp only[aP];simp;rw[if_neg BYO];omega
      .rw[e1];simp only[aP];simp;rw[if_neg BYO,if_neg e2];exact Mb i hi iD e1
     .by_cases e2:i=p
      .have:=hg c BYO uQ Ek BYO (by rw[<-e2];exact XF);rw[e2]at e1 cQ⊢;simp only[aP];simp;rw[if_neg BYO,if_neg BYO];exact this
      .by_cases e3:i=c
       .omega
       .simp only[aP];rw[if_neg e1,if_neg cQ,if_neg e2,if_neg e3];exact hb i hi iD XF e1
    .intro i hi iD e hc0 _;rw[Ek];simp only[aP];simp;rw[if_neg BYO,if_neg BYO];have:=hb i hi iD BYO BYO;rw[e]at this;exact this
def oG(n:Nat):Nat->(Nat->It)->(Nat->It)
 |0,f=>f
 |i+1,f=>oG n i (dA n n i f)
def Ja(n:Nat):∀(i:Nat) (f:Nat->It),i<=n->nK f n i->nK (oG n i f) n 0:=by
 intro i;induction i with
 |zero=>intro f _ h;exact h
 |succ i ih=>
  intro f hi h;refine ih _ BYO (sW n i n i f BYO (aAB _) BYO (λj hj yv hs cQ=>h j hj yv BYO) (λj _ _ _ _ hs=>BYO))
def KC(n:Nat):∀(i:Nat) (f:Nat->It),i<=n->(iU (oG n i f) 0 n).Perm (iU f 0 n):=by
 intro i;induction i with
 |zero=>intro f _;exact aBx _
 |succ i ih=>intro f hi;exact(ih _ BYO).trans (pJ n n i f BYO)
def nE(h:nK f n 0):hZ f n:=λi hi hn=>h i hi hn (aBt _)
def OB(f:Nat->It)(n i:Nat)(h:n<=2*i+1):nK f n i:=λj hj hn hs=>BYO
def sX(h:hZ f n):∀i,i<n->(f 0).1<=(f i).1:=by
 intro i;induction i using Nat.strongRecOn with
 |_ i ih=>
  intro hi;by_cases e:i=0
  .subst e;exact aC0 _
  .exact aDG (ih ((i-1)/2) BYO BYO) (h i BYO hi)
def oH:Nat->Nat->(Nat->It)->(Nat->It)
 |0,_,f=>f
 |k+1,i,f=>if 0<i/\(f i).1<(f ((i-1)/2)).1 then oH k ((i-1)/2) (aP f i ((i-1)/2)) else f
def KD(n:Nat):∀(k p:Nat) (f:Nat->It),p<k->p<n->(∀i,0<i->i<n->i≠p->(f ((i-1)/2)).1<=(f i).1)->
  (∀i,0<i->i<n->(i-1)/2=p->0<p->(f ((p-1)/2)).1<=(f i).1)->hZ (oH k p f) n:=by
 intro k;induction k with
 |zero=>intro p f h;omega
 |succ k ih=>
  intro p f hk hp hb hg;simp only[oH];split
  .rename_i hc;generalize hq:(p-1)/2=q at*;have hqp:q<p:=BYO;refine ih q (aP f p q) BYO BYO ?_ ?_
   .intro i hi iD cQ;by_cases e1:i=p
    .rw[e1,hq];simp only[aP];simp;rw[if_neg BYO];omega
    .by_cases e2:(i-1)/2=p
     .rw[e2];simp only[aP];simp;rw[if_neg e1,if_neg cQ];exact hg i hi iD e2 hc.1
     .by_cases e3:(i-1)/2=q
      .rw[e3];simp only[aP];simp;rw[if_neg BYO,if_neg e1,if_neg cQ];have:=hb i hi iD e1;rw[e3]at this;omega
      .simp only[aP];rw[if_neg e2,if_neg e3,if_neg e1,if_neg cQ];exact hb i hi iD e1
   .intro i hi iD e si;have hqq:(f ((q-1)/2)).1<=(f q).1:=hb q si BYO BYO;have hgo:aP f p q ((q-1)/2)=f ((q-1)/2):=by
     simp only[aP];rw[if_neg BYO,if_neg BYO]
    rw[hgo];by_cases e1:i=p
    .rw[e1];simp only[aP];simp;exact hqq
    .simp only[aP];rw[if_neg e1,if_neg BYO];have:=hb i hi iD e1;rw[e]at this;omega
  .rename_i hc;intro i hi iD;by_cases e:i=p
   .rw[e];by_cases h0:(f p).1<(f ((p-1)/2)).1
    .exact absurd ⟨BYO,h0⟩ hc
    .omega
   .exact hb i hi iD e
def Ou(f:Nat->It)(m:Nat):dN f f m m (m+1):=by
 refine⟨λi hi=>rfl,λi hi=>BYO,λi _=>rfl⟩
def ZY(h:dN f f' j m (m+1))(hj:1<=j)(hm:j<=m):dN f (aP f' j (j-1)) (j-1) m (m+1):=by
 obtain⟨h1,h2,h3⟩:=h;refine⟨λi hi=>?_,λi hi=>?_,λi hi=>?_⟩
 .obtain rfl:i=0:=BYO;simp only[aP,aDV];rw[if_neg BYO,if_pos (by trivial)];have:=h1 0 BYO;simpa using this
 .rw[show j-1+(m+1-m)+i=j+i from by omega];simp only[aP];by_cases e:i=0
  .subst e;rw[if_pos BYO,h3 (j-1) BYO];rfl
  .rw[if_neg BYO,if_neg BYO];have:=h2 (i-1) BYO;rw[show j+(m+1-m)+(i-1)=j+i from BYO,show j+(i-1)=j-1+i from by omega]at this;exact this
 .simp only[aP];rw[if_neg BYO,if_neg BYO];exact h3 i BYO
def mb(f:Nat->It)(a:Nat):dN f f a (a+1) (a+1):=by
 refine⟨λi hi=>BYO,λi hi=>by rw[show a+(a+1-(a+1))+i=a+i from by omega],λi _=>rfl⟩
def Tt{k:Nat}(h:dN f f' a (a+1) (k+1))(hk:a<=k):dN f (aP f' k (k+1)) a (a+1) (k+2):=by
 obtain⟨h1,h2,h3⟩:=h;refine⟨λi hi=>?_,λi hi=>?_,λi hi=>?_⟩
 .simp only[aP];by_cases e:a+i=k
  .rw[if_pos e,h3 (k+1) BYO];congr 1;omega
  .rw[if_neg e,if_neg BYO];exact h1 i BYO
 .obtain rfl:i=0:=BYO;simp only[aP];rw[if_neg BYO,if_pos BYO];have:=h2 0 BYO;rw[show a+(k+1-(a+1))+0=k from by omega]at this;exact this
 .simp only[aP];rw[if_neg BYO,if_neg BYO];exact h3 i BYO
end Rk
namespace Rk
open Go Go.RowKit Go.Proofs
attribute [local irreducible] aA jH OpC WL QL WC WX OL RL TL
abbrev fP(w:World)(B g n cap:Nat)(f:Nat->It):Prop:=cO cB 2 38 w B g n cap f
def wO(f:Nat->It)(i c:Nat)(cQ:i≠c):(λj=>if j=c then f i else(λj=>if j=i then f c else f j) j)=aP f i c:=by
 funext j;simp only[aP];by_cases h1:j=c
 .subst h1;simp[Ne.symm cQ]
 .simp[h1]
def nL{a b:Int}:KA a b<0↔a<b:=by
 unfold KA;split
 .rename_i h;simp[h]
 .rename_i h;split<;>simp<;>omega
def xV(g n cap B a b:Nat)(f:Nat->It)(w:World)(ho:fP w B g n cap f)(WU:a<=b)(hbn:b<=n)(hn:n<=1000):
  Calls tz 98 #[.slice (some ⟨g,0,none⟩) n cap,.int .i64 a,.int .i64 b,dF] w
   (eT λ_ w'=>∃f',aJ f' a b/\bP f f' a b/\fP w' B g n cap f'/\w.grownBy w' (some g)):=by
 refine aI ZP rfl Tryz.ntmps98 rfl ?_;refine bB ?_;refine WC.loop (λm a' wr=>∃(i:Nat) (f':Nat->It),a+1<=i/\(i<=b\/(f'=f/\i=a+1))/\aJ f' a i/\bP f f' a i/\fP wr B g n cap f'/\w.grownBy wr (some g)/\m=b-i/\
  Ag a' 53 [(0,.slice (some ⟨g,0,none⟩) n cap),(1,.int .i64 a),(2,.int .i64 b),(3,dF),(8,.int .i64 i)]) (b-(a+1)) ?_ ?_
 .intro a' ha;exact⟨a+1,f,BYO,.inr ⟨rfl,rfl⟩,λi j h1 h2 h3=>BYO,bP.refl _ _ _,ho,World.grownBy.refl _ _,rfl,((((ha.nil.keep ha rfl).keep ha rfl).keep ha rfl).keep ha rfl).keep ha rfl⟩
 .rintro m a' wr ⟨i,f',hi,th,hs,hw,lJ,hg,rfl,ha⟩;refine WC.at ?_ ha;clear ha a';refine bB ?_;refine WC.cond rfl (λh=>?_) (λh=>?_)
  .have dD:i<b:=by have:=of_decide_eq_true h;omega
   refine uw ?_;refine aRM (λa' w2=>∃GM:Nat->It,aJ GM a (i+1)/\bP f' GM a (i+1)/\fP w2 B g n cap GM/\w.grownBy w2 (some g)/\
    Ag a' 53 [(0,.slice (some ⟨g,0,none⟩) n cap),(1,.int .i64 a),(2,.int .i64 b),(3,dF),(8,.int .i64 i)]) ?_ ?_
   .refine bB ?_;refine WC.loop (λm a' w2=>∃(GM:Nat->It),a<=m/\m<=i/\dN f' GM m i (i+1)/\(m<i->(f' i).1<(f' m).1)/\fP w2 B g n cap GM/\w.grownBy w2 (some g)/\
     Ag a' 53 [(0,.slice (some ⟨g,0,none⟩) n cap),(1,.int .i64 a),(2,.int .i64 b),(3,dF),(8,.int .i64 i),(9,.int .i64 m)]) i ?_ ?_
    .intro a' ha;exact⟨f',BYO,BYO,Ou f' i,λh=>BYO,lJ,hg,(((((ha.nil.keep ha rfl).keep ha rfl).keep ha rfl).keep ha rfl).keep ha rfl).keep ha rfl⟩
    .rintro j a' w2 ⟨GM,haj,zW,xM,aBf,kT,eB,ha⟩;refine WC.at ?_ ha;clear ha a';have e1:GM j=f' i:=by have:=xM.1 0 BYO;simpa using this
     refine bB ?_;refine aPS (λw'=>Below w2.heap.size w2 w') (.read 0 (.read 1 (.read 2 (.read 3 (.read 4 (.read 5 (.read 6 (.read 7 (.read 8 (.read 9 (.read 10 (.read 11 (.read 12 (.read 13 (.act 14 (.read 15 (.read 16 .fin))))))))))))))))) mixed BYK rfl BYK (λw' hb _=>hb) λK hK w3 dZ OR=>?_;refine uS ?_;have fin:∀w5,¬(a<j/\(f' i).1<(f' (j-1)).1)->fP w5 B g n cap GM->w.grownBy w5 (some g)->aJ GM a (i+1)/\bP f' GM a (i+1)/\fP w5 B g n cap GM/\w.grownBy w5 (some g):=by
      intro w5 CK h5 fU;obtain⟨p1,p2⟩:=ZX (f:=f') (g:=GM) haj zW hs (λh=>by
       have:¬(f' i).1<(f' (j-1)).1:=λhh=>CK ⟨h,hh⟩;omega) aBf xM
      exact⟨p1,p2,h5,fU⟩
     by_cases NC:a<j
     .rw[show decide ((a:Int)<(j:Int))=true from decide_eq_true BYO];have e2:GM (j-1)=f' (j-1):=xM.2.2 _ BYO;refine uS ?_;refine RL.step (λw' dY=>aL5 (cs:=cB (GM j)) aL rfl rfl ((kT.below dY).cell (i:=j) BYO)) rfl ?_;refine uS ?_;refine RL.step (λw' dY=>aL5 (cs:=cB (GM ((j:Int)-1).toNat)) aL rfl rfl ((kT.below dY).cell (i:=((j:Int)-1).toNat) BYO)) rfl ?_;refine uS ?_;refine TL.act rfl (aPa (WL.call (aOQ QI BYK rfl rfl rfl) rfl (rP _ _ _) ?_));rintro v w4 ⟨rfl,jR⟩;have oQ:=dZ.tr jR;refine WL.nil ⟨oQ,?_⟩;refine uS ?_;refine TL.fin (hK _ _ ?_);clear hK K;rw[show((j:Int)-1).toNat=j-1 from BYO,e1,e2];have sB:=kT.below oQ;have kO:w.grownBy w4 (some g):=aU eB (cP oQ _);refine bB ?_;refine WC.cond rfl (λh3=>?_) (λh3=>?_)
      .have h3':(f' i).1<(f' (j-1)).1:=nL.1 (of_decide_eq_true h3);refine bB ?_;refine WC.ord [15,17] [(0,0),(1,0),(2,0),(3,0),(4,0),(5,0),(6,0),(7,0),(8,0),(10,0),(11,0),(12,0),(9,1),(13,1),(14,0),(15,2),(16,0),(17,2)] mixed BYK rfl BYK λK hK w5 gO de=>?_;refine EV ?_;refine OL.read de rfl (RL.step (λw' dY=>aL5 (cs:=cB (GM ((j:Int)-1).toNat)) aL rfl rfl ((sB.heap dY).cell (i:=((j:Int)-1).toNat) BYO)) rfl ?_);refine EV ?_;refine OL.read de rfl (RL.step (λw' dY=>aL5 (cs:=cB (GM j)) aL rfl rfl ((sB.heap dY).cell (i:=j) BYO)) rfl ?_);refine EV ?_;refine OL.act rfl (aML bN cJ aL (i:=j) (a:=GM ((j:Int)-1).toNat) rfl BYS rfl rfl (sB.heap de) BYO λw6 gL RZ FW=>WL.nil ?_);refine EV ?_;refine OL.act rfl (aML bN cJ aL (i:=((j:Int)-1).toNat) (a:=GM j) rfl BYS rfl rfl RZ BYO λw7 uO BZ hz7=>WL.nil ?_);refine OL.nil (hK _ _ ?_);clear hK K;rw[show((j:Int)-1).toNat=j-1 from by omega]at BZ;have so:fP w7 B g n cap (aP GM j (j-1)):=BZ.congr λk _=>by rw[<-wO GM j (j-1) BYO]
       have SG:w.grownBy w7 (some g):=aU (aU (aU kO (cP gO _)) gL) uO;refine bB ?_;rw[show(j:Int)-1=((j-1:Nat):Int) from by omega];exact WX.again (m:=j-1) BYO λa' ha=>⟨_,BYO,BYO,ZY xM BYO zW,λ_=>h3',so,SG,(((((ha.nil.keep ha rfl).keep ha rfl).keep ha rfl).keep ha rfl).keep ha rfl).keep ha rfl⟩
      .have h3':¬(f' i).1<(f' (j-1)).1:=λhh=>of_decide_eq_false h3 (nL.2 hh);refine bB ?_;obtain⟨p1,p2,p3,p4⟩:=fin w4 (λhh=>h3' hh.2) sB kO;exact aOE λa' ha=>⟨GM,p1,p2,p3,p4,((((ha.nil.keep ha rfl).keep ha rfl).keep ha rfl).keep ha rfl).keep ha rfl⟩
     .rw[show decide ((a:Int)<(j:Int))=false from decide_eq_false BYO];refine uS ?_;refine TL.act rfl (aQw (WL.nil ⟨dZ,?_⟩));refine uS ?_;refine TL.fin (hK _ _ ?_);clear hK K;refine bB ?_;refine aJh rfl ?_;refine bB ?_;obtain⟨p1,p2,p3,p4⟩:=fin w3 (λhh=>NC hh.1) (kT.below dZ) (aU eB (cP dZ _));exact aOE λa' ha=>⟨GM,p1,p2,p3,p4,((((ha.nil.keep ha rfl).keep ha rfl).keep ha rfl).keep ha rfl).keep ha rfl⟩
   .rintro a' w2 ⟨GM,GN,BU,kT,eB,ha⟩;refine WC.at ?_ ha;clear ha a';refine bB ?_;refine WX.again (m:=b-(i+1)) BYO λa' ha=>⟨i+1,GM,BYO,.inl BYO,GN,(hw.tT (aAB _) BYO BYO).trans BU,kT,eB,rfl,((((ha.nil.keep ha rfl).keep ha rfl).keep ha rfl).keep ha rfl).keep ha rfl⟩
  .have CL:b<=i:=by have:=of_decide_eq_false h;omega
   refine bB ?_;rcases th with th|⟨rfl,th⟩
   .obtain rfl:i=b:=BYO;exact aMt rfl ⟨f',hs,hw,lJ,hg⟩
   .exact aMt rfl ⟨f',hs.sub (aAB _) CL,bP.refl _ _ _,lJ,hg⟩
end Rk
namespace Rk
variable{a b m j i s e:Nat}{f g f':Nat->It}
def lW(f:Nat->It)(a b m:Nat):Nat->It:=λj=>if a<=j/\j<a+m then f (b+(j-a)) else if b<=j/\j<b+m then f (a+(j-b)) else f j
def Jb(f:Nat->It)(a b:Nat):lW f a b 0=f:=by
 funext j;simp only[lW];rw[if_neg BYO,if_neg BYO]
def Jc(f:Nat->It)(h:a+m<b):aP (lW f a b m) (a+m) (b+m)=lW f a b (m+1):=by
 funext j;simp only[aP,lW]
 repeat' split
 all_goals first|rfl|(exfalso;omega)|(congr 1;omega)
def UL(f:Nat->It)(h:a<=j/\j<a+m):lW f a b m j=f (b+(j-a)):=by simp only[lW];rw[if_pos h]
def UM(f:Nat->It)(h1:a+m<=b)(h:b<=j/\j<b+m):lW f a b m j=f (a+(j-b)):=by simp only[lW];rw[if_neg BYO,if_pos h]
def AT(f:Nat->It)(h1:¬(a<=j/\j<a+m))(h:¬(b<=j/\j<b+m)):lW f a b m j=f j:=by simp only[lW];rw[if_neg h1,if_neg h]
def aAp(XH:j<i)(CM:i<=m)(h:dN (lW f (m-i) m j) g (m-(i-j)) m (m+j)):dN f g (m-i) m (m+j):=by
 obtain⟨h1,h2,h3⟩:=h;refine⟨λt ht=>?_,λt ht=>?_,λt ht=>?_⟩
 .rw[h3 _ BYO,UL f BYO];congr 1;omega
 .by_cases c:t<j
  .have:=h1 t BYO;rw[show m-(i-j)+t=m-i+(m+j-m)+t from BYO,UM f BYO BYO]at this;rw[this];congr 1;omega
  .have:=h2 (t-j) BYO;rw[show m-(i-j)+(m+j-m)+(t-j)=m-i+(m+j-m)+t from BYO,show m-(i-j)+(t-j)=m-i+t from by omega]at this;rw[this,AT f BYO BYO]
 .rw[h3 _ BYO,AT f BYO BYO]
def aAq(XH:i<j)(CM:i<=m)(h:dN (lW f (m-i) (m+j-i) i) g (m-i) m (m+(j-i))):dN f g (m-i) m (m+j):=by
 obtain⟨h1,h2,h3⟩:=h;refine⟨λt ht=>?_,λt ht=>?_,λt ht=>?_⟩
 .by_cases c:t<j-i
  .rw[h1 t BYO,AT f BYO BYO]
  .have:=h2 (t-(j-i)) BYO;rw[show m-i+(m+(j-i)-m)+(t-(j-i))=m-i+t from BYO,UL f BYO]at this;rw[this];congr 1;omega
 .rw[h3 _ BYO,UM f BYO BYO];congr 1;omega
 .rw[h3 _ BYO,AT f BYO BYO]
def aAr(f:Nat->It)(CM:i<=m):dN f (lW f (m-i) m i) (m-i) m (m+i):=by
 refine⟨λt ht=>?_,λt ht=>?_,λt ht=>?_⟩
 .rw[UL f BYO];congr 1;omega
 .rw[UM f BYO BYO];congr 1;omega
 .rw[AT f BYO BYO]
def Jd(f:Nat->It)(m e:Nat):dN f f m m e:=⟨λ_ _=>rfl,λi hi=>BYO,λ_ _=>rfl⟩
def Je(f:Nat->It)(s m:Nat):dN f f s m m:=⟨λi hi=>BYO,λi _=>by rw[show s+(m-m)+i=s+i from by omega],λ_ _=>rfl⟩
def Jf{mid:Nat}(rv:mid+m=s+e)(has:a<=s)(Qx:s<=m)(hme:m<=e)(heb:e<=b)(h1:aJ f a m)(h2:aJ f m b)(hr:dN f f' s m e):
  aJ f' a s/\aJ f' s mid/\aJ f' mid e/\aJ f' e b:=by
 obtain⟨r1,r2,r3⟩:=hr;refine⟨(h1.sub (aAB _) Qx).congr λi _ hi=>r3 i (Or.inl hi),?_,?_,(h2.sub hme (aAB _)).congr λi hi _=>r3 i (Or.inr hi)⟩
 .have:=aJ.shift (f:=f) (g:=f') (a:=m) (c:=s) (n:=e-m) (h2.sub (aAB _) BYO) λi hi=>r1 i hi;exact this.sub (aAB _) BYO
 .have:=aJ.shift (f:=f) (g:=f') (a:=s) (c:=mid) (n:=m-s) (h1.sub has BYO) λi hi=>by
   have:=r2 i hi;rw[show s+(e-m)=mid from by omega]at this;exact this
  exact this.sub (aAB _) BYO
open Go Go.RowKit Go.Proofs
variable{y:Operand}
section
variable{E:Env}{w:World}{t:TypeId}{x:Operand}{bk o n c:Nat}
def aMy(hx:aM E x=some (.slice (some ⟨bk,o,none⟩) n c):=by with_unfolding_all exact rfl)(hi:aM E y=some (.int .i64 (j:Int)):=by with_unfolding_all exact rfl)(hn:j<n:=by omega):
  aA tz (.indexAddr 22 x y) t E w (.pointer (some ⟨bk,o+j*2,none⟩)) w:=aA.indexAddr aY aL.size hx hi BYO BYO
def aP0(hx:aM E x=some (.slice (some ⟨bk,o,none⟩) n c):=by with_unfolding_all exact rfl)(hi:aM E y=some (.int .i64 ((j:Int)+1)):=by with_unfolding_all exact rfl)(hn:j+1<n:=by omega):
  aA tz (.indexAddr 22 x y) t E w (.pointer (some ⟨bk,o+(j+1)*2,none⟩)) w:=aA.indexAddr aY aL.size hx hi BYO BYO
section
variable{ops:Array Oper}{K:Env->World->Prop}{N d_:Nat}{rest:List Oper}{pos:String}{after:Array Edge}{C:World->Prop}{R:Env->Prop}
end
end
section
variable{ops:Array Oper}{K:Env->World->Prop}{R:Env->Prop}{N:Nat}{E:Env}{rest:List Oper}{w:World}{t:TypeId}{pos:String}{after:Array Edge}{d:Nat}{x:Operand}{o n:Nat}{f:Nat->Int×Int}
def aOW(hx:aM E x=some (.pointer (some ⟨b,o+i*2,none⟩)):=by with_unfolding_all exact rfl)(hr:aE cB 2 w (some ⟨b,o,none⟩) n f:=by first|assumption|exact cO.bK (by assumption))(hi:i<n:=by omega):OpB tz (.load 3 x) t E w (.int .i64 (f i).1):=λ_ hw=>aJC aN hx ((hr.bh hw).get hi 0 _ rfl)
end
section
variable{ops:Array Oper}{K:Env->World->Prop}{R:Env->Prop}{N:Nat}{E:Env}{rest:List Oper}{w:World}{t:TypeId}{pos:String}{after:Array Edge}{d:Nat}{x:Operand}{o n:Nat}{f:Nat->Int×Int}
def aOC(hx:aM E x=some (.pointer (some ⟨b,o+i*2,none⟩)):=by with_unfolding_all exact rfl)(hr:aE cB 2 w (some ⟨b,o,none⟩) n f:=by first|assumption|exact cO.bK (by assumption))(hi:i<n:=by omega):OpB tz (.load 38 x) t E w (.agg (cB (f i)).toArray):=λ_ hw=>aL5 (cs:=cB (f i)) aL hx (bN _) ((hr.bh hw).get hi)
end
end Rk
