/- Part of the proof of TopSorts. -/
import Derived.Test.YthdiheblgmddhaaGreatDoorQ23
set_option linter.all false
set_option maxHeartbeats 4000000
set_option maxRecDepth 100000
namespace Rk
open Go Go.RowKit Go.Proofs
attribute [local irreducible] aA jH OpC WL QL WC WX OL RL
def Bd{n:Nat}{f g:Nat->It}:aG f n=aG g n↔∀i,i<n->f i=g i:=by
 constructor
 .intro h i hi;have:=congrArg (λl=>l[i]?) h;simp only[aG,aIr,List.getElem?_range hi]at this;simpa using this
 .exact lM
def Ul(A A':Option Addr)(n c m c':Nat)(f g:Nat->It)(w:World)(hr:aE cB 2 w A n f)(sD:aE cB 2 w A' m g)(hn:n<=1000000):
  Calls tz 23 #[.slice A n c,.slice A' m c'] w (eT λv w'=>v=.bool (decide (aG f n=aG g m))/\Below w.heap.size w w'):=by
 refine aI aEw rfl Tryz.ntmps23 rfl ?_;refine aB ?_;refine aJ6 rfl (λh=>?_) (λh=>?_)
 .refine aB ?_;exact aLV rfl rfl ⟨congrArg Value.bool (decide_eq_false λe=>h (by have:=congrArg List.length e;rw[aF,aF]at this;rw[this])).symm,Below.refl _ _⟩
 .obtain rfl:n=m:=BYO;clear h;refine aB ?_;refine aMP (λk:Nat=>[(0,.slice A n c),(1,.slice A' n c'),(5,.int .i64 k)]) (λk q wr=>k<=n/\q=n-k/\(∀i,i<k->f i=g i)/\Below w.heap.size w wr) n 0 ⟨BYO,rfl,λi hi=>BYO,Below.refl _ _⟩ aJA ?_;rintro k q wr ⟨hk,rfl,fM,hB⟩;refine aB ?_;refine aJ6 rfl (λh=>?_) (λh=>?_)
  .replace hr:=hr.below hB;replace sD:=sD.below hB;obtain⟨b,o,rfl,_⟩:=hr.ne BYO;obtain⟨b',o',rfl,_⟩:=sD.ne BYO;refine aB ?_;refine aLh mixed BYK ?_;refine oD ?_;refine QL.done λw2 bM=>?_;refine aB ?_;refine aJ6 rfl (λh2=>?_) (λh2=>?_)
   .refine aB ?_;exact aLV rfl rfl ⟨congrArg Value.bool (decide_eq_false λe=>h2 (Bd.1 e k BYO)).symm,hB.tr bM⟩
   .refine aB ?_;refine aMF (k+1) (n-(k+1)) BYO ⟨BYO,rfl,λi hi=>?_,hB.tr bM⟩ aJA;by_cases e:i=k
    .subst e;exact Decidable.of_not_not h2
    .exact fM i BYO
  .obtain rfl:k=n:=BYO;refine aB ?_;exact aLV rfl rfl ⟨congrArg Value.bool (decide_eq_true (lM fM)).symm,hB⟩
end Rk
namespace Rk.Cw
open Go Go.Conc Go.RowKit Go.Proofs Rk.fD
variable{a:Act}{f:FuncId}{fn:Func}{P:Program}{E:Env}{w:World}{t xt yt:TypeId}{x:Operand}{p:Event->Prop}{v:Value}
section
variable{main:Bool}{R:PS}{Q:World->Prop}{J:PS->Goroutine->World->Prop}(hJ:pF Tryz.prog main R Q J){S:PS}{cf:Frame}{cs:List Frame}{w:World}
include hJ
def Kg{A A':Option Addr}{n c m c':Nat}{f g:Nat->It}(hr:aE cB 2 w A n f)(hA:Seen w (S.or R) A)(sD:aE cB 2 w A' m g)(WN:Seen w (S.or R) A')(hm:n<=1000000)(hV:mQ w.heap.size (S.or R))(hg:GB<=w.heap.size)
  (hn:∀(O:Nat->Prop) (w':World),(∀b,O b->w.heap.size<=b)->bZ (S.or R) w w'->J (S.or λb x=>x=none/\O b) (G (cf.finish (.bool (decide (aG f n=aG g m)))) cs) w'):
  J S (G (Frame.enter Tryz.prog 23 #[.slice A n c,.slice A' m c'] .normal) (cf::cs)) w:=by
 obtain⟨B,CE⟩:∃B:Nat->Prop,B=λb=>lB A b\/lB A' b:=⟨_,rfl⟩;have lI:Shown B w:=λb hb=>by
  rw[CE]at hb;exact hb.elim (hA.shown b) (WN.shown b)
 have b1:∀p,A=some p->B p.block:=λp hp=>by rw[CE];exact .inl ⟨p,hp,rfl⟩
 have b2:∀p,A'=some p->B p.block:=λp hp=>by rw[CE];exact .inr ⟨p,hp,rfl⟩
 have args:eY (Xe B) #[.slice A n c,.slice A' m c'] #[.slice A n c,.slice A' m c']:=aQH (hA.vr b1 n c) (WN.vr b2 m c');have hR:∀b,B b->(S.or R) b none:=λb hb=>by
  rw[CE]at hb;rcases hb with⟨p,hp,e⟩|⟨p,hp,e⟩
  .exact e▸(hA p hp).2.1
  .exact e▸(WN p hp).2.1
 have Qy:23∈wl:=by simp[wl]
 refine lP hJ (Post:=λv _=>v=.bool (decide (aG f n=aG g m))) Qy B lI hR hV hg args
  (λT=>(Ul A A' n c m c' f g ((ghost B w).on T) (oU hr b1 T) (oU sD b2 T) hm).mono λe W' h=>?_) λτ W' v v' O w' oP wD h1 h2 h3=>?_
 .cases e<;>first|exact h.elim|skip
  obtain⟨h1,_⟩:=h;exact⟨_,rfl,h1⟩
 .subst h1;cases h2;exact hn O w' oP wD
end
section
variable{P:Program}{main:Bool}{R:PS}{Q:World->Prop}{J:PS->Goroutine->World->Prop}(hJ:pF P main R Q J){b:Frame}{cs:List Frame}{N:Nat}{ds:List Deferred}{S S':PS}{E:Env}{k:List Item}{w:World}
variable{ops:Array Oper}{i j e:Nat}{t':Bool}{rest:List Nat}{op:Op}{pos:String}{after:Array Edge}{d:Nat}{u:Value}
def Be(ha:Ad a N ds E)(hj:(ops[j]?).bind (·.dst)=some e)(hl:look E e=some u):yielded ops a.tmps j=match u with| .bool x=>some x|_=>none:=by
 unfold yielded;rw[hj];simp only[aDv,ha.at_ _ _ hl];cases u<;>rfl
def Bf(ha:Ad a N ds E)(hj:(ops[j]?).bind (·.dst)=some e)(hl:look E e=some (.bool t')):Region.wanted ⟨some d,op,t,pos,after,some (j,t')⟩ (yielded ops a.tmps)=true:=by
 simp[Region.wanted,Be ha hj hl]
def nf(ha:Ad a N ds E)(hj:(ops[j]?).bind (·.dst)=some e)(hl:look E e=some u)(hu:u≠.bool t'):Region.wanted ⟨some d,op,t,pos,after,some (j,t')⟩ (yielded ops a.tmps)=false:=by
 simp only[Region.wanted,Be ha hj hl];cases u with
 |bool x=>simp;intro e;exact hu (by rw[e])
 |_=>rfl
include hJ
def aOO(ho:ops[i]?=some ⟨some d,op,t,pos,after,some (j,t')⟩)(hj:(ops[j]?).bind (·.dst)=some e)(hl:look E e=some (.bool t'))(hk:b.kind≠.early)(hd:Nat.blt d N=true)(h:∀w1,bZ (S.or R) w w1->Q w1->kQ P op t E w1 v (S.or R))
  (hn:CJ J b cs N ds S ((d,v)::E) (.inRegion ops rest::k) w):CJ J b cs N ds S E (.inRegion ops (i::rest)::k) w:=λa ha=>
 hJ.step _ _ _ rfl λw1 h1 h2=>by
  obtain⟨h3,h4⟩:=h w1 h1 h2;exact⟨S,_,w1,_,stepG_value ho (Bf ha hj hl) hk (h3 _ ha.fits _ _ _ _),(Gu.refl S R w1).ev λe he=>(h4 _ ha.fits _ _ _ _ e (mem_listed he)).imp id λ⟨x,y,z⟩=>⟨x,(fZ.1 y).imp id λy=>⟨y,z⟩⟩,hJ.rely _ _ _ _ (hn _ (ha.put v hd)) h1⟩
def aNn(ho:ops[i]?=some ⟨some d,op,t,pos,after,some (j,t')⟩)(hj:(ops[j]?).bind (·.dst)=some e)(hl:look E e=some u)(hu:u≠.bool t')(hd:Nat.blt d N=true)
  (hn:CJ J b cs N ds S ((d,undef)::E) (.inRegion ops rest::k) w):CJ J b cs N ds S E (.inRegion ops (i::rest)::k) w:=λa ha=>
 hJ.ctl rfl (λw1=>stepG_unwanted ho (nf ha hj hl hu)) (hn _ (ha.put undef hd))
def aTI{c:Code}{xs:List Operand}{us:List Value}{sG:Array TypeId}(ho:ops[i]?=some ⟨some d,.call {callee:=.value (.func f),args:=xs.toArray,argTypes:=sG},t,pos,after,some (j,t')⟩)(hj:(ops[j]?).bind (·.dst)=some e)(hl:look E e=some (.bool t'))(hk:b.kind≠.early)(hd:Nat.blt d N=true)
  (hf:P.funcs[f]?=some fn)(BY:(fn.name== "runtime.NumGoroutine")=false)(hb:fn.body=some c)(he:evs E xs=some us)
  (h:∀cf MU,(∀(J':PS->Goroutine->World->Prop) S' v w',CJ J' b cs N ds S' ((d,v)::E) (.inRegion ops rest::k) w'->J' S' (G (cf.finish v) MU) w')->J S (G (Frame.enter P f us.toArray .normal) (cf::MU)) w):CJ J b cs N ds S E (.inRegion ops (i::rest)::k) w:=λa ha=>by
 have h':=h (b.at a (.inRegion ops (i::rest)::k)) cs λJ' S' v w' hn=>by
  rw[Frame.finish_at];have e:(ops[i]?).bind (·.dst)=some d:=by rw[ho];rfl
  rw[e];exact hn _ (ha.put v hd)
 refine hJ.step _ _ _ rfl λw1 h1 _=>?_;have hg:=goes_call (main:=main) (P:=P) (w:=w1) (K:=λg' w' es=>g'=_/\w'=w1/\es= #[]) (cs:=cs) (b:=b) (a:=a) (k:=k) (rest:=rest) ho (Bf ha hj hl) hk rfl hf BY hb ⟨rfl,rfl,rfl⟩;obtain⟨g',w',es,h3,rfl,rfl,rfl⟩:=goes_elim hg;have e:xs.toArray.map a.eval=us.toArray:=by rw[aDb,sR ha.fits he]
 rw[enter_at _ hf hb,<-e]at h';exact⟨S,_,_,_,h3,Gu.refl S R _,hJ.rely _ _ _ _ h' h1⟩
end
def bQ.pick{y z:Operand}{q:Bool}(hx:aM E x=some (.bool q)):bQ P (.pick x y z) t E w p:=.nil λρ hρ _ _ _ _=>by
 simp[execOp,go_sem,hρ _ _ hx]
def aS8(ht:P.underlying xt=some (.interface (P.methodsAt xt)))(hx:aM E x=some .nilIface):bQ P (.binOp .eql xt x (.const .nilIface) yt) t E w p:=.nil λρ hρ _ _ _ _=>by
 have h1:∀d:Nat,(Op.equalIn (d+1) xt .nilIface .nilIface).events P w #[]= #[]:=λd=>by simp[Op.equalIn,go_sem,run_underlying ht]
 have h2:∀d:Nat,(Op.equalIn (d+1) xt .nilIface .nilIface).run P w=.ok true w:=λd=>by simp[Op.equalIn,run_underlying ht]
 simp only[execOp,hρ _ _ hx,hρ (.const .nilIface) .nilIface rfl,binOp];simp[Op.equal,Op.maxDepth,go_sem,h1 9999,h2 9999,eqGuard]
def aS9{u:TypeId}(ht:P.underlying xt=some (.interface (P.methodsAt xt)))(hx:aM E x=some (.iface u v)):bQ P (.binOp .neq xt x (.const .nilIface) yt) t E w p:=.nil λρ hρ _ _ _ _=>by
 have h1:∀d:Nat,(Op.equalIn (d+1) xt (.iface u v) .nilIface).events P w #[]= #[]:=λd=>by simp[Op.equalIn,go_sem,run_underlying ht]
 have h2:∀d:Nat,(Op.equalIn (d+1) xt (.iface u v) .nilIface).run P w=.ok false w:=λd=>by simp[Op.equalIn,run_underlying ht]
 simp only[execOp,hρ _ _ hx,hρ (.const .nilIface) .nilIface rfl,binOp];simp[Op.equal,Op.maxDepth,go_sem,h1 9999,h2 9999,eqGuard]
def MT.done{lo:Nat}{ty:TypeId}{Post:Value->World->Prop}{S:PS}{N:Nat}{k:List Item}{x:Tmp}(hf:P.funcs[f]?=some fn)(hr:fn.results= #[.tmp x])(hi:P.inits.idxOf? f=none)(hx:look E x=some v)(hp:∀w',bZ S w w'->Post v w'):
  CJ (λS g w=>MT P lo ty Post .calm S (λ_ _=>False) g w) (base f) [] N [] S E (.code .ret::k) w:=λa ha=>
 (MT.own (P:=P) (ty:=ty) (Post:=Post) (ms:=.calm) (R:=λ_ _=>False)).ctl rfl (λ_=>stepG_ret') (MT.step rfl λw1 h1 h2=>.ends (v:=v) (by
  have e:a.tmps.getD x undef=v:=by rw[aCd,ha.at_ _ _ hx];rfl
  have r1:=results_tmp hr a.tmps P w1;have r2:(results fn a.tmps).events P w1 #[]= #[]:=events_results_tmp hr _ _;rw[e]at r1;simp[G,base,stepG,unwind,doReturn,Frame.at,ha.defers,hf,r1,r2,seen,GStep.after,hi]) (hp w1 (by rwa[or_false]at h1)))
variable{y:Operand}{a b:Int}{p:Bool}{S:PS}
variable{lo:Nat}
def Bg:Nat->Code->Code
 |0,c=>c
 |n+1,.seq _ y=>Bg n y
 |_,c=>c
noncomputable def UZ:Code:=(Tryz.f3).body.getD .skip
noncomputable def ng:Code:=Bg 16 UZ
def aRr(hx:aM E x=some .nilIface):aA Tryz.prog (.binOp .eql 25 x (.const .nilIface) 25) t E w (.bool true) w:=aQo tR hx
section
variable{Post:Value->World->Prop}{n c m:Nat}{A As:Option Addr}{f:Nat->It}{z:Int}{k:List Item}
def aKS(hx:aM E x=some (.int .i64 a))(hy:aM E y=some (.int .i64 b))(hp:p=decide (a<b)):aA Tryz.prog (.binOp .lss xt x y yt) t E w (.bool p) w:=by
 subst hp;exact aA.lss hx hy
def aKT(hx:aM E x=some (.int .i64 a))(hy:aM E y=some (.int .i64 b))(hp:p=decide (a>b)):aA Tryz.prog (.binOp .gtr xt x y yt) t E w (.bool p) w:=by
 subst hp;exact aA.gtr hx hy
def O0(hz:¬(1<=z/\z<=6))(hp:∀w',bZ S w w'->Post (.bool true) w'):
  CJ (λS g w=>MT Tryz.prog lo link.tWg Post .calm S (λ_ _=>False) g w) (base 3) [] 270 [] S [(45,cI 1),(2,.int .i64 z)] (.code (Bg 17 UZ)::k) w:=by
 have hJ:=MT.own (P:=Tryz.prog) (lo:=lo) (ty:=link.tWg) (Post:=Post) (ms:=.calm) (R:=λ_ _=>False);refine CJ.seq hJ (CJ.region hJ ?_);simp only[aBT,aBJ,aBv,Nat.reduceAdd,aAn,List.range,List.range.loop];refine aLS hJ (v:=cI 1) rfl BYD rfl (λ_ _ _=>⟨aA.move rfl,bQ.move⟩) ?_;refine aLS hJ (v:=.bool true) rfl BYD rfl (λ_ _ _=>⟨aOe rfl,aS9 tR rfl⟩) ?_;refine aLS hJ (v:=.bool true) rfl BYD rfl (λ_ _ _=>⟨aA.move rfl,bQ.move⟩) ?_;refine aOO hJ (v:=.int .i64 z) rfl rfl rfl BYD rfl (λ_ _ _=>⟨aA.move rfl,bQ.move⟩) ?_;refine aOO hJ (v:=.bool (decide (z<1))) rfl rfl rfl BYD rfl (λ_ _ _=>⟨aKS rfl rfl rfl,bQ.lss rfl rfl⟩) ?_;refine aOO hJ (v:=.bool (decide (z<1))) rfl rfl rfl BYD rfl (λ_ _ _=>⟨aA.move rfl,bQ.move⟩) ?_;have fin:∀{E:Env},look E 253=some (.bool true)->look E 259=some (.bool true)->CJ (λS g w=>MT Tryz.prog lo link.tWg Post .calm S (λ_ _=>False) g w) (base 3) [] 270 [] S E (.inRegion (match Bg 17 UZ with| .seq (.region _ ops _) _=>ops|_=> #[]) [9,10,11,12,13,14,15,16,17,18,19]:: .code .ret::k) w:=λ{E} h1 h2=>by
  refine aLS hJ (v:=.bool true) rfl BYD rfl (λ_ _ _=>⟨aMe h1 h2,bQ.pick h1⟩) ?_;refine aLS hJ (v:=.bool true) rfl BYD rfl (λ_ _ _=>⟨aA.move rfl,bQ.move⟩) ?_;refine aNn hJ rfl rfl rfl BYS rfl ?_;refine aNn hJ rfl rfl rfl BYS rfl ?_;refine aNn hJ rfl rfl rfl BYS rfl ?_;refine aNn hJ rfl rfl rfl (by simp[undef]) rfl ?_;refine aNn hJ rfl rfl rfl (by simp[undef]) rfl ?_;refine aNn hJ rfl rfl rfl (by simp[undef]) rfl ?_;refine aNn hJ rfl rfl rfl BYS rfl ?_;refine aLS hJ (v:=.bool true) rfl BYD rfl (λ_ _ _=>⟨aMe rfl rfl,bQ.pick (q:=true) rfl⟩) ?_;refine aLS hJ (v:=.bool true) rfl BYD rfl (λ_ _ _=>⟨aA.assign rfl,bQ.assign⟩) ?_;exact aLZ hJ (MT.done Tryz.func3 rfl BYK rfl hp)
 by_cases h1:z<1
 .refine aNn hJ rfl rfl rfl (by simp[h1]) rfl ?_;refine aNn hJ rfl rfl rfl (by simp[h1]) rfl ?_;refine aOO hJ (v:=.bool true) rfl rfl rfl BYD rfl (λ_ _ _=>⟨aMe (by rw[show aM _ (.tmp 256)=some (.bool (decide (z<1))) from rfl,decide_eq_true h1]) rfl,bQ.pick (q:=decide (z<1)) rfl⟩) ?_;exact fin rfl rfl
 .have PD:decide (z<1)=false:=decide_eq_false h1;rw[PD];refine aOO hJ (v:=.int .i64 z) rfl rfl rfl BYD rfl (λ_ _ _=>⟨aA.move rfl,bQ.move⟩) ?_;refine aOO hJ (v:=.bool true) rfl rfl rfl BYD rfl (λ_ _ _=>⟨aKT rfl rfl (decide_eq_true BYO).symm,bQ.gtr rfl rfl⟩) ?_;refine aOO hJ (v:=.bool true) rfl rfl rfl BYD rfl (λ_ _ _=>⟨aMU rfl rfl,bQ.pick (q:=false) rfl⟩) ?_;exact fin rfl rfl
def nh{c1 c2:Nat}{A1 A2:Option Addr}{g:Nat->It}(hr:aE cB 2 w A1 n g)(hA:Seen w S A1)(sD:aE cB 2 w A2 n g)(WN:Seen w S A2)(hi:mQ w.heap.size S)(hg:GB<=w.heap.size)(hm:n<=1000000)(hp:∀w',bZ S w w'->Post (.bool true) w'):
  CJ (λS g w=>MT Tryz.prog lo link.tWg Post .calm S (λ_ _=>False) g w) (base 3) [] 270 [] S [(45,.nilIface),(44,.slice A1 n c1),(8,.slice A2 n c2)] (.code (Bg 17 UZ)::k) w:=by
 have hJ:=MT.own (P:=Tryz.prog) (lo:=lo) (ty:=link.tWg) (Post:=Post) (ms:=.calm) (R:=λ_ _=>False);have eS:(S.or λ_ _=>False)=S:=by funext b x;simp[PS.or]
 refine CJ.seq hJ (CJ.region hJ ?_);simp only[aBT,aBJ,aBv,Nat.reduceAdd,aAn,List.range,List.range.loop];refine aLS hJ (v:=.nilIface) rfl BYD rfl (λ_ _ _=>⟨aA.move rfl,bQ.move⟩) ?_;refine aLS hJ (v:=.bool false) rfl BYD rfl (λ_ _ _=>⟨aOY rfl,aQu tR rfl⟩) ?_;refine aLS hJ (v:=.bool false) rfl BYD rfl (λ_ _ _=>⟨aA.move rfl,bQ.move⟩) ?_;refine aNn hJ rfl rfl rfl BYS rfl ?_;refine aNn hJ rfl rfl rfl BYS rfl ?_;refine aNn hJ rfl rfl rfl BYS rfl ?_;refine aNn hJ rfl rfl rfl (by simp[undef]) rfl ?_;refine aNn hJ rfl rfl rfl (by simp[undef]) rfl ?_;refine aNn hJ rfl rfl rfl BYS rfl ?_;refine aLS hJ (v:=.bool false) rfl BYD rfl (λ_ _ _=>⟨aMU rfl rfl,bQ.pick (q:=false) rfl⟩) ?_;refine aLS hJ (v:=.bool false) rfl BYD rfl (λ_ _ _=>⟨aA.move rfl,bQ.move⟩) ?_;refine aOO hJ (v:=.nilIface) rfl rfl rfl BYD rfl (λ_ _ _=>⟨aA.move rfl,bQ.move⟩) ?_;refine aOO hJ (v:=.bool true) rfl rfl rfl BYD rfl (λ_ _ _=>⟨aRr rfl,aS8 tR rfl⟩) ?_;refine aOO hJ (v:=.bool true) rfl rfl rfl BYD rfl (λ_ _ _=>⟨aA.move rfl,bQ.move⟩) ?_;refine aOO hJ (v:=.slice A1 n c1) rfl rfl rfl BYD rfl (λ_ _ _=>⟨aA.move rfl,bQ.move⟩) ?_;refine aOO hJ (v:=.slice A2 n c2) rfl rfl rfl BYD rfl (λ_ _ _=>⟨aA.move rfl,bQ.move⟩) ?_;refine aTI hJ (xs:=[.tmp 265,.tmp 266]) (us:=[.slice A1 n c1,.slice A2 n c2]) rfl rfl rfl BYD rfl Tryz.func23 BYK rfl rfl λcf1 dc tY=>?_;refine Kg hJ hr (by rw[eS];exact hA) sD (by rw[eS];exact WN) hm (by rw[eS];exact hi) hg λO w' oP wD=>?_;rw[decide_eq_true rfl];refine tY (λS g w=>MT Tryz.prog lo link.tWg Post .calm S (λ_ _=>False) g w) _ _ w' ?_;refine aOO hJ (v:=.bool true) rfl rfl rfl BYD rfl (λ_ _ _=>⟨aMe rfl rfl,bQ.pick (q:=true) rfl⟩) ?_;refine aLS hJ (v:=.bool true) rfl BYD rfl (λ_ _ _=>⟨aMU rfl rfl,bQ.pick (q:=false) rfl⟩) ?_;refine aLS hJ (v:=.bool true) rfl BYD rfl (λ_ _ _=>⟨aA.assign rfl,bQ.assign⟩) ?_;exact aLZ hJ (MT.done Tryz.func3 rfl BYK rfl λw2 h2=>hp w2 ((wD.sub λ_ _ h=>.inl h).trans (h2.sub λ_ _ h=>.inl h)))
def O1(hr:aE cB 2 w A n f)(hA:Seen w (λb x=>x=none/\b<w.heap.size) A)(sD:aE cB 2 w As n (lf (bS (aG f n))))(WN:Seen w (λb x=>x=none/\b<w.heap.size) As)(hwg:∀p,As=some p->¬JI lo link.tWg w p.block)
  (EP:lo<=w.heap.size)(hg:GB<=w.heap.size)(sa:n<=c)(he:aH n f=0)(hm:n<=1000000)(hp:∀w',bZ (λb x=>x=none/\b<lo) w w'->Post (.bool true) w'){c':Nat}:
  CJ (λS g w=>MT Tryz.prog lo link.tWg Post .calm S (λ_ _=>False) g w) (base 3) [] 270 [] (λb x=>x=none/\b<w.heap.size) [(0,.slice A n c),(2,.int .i64 z),(8,.slice As n c')] (.code ng::k) w:=by
 have hJ:=MT.own (P:=Tryz.prog) (lo:=lo) (ty:=link.tWg) (Post:=Post) (ms:=.calm) (R:=λ_ _=>False);refine CJ.seq hJ (CJ.region hJ ?_);simp only[aBT,aBJ,aBv,Nat.reduceAdd,aAn,List.range,List.range.loop];refine aLS hJ (v:=.slice A n c) rfl BYD rfl (λ_ _ _=>⟨aA.move rfl,bQ.move⟩) ?_;refine aLS hJ (v:=.int .i64 z) rfl BYD rfl (λ_ _ _=>⟨aA.move rfl,bQ.move⟩) ?_;refine aPj hJ (xs:=[.tmp 246,.tmp 247]) (us:=[.slice A n c,.int .i64 z]) rfl BYD rfl Tryz.func22 BYK rfl rfl λcf1 dc tY=>?_;refine Uk (V:=λb x=>x=none/\(b<lo\/∃p,As=some p/\p.block=b)) (λb hb=>⟨rfl,hb⟩) (λb x hb=>hb.2) hr hA hg sa he EP (λb x ⟨hx,h1⟩=>⟨hx,h1.elim (λh2=>⟨aAx h2 EP,λh3=>absurd h3.1 BYO⟩) λ⟨p,h1,h2⟩=>h2▸⟨(WN p h1).2.1.2,hwg p h1⟩⟩) (λhz S' w' h1 h2=>?_) λhz S' w' v h1 h2 h3 h4 h5=>?_
 .refine tY (λS g w=>MT Tryz.prog lo link.tWg Post .calm S (λ_ _=>False) g w) _ _ w' ?_;refine aLS hJ (v:=.tuple #[.slice none 0 0,cI 1]) rfl BYD rfl (λ_ _ _=>⟨aA.move rfl,bQ.move⟩) ?_;refine aLS hJ (v:=.slice none 0 0) rfl BYD rfl (λ_ _ _=>⟨aA.extract rfl rfl,bQ.extract rfl rfl⟩) ?_;refine aLS hJ (v:=cI 1) rfl BYD rfl (λ_ _ _=>⟨aA.extract rfl rfl,bQ.extract rfl rfl⟩) ?_;refine aLS hJ (v:=.slice none 0 0) rfl BYD rfl (λ_ _ _=>⟨aA.assign rfl,bQ.assign⟩) ?_;refine aLS hJ (v:=cI 1) rfl BYD rfl (λ_ _ _=>⟨aA.assign rfl,bQ.assign⟩) ?_;exact aLZ hJ (CJ.sub (O0 hz λw2 h3=>hp w2 ((h1.sub λb x hb=>⟨hb.1,aAx hb.2 EP⟩).trans (h3.sub λb x hb=>hb.1▸h2 b (aAx hb.2 EP)))) (mH.sub ⟨rfl,rfl,trivial⟩))
 .obtain⟨A1,c1,rfl,h6,h7,h8⟩:=h5;have hl:(bS (aG f n)).length=n:=by rw[kW,aF]
  rw[hl]at h7;refine tY (λS g w=>MT Tryz.prog lo link.tWg Post .calm S (λ_ _=>False) g w) _ _ w' ?_;refine aLS hJ (v:=.tuple #[.slice A1 (bS (aG f n)).length c1,.nilIface]) rfl BYD rfl (λ_ _ _=>⟨aA.move rfl,bQ.move⟩) ?_;refine aLS hJ (v:=.slice A1 (bS (aG f n)).length c1) rfl BYD rfl (λ_ _ _=>⟨aA.extract rfl rfl,bQ.extract rfl rfl⟩) ?_;refine aLS hJ (v:=.nilIface) rfl BYD rfl (λ_ _ _=>⟨aA.extract rfl rfl,bQ.extract rfl rfl⟩) ?_;refine aLS hJ (v:=.slice A1 (bS (aG f n)).length c1) rfl BYD rfl (λ_ _ _=>⟨aA.assign rfl,bQ.assign⟩) ?_;refine aLS hJ (v:=.nilIface) rfl BYD rfl (λ_ _ _=>⟨aA.assign rfl,bQ.assign⟩) ?_;rw[hl];refine aLZ hJ (CJ.sub (nh (A1:=A1) (A2:=As) (c1:=c1) (c2:=c') h7 (λp hp=>let ⟨x1,x2,x3,cs,T,fz,x4,_⟩:=h8 p hp;⟨x1,x2,x3,cs,T,fz,x4⟩)
   (UW sD h3 λp hp=>⟨rfl,.inr ⟨p,hp,rfl⟩⟩) (λp hp=>?_) h1 h2 hm λw2 h6=>hp w2 ((h3.sub λb x hb=>⟨hb.1,.inl hb.2⟩).trans (h6.sub λb x hb=>h4 b x ⟨hb.1,.inl hb.2⟩))) (mH.sub ⟨rfl,rfl,rfl,trivial⟩))
  obtain⟨x1,x2,x3,cs,T,fz,x4⟩:=WN p hp;exact⟨x1,h4 _ _ ⟨rfl,.inr ⟨p,hp,rfl⟩⟩,x3,cs,T,fz,by rw[h3.all _ ⟨rfl,.inr ⟨p,hp,rfl⟩⟩];exact x4⟩
end
end Rk.Cw
namespace Rk.Al
open Go Go.Conc Go.Proofs Rk.fD Rk.Cw
variable{w:World}
variable{lo:Nat}
section
variable{Post:Value->World->Prop}{J Q:Act->World->Prop}
def O2{P:Program}{S:PS}{fn:Func}{f:FuncId}{a:Act}{todo:List Item}{x:Tmp}{v:Value}(hf:P.funcs[f]?=some fn)(hr:fn.results= #[.tmp x])(hi:P.inits.idxOf? f=none)(hd:a.defers=[])(hx:a.tmps[x]?=some v)(hp:∀w',bZ S w w'->Post v w'):
  MT P lo link.tWg Post .calm S (λ_ _=>False) (G {(base f).at a todo with mode:=.returning} []) w:=MT.step rfl λw1 h1 h2=>.ends (v:=v) (by
  have e:a.tmps.getD x undef=v:=by rw[aCd,hx];rfl
  have r1:=results_tmp hr a.tmps P w1;have r2:(results fn a.tmps).events P w1 #[]= #[]:=events_results_tmp hr _ _;rw[e]at r1;simp[G,base,stepG,unwind,doReturn,Frame.at,hd,hf,r1,r2,seen,GStep.after,hi]) (hp w1 (by rwa[Cw.or_false]at h1))
def ni{args:List Value}(hl:Nat.ble args.length 270=true)
  (hJ:∀a w',uB w w'->J a (gw w')->MT Tryz.prog lo link.tWg Post .calm (λb x=>x=none/\b<w'.heap.size) (λ_ _=>False) (G ((base 3).at a [.code ng]) []) w')
  (hQ:∀a w',uB w w'->Q a (gw w')->a.defers=[]/\∃v,a.tmps[6]?=some v/\∀w2,bZ (λb x=>x=none/\b<w'.heap.size) w' w2->Post v w2)
  (h:RE tz ng J Q 270 (AP args 0) UZ (gw w)):eV Tryz.prog Post (solo (G (Frame.enter Tryz.prog 3 args.toArray .normal) []) w) #[]:=by
 have hO:oY Tryz.prog Hy 3:=Ic (yR Tryz.func3 rfl) rfl;have hT:=DC hO args.toArray;have hb:(Tryz.f3).body=some UZ:=rfl;have he:=enter_at (P:=Tryz.prog) args.toArray Tryz.func3 hb;rw[he]at hT⊢;have wD:Ag ⟨args.toArray++Array.replicate ((Tryz.f3).ntmps-args.toArray.size) undef,[]⟩ 270 (AP args 0):=lp Tryz.ntmps3 hl;generalize (⟨args.toArray++Array.replicate ((Tryz.f3).ntmps-args.toArray.size) undef,[]⟩:Act)=a0 at hT wD⊢;have go:∀A2 V',(∀ch,A2.mode≠.panicking ch)->Steps tz (lone ((base 3).at a0 [.code UZ]) [c0 (stub Tryz.prog Hy)] (gw w)) (lone A2 [c0 (stub Tryz.prog Hy)] V')->
   (∀w',V'=gw w'->uB w w'->MT Tryz.prog lo link.tWg Post .calm (λb x=>x=none/\b<w'.heap.size) (λ_ _=>False) (G A2 []) w')->eV Tryz.prog Post (solo (G ((base 3).at a0 [.code UZ]) []) w) #[]:=λA2 V' hm hs hmt=>by
  rw[Om]at hs;obtain⟨n,hn⟩:=hs;obtain⟨w',h0,h1,h2,h3⟩:=ZK tFs Ol n _ [] w hT (λa ha=>by cases ha) A2 V' hn hm;obtain⟨u,h4,h5,_⟩:=h1 [];refine h5 Post #[] ?_;rw[Array.empty_append];exact TW (hmt w' h0 h3) (λb x hb=>hb) h4
 rcases h a0 wD (base 3) [] [c0 (stub Tryz.prog Hy)] with⟨a',V',h1,h2⟩|⟨a',V',t,h1,h2⟩
 .exact go _ V' (λch e=>by cases e) h2 λw' e hk=>hJ a' w' hk (e▸h1)
 .refine go _ V' (λch e=>by cases e) h2 λw' e hk=>?_;obtain⟨hd,v,h3,h4⟩:=hQ a' w' hk (e▸h1);exact O2 Tryz.func3 rfl BYK hd h3 h4
end
end Rk.Al
