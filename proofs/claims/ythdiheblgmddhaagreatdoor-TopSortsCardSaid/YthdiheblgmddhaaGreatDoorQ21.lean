/- Part of the proof of TopSorts. -/
import Derived.Test.YthdiheblgmddhaaGreatDoorQ20
set_option linter.all false
set_option maxHeartbeats 8000000
set_option maxRecDepth 100000
namespace Rk.Cw
open Go Go.Conc Go.RowKit Go.Proofs Rk.fD
abbrev nI(n:Nat):Value:=.int .i64 (n:Int)
def pW:Ty Tryz.prog 22 false 1 24 (.slice none 0 0):=aLt BYK (λ_=>BYK) rfl
def nW:Ty Tryz.prog 125 false 1 24 (.slice none 0 0):=aLt BYK (λ_=>BYK) rfl
def An:Tryz.prog.underlying 125=some (.slice 22):=BYK
section
variable{P:Program}{E:Env}{w:World}{t:TypeId}{x y:Operand}{xt yt:TypeId}{a b:Nat}{V:PS}
def aNN(hx:aM E x=some (nI a))(hy:aM E y=some (nI b))(h:a*b<=1000000):kQ P (.binOp .mul xt x y yt) t E w (nI (a*b)) V:=by
 have e:((a*b:Nat):Int)=(a:Int)*(b:Int):=BYS;refine⟨?_,bQ.mul hx hy⟩;unfold nI;rw[e];exact aA.mul hx hy (by rw[<-e];omega)
def aN8(hx:aM E x=some (nI a))(hy:aM E y=some (nI b))(h:a+b<=1000000):kQ P (.binOp .add xt x y yt) t E w (nI (a+b)) V:=by
 refine⟨?_,bQ.add hx hy⟩;have:=aA.add (P:=P) (w:=w) (t:=t) (xt:=xt) (yt:=yt) hx hy BYO;simpa[nI] using this
def aO9(hx:aM E x=some (nI a))(hy:aM E y=some (nI b))(h:a<=1000000)(hb:0<b):kQ P (.binOp .quo xt x y yt) t E w (nI (a/b)) V:=by
 refine⟨?_,bQ.quo hx hy BYO⟩;have:=aA.quo (P:=P) (w:=w) (t:=t) (xt:=xt) (yt:=yt) hx hy BYO BYO;simpa[nI] using this
end
def OD(A:Option Addr)(c lo:Nat):Option Addr:=if c=lo then A else A.map (·.add (lo*2))
structure Wk(w:World)(R:PS)(lb kb hb pb pk:Nat)(A:Option Addr)(n c k h:Nat)(f:Nat->It):Prop where
 lb:w.cell? ⟨lb,0,none⟩=some (.slice A n c)
 kb:w.cell? ⟨kb,0,none⟩=some (nI k)
 hb:w.cell? ⟨hb,0,none⟩=some (nI h)
 pb:w.cell? ⟨pb,0,none⟩=some (.slice (some ⟨pk,0,none⟩) h h)
 row:aE cB 2 w A n f
 seen:Seen w R A
 pk:∃cs T,w.heap[pk]?=some (.cells cs T (0,0))/\cs.size=h
 gb:GB<=w.heap.size
 err:aH n f=0
 nc:n<=c
 kh:k<h
 h6:h<=6
section
variable{w w1:World}{R S:PS}{lb kb hb pb pk:Nat}{A:Option Addr}{n c k h:Nat}{f:Nat->It}
def Wk.n60(hX:Wk w R lb kb hb pb pk A n c k h f):n<=60:=gR hX.err
def Wk.h0(hX:Wk w R lb kb hb pb pk A n c k h f):0<h:=by have:=hX.kh;omega
def Wk.b1(hX:Wk w R lb kb hb pb pk A n c k h f):k*n<=1000000:=by
 have h1:=hX.n60;have h2:=hX.kh;have h3:=hX.h6;have:k*n<=6*60:=Nat.mul_le_mul BYO h1;omega
def Wk.b2(hX:Wk w R lb kb hb pb pk A n c k h f):(k+1)*n<=1000000:=by
 have h1:=hX.n60;have h2:=hX.kh;have h3:=hX.h6;have:(k+1)*n<=6*60:=Nat.mul_le_mul BYO h1;omega
def Wk.le1(hX:Wk w R lb kb hb pb pk A n c k h f):k*n/h<=(k+1)*n/h:=Nat.div_le_div_right (aC1 n BYO)
def Wk.aAy(hX:Wk w R lb kb hb pb pk A n c k h f):(k+1)*n/h<=n:=by
 have h1:(k+1)*n<=h*n:=aC1 n hX.kh;exact Nat.div_le_of_le_mul h1
def Wk.le2(hX:Wk w R lb kb hb pb pk A n c k h f):(k+1)*n/h<=c:=aBS hX.aAy hX.nc
def Wk.aFY(hX:Wk w R lb kb hb pb pk A n c k h f)(ha:bZ R w w1)(hR:∀b,b=lb\/b=kb\/b=hb\/b=pb->R b none)(Xt:∃cs T,w1.heap[pk]?=some (.cells cs T (0,0))/\cs.size=h):Wk w1 R lb kb hb pb pk A n c k h f:=by
 have cell:∀b,b=lb\/b=kb\/b=hb\/b=pb->w1.cell? ⟨b,0,none⟩=w.cell? ⟨b,0,none⟩:=λb hb=>fB (ha.all b (hR b hb)) 0;refine⟨(cell _ BYS).trans hX.lb,(cell _ BYS).trans hX.kb,(cell _ BYS).trans hX.hb,(cell _ BYS).trans hX.pb,λhn=>?_,λp hp=>?_,Xt,aBS hX.gb ha.size,hX.err,hX.nc,hX.kh,hX.h6⟩
 .obtain⟨b,o,rfl,h1,h2⟩:=hX.row hn;have e:=ha.all b (hX.seen _ rfl).2.1;exact⟨b,o,rfl,aAx h1 ha.size,λi hi j u hu=>by rw[fB e];exact h2 i hi j u hu⟩
 .obtain⟨h1,h2,h3,h4⟩:=hX.seen p hp;exact⟨h1,h2,h3,by rw[ha.all _ h2];exact h4⟩
def Wk.iQ(hX:Wk w R lb kb hb pb pk A n c k h f)(ha:bZ (S.or R) w w1)(hR:∀b,b=lb\/b=kb\/b=hb\/b=pb->R b none)(hS:S pk (some k)):Wk w1 R lb kb hb pb pk A n c k h f:=by
 refine hX.aFY (ha.sub λ_ _ h=>.inr h) hR ?_;obtain⟨cs,T,h1,h2⟩:=hX.pk;obtain⟨c',h3,h4,_⟩:=ha.one pk k (.inl hS) cs T (0,0) h1;exact⟨c',T,h3,h4.trans h2⟩
def Wk.idx(hX:Wk w R lb kb hb pb pk A n c k h f){E:Env}{V:PS}{x y:Operand}{t:TypeId}(hx:aM E x=some (.slice (some ⟨pk,0,none⟩) h h))(hy:aM E y=some (nI k)):
  kQ Tryz.prog (.indexAddr 125 x y) t E w (.pointer (some ⟨pk,k,none⟩)) V:=by
 have h1:=aA.indexAddr (P:=Tryz.prog) (w:=w) (t:=t) An pW.size hx hy BYO (by have:=hX.kh;omega);have e:(⟨pk,0+(k:Int).toNat*1,none⟩:Addr)=⟨pk,k,none⟩:=BYS;rw[e]at h1;exact⟨h1,bQ.indexAddr An pW.size hx hy BYO (by have:=hX.kh;omega)⟩
def Wk.aKK(hX:Wk w R lb kb hb pb pk A n c k h f):aH ((k+1)*n/h-k*n/h) (λi=>f (k*n/h+i))=0:=by
 have h1:=sY hX.err;have h2:=hX.n60;have h3:=hX.aAy;have h4:=hX.le1;revert h3 h4;generalize (k+1)*n/h=hi;generalize k*n/h=lo;intro h3 h4;unfold aH;rw[if_neg BYO,if_pos (vM.2 λi hi=>h1 _ BYO)]
def Wk.aKL(hX:Wk w R lb kb hb pb pk A n c k h f):aE cB 2 w (OD A c (k*n/h)) ((k+1)*n/h-k*n/h) (λi=>f (k*n/h+i)):=λhn=>by
 have h3:=hX.aAy;have h4:=hX.nc;have h5:=hX.row;revert h3 hn;generalize (k+1)*n/h=hi;generalize k*n/h=lo;intro h3 hn;obtain⟨b,o,rfl,h1,h2⟩:=h5 BYO;refine⟨b,o+lo*2,?_,h1,λi hi j u hu=>?_⟩
 .unfold OD;rw[if_neg BYO];simp[Addr.add]
 .rw[<-h2 (lo+i) BYO j u hu]
  congr 2
  rw[aCL];omega
def Wk.aFZ(hX:Wk w R lb kb hb pb pk A n c k h f):Seen w (S.or R) (OD A c (k*n/h)):=λp hp=>by
 unfold OD at hp;split at hp
 .obtain⟨h1,h2,h3⟩:=hX.seen p hp;exact⟨h1,.inr h2,h3⟩
 .cases A with
  |none=>simp at hp
  |some q=>
   simp at hp;obtain⟨h1,h2,h3⟩:=hX.seen q rfl;subst hp;obtain⟨b,o,s⟩:=q;cases h1;unfold Addr.add;split
   .exact⟨rfl,.inr h2,h3⟩
   .exact⟨rfl,.inr h2,h3⟩
end
variable{ops:Array Oper}{vs:List (Option Value)}{N b o h lb kb hb pb pk n k:Nat}{E0:Env}{S R:PS}{w:World}{v:Value}{fz:Nat×Nat}{A:Option Addr}{l:List It}{a:Option Oper}{O:Nat->Prop}
def bot(P:Program):Frame:={(default:Frame) with fn:=P.funcs.size,defers:=[],mode:=.panicking [goexitEntry]}
section
variable{P:Program}{f:FuncId}{fn:Func}{c:Code}{caps:Array Value}
def QS(hf:P.funcs[f]?=some fn)(BY:(fn.name== "runtime.NumGoroutine")=false)(hb:fn.body=some c)(w:World):stepG P false (born P ⟨.fn (.func f) caps,#[]⟩) w=
  .go (G ((baseD f).at {tmps:=caps++Array.replicate (fn.ntmps-caps.size) undef,defers:=[]} [.code c]) [bot P]) w #[]:=by
 have h1:¬fn.name= "runtime.NumGoroutine" :=by simpa using BY
 have h2:=enter_atD (P:=P) caps hf hb;simp[born,stepG,unwind,callDeferred,invoke,callFunc,hf,h1,hb,seen_none,GStep.after,G,bot,<-h2]
def QT(hf:P.funcs[f]?=some fn)(hr:fn.results= #[])(T:Array Value)(todo:List Item):QuitsD P 2 0 (G {(baseD f).at ⟨T,[]⟩ todo with mode:=.returning} [bot P]):=by
 refine QuitsD.ctl (g':=G (bot P) []) rfl (λw=>?_) ?_
 .simp[G,stepG,unwind,doReturn,results,Frame.at,baseD,bot,hf,hr,seen,GStep.after,goexitEntry]
 refine QuitsD.ctl (g':={G (bot P) [] with status:=.finished}) rfl (λw=>?_) ⟨rfl,rfl⟩;simp[G,stepG,unwind,bot,goexitEntry,Frame.catches]
 try rfl
end
def Qk(Wg pk k:Nat)(l:List It)(w:World):Prop:=∃v,w.cell? ⟨pk,k,none⟩=some v/\Cut w (λb x=>x=none/\Wg<b) v l
abbrev US(Wg lb kb hb pb:Nat):Env:=[(0,.pointer (some ⟨Wg,0,none⟩)),(1,.pointer (some ⟨lb,0,none⟩)),(2,.pointer (some ⟨kb,0,none⟩)),(3,.pointer (some ⟨hb,0,none⟩)),(4,.pointer (some ⟨pb,0,none⟩))]
noncomputable def aK:Array Oper:=match Tryz.f63.body with
 |some (.seq _ (.region _ ops _))=>ops
 |_=> #[]
def Gd.start{ds:List Deferred}{l:Array Bool}{a:Act}(h:Gd ops [] N ds E0 l a):Gd ops vs N ds E0 l a:=⟨h.ad,h.size,λj d hj hd=>by
 obtain⟨v,hv,_⟩:=h.val j d hj hd;simp at hv,h.KN⟩
def Ox(n:Nat)(l:Array Bool):un n l<=n:=by
 have:=List.countP_le_length (p:=λi=> !l.getD i true) (l:=List.range n);simpa[un] using this
def UT{c:Array Value}{T:TypeId}(hS:S b (some o))(hc:w.heap[b]?=some (.cells c T fz)):Gu S R S w (w.setCell ⟨b,o,none⟩ v) #[]:=by
 refine⟨λ_ _ h=>h,λ_ _ h=>.inl h,by rw[Rk.fD.cL];exact aAB _,λb' _ _=>?_,rfl,rfl,rfl,λe he=>by simp at he⟩;by_cases e:b'=b
 .subst e;refine .inr ⟨c,c.setIfInBounds o v,T,fz,hc,by simp[World.setCell,aDI,hc],BYS,λj hj=>?_⟩;have:o≠j:=λe=>hj (e▸hS);exact aCM this
 .exact .inl (Rk.fD.eZ e)
def Jt{c:Array Value}{T:TypeId}(hc:w.heap[b]?=some (.cells c T (0,0)))(hs:c.size=h):∃cs T,(w.setCell ⟨b,o,none⟩ v).heap[b]?=some (.cells cs T (0,0))/\cs.size=h:=
 ⟨c.setIfInBounds o v,T,by simp[World.setCell,aDI,hc],by simpa using hs⟩
def tB{c:Array Value}{T:TypeId}(hc:w.heap[b]?=some (.cells c T fz))(hs:o<c.size):(w.setCell ⟨b,o,none⟩ v).cell? ⟨b,o,none⟩=some v:=by
 simp[World.cell?,World.setCell,aDI,hc,hs]
def Wk.st{c:Nat}{f:Nat->It}(hX:Wk w R lb kb hb pb pk A n c k h f)(hc:Cut w S v l){E:Env}{x y:Operand}{V:Event->Prop}
  (hx:aM E x=some (.pointer (some ⟨pk,k,none⟩)))(hy:aM E y=some v)(hV:V ⟨.cell ⟨pk,k,none⟩,true,false⟩):
  ∃T cs,w.heap[pk]?=some (.cells cs T (0,0))/\cs.size=h/\(∀t,jH Tryz.prog (.store 22 x y) t E w (w.setCell ⟨pk,k,none⟩ v))/\∀t,bQ Tryz.prog (.store 22 x y) t E w V:=by
 obtain⟨cs,T,h1,h2⟩:=hX.pk;obtain⟨A',c',rfl,_⟩:=hc;have h3:w.cell? ⟨pk,k,none⟩=some (cs[k]'(by have:=hX.kh;omega)):=by
  have:=hX.kh;simp[World.cell?,h1,h2,this]
 have h4:w.frozen? ⟨pk,k,none⟩=false:=by simp[World.frozen?,h1]
 exact⟨T,cs,h1,h2,λt=>aP5 pW hx hy rfl rfl h3 h4,λt=>aP7 pW hx hy rfl rfl h3 h4 hV⟩
section
variable{J:PS->Goroutine->World->Prop}{Q:World->Prop}{Wg:Nat}{c:Nat}{f:Nat->It}{ds:List Deferred}{bf:Frame}{cs:List Frame}{kk:List Item}
def KP(bY:mh ops E0 N=true)(js:List Nat)(j:Nat)(v:Value)(h:look E0 j=some v):look (xW ops vs js++E0) j=some v:=by
 induction js with
 |nil=>exact h
 |cons i r ih=>
  simp only[xW];split
  .rename_i d u h1 h2;simp only[aCq,look];cases e:Nat.beq d j with
   |false=>exact ih
   |true=>
    obtain rfl:=aD6 e;unfold kB at h1;cases ho:ops[i]? with
    |none=>rw[ho]at h1;simp at h1
    |some o=>
     rw[ho]at h1;rw[((UQ bY ho).2.1 d h1).2.1]at h;cases h
  .exact ih
def OPE{α:Type}{a:Option α}{o o':α}(h:a=some o)(e:a=some o':=by first|(simp only[List.getD_cons_zero,List.getD_cons_succ];exact rfl)|(simp only[aK,Tryz.f63,aDE,aCu,aCg];exact rfl)|(simp only[eU,Tryz.f96,aDE,aCu,aCg];exact rfl)|(simp only[aT,Tryz.f96,aDE,aCu,aCg];exact rfl)|(simp only[cM,Tryz.f66,aDE,aCu,aCg];exact rfl)):o=o':=aG6 (h.symm.trans e)
def OPC{o o':Oper}{D G:Prop}(h:a=some o)(hc:o.dst=none\/D)(e:a=some o':=by first|(simp only[aK,Tryz.f63,aDE,aCu,aCg];exact rfl)|(simp only[eU,Tryz.f96,aDE,aCu,aCg];exact rfl)|(simp only[aT,Tryz.f96,aDE,aCu,aCg];exact rfl)|(simp only[cM,Tryz.f66,aDE,aCu,aCg];exact rfl))(n1:¬o'.dst=none:=by simp)(n2:¬D:=by simp):G:=by
 obtain rfl:=aG6 (h.symm.trans e);exact(hc.elim n1 n2).elim
def OPN{o:Oper}{G:Prop}(h:a=some o)(e:a=none:=by first|(simp only[aK,Tryz.f63,aDE,aCu,aCg];simp;done)|(simp only[eU,Tryz.f96,aDE,aCu,aCg];simp;done)|(simp only[aT,Tryz.f96,aDE,aCu,aCg];simp;done)|(simp only[cM,Tryz.f66,aDE,aCu,aCg];simp;done)):G:=by rw[e]at h;cases h
abbrev kS(pk k:Nat):PS:=λb x=>b=pk/\x=some k
def QU:mh aK (US Wg lb kb hb pb) 27=true:=by rfl
def aF0(hJ:pF Tryz.prog false R Q J)(fF:bf.kind≠.early)(hX:Wk w R lb kb hb pb pk A n c k h f)(hR:∀b,b=lb\/b=kb\/b=hb\/b=pb->R b none)
  (hn:CJ J bf cs 27 ds ((kS pk k).or λb x=>x=none/\O b) (US Wg lb kb hb pb) kk w):∀fuel tt listed a,(∀j∈[17,22],listed[j]?=some true)->(∀j∈([]:List Nat),listed[j]?≠some true)->un aK.size listed<=fuel->Gd aK [some (.slice (some ⟨pk,0,none⟩) h h),some (nI k),some (.slice A n c),some (nI k),some (.slice A n c),some (nI n),some (nI (k*n)),some (nI h),some (nI (k*n/h)),some (nI k),some (nI (k+1)),some (.slice A n c),some (nI n),some (nI ((k+1)*n)),some (nI h),some (nI ((k+1)*n/h)),some (.slice (OD A c (k*n/h)) ((k+1)*n/h-k*n/h) (c-k*n/h)),some (.tuple #[v,.nilIface]),some (.tuple #[v,.nilIface]),some v,some .nilIface,some (.pointer (some ⟨pk,k,none⟩)),none] 27 ds (US Wg lb kb hb pb) listed a->
   J ((kS pk k).or λb x=>x=none/\O b) (G (bf.at a (.inRegion aK (Region.linearise.go .any aK fuel tt listed [])::kk)) cs) w:=by
 refine CJ.any hJ fF QU _ [17,22] [] BYS (λi o d v' HW ho hd hv w1 ha hq=>?_) (λi o fuel tt listed a OP yD ho hc hi hu hg=>?_) (λ_=>hn.sub ?_)
 .replace hX:=hX.iQ (ha.sub λb x hx=>hx.imp .inl id) hR ⟨rfl,rfl⟩
  match i with
  |0=>
   obtain rfl:=OPE ho;obtain rfl:=OPE hv;exact⟨aJC nW rfl (hX.pb),aLQ nW rfl (hX.pb) (.inr ⟨rfl,.inl (.inr (hR _ BYS)),rfl⟩)⟩
  |1=>
   obtain rfl:=OPE ho;obtain rfl:=OPE hv;exact⟨aJC aN rfl (hX.kb),aLQ aN rfl (hX.kb) (.inr ⟨rfl,.inl (.inr (hR _ BYS)),rfl⟩)⟩
  |2=>
   obtain rfl:=OPE ho;obtain rfl:=OPE hv;exact⟨aJC pW rfl (hX.lb),aLQ pW rfl (hX.lb) (.inr ⟨rfl,.inl (.inr (hR _ BYS)),rfl⟩)⟩
  |3=>
   obtain rfl:=OPE ho;obtain rfl:=OPE hv;exact⟨aJC aN rfl (hX.kb),aLQ aN rfl (hX.kb) (.inr ⟨rfl,.inl (.inr (hR _ BYS)),rfl⟩)⟩
  |4=>
   obtain rfl:=OPE ho;obtain rfl:=OPE hv;exact⟨aJC pW rfl (hX.lb),aLQ pW rfl (hX.lb) (.inr ⟨rfl,.inl (.inr (hR _ BYS)),rfl⟩)⟩
  |5=>
   obtain rfl:=OPE ho;obtain rfl:=OPE hv;exact⟨aL3 aY rfl,aMW aY rfl⟩
  |6=>
   obtain rfl:=OPE ho;obtain rfl:=OPE hv;exact aNN rfl rfl (hX.b1)
  |7=>
   obtain rfl:=OPE ho;obtain rfl:=OPE hv;exact⟨aJC aN rfl (hX.hb),aLQ aN rfl (hX.hb) (.inr ⟨rfl,.inl (.inr (hR _ BYS)),rfl⟩)⟩
  |8=>
   obtain rfl:=OPE ho;obtain rfl:=OPE hv;exact aO9 rfl rfl (hX.b1) hX.h0
  |9=>
   obtain rfl:=OPE ho;obtain rfl:=OPE hv;exact⟨aJC aN rfl (hX.kb),aLQ aN rfl (hX.kb) (.inr ⟨rfl,.inl (.inr (hR _ BYS)),rfl⟩)⟩
  |10=>
   obtain rfl:=OPE ho;obtain rfl:=OPE hv;exact aN8 (b:=1) rfl rfl (by have:=hX.kh;have:=hX.h6;omega)
  |11=>
   obtain rfl:=OPE ho;obtain rfl:=OPE hv;exact⟨aJC pW rfl (hX.lb),aLQ pW rfl (hX.lb) (.inr ⟨rfl,.inl (.inr (hR _ BYS)),rfl⟩)⟩
  |12=>
   obtain rfl:=OPE ho;obtain rfl:=OPE hv;exact⟨aL3 aY rfl,aMW aY rfl⟩
  |13=>
   obtain rfl:=OPE ho;obtain rfl:=OPE hv;exact aNN rfl rfl (hX.b2)
  |14=>
   obtain rfl:=OPE ho;obtain rfl:=OPE hv;exact⟨aJC aN rfl (hX.hb),aLQ aN rfl (hX.hb) (.inr ⟨rfl,.inl (.inr (hR _ BYS)),rfl⟩)⟩
  |15=>
   obtain rfl:=OPE ho;obtain rfl:=OPE hv;exact aO9 rfl rfl (hX.b2) hX.h0
  |16=>
   obtain rfl:=OPE ho;obtain rfl:=OPE hv;exact⟨aOS aY aL rfl rfl rfl hX.le1 hX.le2,aPM aY aL rfl rfl rfl hX.le1 hX.le2⟩
  |17=>
   obtain rfl:=OPE ho;obtain rfl:=OPE hv;exact absurd BYS HW
  |18=>
   obtain rfl:=OPE ho;obtain rfl:=OPE hv;exact⟨aA.move rfl,bQ.move⟩
  |19=>
   obtain rfl:=OPE ho;obtain rfl:=OPE hv;exact⟨aA.extract rfl rfl,bQ.extract rfl rfl⟩
  |20=>
   obtain rfl:=OPE ho;obtain rfl:=OPE hv;exact⟨aA.extract rfl rfl,bQ.extract rfl rfl⟩
  |21=>
   obtain rfl:=OPE ho;obtain rfl:=OPE hv;exact hX.idx rfl rfl
  |22=>
   obtain rfl:=OPE ho;cases hd
  |i+23=>exact OPN ho
 .match i with
  |0=>exact OPC ho hc
  |1=>exact OPC ho hc
  |2=>exact OPC ho hc
  |3=>exact OPC ho hc
  |4=>exact OPC ho hc
  |5=>exact OPC ho hc
  |6=>exact OPC ho hc
  |7=>exact OPC ho hc
  |8=>exact OPC ho hc
  |9=>exact OPC ho hc
  |10=>exact OPC ho hc
  |11=>exact OPC ho hc
  |12=>exact OPC ho hc
  |13=>exact OPC ho hc
  |14=>exact OPC ho hc
  |15=>exact OPC ho hc
  |16=>exact OPC ho hc
  |17=>
   exact absurd BYS OP
  |18=>exact OPC ho hc
  |19=>exact OPC ho hc
  |20=>exact OPC ho hc
  |21=>exact OPC ho hc
  |22=>
   exact absurd BYS OP
  |i+23=>exact OPN ho
 .exact KP QU _
def second(hJ:pF Tryz.prog false R Q J)(fF:bf.kind≠.early)(hX:Wk w R lb kb hb pb pk A n c k h f)(hR:∀b,b=lb\/b=kb\/b=hb\/b=pb->R b none)(Xt:∀x,¬R pk x)(hO:¬O pk)(zP:Cut w (λb x=>x=none/\O b) v l)
  (hn:∀w3,w3.cell? ⟨pk,k,none⟩=some v->Cut w3 (λb x=>x=none/\O b) v l->CJ J bf cs 27 ds ((kS pk k).or λb x=>x=none/\O b) (US Wg lb kb hb pb) kk w3):∀fuel tt listed a,(∀j∈[17],listed[j]?=some true)->(∀j∈[22],listed[j]?≠some true)->un aK.size listed<=fuel->Gd aK [some (.slice (some ⟨pk,0,none⟩) h h),some (nI k),some (.slice A n c),some (nI k),some (.slice A n c),some (nI n),some (nI (k*n)),some (nI h),some (nI (k*n/h)),some (nI k),some (nI (k+1)),some (.slice A n c),some (nI n),some (nI ((k+1)*n)),some (nI h),some (nI ((k+1)*n/h)),some (.slice (OD A c (k*n/h)) ((k+1)*n/h-k*n/h) (c-k*n/h)),some (.tuple #[v,.nilIface]),some (.tuple #[v,.nilIface]),some v,some .nilIface,some (.pointer (some ⟨pk,k,none⟩)),none] 27 ds (US Wg lb kb hb pb) listed a->
   J ((kS pk k).or λb x=>x=none/\O b) (G (bf.at a (.inRegion aK (Region.linearise.go .any aK fuel tt listed [])::kk)) cs) w:=by
 refine CJ.any hJ fF QU _ [17] [22] (by intro j hj;simp at hj;subst hj;exact⟨BYD,.inl rfl⟩) (λi o d v' HW ho hd hv w1 ha hq=>?_) (λi o fuel tt listed a OP yD ho hc hi hu hg=>?_) (λe=>?_)
 .replace hX:=hX.iQ (ha.sub λb x hx=>hx.imp .inl id) hR ⟨rfl,rfl⟩
  match i with
  |0=>
   obtain rfl:=OPE ho;obtain rfl:=OPE hv;exact⟨aJC nW rfl (hX.pb),aLQ nW rfl (hX.pb) (.inr ⟨rfl,.inl (.inr (hR _ BYS)),rfl⟩)⟩
  |1=>
   obtain rfl:=OPE ho;obtain rfl:=OPE hv;exact⟨aJC aN rfl (hX.kb),aLQ aN rfl (hX.kb) (.inr ⟨rfl,.inl (.inr (hR _ BYS)),rfl⟩)⟩
  |2=>
   obtain rfl:=OPE ho;obtain rfl:=OPE hv;exact⟨aJC pW rfl (hX.lb),aLQ pW rfl (hX.lb) (.inr ⟨rfl,.inl (.inr (hR _ BYS)),rfl⟩)⟩
  |3=>
   obtain rfl:=OPE ho;obtain rfl:=OPE hv;exact⟨aJC aN rfl (hX.kb),aLQ aN rfl (hX.kb) (.inr ⟨rfl,.inl (.inr (hR _ BYS)),rfl⟩)⟩
  |4=>
   obtain rfl:=OPE ho;obtain rfl:=OPE hv;exact⟨aJC pW rfl (hX.lb),aLQ pW rfl (hX.lb) (.inr ⟨rfl,.inl (.inr (hR _ BYS)),rfl⟩)⟩
  |5=>
   obtain rfl:=OPE ho;obtain rfl:=OPE hv;exact⟨aL3 aY rfl,aMW aY rfl⟩
  |6=>
   obtain rfl:=OPE ho;obtain rfl:=OPE hv;exact aNN rfl rfl (hX.b1)
  |7=>
   obtain rfl:=OPE ho;obtain rfl:=OPE hv;exact⟨aJC aN rfl (hX.hb),aLQ aN rfl (hX.hb) (.inr ⟨rfl,.inl (.inr (hR _ BYS)),rfl⟩)⟩
  |8=>
   obtain rfl:=OPE ho;obtain rfl:=OPE hv;exact aO9 rfl rfl (hX.b1) hX.h0
  |9=>
   obtain rfl:=OPE ho;obtain rfl:=OPE hv;exact⟨aJC aN rfl (hX.kb),aLQ aN rfl (hX.kb) (.inr ⟨rfl,.inl (.inr (hR _ BYS)),rfl⟩)⟩
  |10=>
   obtain rfl:=OPE ho;obtain rfl:=OPE hv;exact aN8 (b:=1) rfl rfl (by have:=hX.kh;have:=hX.h6;omega)
  |11=>
   obtain rfl:=OPE ho;obtain rfl:=OPE hv;exact⟨aJC pW rfl (hX.lb),aLQ pW rfl (hX.lb) (.inr ⟨rfl,.inl (.inr (hR _ BYS)),rfl⟩)⟩
  |12=>
   obtain rfl:=OPE ho;obtain rfl:=OPE hv;exact⟨aL3 aY rfl,aMW aY rfl⟩
  |13=>
   obtain rfl:=OPE ho;obtain rfl:=OPE hv;exact aNN rfl rfl (hX.b2)
  |14=>
   obtain rfl:=OPE ho;obtain rfl:=OPE hv;exact⟨aJC aN rfl (hX.hb),aLQ aN rfl (hX.hb) (.inr ⟨rfl,.inl (.inr (hR _ BYS)),rfl⟩)⟩
  |15=>
   obtain rfl:=OPE ho;obtain rfl:=OPE hv;exact aO9 rfl rfl (hX.b2) hX.h0
  |16=>
   obtain rfl:=OPE ho;obtain rfl:=OPE hv;exact⟨aOS aY aL rfl rfl rfl hX.le1 hX.le2,aPM aY aL rfl rfl rfl hX.le1 hX.le2⟩
  |17=>
   obtain rfl:=OPE ho;obtain rfl:=OPE hv;exact absurd BYS HW
  |18=>
   obtain rfl:=OPE ho;obtain rfl:=OPE hv;exact⟨aA.move rfl,bQ.move⟩
  |19=>
   obtain rfl:=OPE ho;obtain rfl:=OPE hv;exact⟨aA.extract rfl rfl,bQ.extract rfl rfl⟩
  |20=>
   obtain rfl:=OPE ho;obtain rfl:=OPE hv;exact⟨aA.extract rfl rfl,bQ.extract rfl rfl⟩
  |21=>
   obtain rfl:=OPE ho;obtain rfl:=OPE hv;exact hX.idx rfl rfl
  |22=>
   obtain rfl:=OPE ho;cases hd
  |i+23=>exact OPN ho
 .match i with
  |0=>exact OPC ho hc
  |1=>exact OPC ho hc
  |2=>exact OPC ho hc
  |3=>exact OPC ho hc
  |4=>exact OPC ho hc
  |5=>exact OPC ho hc
  |6=>exact OPC ho hc
  |7=>exact OPC ho hc
  |8=>exact OPC ho hc
  |9=>exact OPC ho hc
  |10=>exact OPC ho hc
  |11=>exact OPC ho hc
  |12=>exact OPC ho hc
  |13=>exact OPC ho hc
  |14=>exact OPC ho hc
  |15=>exact OPC ho hc
  |16=>exact OPC ho hc
  |17=>
   exact absurd BYS OP
  |18=>exact OPC ho hc
  |19=>exact OPC ho hc
  |20=>exact OPC ho hc
  |21=>exact OPC ho hc
  |22=>
   obtain rfl:=OPE ho;refine jU hJ (E:=Jr aK [some (.slice (some ⟨pk,0,none⟩) h h),some (nI k),some (.slice A n c),some (nI k),some (.slice A n c),some (nI n),some (nI (k*n)),some (nI h),some (nI (k*n/h)),some (nI k),some (nI (k+1)),some (.slice A n c),some (nI n),some (nI ((k+1)*n)),some (nI h),some (nI ((k+1)*n/h)),some (.slice (OD A c (k*n/h)) ((k+1)*n/h-k*n/h) (c-k*n/h)),some (.tuple #[v,.nilIface]),some (.tuple #[v,.nilIface]),some v,some .nilIface,some (.pointer (some ⟨pk,k,none⟩)),none] _ 22) rfl rfl fF (hg.ready hi) λw1 ha hq=>?_;have zY:=hX.iQ (ha.sub λb x hx=>hx.imp .inl id) hR ⟨rfl,rfl⟩;have WG:=zP.iQ (ha.sub λb x hx=>.inl (.inr hx));obtain⟨T,dc,nB,HS,dI,hse⟩:=zY.st WG (x:=.tmp 26) (y:=.tmp 24) (E:=Jr aK [some (.slice (some ⟨pk,0,none⟩) h h),some (nI k),some (.slice A n c),some (nI k),some (.slice A n c),some (nI n),some (nI (k*n)),some (nI h),some (nI (k*n/h)),some (nI k),some (nI (k+1)),some (.slice A n c),some (nI n),some (nI ((k+1)*n)),some (nI h),some (nI ((k+1)*n/h)),some (.slice (OD A c (k*n/h)) ((k+1)*n/h-k*n/h) (c-k*n/h)),some (.tuple #[v,.nilIface]),some (.tuple #[v,.nilIface]),some v,some .nilIface,some (.pointer (some ⟨pk,k,none⟩)),none] (US Wg lb kb hb pb) 22) (V:=L2 ((kS pk k).or λb x=>x=none/\O b) R) rfl rfl (.inr ⟨rfl,.inl (.inr (.inl ⟨rfl,rfl⟩))⟩);refine⟨_,w1.setCell ⟨pk,k,none⟩ v,dI _,hse _,UT (.inl ⟨rfl,rfl⟩) nB,?_⟩;refine aF0 hJ fF (zY.aFY (nV Xt) hR (Jt nB HS)) hR (hn _ (tB nB (by have:=zY.kh;omega)) (WG.iQ (nV λx hx=>hO hx.2))) fuel tt _ _ ?_ BYS hu (hg.done QU rfl (λp hp=>(hg.ahead hi hp).1) (λj u hj=>hj) (λd hd=>by cases hd) λ_=>⟨_,rfl⟩);intro j hj;simp at hj;rcases hj with rfl|rfl
   .rw[aCM BYO];exact(hg.ahead hi BYD).1
   .rw[aCr (by rw[hg.size];decide)]
  |i+23=>exact OPN ho
 .cases e
def first(hJ:pF Tryz.prog false R Q J)(fF:bf.kind≠.early)(hX:Wk w R lb kb hb pb pk A n c k h f)(hR:∀b,b=lb\/b=kb\/b=hb\/b=pb->R b none)(Xt:∀x,¬R pk x)(hV:mQ w.heap.size ((kS pk k).or R))
  (hn:∀(O:Nat->Prop) v w3,(∀b,O b->w.heap.size<=b)->w3.cell? ⟨pk,k,none⟩=some v->Cut w3 (λb x=>x=none/\O b) v (bS (aG (λi=>f (k*n/h+i)) ((k+1)*n/h-k*n/h)))->CJ J bf cs 27 ds ((kS pk k).or λb x=>x=none/\O b) (US Wg lb kb hb pb) kk w3):
  ∀fuel tt listed a,(∀j∈([]:List Nat),listed[j]?=some true)->(∀j∈[17,22],listed[j]?≠some true)->un aK.size listed<=fuel->Gd aK [some (.slice (some ⟨pk,0,none⟩) h h),some (nI k),some (.slice A n c),some (nI k),some (.slice A n c),some (nI n),some (nI (k*n)),some (nI h),some (nI (k*n/h)),some (nI k),some (nI (k+1)),some (.slice A n c),some (nI n),some (nI ((k+1)*n)),some (nI h),some (nI ((k+1)*n/h)),some (.slice (OD A c (k*n/h)) ((k+1)*n/h-k*n/h) (c-k*n/h)),none,none,none,none,some (.pointer (some ⟨pk,k,none⟩)),none] 27 ds (US Wg lb kb hb pb) listed a->
   J (kS pk k) (G (bf.at a (.inRegion aK (Region.linearise.go .any aK fuel tt listed [])::kk)) cs) w:=by
 refine CJ.any hJ fF QU _ [] [17,22] (by intro j hj;simp at hj;rcases hj with rfl|rfl;exact⟨BYD,.inr rfl⟩;exact⟨BYD,.inl rfl⟩) (λi o d v' HW ho hd hv w1 ha hq=>?_) (λi o fuel tt listed a OP yD ho hc hi hu hg=>?_) (λe=>by cases e)
 .replace hX:=hX.iQ ha hR ⟨rfl,rfl⟩
  match i with
  |0=>
   obtain rfl:=OPE ho;obtain rfl:=OPE hv;exact⟨aJC nW rfl (hX.pb),aLQ nW rfl (hX.pb) (.inr ⟨rfl,.inl (.inr (hR _ BYS)),rfl⟩)⟩
  |1=>
   obtain rfl:=OPE ho;obtain rfl:=OPE hv;exact⟨aJC aN rfl (hX.kb),aLQ aN rfl (hX.kb) (.inr ⟨rfl,.inl (.inr (hR _ BYS)),rfl⟩)⟩
  |2=>
   obtain rfl:=OPE ho;obtain rfl:=OPE hv;exact⟨aJC pW rfl (hX.lb),aLQ pW rfl (hX.lb) (.inr ⟨rfl,.inl (.inr (hR _ BYS)),rfl⟩)⟩
  |3=>
   obtain rfl:=OPE ho;obtain rfl:=OPE hv;exact⟨aJC aN rfl (hX.kb),aLQ aN rfl (hX.kb) (.inr ⟨rfl,.inl (.inr (hR _ BYS)),rfl⟩)⟩
  |4=>
   obtain rfl:=OPE ho;obtain rfl:=OPE hv;exact⟨aJC pW rfl (hX.lb),aLQ pW rfl (hX.lb) (.inr ⟨rfl,.inl (.inr (hR _ BYS)),rfl⟩)⟩
  |5=>
   obtain rfl:=OPE ho;obtain rfl:=OPE hv;exact⟨aL3 aY rfl,aMW aY rfl⟩
  |6=>
   obtain rfl:=OPE ho;obtain rfl:=OPE hv;exact aNN rfl rfl (hX.b1)
  |7=>
   obtain rfl:=OPE ho;obtain rfl:=OPE hv;exact⟨aJC aN rfl (hX.hb),aLQ aN rfl (hX.hb) (.inr ⟨rfl,.inl (.inr (hR _ BYS)),rfl⟩)⟩
  |8=>
   obtain rfl:=OPE ho;obtain rfl:=OPE hv;exact aO9 rfl rfl (hX.b1) hX.h0
  |9=>
   obtain rfl:=OPE ho;obtain rfl:=OPE hv;exact⟨aJC aN rfl (hX.kb),aLQ aN rfl (hX.kb) (.inr ⟨rfl,.inl (.inr (hR _ BYS)),rfl⟩)⟩
  |10=>
   obtain rfl:=OPE ho;obtain rfl:=OPE hv;exact aN8 (b:=1) rfl rfl (by have:=hX.kh;have:=hX.h6;omega)
  |11=>
   obtain rfl:=OPE ho;obtain rfl:=OPE hv;exact⟨aJC pW rfl (hX.lb),aLQ pW rfl (hX.lb) (.inr ⟨rfl,.inl (.inr (hR _ BYS)),rfl⟩)⟩
  |12=>
   obtain rfl:=OPE ho;obtain rfl:=OPE hv;exact⟨aL3 aY rfl,aMW aY rfl⟩
  |13=>
   obtain rfl:=OPE ho;obtain rfl:=OPE hv;exact aNN rfl rfl (hX.b2)
  |14=>
   obtain rfl:=OPE ho;obtain rfl:=OPE hv;exact⟨aJC aN rfl (hX.hb),aLQ aN rfl (hX.hb) (.inr ⟨rfl,.inl (.inr (hR _ BYS)),rfl⟩)⟩
  |15=>
   obtain rfl:=OPE ho;obtain rfl:=OPE hv;exact aO9 rfl rfl (hX.b2) hX.h0
  |16=>
   obtain rfl:=OPE ho;obtain rfl:=OPE hv;exact⟨aOS aY aL rfl rfl rfl hX.le1 hX.le2,aPM aY aL rfl rfl rfl hX.le1 hX.le2⟩
  |17=>
   obtain rfl:=OPE ho;simp at hv
  |18=>
   obtain rfl:=OPE ho;simp at hv
  |19=>
   obtain rfl:=OPE ho;simp at hv
  |20=>
   obtain rfl:=OPE ho;simp at hv
  |21=>
   obtain rfl:=OPE ho;obtain rfl:=OPE hv;exact hX.idx rfl rfl
  |22=>
   obtain rfl:=OPE ho;cases hd
  |i+23=>exact OPN ho
 .match i with
  |0=>exact OPC ho hc
  |1=>exact OPC ho hc
  |2=>exact OPC ho hc
  |3=>exact OPC ho hc
  |4=>exact OPC ho hc
  |5=>exact OPC ho hc
  |6=>exact OPC ho hc
  |7=>exact OPC ho hc
  |8=>exact OPC ho hc
  |9=>exact OPC ho hc
  |10=>exact OPC ho hc
  |11=>exact OPC ho hc
  |12=>exact OPC ho hc
  |13=>exact OPC ho hc
  |14=>exact OPC ho hc
  |15=>exact OPC ho hc
  |16=>exact OPC ho hc
  |17=>
   obtain rfl:=OPE ho;refine L3 hJ (E:=Jr aK [some (.slice (some ⟨pk,0,none⟩) h h),some (nI k),some (.slice A n c),some (nI k),some (.slice A n c),some (nI n),some (nI (k*n)),some (nI h),some (nI (k*n/h)),some (nI k),some (nI (k+1)),some (.slice A n c),some (nI n),some (nI ((k+1)*n)),some (nI h),some (nI ((k+1)*n/h)),some (.slice (OD A c (k*n/h)) ((k+1)*n/h-k*n/h) (c-k*n/h)),none,none,none,none,some (.pointer (some ⟨pk,k,none⟩)),none] _ 17) rfl rfl fF rfl Tryz.func5 BYK rfl (hg.ready hi) rfl ?_;refine Tx hJ hX.aKL hX.aFZ hV hX.gb hX.aKK λO w2 v oP h2 zP=>?_;rw[Frame.finish_at];refine second hJ fF (hX.iQ h2 hR ⟨rfl,rfl⟩) hR Xt (λho=>?_) zP (λw3 h3 h4=>hn O v w3 oP h3 h4) fuel tt _ _ ?_ ?_ hu (hg.done QU rfl (λp hp=>(hg.ahead hi hp).1) (λj u hj=>?_) (λd hd=>⟨_,rfl,by cases hd;rfl⟩) λe=>by cases e)
   .have h5:=oP pk ho;have h6:=hV pk _ (.inl ⟨rfl,rfl⟩);omega
   .intro j hj;simp at hj;subst hj;rw[aCr (by rw[hg.size];decide)]
   .intro j hj;simp at hj;subst hj;rw[aCM BYO];exact yD 22 BYS
   .match j with
    |0=>exact hj
    |1=>exact hj
    |2=>exact hj
    |3=>exact hj
    |4=>exact hj
    |5=>exact hj
    |6=>exact hj
    |7=>exact hj
    |8=>exact hj
    |9=>exact hj
    |10=>exact hj
    |11=>exact hj
    |12=>exact hj
    |13=>exact hj
    |14=>exact hj
    |15=>exact hj
    |16=>exact hj
    |17=>simp at hj
    |18=>simp at hj
    |19=>simp at hj
    |20=>simp at hj
    |21=>exact hj
    |22=>exact hj
    |i+23=>simp at hj
  |18=>exact absurd ((hg.ahead hi (j:=17) BYD).2 rfl) (by simp[kB,aK,Tryz.f63])
  |19=>exact absurd ((hg.ahead hi (j:=18) BYD).2 rfl) (by simp[kB,aK,Tryz.f63])
  |20=>exact absurd ((hg.ahead hi (j:=18) BYD).2 rfl) (by simp[kB,aK,Tryz.f63])
  |21=>exact OPC ho hc
  |22=>exact absurd ((hg.ahead hi (j:=17) BYD).2 rfl) (by simp[kB,aK,Tryz.f63])
  |i+23=>exact OPN ho
end
def M3{Wg:Nat}{c:Nat}{f:Nat->It}(hX:Wk w R lb kb hb pb pk A n c k h f)(hR:∀b,b=lb\/b=kb\/b=hb\/b=pb->R b none)(Xt:∀x,¬R pk x)
  (hV:mQ w.heap.size (PS.or (λb x=>b=pk/\x=some k) R))(Ey:Wg<w.heap.size):
  KT Tryz.prog link.tWg (.wg Wg (Qk Wg pk k (bS (aG (λi=>f (k*n/h+i)) ((k+1)*n/h-k*n/h))))) .work (λb x=>b=pk/\x=some k) R
   (born Tryz.prog ⟨.fn (.func 63) #[.pointer (some ⟨Wg,0,none⟩),.pointer (some ⟨lb,0,none⟩),.pointer (some ⟨kb,0,none⟩),.pointer (some ⟨hb,0,none⟩),.pointer (some ⟨pb,0,none⟩)],#[]⟩) w:=by
 have hJ:=KT.own (P:=Tryz.prog) (ty:=link.tWg) (I:=.wg Wg (Qk Wg pk k (bS (aG (λi=>f (k*n/h+i)) ((k+1)*n/h-k*n/h))))) (R:=R);have st:=λw1=>QS (P:=Tryz.prog) (caps:= #[.pointer (some ⟨Wg,0,none⟩),.pointer (some ⟨lb,0,none⟩),.pointer (some ⟨kb,0,none⟩),.pointer (some ⟨hb,0,none⟩),.pointer (some ⟨pb,0,none⟩)]) Tryz.func63 BYK rfl w1;refine hJ.ctl rfl st ?_;clear st;suffices key:CJ (λS g w=>KT Tryz.prog link.tWg (.wg Wg (Qk Wg pk k (bS (aG (λi=>f (k*n/h+i)) ((k+1)*n/h-k*n/h))))) .work S R g w) (baseD 63) [bot Tryz.prog] 27 [] (λb x=>b=pk/\x=some k) (US Wg lb kb hb pb) [.code _] w from
  key _ ⟨by simp[Tryz.ntmps63],rfl,λj v hj=>by
   have:=iY [.pointer (some ⟨Wg,0,none⟩),.pointer (some ⟨lb,0,none⟩),.pointer (some ⟨kb,0,none⟩),.pointer (some ⟨hb,0,none⟩),.pointer (some ⟨pb,0,none⟩)] 0 j v hj;obtain⟨_,h2⟩:=this;rw[aD5]at h2;rcases j with _|_|_|_|_|j<;>simp at h2<;>subst h2<;>simp[aGx]⟩
 refine CJ.seq hJ (CJ.region hJ ?_);simp only[aBT,aBJ,aBv,Nat.reduceAdd,aAn,List.range,List.range.loop];refine CJ.defer hJ (xs:=[.tmp 0]) (us:=[.pointer (some ⟨Wg,0,none⟩)]) rfl rfl BYD rfl rfl rfl (aLZ hJ ?_);refine CJ.draw hJ mixed λtt a hg=>?_;refine first hJ BYD hX hR Xt hV (λO v w3 oP h1 h2=>?_) _ tt _ a (λj hj=>by cases hj) (λj hj=>?_) (Ox _ _) hg.start
 .have hp:∀w1,bZ ((kS pk k).or λb x=>x=none/\O b) w3 w1->Qk Wg pk k (bS (aG (λi=>f (k*n/h+i)) ((k+1)*n/h-k*n/h))) w1:=λw1 ha=>by
   refine⟨v,?_,(h2.iQ (ha.sub λb x hx=>.inr hx)).mono λb hb=>⟨hb.1,aAx Ey (oP b hb.2)⟩⟩;simp only[World.cell?]at h1⊢;cases hc:w3.heap[pk]? with
   |none=>rw[hc]at h1;simp at h1
   |some x=>
    rw[hc]at h1;cases x with
    |cells cs T fz=>
     obtain⟨c',h3,_,h4⟩:=ha.one pk k (.inl ⟨rfl,rfl⟩) cs T fz hc;rw[h3];simp at h1⊢;rw[h4];exact h1
    |_=>simp at h1
  intro a ha;refine hJ.ctl rfl (λ_=>stepG_end) ?_;refine hJ.ctl rfl (λ_=>stepG_unwind_enter ha.defers QR.f_done BYK (rfl:(Go.Conc.Lib.doneFn link).body=some (body_done link))) ?_;refine KT.pre rfl BYS λw1 wD WV=>?_;exact done QR rfl (QT Tryz.func63 rfl _ _) ⟨WV.1,λw2 h3=>hp w2 ((wD.sub λ_ _ x=>.inl x).trans h3)⟩
 .simp[aGf]
def cT{V:PS}{w1:World}{b:Nat}(ha:bZ V w w1)(hV:V b none\/V b (some o))(h:w.cell? ⟨b,o,none⟩=some v):w1.cell? ⟨b,o,none⟩=some v:=by
 rcases hV with hV|hV
 .rw[fB (ha.all b hV)];exact h
 .simp only[World.cell?]at h⊢;cases hc:w.heap[b]? with
  |none=>rw[hc]at h;simp at h
  |some x=>
   rw[hc]at h;cases x with
   |cells cs T fz=>
    obtain⟨c',h3,_,h4⟩:=ha.one b o hV cs T fz hc;rw[h3];simp at h⊢;rw[h4];exact h
   |_=>simp at h
structure Gk(w:World)(R:PS)(ob kb pb bR pk r m k n c:Nat)(v0 v1:Value)(l0 l1:List It):Prop where
 ob:w.cell? ⟨ob,0,none⟩=some (.slice (some ⟨bR,0,none⟩) m m)
 kb:w.cell? ⟨kb,0,none⟩=some (nI k)
 pb:w.cell? ⟨pb,0,none⟩=some (.slice (some ⟨pk,0,none⟩) n c)
 oc:w.cell? ⟨bR,k,none⟩=some (.chan (some r))
 p0:w.cell? ⟨pk,2*k,none⟩=some v0
 c0:Cut w R v0 l0
 p1:2*k+1<n->w.cell? ⟨pk,2*k+1,none⟩=some v1
 c1:2*k+1<n->Cut w R v1 l1
 km:k<m
 kn:2*k<n
 n6:n<=6
 gb:GB<=w.heap.size
structure Gr(R:PS)(ob kb pb bR pk k:Nat):Prop where
 ob:R ob none
 kb:R kb none
 pb:R pb none
 pk:R pk none
 oc:R bR (some k)
section
variable{w1:World}{ob bR r m c:Nat}{v0 v1:Value}{l0 l1:List It}
def Gk.iQ(h:Gk w R ob kb pb bR pk r m k n c v0 v1 l0 l1)(g:Gr R ob kb pb bR pk k)(ha:bZ R w w1):Gk w1 R ob kb pb bR pk r m k n c v0 v1 l0 l1:=
 ⟨cT ha (.inl g.ob) h.ob,cT ha (.inl g.kb) h.kb,cT ha (.inl g.pb) h.pb,cT ha (.inr g.oc) h.oc,cT ha (.inl g.pk) h.p0,h.c0.iQ ha,λx=>cT ha (.inl g.pk) (h.p1 x),λx=>(h.c1 x).iQ ha,h.km,h.kn,h.n6,aBS h.gb ha.size⟩
end
section
variable{P:Program}{ty:TypeId}{Q:Value->World->Prop}{b:Frame}{cs:List Frame}{r i:Nat}{ds:List Deferred}{E:Env}{k:List Item}{a:Act}{x y:Operand}{t:TypeId}{pos:String}{after:Array Edge}
def aQs(ho:ops[i]?=some ⟨none,.send x y,t,pos,after,none⟩)(hk:b.kind≠.early)(hE:Ad a N ds E)(hx:aM E x=some (.chan (some r)))(hy:aM E y=some v)(hp:∀w1,bZ S w w1->Q v w1)
  (hn:KT P ty (.ch r Q) (.iG v) S R (G (b.at a (.inRegion ops []::k)) cs) w):KT P ty (.ch r Q) .work S R (G (b.at a (.inRegion ops [i]::k)) cs) w:=by
 refine KT.step rfl BYS λw1 ha _=>?_;have hr:(execOp a.eval ⟨none,.send x y,t,pos,after,none⟩).run P w1=.ok (.comm #[scase r v (.tuple #[])] true .send) w1:=by
  simp[execOp,scase,hE.eval hx,hE.eval hy]
 have he:listed P b.fn a ⟨none,.send x y,t,pos,after,none⟩ w1= #[]:=by
  unfold listed;have:(execOp a.eval ⟨none,.send x y,t,pos,after,none⟩).events P w1 #[]= #[]:=by simp[execOp,go_sem,hE.eval hx,hE.eval hy]
  rw[this,seen_none]
 refine .send (v:=v) (z:=.tuple #[]) (g2:=G (b.at a (.inRegion ops [i]::k)) cs) rfl ?_ (λw2 h2=>hp w2 ((ha.sub λ_ _ h=>.inl h).trans h2)) ?_
 .rw[stepG_comm ho rfl hk hr,he]
 .rw[served_G];have e:a.put ((ops[i]?).bind (·.dst)) undef=a:=by rw[ho];rfl
  rw[e];exact hn.rely ha
def aOx{g g':Goroutine}(hs:g.status=.running)(h:∀w1,stepG P false g w1=.go g' w1 #[])(hn:KT P ty (.ch r Q) (.iG v) S R g' w):KT P ty (.ch r Q) (.iG v) S R g w:=
 KT.step hs BYS λw1 ha _=>.idle BYS (h w1) (hn.rely ha)
def aRm{todo:List Item}{sG:Array TypeId}{T:TypeId}{sc:Array Bool}{q:Nat}(hd:a.defers={target:=.builtin .close sG T sc,args:= #[.chan (some r)]}::ds)
  (hq:(P.funcs[b.fn]?).any (·.norace)=false)(hm:mayWake P (G {b.at a todo with mode:=.returning} cs)=true)(hn:QuitsD P q 0 (G {b.at ⟨a.tmps,ds⟩ todo with mode:=.returning} cs)):
  KT P ty (.ch r Q) (.iG v) S R (G {b.at a todo with mode:=.returning} cs) w:=by
 refine KT.step rfl BYS λw1 ha hp=>?_;obtain⟨buf,s,rc,hc⟩:=hp;exact .close rfl hm hc (yV hd hc hq) (KT.quit hn)
end
variable{E:Env}{V:PS}{x y:Operand}{t:TypeId}{m c:Nat}
def xF:Ty Tryz.prog 177 false 1 8 (.chan none):=aLt BYK (λ_=>BYK) rfl
def AX:Ty Tryz.prog 176 false 1 24 (.slice none 0 0):=aLt BYK (λ_=>BYK) rfl
def KQ:Tryz.prog.underlying 176=some (.slice 177):=BYK
def kQ.idx{e T:TypeId}{agg:Bool}{bytes:Nat}{z:Value}(un:Tryz.prog.underlying T=some (.slice e))(ty:Ty Tryz.prog e agg 1 bytes z)(hx:aM E x=some (.slice (some ⟨b,0,none⟩) m c))(hy:aM E y=some (nI k))(hk:k<m):
  kQ Tryz.prog (.indexAddr T x y) t E w (.pointer (some ⟨b,k,none⟩)) V:=by
 have h1:=aA.indexAddr (P:=Tryz.prog) (w:=w) (t:=t) un ty.size hx hy BYO BYO;have e:(⟨b,0+(k:Int).toNat*1,none⟩:Addr)=⟨b,k,none⟩:=BYS;rw[e]at h1;exact⟨h1,bQ.indexAddr un ty.size hx hy BYO BYO⟩
noncomputable def eU:Array Oper:=match Tryz.f96.body with
 |some (.seq _ (.seq (.seq _ (.cond _ (.seq (.region _ ops _) _) _)) _))=>ops
 |_=> #[]
noncomputable def aT:Array Oper:=match Tryz.f96.body with
 |some (.seq _ (.seq _ (.seq (.region _ ops _) _)))=>ops
 |_=> #[]
abbrev GU(ob kb pb:Nat):Env:=[(0,.pointer (some ⟨ob,0,none⟩)),(1,.pointer (some ⟨kb,0,none⟩)),(2,.pointer (some ⟨pb,0,none⟩))]
section
variable{ob bR r:Nat}{v0 v1:Value}{l0 l1:List It}
def Gk.b1(h:Gk w R ob kb pb bR pk r m k n c v0 v1 l0 l1):2*k<=1000000:=by have:=h.kn;have:=h.n6;omega
def Gk.b2(h:Gk w R ob kb pb bR pk r m k n c v0 v1 l0 l1):2*k+1<=1000000:=by have:=h.kn;have:=h.n6;omega
def aAz:mh eU (GU ob kb pb) 44=true:=by rfl
def UU:mh aT (GU ob kb pb) 44=true:=by rfl
variable{J:PS->Goroutine->World->Prop}{Q:World->Prop}{ds:List Deferred}{bf:Frame}{cs:List Frame}{kk:List Item}
def g3b(hJ:pF Tryz.prog false R Q J)(fF:bf.kind≠.early)(hX:Gk w R ob kb pb bR pk r m k n c v0 v1 l0 l1)(hG:Gr R ob kb pb bR pk k)(dD:2*k+1<n)
  (hn:CJ J bf cs 44 ds S ((3,v)::GU ob kb pb) kk w):∀fuel tt listed a,(∀j∈[11],listed[j]?=some true)->(∀j∈([]:List Nat),listed[j]?≠some true)->un aT.size listed<=fuel->Gd aT [some (.slice (some ⟨pk,0,none⟩) n c),some (nI k),some (nI (2*k)),some (.pointer (some ⟨pk,2*k,none⟩)),some v0,some (.slice (some ⟨pk,0,none⟩) n c),some (nI k),some (nI (2*k)),some (nI (2*k+1)),some (.pointer (some ⟨pk,2*k+1,none⟩)),some v1,some (.tuple #[v,.nilIface]),some (.tuple #[v,.nilIface]),some v,some .nilIface,some v,some .nilIface] 44 ds (GU ob kb pb) listed a->
   J S (G (bf.at a (.inRegion aT (Region.linearise.go .any aT fuel tt listed [])::kk)) cs) w:=by
 refine CJ.any hJ fF UU _ [11] [] BYS (λi o d v' HW ho hd hv w1 ha hq=>?_) (λi o fuel tt listed a OP yD ho hc hi hu hg=>?_) (λ_=>hn.sub ?_)
 .replace hX:=hX.iQ hG (ha.sub λ_ _ h=>.inr h)
  match i with
  |0=>
   obtain rfl:=OPE ho;obtain rfl:=OPE hv;exact⟨aJC nW rfl (hX.pb),aLQ nW rfl (hX.pb) (.inr ⟨rfl,.inl (.inr hG.pb),rfl⟩)⟩
  |1=>
   obtain rfl:=OPE ho;obtain rfl:=OPE hv;exact⟨aJC aN rfl (hX.kb),aLQ aN rfl (hX.kb) (.inr ⟨rfl,.inl (.inr hG.kb),rfl⟩)⟩
  |2=>
   obtain rfl:=OPE ho;obtain rfl:=OPE hv;exact aNN (a:=2) rfl rfl hX.b1
  |3=>
   obtain rfl:=OPE ho;obtain rfl:=OPE hv;exact kQ.idx An pW rfl rfl hX.kn
  |4=>
   obtain rfl:=OPE ho;obtain rfl:=OPE hv;exact⟨aJC pW rfl (hX.p0),aLQ pW rfl (hX.p0) (.inr ⟨rfl,.inl (.inr hG.pk),rfl⟩)⟩
  |5=>
   obtain rfl:=OPE ho;obtain rfl:=OPE hv;exact⟨aJC nW rfl (hX.pb),aLQ nW rfl (hX.pb) (.inr ⟨rfl,.inl (.inr hG.pb),rfl⟩)⟩
  |6=>
   obtain rfl:=OPE ho;obtain rfl:=OPE hv;exact⟨aJC aN rfl (hX.kb),aLQ aN rfl (hX.kb) (.inr ⟨rfl,.inl (.inr hG.kb),rfl⟩)⟩
  |7=>
   obtain rfl:=OPE ho;obtain rfl:=OPE hv;exact aNN (a:=2) rfl rfl hX.b1
  |8=>
   obtain rfl:=OPE ho;obtain rfl:=OPE hv;exact aN8 (b:=1) rfl rfl hX.b2
  |9=>
   obtain rfl:=OPE ho;obtain rfl:=OPE hv;exact kQ.idx An pW rfl rfl dD
  |10=>
   obtain rfl:=OPE ho;obtain rfl:=OPE hv;exact⟨aJC pW rfl (hX.p1 dD),aLQ pW rfl (hX.p1 dD) (.inr ⟨rfl,.inl (.inr hG.pk),rfl⟩)⟩
  |11=>
   obtain rfl:=OPE ho;obtain rfl:=OPE hv;exact absurd BYS HW
  |12=>
   obtain rfl:=OPE ho;obtain rfl:=OPE hv;exact⟨aA.move rfl,bQ.move⟩
  |13=>
   obtain rfl:=OPE ho;obtain rfl:=OPE hv;exact⟨aA.extract rfl rfl,bQ.extract rfl rfl⟩
  |14=>
   obtain rfl:=OPE ho;obtain rfl:=OPE hv;exact⟨aA.extract rfl rfl,bQ.extract rfl rfl⟩
  |15=>
   obtain rfl:=OPE ho;obtain rfl:=OPE hv;exact⟨aA.assign rfl,bQ.assign⟩
  |16=>
   obtain rfl:=OPE ho;obtain rfl:=OPE hv;exact⟨aA.assign rfl,bQ.assign⟩
  |i+17=>exact OPN ho
 .match i with
  |0=>exact OPC ho hc
  |1=>exact OPC ho hc
  |2=>exact OPC ho hc
  |3=>exact OPC ho hc
  |4=>exact OPC ho hc
  |5=>exact OPC ho hc
  |6=>exact OPC ho hc
  |7=>exact OPC ho hc
  |8=>exact OPC ho hc
  |9=>exact OPC ho hc
  |10=>exact OPC ho hc
  |11=>
   exact absurd BYS OP
  |12=>exact OPC ho hc
  |13=>exact OPC ho hc
  |14=>exact OPC ho hc
  |15=>exact OPC ho hc
  |16=>exact OPC ho hc
  |i+17=>exact OPN ho
 .intro j u hj;simp only[look]at hj;cases e:Nat.beq 3 j with
  |true=>
   rw[e]at hj;simp at hj;subst hj;rw[<-aD6 e];rfl
  |false=>
   rw[e]at hj;exact KP UU _ _ _ hj
def g3a(hJ:pF Tryz.prog false R Q J)(fF:bf.kind≠.early)(hX:Gk w R ob kb pb bR pk r m k n c v0 v1 l0 l1)(hG:Gr R ob kb pb bR pk k)(dD:2*k+1<n)(hV:mQ w.heap.size (S.or R))(he:eC l0.length (lf l0) l1.length (lf l1)=0)
  (hn:∀(O:Nat->Prop) v w2,(∀b,O b->w.heap.size<=b)->Gk w2 R ob kb pb bR pk r m k n c v0 v1 l0 l1->Cut w2 (λb x=>x=none/\O b) v (bS (l0++l1))->CJ J bf cs 44 ds (S.or λb x=>x=none/\O b) ((3,v)::GU ob kb pb) kk w2):
  ∀fuel tt listed a,(∀j∈([]:List Nat),listed[j]?=some true)->(∀j∈[11],listed[j]?≠some true)->un aT.size listed<=fuel->Gd aT [some (.slice (some ⟨pk,0,none⟩) n c),some (nI k),some (nI (2*k)),some (.pointer (some ⟨pk,2*k,none⟩)),some v0,some (.slice (some ⟨pk,0,none⟩) n c),some (nI k),some (nI (2*k)),some (nI (2*k+1)),some (.pointer (some ⟨pk,2*k+1,none⟩)),some v1,none,none,none,none,none,none] 44 ds (GU ob kb pb) listed a->
   J S (G (bf.at a (.inRegion aT (Region.linearise.go .any aT fuel tt listed [])::kk)) cs) w:=by
 refine CJ.any hJ fF UU _ [] [11] (by intro j hj;simp at hj;subst hj;exact⟨BYD,.inr rfl⟩) (λi o d v' HW ho hd hv w1 ha hq=>?_) (λi o fuel tt listed a OP yD ho hc hi hu hg=>?_) (λe=>by cases e)
 .replace hX:=hX.iQ hG (ha.sub λ_ _ h=>.inr h)
  match i with
  |0=>
   obtain rfl:=OPE ho;obtain rfl:=OPE hv;exact⟨aJC nW rfl (hX.pb),aLQ nW rfl (hX.pb) (.inr ⟨rfl,.inl (.inr hG.pb),rfl⟩)⟩
  |1=>
   obtain rfl:=OPE ho;obtain rfl:=OPE hv;exact⟨aJC aN rfl (hX.kb),aLQ aN rfl (hX.kb) (.inr ⟨rfl,.inl (.inr hG.kb),rfl⟩)⟩
  |2=>
   obtain rfl:=OPE ho;obtain rfl:=OPE hv;exact aNN (a:=2) rfl rfl hX.b1
  |3=>
   obtain rfl:=OPE ho;obtain rfl:=OPE hv;exact kQ.idx An pW rfl rfl hX.kn
  |4=>
   obtain rfl:=OPE ho;obtain rfl:=OPE hv;exact⟨aJC pW rfl (hX.p0),aLQ pW rfl (hX.p0) (.inr ⟨rfl,.inl (.inr hG.pk),rfl⟩)⟩
  |5=>
   obtain rfl:=OPE ho;obtain rfl:=OPE hv;exact⟨aJC nW rfl (hX.pb),aLQ nW rfl (hX.pb) (.inr ⟨rfl,.inl (.inr hG.pb),rfl⟩)⟩
  |6=>
   obtain rfl:=OPE ho;obtain rfl:=OPE hv;exact⟨aJC aN rfl (hX.kb),aLQ aN rfl (hX.kb) (.inr ⟨rfl,.inl (.inr hG.kb),rfl⟩)⟩
  |7=>
   obtain rfl:=OPE ho;obtain rfl:=OPE hv;exact aNN (a:=2) rfl rfl hX.b1
  |8=>
   obtain rfl:=OPE ho;obtain rfl:=OPE hv;exact aN8 (b:=1) rfl rfl hX.b2
  |9=>
   obtain rfl:=OPE ho;obtain rfl:=OPE hv;exact kQ.idx An pW rfl rfl dD
  |10=>
   obtain rfl:=OPE ho;obtain rfl:=OPE hv;exact⟨aJC pW rfl (hX.p1 dD),aLQ pW rfl (hX.p1 dD) (.inr ⟨rfl,.inl (.inr hG.pk),rfl⟩)⟩
  |11=>
   obtain rfl:=OPE ho;simp at hv
  |12=>
   obtain rfl:=OPE ho;simp at hv
  |13=>
   obtain rfl:=OPE ho;simp at hv
  |14=>
   obtain rfl:=OPE ho;simp at hv
  |15=>
   obtain rfl:=OPE ho;simp at hv
  |16=>
   obtain rfl:=OPE ho;simp at hv
  |i+17=>exact OPN ho
 .match i with
  |0=>exact OPC ho hc
  |1=>exact OPC ho hc
  |2=>exact OPC ho hc
  |3=>exact OPC ho hc
  |4=>exact OPC ho hc
  |5=>exact OPC ho hc
  |6=>exact OPC ho hc
  |7=>exact OPC ho hc
  |8=>exact OPC ho hc
  |9=>exact OPC ho hc
  |10=>exact OPC ho hc
  |11=>
   obtain rfl:=OPE ho;obtain⟨A0,c0,e0,hc0,hr0,hs0⟩:=hX.c0;obtain⟨A1,c1,e1,WG,EJ,uP⟩:=hX.c1 dD;refine L3 hJ (E:=Jr aT [some (.slice (some ⟨pk,0,none⟩) n c),some (nI k),some (nI (2*k)),some (.pointer (some ⟨pk,2*k,none⟩)),some v0,some (.slice (some ⟨pk,0,none⟩) n c),some (nI k),some (nI (2*k)),some (nI (2*k+1)),some (.pointer (some ⟨pk,2*k+1,none⟩)),some v1,none,none,none,none,none,none] _ 11) (us:=[v0,v1]) rfl rfl fF rfl Tryz.func97 BYK rfl (hg.ready hi) rfl ?_;rw[e0,e1];refine Jq hJ hr0 (λp hp=>let ⟨x,y,z,cs,T,fz,e,_⟩:=hs0 p hp;⟨x,.inr y,z,cs,T,fz,e⟩) EJ (λp hp=>let ⟨x,y,z,cs,T,fz,e,_⟩:=uP p hp;⟨x,.inr y,z,cs,T,fz,e⟩) hc0 WG hV hX.gb he λO w2 v oP h2 zP=>?_;rw[Frame.finish_at];rw[dE,dE]at zP;have Wo:=hX.iQ hG (h2.sub λ_ _ h=>.inr h);refine g3b hJ fF Wo hG dD (hn O v w2 oP Wo zP) fuel tt _ _ ?_ BYS hu (hg.done UU rfl (λp hp=>(hg.ahead hi hp).1) (λj u hj=>?_) (λd hd=>⟨_,rfl,by cases hd;rfl⟩) λe=>by cases e)
   .intro j hj;simp at hj;subst hj;rw[aCr (by rw[hg.size];decide)]
   .match j with
    |0=>exact hj
    |1=>exact hj
    |2=>exact hj
    |3=>exact hj
    |4=>exact hj
    |5=>exact hj
    |6=>exact hj
    |7=>exact hj
    |8=>exact hj
    |9=>exact hj
    |10=>exact hj
    |11=>simp at hj
    |12=>simp at hj
    |13=>simp at hj
    |14=>simp at hj
    |15=>simp at hj
    |16=>simp at hj
    |i+17=>simp at hj
  |12=>exact absurd ((hg.ahead hi (j:=11) BYD).2 rfl) (by simp[kB,aT,Tryz.f96])
  |13=>exact absurd ((hg.ahead hi (j:=12) BYD).2 rfl) (by simp[kB,aT,Tryz.f96])
  |14=>exact absurd ((hg.ahead hi (j:=12) BYD).2 rfl) (by simp[kB,aT,Tryz.f96])
  |15=>exact absurd ((hg.ahead hi (j:=13) BYD).2 rfl) (by simp[kB,aT,Tryz.f96])
  |16=>exact absurd ((hg.ahead hi (j:=14) BYD).2 rfl) (by simp[kB,aT,Tryz.f96])
  |i+17=>exact OPN ho
end
def aRz{P:Program}{xt yt:TypeId}{a:Nat}{u:Bool}(hx:aM E x=some (nI a))(hy:aM E y=some (nI b))(hu:decide (a=b)=u):kQ P (.binOp .eql xt x y yt) t E w (.bool u) V:=by
 refine⟨?_,aTH hx hy⟩;have h1:=aO6 (P:=P) (w:=w) (t:=t) (xt:=xt) (yt:=yt) hx hy;have e:decide ((a:Int)=(b:Int))=u:=by rw[<-hu];exact decide_eq_decide.2 Int.ofNat_inj
 rwa[e]at h1
section
variable{ty:TypeId}{Qp:Value->World->Prop}{ob bR r:Nat}{v0 v1:Value}{l0 l1:List It}{ds:List Deferred}{bf:Frame}{cs:List Frame}{kk:List Item}
def g2(fF:bf.kind≠.early)(hX:Gk w R ob kb pb bR pk r m k n c v0 v1 l0 l1)(hG:Gr R ob kb pb bR pk k)(hp:∀w1,bZ S w w1->Qp v0 w1)
  (hn:∀a,Ad a 44 ds (GU ob kb pb)->KT Tryz.prog ty (.ch r Qp) (.iG v0) S R (G (bf.at a kk) cs) w):∀fuel tt listed a,(∀j∈([]:List Nat),listed[j]?=some true)->(∀j∈[9],listed[j]?≠some true)->un eU.size listed<=fuel->Gd eU [some (.slice (some ⟨bR,0,none⟩) m m),some (nI k),some (.pointer (some ⟨bR,k,none⟩)),some (.chan (some r)),some (.slice (some ⟨pk,0,none⟩) n c),some (nI k),some (nI (2*k)),some (.pointer (some ⟨pk,2*k,none⟩)),some v0,none] 44 ds (GU ob kb pb) listed a->
   KT Tryz.prog ty (.ch r Qp) .work S R (G (bf.at a (.inRegion eU (Region.linearise.go .any eU fuel tt listed [])::kk)) cs) w:=by
 refine CJ.any (KT.own (P:=Tryz.prog) (ty:=ty) (I:=.ch r Qp) (R:=R)) fF aAz _ [] [9] (by intro j hj;simp at hj;subst hj;exact⟨BYD,.inl rfl⟩) (λi o d v' HW ho hd hv w1 ha hq=>?_) (λi o fuel tt listed a OP yD ho hc hi hu hg=>?_) (λe=>by cases e)
 .replace hX:=hX.iQ hG (ha.sub λ_ _ h=>.inr h)
  match i with
  |0=>
   obtain rfl:=OPE ho;obtain rfl:=OPE hv;exact⟨aJC AX rfl (hX.ob),aLQ AX rfl (hX.ob) (.inr ⟨rfl,.inl (.inr hG.ob),rfl⟩)⟩
  |1=>
   obtain rfl:=OPE ho;obtain rfl:=OPE hv;exact⟨aJC aN rfl (hX.kb),aLQ aN rfl (hX.kb) (.inr ⟨rfl,.inl (.inr hG.kb),rfl⟩)⟩
  |2=>
   obtain rfl:=OPE ho;obtain rfl:=OPE hv;exact kQ.idx KQ xF rfl rfl hX.km
  |3=>
   obtain rfl:=OPE ho;obtain rfl:=OPE hv;exact⟨aJC xF rfl (hX.oc),aLQ xF rfl (hX.oc) (.inr ⟨rfl,.inr (.inr hG.oc),rfl⟩)⟩
  |4=>
   obtain rfl:=OPE ho;obtain rfl:=OPE hv;exact⟨aJC nW rfl (hX.pb),aLQ nW rfl (hX.pb) (.inr ⟨rfl,.inl (.inr hG.pb),rfl⟩)⟩
  |5=>
   obtain rfl:=OPE ho;obtain rfl:=OPE hv;exact⟨aJC aN rfl (hX.kb),aLQ aN rfl (hX.kb) (.inr ⟨rfl,.inl (.inr hG.kb),rfl⟩)⟩
  |6=>
   obtain rfl:=OPE ho;obtain rfl:=OPE hv;exact aNN (a:=2) rfl rfl hX.b1
  |7=>
   obtain rfl:=OPE ho;obtain rfl:=OPE hv;exact kQ.idx An pW rfl rfl hX.kn
  |8=>
   obtain rfl:=OPE ho;obtain rfl:=OPE hv;exact⟨aJC pW rfl (hX.p0),aLQ pW rfl (hX.p0) (.inr ⟨rfl,.inl (.inr hG.pk),rfl⟩)⟩
  |9=>
   obtain rfl:=OPE ho;cases hd
  |i+10=>exact OPN ho
 .match i with
  |0=>exact OPC ho hc
  |1=>exact OPC ho hc
  |2=>exact OPC ho hc
  |3=>exact OPC ho hc
  |4=>exact OPC ho hc
  |5=>exact OPC ho hc
  |6=>exact OPC ho hc
  |7=>exact OPC ho hc
  |8=>exact OPC ho hc
  |9=>
   obtain rfl:=OPE ho;have l3:=(hg.ahead hi (j:=3) BYD).1;have l8:=(hg.ahead hi (j:=8) BYD).1;have l2:=hg.KN 3 l3 2 BYD;have l0:=hg.KN 2 l2 0 BYD;have l1:=hg.KN 2 l2 1 BYD;have l7:=hg.KN 8 l8 7 BYD;have l4:=hg.KN 7 l7 4 BYD;have l6:=hg.KN 7 l7 6 BYD;have l5:=hg.KN 6 l6 5 BYD;have hs9:(listed.setIfInBounds 9 true)[9]?=some true:=aCr (by rw[hg.size];decide);have cQ:∀j,j≠9->listed[j]?=some true->(listed.setIfInBounds 9 true)[j]?=some true:=λj hj h=>by rw[aCM (Ne.symm hj)];exact h
   rw[ml λj hj=>?_]
   .refine aQs rfl fF (hg.ready hi) rfl rfl hp ?_;exact aOx rfl (λ_=>stepG_region_end) (hn _ hg.ad)
   .match j,hj with
    |0,_=>exact cQ 0 BYO l0
    |1,_=>exact cQ 1 BYO l1
    |2,_=>exact cQ 2 BYO l2
    |3,_=>exact cQ 3 BYO l3
    |4,_=>exact cQ 4 BYO l4
    |5,_=>exact cQ 5 BYO l5
    |6,_=>exact cQ 6 BYO l6
    |7,_=>exact cQ 7 BYO l7
    |8,_=>exact cQ 8 BYO l8
    |9,_=>exact hs9
    |j+10,hj=>exact absurd hj (by simp[eU,Tryz.f96])
  |i+10=>exact OPN ho
end
def Ju{ty:TypeId}{Qp:Value->World->Prop}{ob bR r:Nat}{v0 v1:Value}{l0 l1:List It}(hX:Gk w R ob kb pb bR pk r m k n c v0 v1 l0 l1)(hG:Gr R ob kb pb bR pk k)(hV:mQ w.heap.size (PS.or (λ_ _=>False) R))
  (he:2*k+1<n->eC l0.length (lf l0) l1.length (lf l1)=0)(si:2*k+1=n->∀w,Qp v0 w){B0:Nat}(b7:B0<w.heap.size)(hq1:2*k+1<n->∀w v,Cut w (λb x=>x=none/\B0<b) v (bS (l0++l1))->Qp v w):
  KT Tryz.prog ty (.ch r Qp) .work (λ_ _=>False) R (born Tryz.prog ⟨.fn (.func 96) #[.pointer (some ⟨ob,0,none⟩),.pointer (some ⟨kb,0,none⟩),.pointer (some ⟨pb,0,none⟩)],#[]⟩) w:=by
 have hJ:=KT.own (P:=Tryz.prog) (ty:=ty) (I:=.ch r Qp) (R:=R);have st:=λw1=>QS (P:=Tryz.prog) (caps:= #[.pointer (some ⟨ob,0,none⟩),.pointer (some ⟨kb,0,none⟩),.pointer (some ⟨pb,0,none⟩)]) Tryz.func96 BYK rfl w1;refine hJ.ctl rfl st ?_;clear st;suffices key:CJ (λS g w=>KT Tryz.prog ty (.ch r Qp) .work S R g w) (baseD 96) [bot Tryz.prog] 44 [] (λ_ _=>False) (GU ob kb pb) [.code _] w from
  key _ ⟨by simp[Tryz.ntmps96],rfl,λj v hj=>by
   have:=iY [.pointer (some ⟨ob,0,none⟩),.pointer (some ⟨kb,0,none⟩),.pointer (some ⟨pb,0,none⟩)] 0 j v hj;obtain⟨_,h2⟩:=this;rw[aD5]at h2;rcases j with _|_|_|j<;>simp at h2<;>subst h2<;>simp[aGx]⟩
 have fin:∀(S:PS) (v:Value) (w2:World) (T:Array Value) (todo:List Item) (sG:Array TypeId) (T':TypeId) (sc:Array Bool),KT Tryz.prog ty (.ch r Qp) (.iG v) S R (G {(baseD 96).at ⟨T,[{target:=.builtin .close sG T' sc,args:= #[.chan (some r)]}]⟩ todo with mode:=.returning} [bot Tryz.prog]) w2:=λS v w2 T todo sG T' sc=>
  aRm rfl (by rw[show(baseD 96).fn=96 from rfl,Tryz.func96];rfl) rfl (QT Tryz.func96 rfl _ _)
 refine CJ.seq hJ (CJ.region hJ ?_);simp only[aBT,aBJ,aBv,Nat.reduceAdd,aAn,List.range,List.range.loop];refine aLS hJ (v:=(.slice (some ⟨bR,0,none⟩) m m)) rfl BYD rfl (λw1 ha _=>by have hX:=hX.iQ hG (ha.sub λ_ _ h=>.inr h);exact⟨aJC AX rfl (hX.ob),aLQ AX rfl (hX.ob) (.inr ⟨rfl,.inl (.inr hG.ob),rfl⟩)⟩) ?_;refine aLS hJ (v:=nI k) rfl BYD rfl (λw1 ha _=>by have hX:=hX.iQ hG (ha.sub λ_ _ h=>.inr h);exact⟨aJC aN rfl (hX.kb),aLQ aN rfl (hX.kb) (.inr ⟨rfl,.inl (.inr hG.kb),rfl⟩)⟩) ?_;refine aLS hJ (v:=(.pointer (some ⟨bR,k,none⟩))) rfl BYD rfl (λw1 ha _=>by have hX:=hX.iQ hG (ha.sub λ_ _ h=>.inr h);exact kQ.idx KQ xF rfl rfl hX.km) ?_;refine aLS hJ (v:=(.chan (some r))) rfl BYD rfl (λw1 ha _=>by have hX:=hX.iQ hG (ha.sub λ_ _ h=>.inr h);exact⟨aJC xF rfl (hX.oc),aLQ xF rfl (hX.oc) (.inr ⟨rfl,.inr (.inr hG.oc),rfl⟩)⟩) ?_;refine aS2 hJ (d:=⟨.builtin .close #[177] 0 #[false],#[.chan (some r)]⟩) rfl rfl BYD rfl (λρ hρ w=>?_) (aLZ hJ ?_)
 .have:=hρ (.tmp 8) (.chan (some r)) rfl;constructor
  .simp[execOp,resolve,this]
  .simp[execOp,go_sem,resolve,this]
 refine CJ.sub (E':=GU ob kb pb) (CJ.seq hJ (CJ.seq hJ (CJ.region hJ ?_))) (λj v hj=>by
  have:=iY [.pointer (some ⟨ob,0,none⟩),.pointer (some ⟨kb,0,none⟩),.pointer (some ⟨pb,0,none⟩)] 0 j v hj;obtain⟨_,h2⟩:=this;rw[aD5]at h2;rcases j with _|_|_|j<;>simp at h2<;>subst h2<;>rfl)
 simp only[aBT,aBJ,aBv,Nat.reduceAdd,aAn,List.range,List.range.loop];refine aLS hJ (v:=nI k) rfl BYD rfl (λw1 ha _=>by have hX:=hX.iQ hG (ha.sub λ_ _ h=>.inr h);exact⟨aJC aN rfl (hX.kb),aLQ aN rfl (hX.kb) (.inr ⟨rfl,.inl (.inr hG.kb),rfl⟩)⟩) ?_;refine aLS hJ (v:=nI (2*k)) rfl BYD rfl (λw1 ha _=>by have hX:=hX.iQ hG (ha.sub λ_ _ h=>.inr h);exact aNN (a:=2) rfl rfl hX.b1) ?_;refine aLS hJ (v:=nI (2*k+1)) rfl BYD rfl (λw1 ha _=>by have hX:=hX.iQ hG (ha.sub λ_ _ h=>.inr h);exact aN8 (b:=1) rfl rfl hX.b2) ?_;refine aLS hJ (v:=(.slice (some ⟨pk,0,none⟩) n c)) rfl BYD rfl (λw1 ha _=>by have hX:=hX.iQ hG (ha.sub λ_ _ h=>.inr h);exact⟨aJC nW rfl (hX.pb),aLQ nW rfl (hX.pb) (.inr ⟨rfl,.inl (.inr hG.pb),rfl⟩)⟩) ?_;refine aLS hJ (v:=nI n) rfl BYD rfl (λw1 ha _=>by have hX:=hX.iQ hG (ha.sub λ_ _ h=>.inr h);exact⟨aL3 An rfl,aMW An rfl⟩) ?_;by_cases qQ:2*k+1=n
 .refine aLS hJ (v:=.bool true) rfl BYD rfl (λw1 ha _=>aRz rfl rfl (decide_eq_true qQ)) ?_;refine aLZ hJ (CJ.cond hJ true rfl (CJ.sub (E':=GU ob kb pb) (CJ.seq hJ ?_) (λj v hj=>by
   have:=iY [.pointer (some ⟨ob,0,none⟩),.pointer (some ⟨kb,0,none⟩),.pointer (some ⟨pb,0,none⟩)] 0 j v hj;obtain⟨_,h2⟩:=this;rw[aD5]at h2;rcases j with _|_|_|j<;>simp at h2<;>subst h2<;>rfl)))
  refine CJ.draw hJ mixed λtt a hg=>?_;refine g2 BYD hX hG (λw1 _=>si qQ w1) (λa ha=>?_) _ tt _ a (λj hj=>by cases hj) (λj hj=>?_) (Ox _ _) hg.start
  .refine aOx rfl (λ_=>stepG_ret') ?_;obtain⟨T,D⟩:=a;obtain rfl:=ha.defers;exact fin _ _ _ _ _ _ _ _
  .simp[aGf]
 .have dD:2*k+1<n:=by have:=hX.kn;omega
  refine aLS hJ (v:=.bool false) rfl BYD rfl (λw1 ha _=>aRz rfl rfl (decide_eq_false qQ)) ?_;refine aLZ hJ (CJ.cond hJ false rfl (CJ.sub (E':=GU ob kb pb) (CJ.skip hJ (CJ.seq hJ ?_)) (λj v hj=>by
   have:=iY [.pointer (some ⟨ob,0,none⟩),.pointer (some ⟨kb,0,none⟩),.pointer (some ⟨pb,0,none⟩)] 0 j v hj;obtain⟨_,h2⟩:=this;rw[aD5]at h2;rcases j with _|_|_|j<;>simp at h2<;>subst h2<;>rfl)))
  refine CJ.draw hJ mixed λtt a hg=>?_;refine g3a hJ BYD hX hG dD hV (he dD) (λO v w2 oP hX zP=>?_) _ tt _ a (λj hj=>by cases hj) (λj hj=>?_) (Ox _ _) hg.start
  .refine CJ.region hJ ?_;simp only[aBT,aBJ,aBv,Nat.reduceAdd,aAn,List.range,List.range.loop];refine aLS hJ (v:=(.slice (some ⟨bR,0,none⟩) m m)) rfl BYD rfl (λw1 ha _=>by have hX:=hX.iQ hG (ha.sub λ_ _ h=>.inr h);exact⟨aJC AX rfl (hX.ob),aLQ AX rfl (hX.ob) (.inr ⟨rfl,.inl (.inr hG.ob),rfl⟩)⟩) ?_;refine aLS hJ (v:=nI k) rfl BYD rfl (λw1 ha _=>by have hX:=hX.iQ hG (ha.sub λ_ _ h=>.inr h);exact⟨aJC aN rfl (hX.kb),aLQ aN rfl (hX.kb) (.inr ⟨rfl,.inl (.inr hG.kb),rfl⟩)⟩) ?_;refine aLS hJ (v:=(.pointer (some ⟨bR,k,none⟩))) rfl BYD rfl (λw1 ha _=>by have hX:=hX.iQ hG (ha.sub λ_ _ h=>.inr h);exact kQ.idx KQ xF rfl rfl hX.km) ?_;refine aLS hJ (v:=(.chan (some r))) rfl BYD rfl (λw1 ha _=>by have hX:=hX.iQ hG (ha.sub λ_ _ h=>.inr h);exact⟨aJC xF rfl (hX.oc),aLQ xF rfl (hX.oc) (.inr ⟨rfl,.inr (.inr hG.oc),rfl⟩)⟩) ?_;refine aLS hJ (v:=v) rfl BYD rfl (λw1 ha _=>by have hX:=hX.iQ hG (ha.sub λ_ _ h=>.inr h);exact⟨aA.move rfl,bQ.move⟩) ?_;refineλa ha=>aQs rfl BYD ha rfl rfl (λw1 h1=>hq1 dD w1 v ((zP.iQ (h1.sub λb x hx=>.inr hx)).mono λb hb=>⟨hb.1,aAx b7 (oP b hb.2)⟩)) ?_;refine aOx rfl (λ_=>stepG_region_end) (aOx rfl (λ_=>stepG_end) ?_);obtain⟨T,D⟩:=a;obtain rfl:=ha.defers;exact fin _ _ _ _ _ _ _ _
  .simp[aGf]
open Go.Conc.Lib Go.ConcR.Gen Go.ConcN.Gen
open Go.ConcR (KK wgBlock WgAt stA smA rd wr mk DC0)
open Go.ConcN (st_flag st_waiters)
variable{lo i₀:Nat}{ty:TypeId}{w1:World}{b₀:Frame}{a₀:Act}{qB:Array Oper}{oI:List Nat}{k₀:List Item}{cs:List Frame}
variable{L:WgLink}
section
variable{P:Program}{Post:Value->World->Prop}{Wg:Nat}{qs:List (World->Prop)}{g0:Goroutine}
abbrev Fw(P:Program)(Post:Value->World->Prop)(lo:Nat)(ty:TypeId)(Wg:Nat)(qs:List (World->Prop))(S R:PS)(g0:Goroutine)(w:World):Prop:=
 WgLive ty Wg w/\∀w1,bZ (S.or R) w w1->(∀f∈qs,f w1)->MT P lo ty Post .calm (Whole lo ty w1) (λ_ _=>False) g0 w1
def fw(h:Fw P Post lo ty Wg qs S R g0 w)(r:RA (S.or R) (WgLive ty Wg) w w1):Fw P Post lo ty Wg qs S R g0 w1:=⟨r.2,λw2 h2=>h.2 w2 (r.1.trans h2)⟩
def fc(h:True/\MT P lo ty Post .calm S R g0 w)(r:RA (S.or R) (λ_=>True) w w1):True/\MT P lo ty Post .calm S R g0 w1:=⟨trivial,h.2.rely r.1⟩
def Jv(H:WgLib P L)(Ey:∀x,¬(S.or R) Wg x){bd:Nat}
  (ih:∀v,v<bd->∀(T:Array Value) (w:World),T.size=84->T[0]?=some (.pointer (some ⟨Wg,0,none⟩))->Fw P Post lo L.tWg Wg qs S R (G (b₀.at (a₀.put ((qB[i₀]?).bind (·.dst)) (.tuple #[])) (.inRegion qB oI::k₀)) cs) w->
   MT P lo L.tWg Post (.wg Wg qs (.df v)) S R (G ((base L.wait).at ⟨T,[]⟩ [.code (L7 L),.inLoop (L7 L),.inBlock 0]) (b₀.at a₀ (.inRegion qB (i₀::oI)::k₀)::cs)) w)
  (T:Array Value)(w:World)(aGj:T.size=84)(t0:T[0]?=some (.pointer (some ⟨Wg,0,none⟩)))
  (hF:Fw P Post lo L.tWg Wg qs S R (G (b₀.at (a₀.put ((qB[i₀]?).bind (·.dst)) (.tuple #[])) (.inRegion qB oI::k₀)) cs) w)(hbd:bd<2147483648):
  MT P lo L.tWg Post (.wg Wg qs (.df bd)) S R (G ((base L.wait).at ⟨T,[]⟩ [.code (L7 L),.inLoop (L7 L),.inBlock 0]) (b₀.at a₀ (.inRegion qB (i₀::oI)::k₀)::cs)) w:=by
 lib_facts
 obtain⟨v0,v1,v2,v3,v4,v5,v6,v7,v8,v9,v10,v11,v12,v13,v14,v15,v16,v17,v18,v19,v20,v21,v22,v23,v24,v25,v26,v27,v28,v29,v30,v31,v32,v33,v34,v35,v36,v37,v38,v39,v40,v41,v42,v43,v44,v45,v46,v47,v48,v49,v50,v51,v52,v53,v54,v55,v56,v57,v58,v59,v60,v61,v62,v63,v64,v65,v66,v67,v68,v69,v70,v71,v72,v73,v74,v75,v76,v77,v78,v79,v80,v81,v82,v83,rfl⟩:=array84 T aGj;simp only[aDE,aCu,aDu]at t0;subst t0;clear aGj;refine MT.goes (ms:=.wg Wg qs (.df bd)) (K:=WgLive L.tWg Wg) (n:=400) (λ_ h=>h.1) ?_ hF.1;simp only[L7,body_wait,waitFn,aFV]at ih⊢;u_c stepG_block fw hF;u_c stepG_seq fw hF;u_reg fw hF;u_op fw hF;u_op fw hF;u_op fw hF;u_call H.f_uLoad (nm_uLoad L) uLoadFn fw hF;u_c stepG_seq fw hF;u_reg fw hF;u_op fw hF;u_c stepG_region_end fw hF;u_c stepG_seq fw hF;u_reg fw hF;u_op fw hF;u_op fw hF;u_op fw hF;refine Goes.stop (λw1 h1=>?_);replace hF:=fw hF h1;clear h1;refine MT.step rfl λw2 h2 hp=>?_;replace hF:=fw hF ⟨h2,hp.1⟩;obtain⟨_,v,hv,hw⟩:=hp;clear h2;rcases aCl v with rfl|hvp
 .have Ev:WgAt L.tWg Wg w2 0 0:=by simpa using hw
  refine .load (ph:=.TQ) hw (stepG_load_atomic (v:=0) rfl rfl (by k_ne) rfl H.f_loadU64 (x_loadU64_n L) (x_loadU64_b L) (x_loadU64_x L) .u64 (x_loadU64_f L) rfl Ev.cellSt) rfl ?_ (.inr ⟨rfl,rfl⟩);clear hw Ev hv ih;refine MT.goes (ms:=.wg Wg qs .TQ) (K:=WgLive L.tWg Wg) (n:=400) (λ_ h=>h.1) ?_ hF.1
  walk_nrm
  u_op fw hF;u_c stepG_region_end fw hF;u_c stepG_ret' fw hF;u_leave1 H.f_uLoad fw hF;u_op fw hF;u_c stepG_region_end fw hF;u_c stepG_seq fw hF;u_reg fw hF;u_op fw hF;u_op fw hF;u_op fw hF;u_op fw hF;u_c stepG_region_end fw hF;u_c stepG_seq fw hF;u_reg fw hF;u_op fw hF;u_op fw hF;u_op fw hF;u_op fw hF;u_c stepG_region_end fw hF;u_c stepG_seq fw hF;u_c stepG_seq fw hF;u_reg fw hF;u_op fw hF;u_op fw hF;u_c stepG_region_end fw hF;u_cond true fw hF;u_c stepG_seq fw hF;u_cond true fw hF;u_c stepG_seq fw hF;u_reg fw hF;refine Goes.stop (λw1 h1=>?_);replace hF:=fw hF h1;clear h1;refine MT.step rfl λw2 h2 hp=>?_;replace hF:=fw hF ⟨h2,hp.1⟩;clear h2 hp;refine .H6 (.inr ⟨rfl,rfl⟩) (stepG_mark0 .enable BYS rfl rfl (by k_ne) rfl H.f_enable (x_enable_n L) (x_enable_b L) (x_enable_x L) (x_enable_f L)) rfl ?_;refine MT.goes (ms:=.wg Wg qs .Hs) (K:=WgLive L.tWg Wg) (n:=400) (λ_ h=>h.1) ?_ hF.1
  walk_nrm
  u_c stepG_region_end fw hF;u_reg fw hF;u_op fw hF;u_conv H.underlying_tWgP H.room_tWg (aOw hF.1).choose_spec fw hF;refine Goes.stop (λw1 h1=>?_);replace hF:=fw hF h1;clear h1;refine MT.step rfl λw2 h2 hp=>?_;replace hF:=fw hF ⟨h2,hp.1⟩;clear h2 hp;refine .acq (stepG_markAt .acquire BYS rfl rfl (by k_ne) rfl H.f_acquire (x_acquire_n L) (x_acquire_b L) (x_acquire_x L) (x_acquire_f L) (by simp[Act.eval,stA])) rfl λhq=>?_;replace hF:True/\MT P lo L.tWg Post .calm _ _ _ _:=⟨trivial,hF.2 _ (bZ.refl _ _) hq⟩;clear hq;refine MT.goes (ms:=.calm) (K:=λ_=>True) (n:=400) (λ_ _=>trivial) ?_ trivial
  walk_nrm
  u_c stepG_region_end fc hF;u_c stepG_seq fc hF;u_c stepG_seq fc hF;u_reg fc hF;u_op fc hF;u_op fc hF;u_op fc hF;u_op fc hF;u_op fc hF;u_op fc hF;u_op fc hF;u_op fc hF;u_skip fc hF;u_skip fc hF;u_op fc hF;u_c stepG_region_end fc hF;u_cond false fc hF;u_c stepG_skip fc hF;u_c stepG_ret' fc hF;u_leave0 H.f_wait fc hF;exact Goes.stop λw3 h3=>(fc hF h3).2
 .obtain⟨X,hX⟩:∃X:Int,(v:Int)*KK=X:=⟨_,rfl⟩;have a1:X/4294967296=(v:Int):=by rw[<-hX];simp only[KK];omega
  have b1:bits .and .u64 X 2147483648=0:=by rw[<-hX];have:=st_flag v 0 BYO BYO;simpa[KK] using this
  have b2:bits .and .u64 X 2147483647=0:=by rw[<-hX];have:=st_waiters v 0 BYO BYO;simpa[KK] using this
  have c1:IntKind.i32.wrap (v:Int)=(v:Int):=by rw[IntKind.wrap_i32];omega
  have w1:IntKind.u64.wrap (X+1)=X+1:=by rw[IntKind.wrap_u64,<-hX];simp only[KK];omega
  have q3:decide ((v:Int)<0)=false:=decide_eq_false BYO;have q4:decide (0<(v:Int))=true:=decide_eq_true BYO;have q5:((v:Int)==0)=false:=BYT;have q6:decide ((v:Int)=0)=false:=decide_eq_false BYO;refine .load (ph:=.df v) hw (stepG_load_atomic (v:=X) rfl rfl (by k_ne) rfl H.f_loadU64 (x_loadU64_n L) (x_loadU64_b L) (x_loadU64_x L) .u64 (x_loadU64_f L) rfl (by rw[<-hX];exact hw.cellSt)) rfl ?_ (.inl rfl);clear hw;refine MT.goes (ms:=.wg Wg qs (.df v)) (K:=WgLive L.tWg Wg) (n:=400) (λ_ h=>h.1) ?_ hF.1
  walk_nrm
  u_op fw hF;u_c stepG_region_end fw hF;u_c stepG_ret' fw hF;u_leave1 H.f_uLoad fw hF;u_op fw hF;u_c stepG_region_end fw hF;u_c stepG_seq fw hF;u_reg fw hF;u_op fw hF;u_op fw hF;u_op fw hF;u_op fw hF;u_c stepG_region_end fw hF;u_c stepG_seq fw hF;u_reg fw hF;u_op fw hF;u_op fw hF;u_op fw hF;u_op fw hF;u_c stepG_region_end fw hF;u_c stepG_seq fw hF;u_c stepG_seq fw hF;u_reg fw hF;u_op fw hF;u_op fw hF;u_c stepG_region_end fw hF;u_cnd false fw hF;u_c stepG_skip fw hF;u_c stepG_seq fw hF;u_reg fw hF;u_op fw hF;u_op fw hF;u_op fw hF;u_op fw hF;u_op fw hF;u_op fw hF;u_call H.f_uCas (nm_uCas L) uCasFn fw hF;u_c stepG_seq fw hF;u_reg fw hF;u_op fw hF;u_c stepG_region_end fw hF;u_c stepG_seq fw hF;u_reg fw hF;u_op fw hF;u_op fw hF;u_op fw hF;u_op fw hF;u_op fw hF;refine Goes.stop (λw1 h1=>?_);replace hF:=fw hF h1;clear h1;refine MT.step rfl λw2 h2 hp=>?_;replace hF:=fw hF ⟨h2,hp.1⟩;obtain⟨_,v',XO,hw⟩:=hp;clear h2;rcases aCD v' v with dD|CL
  .refine .load (ph:=.df v') hw (stepG_cas_miss (v:=(v':Int)*KK) (old:=X) (n:=X+1) rfl rfl (by k_ne) rfl H.f_casU64 (x_casU64_n L) (x_casU64_b L) (x_casU64_x L) .u64 (x_casU64_f L) rfl rfl rfl hw.cellSt (hw.thaw 0) (by rw[<-hX];simp only[KK];omega)) rfl ?_ (.inl rfl);clear hw;refine MT.goes (ms:=.wg Wg qs (.df v')) (K:=WgLive L.tWg Wg) (n:=400) (λ_ h=>h.1) ?_ hF.1
   walk_nrm
   u_op fw hF;u_c stepG_region_end fw hF;u_c stepG_ret' fw hF;u_leave1 H.f_uCas fw hF;u_c stepG_region_end fw hF;u_cond false fw hF;u_c stepG_skip fw hF;u_c stepG_inBlock fw hF;u_c stepG_inLoop fw hF;refine Goes.stop (λw1 h1=>?_);exact ih v' BYO _ _ rfl rfl (fw hF h1)
  .obtain rfl:v'=v:=BYO;refine .vv hvp hw (by
    rw[hX];exact(stepG_cas_hit (v:=X) (n:=X+1) rfl rfl (by k_ne) rfl H.f_casU64 (x_casU64_n L) (x_casU64_b L) (x_casU64_x L) .u64 (x_casU64_f L) rfl rfl rfl (by rw[<-hX];exact hw.cellSt) (hw.thaw 0)).trans (by rfl)) rfl ?_
   rw[hX];replace hF:Fw P Post lo L.tWg Wg qs S R _ (w2.setCell (stA Wg) (.int .u64 (X+1))):=⟨⟨_,_,hw.setSt _⟩,λw3 h3=>hF.2 w3 ((nV Ey).trans h3)⟩;clear hw ih hv XO hX hvp CL;refine MT.goes (ms:=.wg Wg qs .reg) (K:=WgLive L.tWg Wg) (n:=400) (λ_ h=>h.1) ?_ hF.1
   walk_nrm
   u_op fw hF;u_c stepG_region_end fw hF;u_c stepG_ret' fw hF;u_leave1 H.f_uCas fw hF;u_c stepG_region_end fw hF;u_cond true fw hF;u_c stepG_seq fw hF;u_c stepG_seq fw hF;u_reg fw hF;u_op fw hF;u_op fw hF;u_op fw hF;u_op fw hF;u_c stepG_region_end fw hF;u_cond true fw hF;u_reg fw hF;u_op fw hF;u_op fw hF;u_op fw hF;u_conv H.underlying_tPU32 H.room_tU32 (aPh hF.1).choose_spec fw hF;refine Goes.stop (λw1 h1=>?_);replace hF:=fw hF h1;clear h1;refine MT.step rfl λw2 h2 hp=>?_;replace hF:=fw hF ⟨h2,hp.1⟩;clear h2 hp;refine .said (.inr rfl) (stepG_markAt .write BYS rfl rfl (by k_ne) rfl H.f_raceWrite (x_raceWrite_n L) (x_raceWrite_b L) (x_raceWrite_x L) (x_raceWrite_f L) (by simp[Act.eval,smA])) ?_;refine MT.goes (ms:=.wg Wg qs .reg) (K:=WgLive L.tWg Wg) (n:=400) (λ_ h=>h.1) ?_ hF.1
   walk_nrm
   u_c stepG_region_end fw hF;u_c stepG_seq fw hF;u_reg fw hF;u_op fw hF;u_c stepG_region_end fw hF;u_c stepG_seq fw hF;u_c stepG_seq fw hF;u_reg fw hF;u_op fw hF;u_op fw hF;u_op fw hF;u_op fw hF;u_skip fw hF;u_op fw hF;u_c stepG_region_end fw hF;u_cond false fw hF;u_c stepG_skip fw hF;u_c stepG_seq fw hF;u_reg fw hF;u_op fw hF;u_op fw hF;u_op fw hF;u_op fw hF;refine Goes.stop (λw1 h1=>?_);replace hF:=fw hF h1;clear h1;refine MT.step rfl λw2 h2 hp=>?_;replace hF:=fw hF ⟨h2,hp.1⟩;obtain⟨_,⟨st,hw⟩|hw⟩:=hp
   .exact .ZG hw (stepG_semacquire_wait rfl rfl rfl H.f_semacquire (x_semacquire_n L) (x_semacquire_b L) (x_semacquire_x L) (x_semacquire_f L) (by simp[Act.eval,smA]) hw.cellSm)
   refine .ZH hw ((stepG_semacquire (n:=1) rfl rfl (by k_ne) rfl H.f_semacquire (x_semacquire_n L) (x_semacquire_b L) (x_semacquire_x L) (x_semacquire_f L) (by simp[Act.eval,smA]) hw.cellSm (by k_ne) (hw.thaw 1)).trans (by rfl)) rfl ?_;replace hF:Fw P Post lo L.tWg Wg qs S R _ (w2.setCell (smA Wg) (.int .u32 0)):=⟨⟨_,_,hw.setSm 0⟩,λw3 h3=>hF.2 w3 ((nV Ey).trans h3)⟩;clear hw h2;refine MT.goes (ms:=.wg Wg qs .sm) (K:=WgLive L.tWg Wg) (n:=400) (λ_ h=>h.1) ?_ hF.1
   walk_nrm
   u_c stepG_region_end fw hF;u_c stepG_seq fw hF;u_reg fw hF;u_op fw hF;u_op fw hF;u_op fw hF;u_call H.f_uLoad (nm_uLoad L) uLoadFn fw hF;u_c stepG_seq fw hF;u_reg fw hF;u_op fw hF;u_c stepG_region_end fw hF;u_c stepG_seq fw hF;u_reg fw hF;u_op fw hF;u_op fw hF;u_op fw hF;refine Goes.stop (λw1 h1=>?_);replace hF:=fw hF h1;clear h1;refine MT.step rfl λw2 h2 hp=>?_;replace hF:=fw hF ⟨h2,hp.1⟩;have hw:WgAt L.tWg Wg _ 0 0:=hp.2;refine .FD (stepG_load_atomic (v:=0) rfl rfl (by k_ne) rfl H.f_loadU64 (x_loadU64_n L) (x_loadU64_b L) (x_loadU64_x L) .u64 (x_loadU64_f L) rfl hw.cellSt) rfl ?_;clear hw h2 hp;refine MT.goes (ms:=.wg Wg qs .TQ) (K:=WgLive L.tWg Wg) (n:=400) (λ_ h=>h.1) ?_ hF.1
   walk_nrm
   u_op fw hF;u_c stepG_region_end fw hF;u_c stepG_ret' fw hF;u_leave1 H.f_uLoad fw hF;u_op fw hF;u_op fw hF;u_c stepG_region_end fw hF;u_c stepG_seq fw hF;u_cond true fw hF;u_c stepG_seq fw hF;u_reg fw hF;refine Goes.stop (λw1 h1=>?_);replace hF:=fw hF h1;clear h1;refine MT.step rfl λw2 h2 hp=>?_;replace hF:=fw hF ⟨h2,hp.1⟩;clear h2 hp;refine .H6 (.inr ⟨rfl,rfl⟩) (stepG_mark0 .enable BYS rfl rfl (by k_ne) rfl H.f_enable (x_enable_n L) (x_enable_b L) (x_enable_x L) (x_enable_f L)) rfl ?_;refine MT.goes (ms:=.wg Wg qs .Hs) (K:=WgLive L.tWg Wg) (n:=400) (λ_ h=>h.1) ?_ hF.1
   walk_nrm
   u_c stepG_region_end fw hF;u_reg fw hF;u_op fw hF;u_conv H.underlying_tWgP H.room_tWg (aOw hF.1).choose_spec fw hF;refine Goes.stop (λw1 h1=>?_);replace hF:=fw hF h1;clear h1;refine MT.step rfl λw2 h2 hp=>?_;replace hF:=fw hF ⟨h2,hp.1⟩;clear h2 hp;refine .acq (stepG_markAt .acquire BYS rfl rfl (by k_ne) rfl H.f_acquire (x_acquire_n L) (x_acquire_b L) (x_acquire_x L) (x_acquire_f L) (by simp[Act.eval,stA])) rfl λhq=>?_;replace hF:True/\MT P lo L.tWg Post .calm _ _ _ _:=⟨trivial,hF.2 _ (bZ.refl _ _) hq⟩;clear hq;refine MT.goes (ms:=.calm) (K:=λ_=>True) (n:=400) (λ_ _=>trivial) ?_ trivial
   walk_nrm
   u_c stepG_region_end fc hF;u_c stepG_seq fc hF;u_c stepG_seq fc hF;u_reg fc hF;u_op fc hF;u_c stepG_region_end fc hF;u_cond false fc hF;u_c stepG_skip fc hF;u_c stepG_ret' fc hF;u_leave0 H.f_wait fc hF;exact Goes.stop λw3 h3=>(fc hF h3).2
def Uc(H:WgLib P L)(Ey:∀x,¬(S.or R) Wg x){b₀:Frame}{a₀:Act}{qB:Array Oper}{i₀:Nat}{oI:List Nat}{k₀:List Item}{cs:List Frame}:
  ∀bd,bd<2147483648->∀(T:Array Value) (w:World),T.size=84->T[0]?=some (.pointer (some ⟨Wg,0,none⟩))->Fw P Post lo L.tWg Wg qs S R (G (b₀.at (a₀.put ((qB[i₀]?).bind (·.dst)) (.tuple #[])) (.inRegion qB oI::k₀)) cs) w->
   MT P lo L.tWg Post (.wg Wg qs (.df bd)) S R (G ((base L.wait).at ⟨T,[]⟩ [.code (L7 L),.inLoop (L7 L),.inBlock 0]) (b₀.at a₀ (.inRegion qB (i₀::oI)::k₀)::cs)) w:=by
 intro bd;induction bd using Nat.strongRecOn with
 |_ bd ih=>exactλhb T w h1 h2 h3=>Jv H Ey (λv hv T w=>ih v hv BYO T w) T w h1 h2 h3 hb
def wait(H:WgLib P L)(Ey:∀x,¬(S.or R) Wg x)(hq:qs.length<=1000)
  (hT:∀w1,bZ (S.or R) w w1->(∀f∈qs,f w1)->MT P lo L.tWg Post .calm (Whole lo L.tWg w1) (λ_ _=>False) (G (b₀.at (a₀.put ((qB[i₀]?).bind (·.dst)) (.tuple #[])) (.inRegion qB oI::k₀)) cs) w1):
  MT P lo L.tWg Post (.wg Wg qs .op) S R (G ((base L.wait).at ⟨#[.pointer (some ⟨Wg,0,none⟩),undef,undef,undef,undef,undef,undef,undef,undef,undef,undef,undef,undef,undef,undef,undef,undef,undef,undef,undef,undef,undef,undef,undef,undef,undef,undef,undef,undef,undef,undef,undef,undef,undef,undef,undef,undef,undef,undef,undef,undef,undef,undef,undef,undef,undef,undef,undef,undef,undef,undef,undef,undef,undef,undef,undef,undef,undef,undef,undef,undef,undef,undef,undef,undef,undef,undef,undef,undef,undef,undef,undef,undef,undef,undef,undef,undef,undef,undef,undef,undef,undef,undef,undef],[]⟩ [.code (body_wait L)]) (b₀.at a₀ (.inRegion qB (i₀::oI)::k₀)::cs)) w:=by
 refine MT.pre rfl λw1 ha hp=>?_;have hF:Fw P Post lo L.tWg Wg qs S R _ w1:=⟨hp.1,λw2 h2=>hT w2 (ha.trans h2)⟩;clear ha hp hT
 lib_facts
 have hL:=@Uc (lo:=lo) (L:=L) (P:=P) (Post:=Post) (S:=S) (R:=R) (Wg:=Wg) (qs:=qs) H Ey;refine MT.goes (ms:=.wg Wg qs .op) (K:=WgLive L.tWg Wg) (n:=400) (λ_ h=>h.1) ?_ hF.1;simp only[L7,body_wait,waitFn,aFV]at hL⊢;u_c stepG_seq fw hF;u_cond true fw hF;u_reg fw hF;refine Goes.stop (λw1 h1=>?_);replace hF:=fw hF h1;clear h1;refine MT.step rfl λw2 h2 hp=>?_;replace hF:=fw hF ⟨h2,hp.1⟩;clear h2 hp;refine .AJ (stepG_mark0 .disable BYS rfl rfl (by k_ne) rfl H.f_disable (x_disable_n L) (x_disable_b L) (x_disable_x L) (x_disable_f L)) rfl ?_;refine MT.goes (ms:=.wg Wg qs (.df qs.length)) (K:=WgLive L.tWg Wg) (n:=400) (λ_ h=>h.1) ?_ hF.1
 walk_nrm
 u_c stepG_region_end fw hF;u_c stepG_block fw hF;u_c stepG_loop fw hF;refine Goes.stop (λw1 h1=>?_);exact hL _ BYO _ _ rfl rfl (fw hF h1)
end
end Rk.Cw
