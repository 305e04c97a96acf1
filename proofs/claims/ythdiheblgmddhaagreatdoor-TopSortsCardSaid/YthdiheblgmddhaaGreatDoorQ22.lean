/- Part of the proof of TopSorts. -/
import Derived.Conc.AppendWalk
import Derived.Laws.MakeOwn
import Derived.Test.YthdiheblgmddhaaGreatDoorQ21
set_option linter.all false
set_option maxHeartbeats 4000000
set_option maxRecDepth 100000
namespace Rk.Cw
open Go Go.Conc Go.RowKit Go.Proofs Rk.fD
def AY(S R:PS)(w:World)(o:Obj):Gu S R (S.or λb x=>x=none/\b=w.heap.size) w (w.alloc o) #[]:=by
 refine⟨λ_ _ h=>.inl h,λb x h=>h.imp id λ⟨_,e⟩=>⟨BYO,BYT⟩,BYS,λb hb _=>.inl ?_,rfl,rfl,rfl,λe he=>by simp at he⟩;exact(World.grownBy_alloc w o none).block b hb BYS
section
variable{P:Program}{E:Env}{w:World}{t:TypeId}{x y:Operand}{v u z:Value}{e st:TypeId}{agg:Bool}{sz bytes:Nat}{p:Event->Prop}
def aS3(hx:aM E x=some v):bQ P (.box e x) t E w p:=.nil λρ hρ _ _ _ _=>by
 simp[execOp,go_sem,hρ _ _ hx,Instr.box,newVar,newRow]
def bQ.alloc(ty:Ty P e agg sz bytes z):bQ P (.alloc e) t E w p:=.nil λρ hρ _ _ _ _=>by
 simp[execOp,go_sem,Instr.alloc,ty.zero,newVar,newRow]
end
section
variable{P:Program}{main:Bool}{R:PS}{Q:World->Prop}{J:PS->Goroutine->World->Prop}(hJ:pF P main R Q J){b:Frame}{cs:List Frame}{N d i:Nat}{ds:List Deferred}{S:PS}{E:Env}{k:List Item}{w:World}{ops:Array Oper}{rest:List Nat}{t e:TypeId}{pos:String}{after:Array Edge}{x:Operand}{v z:Value}{agg:Bool}{sz bytes:Nat}
include hJ
def CJ.box(ho:ops[i]?=some ⟨some d,.box e x,t,pos,after,none⟩)(hk:b.kind≠.early)(hd:Nat.blt d N=true)(hx:aM E x=some v)
  (h:∀w1,bZ (S.or R) w w1->CJ J b cs N ds (S.or λb x=>x=none/\b=w1.heap.size) ((d,.pointer (some ⟨w1.heap.size,0,none⟩))::E) (.inRegion ops rest::k) (w1.alloc (.cells v.cells e))):CJ J b cs N ds S E (.inRegion ops (i::rest)::k) w:=
 aQ1 hJ ho hk hd λw1 ha _=>⟨_,w1.alloc (.cells v.cells e),.pointer (some ⟨w1.heap.size,0,none⟩),λρ hρ _ _ _ _=>by simp[execOp,go_sem,hρ _ _ hx,Instr.box,newVar,newRow],aS3 hx,AY S R w1 _,h w1 ha⟩
def CJ.alloc(ty:Ty P e agg sz bytes z)(ho:ops[i]?=some ⟨some d,.alloc e,t,pos,after,none⟩)(hk:b.kind≠.early)(hd:Nat.blt d N=true)
  (h:∀w1,bZ (S.or R) w w1->CJ J b cs N ds (S.or λb x=>x=none/\b=w1.heap.size) ((d,.pointer (some ⟨w1.heap.size,0,none⟩))::E) (.inRegion ops rest::k) (w1.alloc (.cells z.cells e))):CJ J b cs N ds S E (.inRegion ops (i::rest)::k) w:=
 aQ1 hJ ho hk hd λw1 ha _=>⟨_,w1.alloc (.cells z.cells e),.pointer (some ⟨w1.heap.size,0,none⟩),aA.alloc ty,bQ.alloc ty,AY S R w1 _,h w1 ha⟩
def CJ.store{g o:Nat}{bytes:Nat}{y:Operand}{e:TypeId}(ty:Ty P e false 1 bytes z)(ho:ops[i]?=some ⟨none,.store e x y,t,pos,after,none⟩)(hk:b.kind≠.early)(hx:aM E x=some (.pointer (some ⟨g,o,none⟩)))(hy:aM E y=some v)(hs:v.cells= #[v])(h1:v.oneCell'=true)(hS:S g none\/S g (some o))
  {c:Array Value}{T:TypeId}(hc:w.heap[g]?=some (.cells c T (0,0)))(dD:o<c.size)
  (h:∀w1 c1,bZ (S.or R) w w1->w1.heap[g]?=some (.cells c1 T (0,0))->c1.size=c.size->(S g none->c1=c)->CJ J b cs N ds S E (.inRegion ops rest::k) (w1.setCell ⟨g,o,none⟩ v)):CJ J b cs N ds S E (.inRegion ops (i::rest)::k) w:=
 aTa hJ ho hk λw1 ha _=>by
  obtain⟨c1,WG,hz,hw⟩:∃c1,w1.heap[g]?=some (.cells c1 T (0,0))/\c1.size=c.size/\(S g none->c1=c):=by
   by_cases h2:S g none
   .exact⟨c,(ha.all g (.inl h2)).trans hc,rfl,λ_=>rfl⟩
   .obtain⟨c1,h3,h4,_⟩:=ha.one g o (.inl (hS.resolve_left h2)) c T (0,0) hc;exact⟨c1,h3,h4,λh=>absurd h h2⟩
  have FV:w1.cell? ⟨g,o,none⟩=some (c1[o]'BYO):=by simp[World.cell?,WG,show o<c1.size by omega]
  have hfz:w1.frozen? ⟨g,o,none⟩=false:=by simp[World.frozen?,WG]
  refine⟨S,_,aP5 ty hx hy hs h1 FV hfz,aP7 ty hx hy hs h1 FV hfz (.inr ⟨rfl,.inl hS⟩),?_,h w1 c1 ha WG hz hw⟩;by_cases h2:S g none
  .refine⟨λ_ _ h=>h,λ_ _ h=>.inl h,by rw[Rk.fD.cL];exact aAB _,λb' _ rD=>.inl ?_,rfl,rfl,rfl,λe he=>by simp at he⟩;exact Rk.fD.eZ λe=>rD (by rw[e];exact h2)
  .exact UT (hS.resolve_left h2) WG
def aR5{st:TypeId}{lo ca:Operand}{n:Nat}(ty:Ty P e agg sz bytes z)(ht:P.underlying st=some (.slice e))(hb:bytes*n<=1000000)(hn:n<=1000000)(ho:ops[i]?=some ⟨some d,.makeSlice st lo ca,t,pos,after,none⟩)(hk:b.kind≠.early)(hd:Nat.blt d N=true)(hl:aM E lo=some (nI n))(hc:aM E ca=some (nI n))
  (h:∀w1,bZ (S.or R) w w1->CJ J b cs N ds (S.or λb x=>x=none/\b=w1.heap.size) ((d,.slice (some ⟨w1.heap.size,0,none⟩) n n)::E) (.inRegion ops rest::k) (w1.alloc (.cells (madeCells z.cells (n*sz)) e))):CJ J b cs N ds S E (.inRegion ops (i::rest)::k) w:=
 aQ1 hJ ho hk hd λw1 ha _=>by
  obtain⟨ti,hi,hz,oC,HA⟩:=ty.info;have rD:((ti.bytes:Nat):Int)*(n:Int)<=1000000:=by rw[HA,<-Int.natCast_mul];exact Int.ofNat_le.2 hb
  have h1:=run_make (P:=P) w1 st e ti z ht hi hz .i64 .i64 n n BYO BYO BYO BYO;have h2:=events_make (P:=P) w1 st e ti z ht hi hz .i64 .i64 n n BYO BYO BYO BYO (by rw[HA,aD3,aDX];omega);simp only[aD3,oC]at h1;refine⟨_,_,_,?_,?_,AY S R w1 _,h w1 ha⟩
  .revert h1;generalize w1.alloc _=W;intro h1 ρ hρ _ _ _ _;simp[execOp,hρ _ _ hl,hρ _ _ hc,h1]
  .revert h1;generalize w1.alloc _=W;intro h1;exact .nil λρ hρ _ _ _ _=>by simp[execOp,hρ _ _ hl,hρ _ _ hc,h1,h2]
def aQ2{f:FuncId}{xs:List Operand}{us:List Value}(ho:ops[i]?=some ⟨some d,.makeFunc (.func f) #[] xs.toArray,t,pos,after,none⟩)(hk:b.kind≠.early)(hd:Nat.blt d N=true)(he:evs E xs=some us)
  (h:CJ J b cs N ds S ((d,.func (.func f) #[] us.toArray)::E) (.inRegion ops rest::k) w):CJ J b cs N ds S E (.inRegion ops (i::rest)::k) w:=
 aLS hJ ho hk hd (λw1 _ _=>⟨λρ hρ _ _ _ _=>by
  have:=sR hρ he;simp[execOp,Instr.makeFunc,this],.nil λρ hρ _ _ _ _=>by
  simp[execOp,go_sem]⟩) h
end
open Go.ConcR (wgBlock)
variable{x:Operand}{f:FuncId}{caps:Array Value}{sG:Array TypeId}
section
variable{P:Program}{lo:Nat}{ty:TypeId}{Post:Value->World->Prop}{S R:PS}{b:Frame}{cs:List Frame}{N d i:Nat}{ds:List Deferred}{E:Env}{k:List Item}{w:World}{ops:Array Oper}{rest:List Nat}{t:TypeId}{pos:String}{after:Array Edge}{a:Act}{agg:Bool}{bytes:Nat}{z:Value}
def aRn(tz:Ty P ty agg 2 bytes z)(hz:z.cells= #[.int .u64 0,.int .u32 0])(ho:ops[i]?=some ⟨some d,.alloc ty,t,pos,after,none⟩)(hk:b.kind≠.early)(hd:Nat.blt d N=true)(hE:Ad a N ds E)
  (oP:lo<=w.heap.size)(h:∀w1,bZ (S.or R) w w1->∀a',Ad a' N ds ((d,.pointer (some ⟨w1.heap.size,0,none⟩))::E)->MT P lo ty Post (.wg w1.heap.size [] .op) S R (G (b.at a' (.inRegion ops rest::k)) cs) (w1.alloc (wgBlock ty 0 0))):
  MT P lo ty Post .calm S R (G (b.at a (.inRegion ops (i::rest)::k)) cs) w:=by
 refine MT.step rfl λw1 ha _=>?_;have hr:(execOp a.eval ⟨some d,.alloc ty,t,pos,after,none⟩).run P w1=.ok (.value (.pointer (some ⟨w1.heap.size,0,none⟩))) (w1.alloc (wgBlock ty 0 0)):=by
  have:=aA.alloc (E:=E) (t:=t) (w:=w1) tz _ hE.fits (some d) pos after none;rw[hz]at this;exact this
 have he:listed P b.fn a ⟨some d,.alloc ty,t,pos,after,none⟩ w1= #[]:=by
  unfold listed;have:(execOp a.eval ⟨some d,.alloc ty,t,pos,after,none⟩).events P w1 #[]= #[]:=by simp[execOp,go_sem,Instr.alloc,tz.zero,newVar,newRow]
  rw[this,seen_none]
 refine .FC (g':=G (b.at (a.put (some d) (.pointer (some ⟨w1.heap.size,0,none⟩))) (.inRegion ops rest::k)) cs) ?_ rfl rfl (aBS oP ha.size) (h w1 ha _ (hE.put _ hd));rw[stepG_value ho rfl hk hr,he]
def aTT{Wg:Nat}{qs:List (World->Prop)}(ho:ops[i]?=some ⟨none,.go {callee:=.value x,args:= #[],argTypes:=sG},t,pos,after,none⟩)(hk:b.kind≠.early)(hE:Ad a N ds E)(hx:aM E x=some (.func (.func f) #[] caps))(hq:qs.length<1000)
  (h:∀w1,bZ (S.or R) w w1->∃S' R' Sc Rc Q,NY S R S' R' Sc Rc/\KT P ty (.wg Wg Q) .work Sc Rc (born P ⟨.fn (.func f) caps,#[]⟩) w1/\MT P lo ty Post (.wg Wg (qs++[Q]) .op) S' R' (G (b.at a (.inRegion ops rest::k)) cs) w1):
  MT P lo ty Post (.wg Wg qs .pe) S R (G (b.at a (.inRegion ops (i::rest)::k)) cs) w:=by
 refine MT.step rfl λw1 ha _=>?_;obtain⟨S',R',Sc,Rc,Q,h1,h2,h3⟩:=h w1 ha;have BW:=hE.eval hx;have hr:(execOp a.eval ⟨none,.go {callee:=.value x,args:= #[],argTypes:=sG},t,pos,after,none⟩).run P w1=.ok (.spawn ⟨.fn (.func f) caps,#[]⟩) w1:=by
  simp[execOp,resolve,BW,Deferred.ofValue]
 have he:listed P b.fn a ⟨none,.go {callee:=.value x,args:= #[],argTypes:=sG},t,pos,after,none⟩ w1= #[]:=by
  unfold listed;have:(execOp a.eval ⟨none,.go {callee:=.value x,args:= #[],argTypes:=sG},t,pos,after,none⟩).events P w1 #[]= #[]:=by
   revert BW;generalize a.eval=ρ;intro BW;simp[execOp,go_sem,resolve,BW,Deferred.ofValue]
  rw[this,seen_none]
 refine .go (g':=G (b.at a (.inRegion ops rest::k)) cs) (c:=born P ⟨.fn (.func f) caps,#[]⟩) ?_ rfl h1 hq h2 h3;rw[stepG_spawn ho rfl hk hr rfl,he];rfl
def aS4{r:Nat}{qs:List (Nat×(Value->World->Prop))}(ho:ops[i]?=some ⟨none,.go {callee:=.value x,args:= #[],argTypes:=sG},t,pos,after,none⟩)(hk:b.kind≠.early)(hE:Ad a N ds E)(hx:aM E x=some (.func (.func f) #[] caps))
  (h:∀w1,bZ (S.or R) w w1->∃S' R' Sc Rc Q,NY S R S' R' Sc Rc/\KT P ty (.ch r Q) .work Sc Rc (born P ⟨.fn (.func f) caps,#[]⟩) w1/\MT P lo ty Post (.ch (qs++[(r,Q)]) none [] false) S' R' (G (b.at a (.inRegion ops rest::k)) cs) w1):
  MT P lo ty Post (.ch qs (some r) [] false) S R (G (b.at a (.inRegion ops (i::rest)::k)) cs) w:=by
 refine MT.step rfl λw1 ha _=>?_;obtain⟨S',R',Sc,Rc,Q,h1,h2,h3⟩:=h w1 ha;have BW:=hE.eval hx;have hr:(execOp a.eval ⟨none,.go {callee:=.value x,args:= #[],argTypes:=sG},t,pos,after,none⟩).run P w1=.ok (.spawn ⟨.fn (.func f) caps,#[]⟩) w1:=by
  simp[execOp,resolve,BW,Deferred.ofValue]
 have he:listed P b.fn a ⟨none,.go {callee:=.value x,args:= #[],argTypes:=sG},t,pos,after,none⟩ w1= #[]:=by
  unfold listed;have:(execOp a.eval ⟨none,.go {callee:=.value x,args:= #[],argTypes:=sG},t,pos,after,none⟩).events P w1 #[]= #[]:=by
   revert BW;generalize a.eval=ρ;intro BW;simp[execOp,go_sem,resolve,BW,Deferred.ofValue]
  rw[this,seen_none]
 refine .ZI (g':=G (b.at a (.inRegion ops rest::k)) cs) (c:=born P ⟨.fn (.func f) caps,#[]⟩) ?_ rfl h1 h2 h3;rw[stepG_spawn ho rfl hk hr rfl,he];rfl
end
abbrev mS(pk k h:Nat):PS:=λb x=>b=pk/\∃j,x=some j/\k<=j/\j<h
abbrev mR(B0 lb hb pb:Nat):PS:=λb x=>x=none/\(b<B0\/b=lb\/b=hb\/b=pb)
abbrev kR(lb kb hb pb:Nat)(A:Option Addr):PS:=λb x=>x=none/\(b=lb\/b=kb\/b=hb\/b=pb\/lB A b)
section
variable{S:PS}{B0 lb kb hb pb pk k h:Nat}{A:Option Addr}
def M5(hS:∀b x,mS pk k h b x->S b x)(Wc:S kb none)(gd:k<h)(h1:B0<=pk)(h2:pk≠lb)(h3:pk≠hb)(h4:pk≠pb)(h5:pk≠kb)(hA:∀b,lB A b->b<B0):
  NY S (mR B0 lb hb pb) (mS pk (k+1) h) (mR B0 lb hb pb) (kS pk k) (kR lb kb hb pb A):=by
 refine⟨λb x ⟨e,j,e2,h6,h7⟩=>.inr (hS b x ⟨e,j,e2,BYO,h7⟩),λb x ⟨e,h6⟩=>.inl (.inr ⟨rfl,h6⟩),λb x ⟨e,e2⟩=>.inr (hS b x ⟨e,k,e2,aAB _,gd⟩),λb x ⟨_,h6⟩=>.inl ?_,λb x y ⟨e,j,e2,h6,h7⟩ hy hl=>?_,λb x y ⟨e,e2⟩ hy hl=>?_⟩
 .rcases h6 with e|e|e|e|e
  .exact .inr ⟨rfl,.inr (.inl e)⟩
  .exact .inl (e▸Wc)
  .exact .inr ⟨rfl,.inr (.inr (.inl e))⟩
  .exact .inr ⟨rfl,.inr (.inr (.inr e))⟩
  .exact .inr ⟨rfl,.inl (hA b e)⟩
 .rcases hy with⟨_,e3⟩|⟨_,h8⟩
  .subst e2;subst e3;rcases hl with hl|hl|hl<;>simp at hl
   omega
  .subst e;rcases h8 with e|e|e|e|e
   .exact h2 e
   .exact h5 e
   .exact h3 e
   .exact h4 e
   .have:=hA _ e;omega
 .subst e;rcases hy with⟨_,j,e3,h6,h7⟩|⟨_,h8⟩
  .subst e2;subst e3;rcases hl with hl|hl|hl<;>simp at hl
   omega
  .rcases h8 with e|e|e|e
   .omega
   .exact h2 e
   .exact h3 e
   .exact h4 e
end
structure Mn(w0 w:World)(B0 lb hb pb pk:Nat)(A:Option Addr)(n c k h:Nat)(f:Nat->It):Prop where
 lb:w.cell? ⟨lb,0,none⟩=some (.slice A n c)
 hb:w.cell? ⟨hb,0,none⟩=some (nI h)
 pb:w.cell? ⟨pb,0,none⟩=some (.slice (some ⟨pk,0,none⟩) h h)
 row:aE cB 2 w A n f
 seen:Seen w (λb x=>x=none/\b<B0) A
 pk:k<h->∃cs T,w.heap[pk]?=some (.cells cs T (0,0))/\cs.size=h
 gb:GB<=w.heap.size
 err:aH n f=0
 nc:n<=c
 h6:h<=6
 old:bZ (λb x=>x=none/\b<B0) w0 w
section
variable{w0 w w1:World}{S:PS}{B0 lb kb hb pb pk k n c h:Nat}{A:Option Addr}{f:Nat->It}
def Mn.iQ(hX:Mn w0 w B0 lb hb pb pk A n c k h f)(ha:bZ (S.or (mR B0 lb hb pb)) w w1)(hS:k<h->S pk none\/S pk (some k)):Mn w0 w1 B0 lb hb pb pk A n c k h f:=by
 refine⟨cT ha (.inl (.inr ⟨rfl,.inr (.inl rfl)⟩)) hX.lb,cT ha (.inl (.inr ⟨rfl,.inr (.inr (.inl rfl))⟩)) hX.hb,cT ha (.inl (.inr ⟨rfl,.inr (.inr (.inr rfl))⟩)) hX.pb,λhn=>?_,λp hp=>?_,λhk=>?_,aBS hX.gb ha.size,hX.err,hX.nc,hX.h6,hX.old.trans (ha.sub λb x hb=>.inr ⟨hb.1,.inl hb.2⟩)⟩
 .obtain⟨b,o,rfl,h1,h2⟩:=hX.row hn;have e:=ha.all b (.inr ⟨rfl,.inl (hX.seen _ rfl).2.1.2⟩);exact⟨b,o,rfl,aAx h1 ha.size,λi hi j u hu=>by rw[fB e];exact h2 i hi j u hu⟩
 .obtain⟨h1,h2,h3,h4⟩:=hX.seen p hp;exact⟨h1,h2,h3,by rw[ha.all _ (.inr ⟨rfl,.inl h2.2⟩)];exact h4⟩
 .obtain⟨cs,T,h1,h2⟩:=hX.pk hk;rcases hS hk with h3|h3
  .exact⟨cs,T,(ha.all pk (.inl h3)).trans h1,h2⟩
  .obtain⟨c',h4,h5,_⟩:=ha.one pk k (.inl h3) cs T (0,0) h1;exact⟨c',T,h4,h5.trans h2⟩
def Mn.wk(hX:Mn w0 w B0 lb hb pb pk A n c k h f)(hk:k<h)(Wc:w.cell? ⟨kb,0,none⟩=some (nI k)):Wk w (kR lb kb hb pb A) lb kb hb pb pk A n c k h f:=
 ⟨hX.lb,Wc,hX.hb,hX.pb,hX.row,λp hp=>let ⟨h1,_,h3⟩:=hX.seen p hp;⟨h1,⟨rfl,.inr (.inr (.inr (.inr ⟨p,hp,rfl⟩)))⟩,h3⟩,hX.pk hk,hX.gb,hX.err,hX.nc,hk,hX.h6⟩
def Mn.next(hX:Mn w0 w B0 lb hb pb pk A n c k h f):Mn w0 w B0 lb hb pb pk A n c (k+1) h f:=⟨hX.lb,hX.hb,hX.pb,hX.row,hX.seen,λhk=>hX.pk BYO,hX.gb,hX.err,hX.nc,hX.h6,hX.old⟩
end
open Go.Conc.Lib Go.ConcR.Gen
variable{lo:Nat}
section
variable{Post:Value->World->Prop}{S R:PS}{b:Frame}{cs:List Frame}{N d i Wg:Nat}{ds:List Deferred}{E:Env}{k:List Item}{w:World}{ops:Array Oper}{rest:List Nat}{t:TypeId}{pos:String}{after:Array Edge}{a:Act}{qs:List (World->Prop)}
def aRo(Ey:∀x,¬(S.or R) Wg x)(hq:qs.length<1000)(ho:ops[i]?=some ⟨some d,.call {callee:=.value (.func link.add),args:= #[x,.const (.int .i64 1)],argTypes:=sG},t,pos,after,none⟩)(hk:b.kind≠.early)(hd:Nat.blt d N=true)(hE:Ad a N ds E)(hx:aM E x=some (.pointer (some ⟨Wg,0,none⟩)))
  (h:∀a',Ad a' N ds ((d,.tuple #[])::E)->MT Tryz.prog lo link.tWg Post (.wg Wg qs .pe) S R (G (b.at a' (.inRegion ops rest::k)) cs) w):MT Tryz.prog lo link.tWg Post (.wg Wg qs .op) S R (G (b.at a (.inRegion ops (i::rest)::k)) cs) w:=by
 refine(MT.own (P:=Tryz.prog) (lo:=lo) (ty:=link.tWg) (Post:=Post) (ms:=.wg Wg qs .op) (R:=R)).step _ _ _ rfl λw1 ha _=>?_;have hg:=goes_call (main:=true) (P:=Tryz.prog) (w:=w1) (K:=λg' w' es=>g'=_/\w'=w1/\es= #[]) (cs:=cs) (b:=b) (a:=a) (k:=k) (rest:=rest) ho rfl hk rfl QR.f_add (nm_add link) (rfl:(addFn link).body=some (body_add link)) ⟨rfl,rfl,rfl⟩;obtain⟨g',w',es,h3,rfl,rfl,rfl⟩:=goes_elim hg;refine⟨S,_,_,_,h3,Gu.refl S R _,?_⟩;have e:(#[x,.const (.int .i64 1)]:Array Operand).map a.eval= #[.pointer (some ⟨Wg,0,none⟩),.int .i64 1]:=by
  have h1:=hE.eval hx;simp only[aDb,aC9,aG3,h1];rfl
 have e2:(#[.pointer (some ⟨Wg,0,none⟩),.int .i64 1]:Array Value)++Array.replicate ((addFn link).ntmps-(#[.pointer (some ⟨Wg,0,none⟩),.int .i64 1]:Array Value).size) undef= #[.pointer (some ⟨Wg,0,none⟩),.int .i64 1,undef,undef,undef,undef,undef,undef,undef,undef,undef,undef,undef,undef,undef,undef,undef,undef,undef,undef,undef,undef,undef,undef,undef,undef,undef,undef,undef,undef,undef,undef,undef,undef,undef,undef,undef,undef,undef,undef,undef,undef,undef,undef,undef,undef,undef,undef,undef,undef,undef,undef,undef,undef,undef,undef,undef,undef,undef,undef,undef,undef,undef,undef,undef,undef,undef,undef,undef,undef,undef,undef,undef,undef,undef,undef,undef,undef,undef,undef,undef,undef,undef,undef,undef,undef,undef,undef,undef,undef,undef,undef,undef,undef,undef,undef,undef,undef,undef,undef,undef,undef,undef,undef,undef,undef,undef,undef,undef,undef,undef,undef,undef,undef,undef,undef,undef]:=BYK;rw[e,e2];refine add_pos QR Ey hq (MT.rely (h _ ?_) ha);have:(ops[i]?).bind (·.dst)=some d:=by rw[ho];rfl
 rw[this];exact hE.put _ hd
def aR7(Ey:∀x,¬(S.or R) Wg x)(hq:qs.length<=1000)(ho:ops[i]?=some ⟨some d,.call {callee:=.value (.func link.wait),args:= #[x],argTypes:=sG},t,pos,after,none⟩)(hk:b.kind≠.early)(hd:Nat.blt d N=true)(hE:Ad a N ds E)(hx:aM E x=some (.pointer (some ⟨Wg,0,none⟩)))
  (h:∀w1,bZ (S.or R) w w1->(∀f∈qs,f w1)->∀a',Ad a' N ds ((d,.tuple #[])::E)->MT Tryz.prog lo link.tWg Post .calm (Whole lo link.tWg w1) (λ_ _=>False) (G (b.at a' (.inRegion ops rest::k)) cs) w1):MT Tryz.prog lo link.tWg Post (.wg Wg qs .op) S R (G (b.at a (.inRegion ops (i::rest)::k)) cs) w:=by
 refine(MT.own (P:=Tryz.prog) (lo:=lo) (ty:=link.tWg) (Post:=Post) (ms:=.wg Wg qs .op) (R:=R)).step _ _ _ rfl λw1 ha _=>?_;have hg:=goes_call (main:=true) (P:=Tryz.prog) (w:=w1) (K:=λg' w' es=>g'=_/\w'=w1/\es= #[]) (cs:=cs) (b:=b) (a:=a) (k:=k) (rest:=rest) ho rfl hk rfl QR.f_wait (nm_wait link) (rfl:(waitFn link).body=some (body_wait link)) ⟨rfl,rfl,rfl⟩;obtain⟨g',w',es,h3,rfl,rfl,rfl⟩:=goes_elim hg;refine⟨S,_,_,_,h3,Gu.refl S R _,?_⟩;have e:(#[x]:Array Operand).map a.eval= #[.pointer (some ⟨Wg,0,none⟩)]:=by
  have h1:=hE.eval hx;simp only[aDb,aC9,aG3,h1]
 have e2:(#[.pointer (some ⟨Wg,0,none⟩)]:Array Value)++Array.replicate ((waitFn link).ntmps-(#[.pointer (some ⟨Wg,0,none⟩)]:Array Value).size) undef= #[.pointer (some ⟨Wg,0,none⟩),undef,undef,undef,undef,undef,undef,undef,undef,undef,undef,undef,undef,undef,undef,undef,undef,undef,undef,undef,undef,undef,undef,undef,undef,undef,undef,undef,undef,undef,undef,undef,undef,undef,undef,undef,undef,undef,undef,undef,undef,undef,undef,undef,undef,undef,undef,undef,undef,undef,undef,undef,undef,undef,undef,undef,undef,undef,undef,undef,undef,undef,undef,undef,undef,undef,undef,undef,undef,undef,undef,undef,undef,undef,undef,undef,undef,undef,undef,undef,undef,undef,undef,undef]:=BYK;rw[e,e2];refine wait QR Ey hq λw2 h2 h4=>h w2 (ha.trans h2) h4 _ ?_;have:(ops[i]?).bind (·.dst)=some d:=by rw[ho];rfl
 rw[this];exact hE.put _ hd
end
variable{E:Env}{w:World}{V:PS}
noncomputable def DK:Code:=match Tryz.f22.body with
 |some (.seq _ (.seq _ (.seq _ (.seq _ (.seq _ (.seq (.seq _ (.block _ (.loop c))) _))))))=>c
 |_=>.skip
noncomputable def yW:Code:=match Tryz.f22.body with
 |some (.seq _ (.seq _ (.seq _ (.seq _ (.seq _ (.seq _ c))))))=>c
 |_=>.skip
def aPY{P:Program}{t:TypeId}{y:Operand}{xt yt:TypeId}{a b:Nat}{u:Bool}(hx:aM E x=some (nI a))(hy:aM E y=some (nI b))(hu:decide (a<b)=u):kQ P (.binOp .lss xt x y yt) t E w (.bool u) V:=by
 refine⟨?_,bQ.lss hx hy⟩;have h1:=aA.lss (P:=P) (w:=w) (t:=t) (xt:=xt) (yt:=yt) hx hy;have e:decide ((a:Int)<(b:Int))=u:=by rw[<-hu];exact decide_eq_decide.2 Int.ofNat_lt
 rwa[e]at h1
def mH:Env->Env->Prop
 |[],_=>True
 |p::r,E=>look E p.1=some p.2/\mH r E
def mH.sub{E':Env}(h:mH E' E)(k:Nat)(v:Value)(hk:look E' k=some v):look E k=some v:=by
 induction E' with
 |nil=>simp[look]at hk
 |cons p r ih=>
  obtain⟨d,u⟩:=p;simp only[look]at hk;cases e:Nat.beq d k with
  |true=>rw[e]at hk;simp at hk;subst hk;rw[<-aD6 e];exact h.1
  |false=>rw[e]at hk;exact ih h.2 hk
abbrev mE(lb hb pb Wg h k:Nat):Env:=[(22,nI k),(21,nI h),(8,.pointer (some ⟨Wg,0,none⟩)),(7,.pointer (some ⟨pb,0,none⟩)),(3,.pointer (some ⟨hb,0,none⟩)),(2,.pointer (some ⟨lb,0,none⟩))]
def Qj(Wg pk n h:Nat)(f:Nat->It)(j:Nat):World->Prop:=Qk Wg pk j (bS (aG (λi=>f (j*n/h+i)) ((j+1)*n/h-j*n/h)))
def gN(o:Obj)(hV:mQ w.heap.size V):bZ V w (w.alloc o):=by
 have st:∀b,b<w.heap.size->(w.alloc o).heap[b]?=w.heap[b]?:=λb hb=>(World.grownBy_alloc w o none).block b hb BYS;exact⟨λb hb=>st b (hV b _ hb),λb o' hb c T fz hc=>⟨c,(st b (hV b _ hb)).trans hc,rfl,rfl⟩,BYS,rfl,rfl,rfl⟩
section
variable{Post:Value->World->Prop}{B0 lb hb pb pk Wg n c h:Nat}{A:Option Addr}{f:Nat->It}{bf:Frame}{cs:List Frame}{ds:List Deferred}{w0:World}
def Ud(fF:bf.kind≠.early)(h1:B0<=pk)(h2:pk≠lb)(h3:pk≠hb)(h4:pk≠pb)(hA:∀b,lB A b->b<B0)(hW:B0<=Wg)(tl:Wg≠lb)(hW3:Wg≠hb)(hW4:Wg≠pb)(hW5:Wg≠pk)
  (GD:∀w a,Ad a 31 ds (mE lb hb pb Wg h h)->Mn w0 w B0 lb hb pb pk A n c h h f->MT Tryz.prog lo link.tWg Post (.wg Wg ((List.range h).map (Qj Wg pk n h f)) .op) (mS pk h h) (mR B0 lb hb pb) (G (bf.at a [.code yW]) cs) w):
  ∀q k,h=k+q->∀w a,lb<w.heap.size->hb<w.heap.size->pb<w.heap.size->pk<w.heap.size->Wg<w.heap.size->B0<=w.heap.size->Ad a 31 ds (mE lb hb pb Wg h k)->Mn w0 w B0 lb hb pb pk A n c k h f->
   MT Tryz.prog lo link.tWg Post (.wg Wg ((List.range k).map (Qj Wg pk n h f)) .op) (mS pk k h) (mR B0 lb hb pb) (G (bf.at a [.code DK,.inLoop DK,.inBlock 0,.code yW]) cs) w:=by
 intro q;induction q with
 |zero=>
  intro k hk w a z1 z2 z3 z4 z5 z6 ha hX;obtain rfl:h=k:=BYO;have hJ:=MT.own (P:=Tryz.prog) (lo:=lo) (ty:=link.tWg) (Post:=Post) (ms:=.wg Wg ((List.range h).map (Qj Wg pk n h f)) .op) (R:=mR B0 lb hb pb);suffices key:CJ (λS g w=>MT Tryz.prog lo link.tWg Post (.wg Wg ((List.range h).map (Qj Wg pk n h f)) .op) S (mR B0 lb hb pb) g w) bf cs 31 ds (mS pk h h) (mE lb hb pb Wg h h) [.code DK,.inLoop DK,.inBlock 0,.code yW] w from key a ha;refine CJ.seq hJ (CJ.region hJ ?_);simp only[aBT,aBJ,aBv,Nat.reduceAdd,aAn,List.range,List.range.loop];refine aLS hJ (v:=.bool false) rfl fF rfl (λw1 _ _=>aPY rfl rfl (decide_eq_false BYO)) (aLZ hJ (CJ.seq hJ (CJ.cond hJ false rfl (CJ.exit hJ rfl ?_))));exact CJ.sub (λa ha=>GD w a ha hX) (mH.sub ⟨rfl,rfl,rfl,rfl,rfl,rfl,trivial⟩)
 |succ q ih=>
  intro k hk w a z1 z2 z3 z4 z5 z6 ha hX;have gd:k<h:=BYO;obtain⟨qs,hqs⟩:∃qs,qs=(List.range k).map (Qj Wg pk n h f):=⟨_,rfl⟩;have hql:qs.length=k:=by rw[hqs];simp
  rw[<-hqs];have hJ:=MT.own (P:=Tryz.prog) (lo:=lo) (ty:=link.tWg) (Post:=Post) (ms:=.wg Wg qs .op) (R:=mR B0 lb hb pb);suffices key:CJ (λS g w=>MT Tryz.prog lo link.tWg Post (.wg Wg qs .op) S (mR B0 lb hb pb) g w) bf cs 31 ds (mS pk k h) (mE lb hb pb Wg h k) [.code DK,.inLoop DK,.inBlock 0,.code yW] w from key a ha;refine CJ.seq hJ (CJ.region hJ ?_);simp only[aBT,aBJ,aBv,Nat.reduceAdd,aAn,List.range,List.range.loop];refine aLS hJ (v:=.bool true) rfl fF rfl (λw1 _ _=>aPY rfl rfl (decide_eq_true gd)) (aLZ hJ (CJ.seq hJ (CJ.cond hJ true rfl (CJ.skip hJ (CJ.seq hJ (CJ.block hJ (CJ.seq hJ (CJ.region hJ ?_))))))));simp only[aBT,aBJ,aBv,Nat.reduceAdd,aAn,List.range,List.range.loop];refine aLS hJ (v:=nI k) rfl fF rfl (λw1 _ _=>⟨aA.move rfl,bQ.move⟩) ?_;refine CJ.alloc hJ aN rfl fF rfl λw1 vX=>?_;have zY:=hX.iQ vX λ_=>.inr ⟨rfl,k,rfl,aAB _,gd⟩;have hz:=vX.size;obtain⟨kb,Wc⟩:∃kb,kb=w1.heap.size:=⟨_,rfl⟩;have iD:mQ w1.heap.size ((mS pk k h).or (mR B0 lb hb pb)):=λb x rD=>by
   rcases rD with⟨e,_⟩|⟨_,e|e|e|e⟩<;>omega
  have Wo:=zY.iQ (gN (.cells (Value.int .i64 0).cells 3) iD) λ_=>.inr ⟨rfl,k,rfl,aAB _,gd⟩;have qO:(w1.alloc (.cells (Value.int .i64 0).cells 3)).heap.size=kb+1:=by rw[Wc];simp
  have uQ:(w1.alloc (.cells (Value.int .i64 0).cells 3)).heap[kb]?=some (.cells #[.int .i64 0] 3 (0,0)):=by rw[Wc];exact cN w1 _ _
  rw[<-Wc];revert Wo qO uQ;generalize w1.alloc _=w2;intro Wo qO uQ;refine CJ.store hJ aN rfl fF rfl rfl rfl rfl (.inl (.inr ⟨rfl,rfl⟩)) uQ BYS λw3 c1 uj hc3 EL _=>?_;have hX3:=Wo.iQ (uj.sub λb x hx=>hx.imp .inl id) λ_=>.inr ⟨rfl,k,rfl,aAB _,gd⟩;have hnk:∀x,¬((mS pk k h).or (mR B0 lb hb pb)) kb x:=λx hx=>by
   rcases hx with⟨e,_⟩|⟨_,e|e|e|e⟩<;>omega
  have Mu:=hX3.iQ (nV (o:=0) (v:=nI k) hnk) λ_=>.inr ⟨rfl,k,rfl,aAB _,gd⟩;have hk4:(w3.setCell ⟨kb,0,none⟩ (nI k)).cell? ⟨kb,0,none⟩=some (nI k):=tB hc3 (by rw[EL];simp);have RY:(w3.setCell ⟨kb,0,none⟩ (nI k)).heap.size=w3.heap.size:=by rw[Rk.fD.cL]
  have zT:=uj.size;revert Mu hk4 RY;generalize w3.setCell _ _=w4;intro Mu hk4 RY;refine aLZ hJ (CJ.seq hJ (CJ.region hJ ?_));simp only[aBT,aBJ,aBv,Nat.reduceAdd,aAn,List.range,List.range.loop];intro a5 tp;refine aRo (λx hx=>?_) (by have:=hX.h6;omega) rfl fF rfl tp rfl λa6 XI=>?_
  .rcases hx with(⟨e,_⟩|⟨_,e⟩)|⟨_,e|e|e|e⟩<;>omega
  have hJp:=MT.own (P:=Tryz.prog) (lo:=lo) (ty:=link.tWg) (Post:=Post) (ms:=.wg Wg qs .pe) (R:=mR B0 lb hb pb);refine aLZ hJp (CJ.region hJp ?_) a6 XI;simp only[aBT,aBJ,aBv,Nat.reduceAdd,aAn,List.range,List.range.loop];refine aQ2 hJp (xs:=[.tmp 8,.tmp 2,.tmp 9,.tmp 3,.tmp 7]) (us:=[.pointer (some ⟨Wg,0,none⟩),.pointer (some ⟨lb,0,none⟩),.pointer (some ⟨kb,0,none⟩),.pointer (some ⟨hb,0,none⟩),.pointer (some ⟨pb,0,none⟩)]) rfl fF rfl rfl λa7 Xl=>?_;refine aTT rfl fF Xl rfl (by have:=hX.h6;omega) λw8 Mz=>?_;have OZ:=Mu.iQ (Mz.sub λb x hx=>hx.imp .inl id) λ_=>.inr ⟨rfl,k,rfl,aAB _,gd⟩;have fu:=cT Mz (.inl (.inl (.inr ⟨rfl,rfl⟩))) hk4;have b8:=Mz.size;refine⟨mS pk (k+1) h,mR B0 lb hb pb,kS pk k,kR lb kb hb pb A,Qj Wg pk n h f k,M5 (λb x hx=>.inl hx) (.inr ⟨rfl,rfl⟩) gd h1 h2 h3 h4 BYO hA,M3 (OZ.wk gd fu) (λb rD=>⟨rfl,by rcases rD with e|e|e|e<;>simp[e]⟩) (λx hx=>?_) (λb x hx=>?_) BYO,?_⟩
  .obtain⟨_,e|e|e|e|e⟩:=hx
   .exact h2 e
   .omega
   .exact h3 e
   .exact h4 e
   .have:=hA _ e;omega
  .rcases hx with⟨e,_⟩|⟨_,e|e|e|e|e⟩
   .omega
   .omega
   .omega
   .omega
   .omega
   .have:=hA _ e;omega
  obtain⟨ic,fq⟩:∃ic,ic=(List.range (k+1)).map (Qj Wg pk n h f):=⟨_,rfl⟩;rw[show qs++[Qj Wg pk n h f k]=ic by rw[fq,hqs,aGV,aDp];rfl];have GX:=MT.own (P:=Tryz.prog) (lo:=lo) (ty:=link.tWg) (Post:=Post) (ms:=.wg Wg ic .op) (R:=mR B0 lb hb pb);refine aLZ GX (CJ.inBlock GX (CJ.region GX ?_)) a7 Xl;simp only[aBT,aBJ,aBv,Nat.reduceAdd,aAn,List.range,List.range.loop];refine aLS GX (v:=nI (k+1)) rfl fF rfl (λw1 _ _=>aN8 (b:=1) rfl rfl (by have:=hX.h6;omega)) ?_;refine aLS GX (v:=nI (k+1)) rfl fF rfl (λw1 _ _=>⟨aA.move rfl,bQ.move⟩) ?_;refine aLZ GX (CJ.inLoop GX ?_);subst fq;exact CJ.sub (E':=mE lb hb pb Wg h (k+1)) (λa ha=>ih (k+1) BYO w8 a BYO BYO BYO BYO BYO BYO ha OZ.next) (mH.sub ⟨rfl,rfl,rfl,rfl,rfl,rfl,trivial⟩)
end
def aBB{τ:Nm}{e:Nat}{v':Value}(h:VR τ (cI e) v'):v'=cI e:=by
 unfold cI at h⊢;split at h
 .rename_i e0;cases h;rw[if_pos e0]
 .rename_i e0;cases h with
  |iface h1=>cases h1;rw[if_neg e0]
section
variable{main:Bool}{R:PS}{Q:World->Prop}{J:PS->Goroutine->World->Prop}(hJ:pF Tryz.prog main R Q J){S:PS}{cf:Frame}{cs:List Frame}{w:World}
include hJ
def Jw{A:Option Addr}{n c:Nat}{f:Nat->It}(hr:aE cB 2 w A n f)(hA:Seen w (S.or R) A)(hV:mQ w.heap.size (S.or R))(hg:GB<=w.heap.size)
  (hn:∀(O:Nat->Prop) (w':World),(∀b,O b->w.heap.size<=b)->bZ (S.or R) w w'->J (S.or λb x=>x=none/\O b) (G (cf.finish (cI (aH n f))) cs) w'):
  J S (G (Frame.enter Tryz.prog 24 #[.slice A n c] .normal) (cf::cs)) w:=by
 have args:eY (Xe (lB A)) #[.slice A n c] #[.slice A n c]:=eY.one (hA.vr (λp hp=>⟨p,hp,rfl⟩) n c);have hR:∀b,lB A b->(S.or R) b none:=λb ⟨p,hp,e⟩=>e▸(hA p hp).2.1;have Qy:24∈wl:=by simp[wl]
 refine lP hJ (Post:=λv _=>v=cI (aH n f)) Qy (lB A) hA.shown hR hV hg args
  (λT=>(jJ A n c f ((ghost (lB A) w).on T) (oU hr (λp hp=>⟨p,hp,rfl⟩) T)).mono λe W' h=>?_) λτ W' v v' O w' oP wD h1 h2 h3=>?_
 .cases e<;>first|exact h.elim|skip
  exact⟨_,rfl,h.1⟩
 .subst h1;rw[aBB h2];exact hn O w' oP wD
def Ap{a b d:Int}(hV:mQ w.heap.size (S.or R))(hg:GB<=w.heap.size)
  (hn:∀(O:Nat->Prop) (w':World),(∀b,O b->w.heap.size<=b)->bZ (S.or R) w w'->J (S.or λb x=>x=none/\O b) (G (cf.finish (.bool (decide (b<=a)&&decide (a<=d)))) cs) w'):
  J S (G (Frame.enter Tryz.prog 61 #[.int .i64 a,.int .i64 b,.int .i64 d] .normal) (cf::cs)) w:=by
 have Qy:61∈wl:=by simp[wl]
 have args:eY (Xe λ_=>False) #[.int .i64 a,.int .i64 b,.int .i64 d] #[.int .i64 a,.int .i64 b,.int .i64 d]:=((eY.nil.push (.int .i64 a)).push (.int .i64 b)).push (.int .i64 d);refine lP hJ (Post:=λv _=>v=.bool (decide (b<=a)&&decide (a<=d))) Qy (λ_=>False) (λ_ h=>h.elim) (λ_ h=>h.elim) hV hg args
  (λT=>(sT a b d ((ghost (λ_=>False) w).on T)).mono λe W' h=>?_) λτ W' v v' O w' oP wD h1 h2 h3=>?_
 .cases e<;>first|exact h.elim|skip
  exact⟨_,rfl,h.1⟩
 .subst h1;cases h2;exact hn O w' oP wD
end
noncomputable def xx:Code:=match yW with
 | .seq _ c=>c
 |_=>.skip
section
variable{Post:Value->World->Prop}{B0 lb hb pb pk Wg n c h:Nat}{A:Option Addr}{f:Nat->It}{bf:Frame}{cs:List Frame}{ds:List Deferred}{w0:World}
def Ue(fF:bf.kind≠.early)(hW:B0<=Wg)(tl:Wg≠lb)(hW3:Wg≠hb)(hW4:Wg≠pb)
  (hn:∀w w1,bZ (mR B0 lb hb pb) w w1->w1.cell? ⟨pb,0,none⟩=some (.slice (some ⟨pk,0,none⟩) h h)->(∀j,j<h->Qj Wg pk n h f j w1)->Mn w0 w1 B0 lb hb pb pk A n c h h f->
   CJ (λS g w=>MT Tryz.prog lo link.tWg Post .calm S (λ_ _=>False) g w) bf cs 31 ds (Whole lo link.tWg w1) [(7,.pointer (some ⟨pb,0,none⟩))] [.code xx] w1)
  (w:World)(a:Act)(ha:Ad a 31 ds (mE lb hb pb Wg h h))(hX:Mn w0 w B0 lb hb pb pk A n c h h f):
  MT Tryz.prog lo link.tWg Post (.wg Wg ((List.range h).map (Qj Wg pk n h f)) .op) (mS pk h h) (mR B0 lb hb pb) (G (bf.at a [.code yW]) cs) w:=by
 obtain⟨qs,hqs⟩:∃qs,qs=(List.range h).map (Qj Wg pk n h f):=⟨_,rfl⟩;have hql:qs.length=h:=by rw[hqs];simp
 rw[<-hqs];have hJ:=MT.own (P:=Tryz.prog) (lo:=lo) (ty:=link.tWg) (Post:=Post) (ms:=.wg Wg qs .op) (R:=mR B0 lb hb pb);suffices key:CJ (λS g w=>MT Tryz.prog lo link.tWg Post (.wg Wg qs .op) S (mR B0 lb hb pb) g w) bf cs 31 ds (mS pk h h) (mE lb hb pb Wg h h) [.code yW] w from key a ha;refine CJ.seq hJ (CJ.region hJ ?_);simp only[aBT,aBJ,aBv,Nat.reduceAdd,aAn,List.range,List.range.loop];intro a1 vX;refine aR7 (λx hx=>?_) (by have:=hX.h6;omega) rfl fF rfl vX rfl λw1 wD hq a2 Mc=>?_
 .rcases hx with⟨_,j,_,h6,h7⟩|⟨_,e|e|e|e⟩<;>omega
 have zY:=hX.iQ wD λhk=>absurd hk (Nat.lt_irrefl _);have hJ0:=MT.own (P:=Tryz.prog) (lo:=lo) (ty:=link.tWg) (Post:=Post) (ms:=.calm) (R:=λ_ _=>False);refine(CJ.sub (aLZ hJ0 (hn w w1 (wD.sub λ_ _ h=>.inr h) zY.pb (λj hj=>hq _ ?_) zY)) (mH.sub ⟨rfl,trivial⟩):CJ _ bf cs 31 ds _ _ _ w1) a2 Mc;rw[hqs];exact aCc.2 ⟨j,aC5.2 hj,rfl⟩
end
variable{S R S' R' S1:PS}
def bP.trans{A B C:PS}(h:bP A B)(g:bP B C):bP A C:=λb x hb=>(h b x hb).elim (λh1=>.inl ((g b _ h1).elim id id)) (g b x)
def bZ.within{U:PS}{w1:World}(h:bZ V w w1)(hs:bP U V):bZ U w w1:=
 ⟨λb hb=>h.all b ((hs b _ hb).elim id id),λb o hb c T fz hc=>(hs b _ hb).elim (λh1=>⟨c,(h.all b h1).trans hc,rfl,rfl⟩) λh1=>h.one b o h1 c T fz hc,h.size,h.os,h.tape,h.output⟩
def Aq(S R S' R':PS):Prop:=bP S S'/\bP (S.or R) (S'.or R')
def Aq.give{R1 Sc Rc:PS}(h:Aq S R S' R')(g:NY S R S1 R1 Sc Rc):NY S' R' S1 R1 Sc Rc:=
 ⟨g.s.trans h.1,g.r.trans h.2,g.c.trans h.1,g.d.trans h.2,g.o1,g.o2⟩
abbrev M7(S S1 S':PS):PS:=PS.or (λb x=>S1 b x/\¬S b x) S'
def Aq.or(h:Aq S R S' R'):Aq S1 R (M7 S S1 S') R':=by
 have h1:bP S1 (M7 S S1 S'):=λb x hb=>by
  by_cases hs:S b x
  .exact(h.1 b x hs).imp .inr .inr
  .exact .inr (.inl ⟨hb,hs⟩)
 refine⟨h1,λb x hb=>?_⟩;rcases hb with hb|hb
 .exact(h1 b x hb).imp .inl .inl
 .rcases h.2 b x (.inr hb) with h2|h2
  .exact .inl (h2.imp .inr id)
  .exact .inr (h2.imp .inr id)
def Aq.gu{w':World}{es:Array Event}(h:Aq S R S' R')(g:Gu S R S1 w w' es):Gu S' R' (M7 S S1 S') w w' es:=by
 refine⟨λb x hb=>.inr hb,λb x hb=>?_,g.size,λb hb hn=>?_,g.os,g.tape,g.output,λe he=>?_⟩
 .rcases hb with hb|hb
  .exact .inr ((g.fresh b x hb.1).resolve_left hb.2)
  .exact .inl hb
 .rcases g.still b hb λhs=>hn ((h.1 _ _ hs).elim id id) with e|⟨c,c',T,fz,h1,h2,h3,h4⟩
  .exact .inl e
  .exact .inr ⟨c,c',T,fz,h1,h2,h3,λj hj=>h4 j λhs=>(h.1 _ _ hs).elim hn hj⟩
 .rcases g.events e he with h1|⟨h1,h2|⟨h2,h3⟩⟩
  .exact .inl h1
  .exact .inr ⟨h1,.inl (lK h.or.1 h2)⟩
  .rcases fZ.1 (lK h.or.2 (fZ.2 (.inr h2):has (S1.or R) e.loc)) with h4|h4
   .exact .inr ⟨h1,.inl h4⟩
   .exact .inr ⟨h1,.inr ⟨h4,h3⟩⟩
def aPi(S R:PS):Aq S R S R:=⟨λ_ _ h=>.inr h,λ_ _ h=>.inr h⟩
section
variable{P:Program}{ty:TypeId}{Post:Value->World->Prop}{ms:MS}{g:Goroutine}
def fO.Xf{K:Option (World×Value)->MS->PS->PS->Goroutine->World->Prop}(hl:Aq S R S' R')(h:fO P lo ty Post K ms S R g w):
  fO P lo ty Post (λo ms S' R' g w=>∃S R,Aq S R S' R'/\K o ms S R g w) ms S' R' g w:=by
 cases h with
 |own h1 h2 h3=>exact .own h1 (hl.gu h2) ⟨_,_,hl.or,h3⟩
 |ends h1 h2=>exact .ends h1 h2
 |FC h1 h2 h3 h0 h4=>exact .FC h1 h2 h3 h0 ⟨_,_,hl,h4⟩
 |AJ h1 h2 h3=>exact .AJ h1 h2 ⟨_,_,hl,h3⟩
 |add h1 h2 h3 h4=>exact .add h1 h2 h3 ⟨_,_,hl,h4⟩
 |H6 h1 h2 h3 h4=>exact .H6 h1 h2 h3 ⟨_,_,hl,h4⟩
 |said h1 h2 h3=>exact .said h1 h2 ⟨_,_,hl,h3⟩
 |go h1 h2 h3 h4 h5 h6=>exact .go h1 h2 (hl.give h3) h4 h5 ⟨_,_,aPi _ _,h6⟩
 |load h1 h2 h3 h4 h5=>exact .load h1 h2 h3 ⟨_,_,hl,h4⟩ h5
 |vv h1 h2 h3 h4 h5=>exact .vv h1 h2 h3 h4 ⟨_,_,hl,h5⟩
 |ZG h1 h2=>exact .ZG h1 h2
 |ZH h1 h2 h3 h4=>exact .ZH h1 h2 h3 ⟨_,_,hl,h4⟩
 |FD h1 h2 h3=>exact .FD h1 h2 ⟨_,_,hl,h3⟩
 |acq h1 h2 h3=>exact .acq h1 h2 λx=>⟨_,_,aPi _ _,h3 x⟩
 |xS h1 h2 h3 h4 h0 h5=>exact .xS h1 h2 h3 h4 h0 ⟨_,_,hl,h5⟩
 |ZI h1 h2 h3 h4 h5=>exact .ZI h1 h2 (hl.give h3) h4 ⟨_,_,aPi _ _,h5⟩
 |recv h1 h2 h3=>exact .recv h1 h2 λv w2 x y=>⟨_,_,hl,h3 v w2 (x.within hl.2) y⟩
 |shut h1 h2 h3 h4=>exact .shut h1 h2 (λx=>⟨_,_,hl,h3 x⟩) λx y=>⟨_,_,aPi _ _,h4 x y⟩
def Oa.Xf:∀{ρ:iB} {ms:MS} {S R S' R':PS} {g:Goroutine} {w:World},Aq S R S' R'->Oa P lo ty Post ρ ms S R g w->Oa P lo ty Post ρ ms S' R' g w:=by
 intro ρ;induction ρ with
 |z=>intro ms S R S' R' g w _ h;exact h
 |mk f ih=>exactλhl h=>⟨h.1,λw1 h1 h2=>((h.2 w1 (h1.within hl.2) h2).Xf hl).mono λo ms S R g w ⟨_,_,h3,h4⟩=>ih w1 o h3 h4⟩
def MT.Xf(hl:Aq S R S' R')(h:MT P lo ty Post ms S R g w):MT P lo ty Post ms S' R' g w:=let ⟨ρ,h⟩:=h;⟨ρ,h.Xf hl⟩
end
variable{w1:World}{A:Option Addr}{x:Tmp}{fn:Func}
def UW{n:Nat}{f:Nat->It}(hr:aE cB 2 w A n f)(ha:bZ V w w1)(hV:∀p,A=some p->V p.block none):aE cB 2 w1 A n f:=λhn=>by
 obtain⟨b,o,rfl,h1,h2⟩:=hr hn;have e:=ha.all b (hV _ rfl);exact⟨b,o,rfl,aAx h1 ha.size,λi hi j u hu=>by rw[fB e];exact h2 i hi j u hu⟩
def Ar{U:PS}(h:Seen w U A)(ha:bZ V w w1)(hV:∀b,U b none->V b none):Seen w1 U A:=λp hp=>by
 obtain⟨h1,h2,h3,h4⟩:=h p hp;exact⟨h1,h2,h3,by rw[ha.all _ (hV _ h2)];exact h4⟩
def AZ(w:World)(v:Value)(e:TypeId)(hv:v.cells= #[v]):(w.alloc (.cells v.cells e)).cell? ⟨w.heap.size,0,none⟩=some v:=by
 have:=cN w v.cells e;unfold Bk at this;simp only[World.cell?,this];simp[hv]
def aQu{P:Program}{t xt yt:TypeId}{x:Operand}{p:Event->Prop}(ht:P.underlying xt=some (.interface (P.methodsAt xt)))(hx:aM E x=some .nilIface):bQ P (.binOp .neq xt x (.const .nilIface) yt) t E w p:=.nil λρ hρ _ _ _ _=>by
 have h1:∀d:Nat,(Op.equalIn (d+1) xt .nilIface .nilIface).events P w #[]= #[]:=λd=>by simp[Op.equalIn,go_sem,run_underlying ht]
 have h2:∀d:Nat,(Op.equalIn (d+1) xt .nilIface .nilIface).run P w=.ok true w:=λd=>by simp[Op.equalIn,run_underlying ht]
 simp only[execOp,hρ _ _ hx,hρ (.const .nilIface) .nilIface rfl,binOp];simp[Op.equal,Op.maxDepth,go_sem,h1 9999,h2 9999,eqGuard]
section
variable{P:Program}{main:Bool}{R:PS}{Q:World->Prop}{J:PS->Goroutine->World->Prop}(hJ:pF P main R Q J){b cf:Frame}{cs:List Frame}{N:Nat}{ds:List Deferred}{S:PS}{E:Env}{k:List Item}{w:World}{ops:Array Oper}{i:Nat}{rest:List Nat}{t:TypeId}{pos:String}{after:Array Edge}{d:Nat}{v:Value}
include hJ
def aPj{f:FuncId}{c:Code}{xs:List Operand}{us:List Value}(ho:ops[i]?=some ⟨some d,.call {callee:=.value (.func f),args:=xs.toArray,argTypes:=sG},t,pos,after,none⟩)(hk:b.kind≠.early)(hd:Nat.blt d N=true)
  (hf:P.funcs[f]?=some fn)(BY:(fn.name== "runtime.NumGoroutine")=false)(hb:fn.body=some c)(he:evs E xs=some us)
  (h:∀cf MU,(∀(J':PS->Goroutine->World->Prop) S' v w',CJ J' b cs N ds S' ((d,v)::E) (.inRegion ops rest::k) w'->J' S' (G (cf.finish v) MU) w')->J S (G (Frame.enter P f us.toArray .normal) (cf::MU)) w):CJ J b cs N ds S E (.inRegion ops (i::rest)::k) w:=λa ha=>
 L3 hJ ho rfl hk rfl hf BY hb ha he (h _ _ λJ' S' v w' hn=>by
  rw[Frame.finish_at];have e:(ops[i]?).bind (·.dst)=some d:=by rw[ho];rfl
  rw[e];exact hn _ (ha.put v hd))
def aSA{f:FuncId}{y:Tmp}{u:Value}(hf:P.funcs[f]?=some fn)(hr:fn.results= #[.tmp x,.tmp y])(hx:look E x=some v)(hy:look E y=some u)
  (h:J S (G (cf.finish (.tuple #[v,u])) cs) w):CJ J (base f) (cf::cs) N [] S E (.code .ret::k) w:=λa ha=>
 hJ.ctl rfl (λ_=>stepG_ret') (hJ.ctl rfl (λw1=>stepG_leave rfl ha.defers hf (results_tmp2 hr _ P w1) (events_results_tmp2 hr _ _)) (by
  rw[aCd,aCd,ha.at_ _ _ hx,ha.at_ _ _ hy];exact h))
def aTU{f:FuncId}(hf:P.funcs[f]?=some fn)(hr:fn.results= #[.tmp x])(hx:look E x=some v)
  (h:J S (G (cf.finish v) cs) w):CJ J (base f) (cf::cs) N [] S E (.code .ret::k) w:=λa ha=>
 hJ.ctl rfl (λ_=>stepG_ret') (hJ.ctl rfl (λw1=>stepG_leave rfl ha.defers hf (results_tmp hr _ P w1) (events_results_tmp hr _ _)) (by
  rw[aCd,ha.at_ _ _ hx];exact h))
def CJ.load{e:TypeId}{bytes sz:Nat}{z:Value}{g o:Nat}{x:Operand}(ty:Ty P e false sz bytes z)(ho:ops[i]?=some ⟨some d,.load e x,t,pos,after,none⟩)(hk:b.kind≠.early)(hd:Nat.blt d N=true)(hx:aM E x=some (.pointer (some ⟨g,o,none⟩)))(hc:w.cell? ⟨g,o,none⟩=some v)(hS:(S.or R) g none\/(S.or R) g (some o))
  (hn:CJ J b cs N ds S ((d,v)::E) (.inRegion ops rest::k) w):CJ J b cs N ds S E (.inRegion ops (i::rest)::k) w:=
 aLS hJ ho hk hd (λw1 ha _=>⟨aJC ty hx (cT ha hS hc),aLQ ty hx (cT ha hS hc) (.inr ⟨rfl,hS,rfl⟩)⟩) hn
end
structure Cs(w0 w:World)(S:PS)(lb hb:Nat)(A:Option Addr)(n c:Nat)(f:Nat->It)(z:Int):Prop where
 lc:w.cell? ⟨lb,0,none⟩=some (.slice A n c)
 hc:w.cell? ⟨hb,0,none⟩=some (.int .i64 z)
 row:aE cB 2 w A n f
 seen:Seen w (λb x=>x=none/\b<w0.heap.size) A
 gb:GB<=w.heap.size
 old:∀b,b<w0.heap.size->S b none
 sl:S lb none
 sh:S hb none
 NJ:mQ w.heap.size S
 iQ:bZ (λb x=>x=none/\b<w0.heap.size) w0 w
 l1:w0.heap.size<=lb
 l2:w0.heap.size<=hb
section
variable{w0:World}{lb hb n c:Nat}{f:Nat->It}{z:Int}
def Cs.move(h:Cs w0 w S lb hb A n c f z)(ha:bZ S w w1)(hS:∀b x,S b x->S' b x)(hi:mQ w1.heap.size S'):Cs w0 w1 S' lb hb A n c f z:=
 ⟨cT ha (.inl h.sl) h.lc,cT ha (.inl h.sh) h.hc,UW h.row ha λp hp=>h.old _ (h.seen p hp).2.1.2,Ar h.seen ha λb hb=>h.old b hb.2,aBS h.gb ha.size,λb hb=>hS _ _ (h.old b hb),hS _ _ h.sl,hS _ _ h.sh,hi,h.iQ.trans (ha.sub λb x hx=>hx.1▸h.old b hx.2),h.l1,h.l2⟩
end
def Jx{o:Obj}(h:mQ w.heap.size S)(ha:bZ V w w1):mQ (w1.alloc o).heap.size (S.or λb x=>x=none/\b=w1.heap.size):=λb x hb=>by
 have:=ha.size;rcases hb with hb|⟨_,e⟩
 .have:=h b x hb;simp;omega
 .simp;omega
def or_false(S:PS):(S.or λ_ _=>False)=S:=by funext b x;simp[PS.or]
open Go.ConcR (wgBlock)
def aKN:Ty Tryz.prog link.tWg true 2 16 (.agg #[.int .u64 0,.int .u32 0]):=aLt BYK (λ_=>BYK) rfl
def CJ.Xf{P:Program}{lo:Nat}{ty:TypeId}{Post:Value->World->Prop}{ms:MS}{b:Frame}{cs:List Frame}{N:Nat}{ds:List Deferred}{k:List Item}(h:∀b x,S b x->S' b x)(hc:CJ (λS g w=>MT P lo ty Post ms S R g w) b cs N ds S E k w):CJ (λS g w=>MT P lo ty Post ms S R g w) b cs N ds S' E k w:=
 λa ha=>(hc a ha).Xf ⟨λb x hb=>.inr (h b x hb),λb x hb=>.inr (hb.imp (h b x) id)⟩
section
variable{Post:Value->World->Prop}{n c:Nat}{f:Nat->It}{cf:Frame}{cs:List Frame}{z:Int}
def Jy(hS:∀b,b<w.heap.size->S b none)(hi:mQ w.heap.size S)(hr:aE cB 2 w A n f)(hA:Seen w (λb x=>x=none/\b<w.heap.size) A)(hg:GB<=w.heap.size)(sa:n<=c)(he:aH n f=0)
  (EP:lo<=w.heap.size)(aCE:¬(1<=z/\z<=6)->∀S' w',bZ (λb x=>x=none/\b<w.heap.size) w w'->(∀b,b<w.heap.size->S' b none)->MT Tryz.prog lo link.tWg Post .calm S' (λ_ _=>False) (G (cf.finish (.tuple #[.slice none 0 0,cI 1])) cs) w')
  (bY:∀h:Nat,z=h->1<=h->h<=6->∀w' pb pk Wg,bZ (λb x=>x=none/\b<w.heap.size) w w'->GB<=w'.heap.size->w'.cell? ⟨pb,0,none⟩=some (.slice (some ⟨pk,0,none⟩) h h)->(∀j,j<h->Qj Wg pk n h f j w')->
   CJ (λS g w=>MT Tryz.prog lo link.tWg Post .calm S (λ_ _=>False) g w) (base 22) (cf::cs) 31 [] (Whole lo link.tWg w') [(7,.pointer (some ⟨pb,0,none⟩))] [.code xx] w'):
  MT Tryz.prog lo link.tWg Post .calm S (λ_ _=>False) (G (Frame.enter Tryz.prog 22 #[.slice A n c,.int .i64 z] .normal) (cf::cs)) w:=by
 have hJ:=MT.own (P:=Tryz.prog) (lo:=lo) (ty:=link.tWg) (Post:=Post) (ms:=.calm) (R:=λ_ _=>False);rw[enter_at _ Tryz.func22 rfl];suffices key:CJ (λS g w=>MT Tryz.prog lo link.tWg Post .calm S (λ_ _=>False) g w) (base 22) (cf::cs) 31 [] S [(0,.slice A n c),(1,.int .i64 z)] [.code _] w from
  key _ ⟨by simp[Tryz.ntmps22],rfl,λj v hj=>by
   have:=iY [.slice A n c,.int .i64 z] 0 j v hj;obtain⟨_,h2⟩:=this;rw[aD5]at h2;rcases j with _|_|j<;>simp at h2<;>subst h2<;>simp[aGx]⟩
 refine CJ.seq hJ (CJ.region hJ ?_);simp only[aBT,aBJ,aBv,Nat.reduceAdd,aAn,List.range,List.range.loop];refine CJ.box hJ (v:=.slice A n c) rfl BYD rfl rfl λw1 vX=>?_;rw[or_false]at vX;have dr:mQ w1.heap.size S:=hi.mono vX.size;have PC:bZ S w (w1.alloc (.cells (Value.slice A n c).cells 22)):=vX.trans (gN _ dr);have tx:=AZ w1 (.slice A n c) 22 rfl;have Eo:=Jx (o:=.cells (Value.slice A n c).cells 22) hi vX;have mP:(w1.alloc (.cells (Value.slice A n c).cells 22)).heap.size=w1.heap.size+1:=BYS;have WE:=vX.size;obtain⟨lb,Wu⟩:∃lb,lb=w1.heap.size:=⟨_,rfl⟩;rw[<-Wu]at tx Eo mP WE⊢;generalize w1.alloc _=W1 at PC tx Eo mP⊢;refine CJ.box hJ (v:=.int .i64 z) rfl BYD rfl rfl λw2 Mc=>?_;rw[or_false]at Mc;have Ly:=Eo.mono Mc.size;have WK:=Mc.trans (gN (.cells (Value.int .i64 z).cells 3) Ly);have sk:=AZ w2 (.int .i64 z) 3 rfl;have Re:=Jx (o:=.cells (Value.int .i64 z).cells 3) Eo Mc;have OO:=Mc.size;have qO:(w2.alloc (.cells (Value.int .i64 z).cells 3)).heap.size=w2.heap.size+1:=BYS;obtain⟨hb,aj⟩:∃hb,hb=w2.heap.size:=⟨_,rfl⟩;rw[<-aj]at sk Re OO qO⊢;generalize w2.alloc _=W2 at WK sk Re qO⊢;have ah:=PC.trans (WK.sub λb x hx=>.inl hx);have hC:Cs w W2 ((S.or λb x=>x=none/\b=lb).or λb x=>x=none/\b=hb) lb hb A n c f z:=
  ⟨cT WK (.inl (.inr ⟨rfl,rfl⟩)) tx,sk,UW hr ah λp hp=>hS _ (hA p hp).2.1.2,Ar hA ah λb hb=>hS b hb.2,aBS hg ah.size,λb hb=>.inl (.inl (hS b hb)),.inl (.inr ⟨rfl,rfl⟩),.inr ⟨rfl,rfl⟩,Re,ah.sub λb x hx=>hx.1▸hS b hx.2,WE,BYO⟩
 have hlh:lb≠hb:=BYO;revert hC;generalize ((S.or λb x=>x=none/\b=lb).or λb x=>x=none/\b=hb)=S2;intro hC;clear ah WK PC tx sk Re Eo Ly Mc;refine aLS hJ (v:=.slice none 0 0) rfl BYD rfl (λ_ _ _=>⟨aA.assign rfl,bQ.assign⟩) ?_;refine aLS hJ (v:=.nilIface) rfl BYD rfl (λ_ _ _=>⟨aA.assign rfl,bQ.assign⟩) ?_;refine aLZ hJ (CJ.seq hJ (CJ.seq hJ (CJ.region hJ ?_)));simp only[aBT,aBJ,aBv,Nat.reduceAdd,aAn,List.range,List.range.loop];refine CJ.load hJ pW rfl BYD rfl rfl hC.lc (.inl (.inl hC.sl)) ?_;refine aPj hJ (xs:=[.tmp 10]) (us:=[.slice A n c]) rfl BYD rfl Tryz.func24 BYK rfl rfl λcf1 dc tY=>?_;have iD:mQ W2.heap.size (S2.or λ_ _=>False):=by rw[or_false];exact hC.NJ
 refine Jw hJ hC.row (λp hp=>let ⟨x,y,z⟩:=hC.seen p hp;⟨x,.inl (hC.old _ y.2),z⟩) iD hC.gb λO w3 oP wD=>?_;rw[he,eN];rw[or_false]at wD;replace hC:=hC.move wD (λ_ _ h=>h) (hC.NJ.mono wD.size);refine tY _ _ _ _ (CJ.Xf (λ_ _ h=>.inl h) ?_);clear tY oP;refine aLS hJ (v:=.nilIface) rfl BYD rfl (λ_ _ _=>⟨aA.assign rfl,bQ.assign⟩) ?_;refine aLZ hJ (CJ.seq hJ (CJ.region hJ ?_));simp only[aBT,aBJ,aBv,Nat.reduceAdd,aAn,List.range,List.range.loop];refine aLS hJ (v:=.nilIface) rfl BYD rfl (λ_ _ _=>⟨aA.move rfl,bQ.move⟩) ?_;refine aLS hJ (v:=.bool false) rfl BYD rfl (λ_ _ _=>⟨aOY rfl,aQu tR rfl⟩) ?_;refine aLZ hJ (CJ.cond hJ false rfl (CJ.skip hJ (CJ.seq hJ (CJ.seq hJ (CJ.region hJ ?_)))));simp only[aBT,aBJ,aBv,Nat.reduceAdd,aAn,List.range,List.range.loop];refine CJ.load hJ aN rfl BYD rfl rfl hC.hc (.inl (.inl hC.sh)) ?_;refine aPj hJ (xs:=[.tmp 15,.const (.int .i64 1),.const (.int .i64 6)]) (us:=[.int .i64 z,.int .i64 1,.int .i64 6]) rfl BYD rfl Tryz.func61 BYK rfl rfl λcf1 dc tY=>?_;have iD:mQ w3.heap.size (S2.or λ_ _=>False):=by rw[or_false];exact hC.NJ
 refine Ap hJ iD hC.gb λO w4 oP wD=>?_;rw[or_false]at wD;replace hC:=hC.move wD (λ_ _ h=>h) (hC.NJ.mono wD.size);refine tY _ _ _ _ (CJ.Xf (λ_ _ h=>.inl h) ?_);clear tY oP;refine aLS hJ (v:=.bool !(decide (1<=z)&&decide (z<=6))) rfl BYD rfl (λ_ _ _=>⟨aA.not rfl,bQ.not rfl⟩) ?_;by_cases hz:1<=z/\z<=6
 .have e1:(!(decide (1<=z)&&decide (z<=6)))=false:=by simp[hz.1,hz.2]
  refine aLZ hJ (CJ.cond hJ false (by rw[<-e1];rfl) (CJ.skip hJ (CJ.seq hJ (CJ.region hJ ?_))));simp only[aBT,aBJ,aBv,Nat.reduceAdd,aAn,List.range,List.range.loop];obtain⟨h,rfl⟩:∃h:Nat,z=h:=⟨z.toNat,BYO⟩;have h1:1<=h:=BYO;have h6:h<=6:=BYO;refine CJ.load hJ aN rfl BYD rfl rfl hC.hc (.inl (.inl hC.sh)) ?_;refine aR5 hJ pW An (n:=h) BYO BYO rfl BYD rfl rfl rfl λw5 tp=>?_;rw[or_false]at tp;have xB:=hC.move (tp.trans (gN (.cells (madeCells (Value.slice none 0 0).cells (h*1)) 22) (hC.NJ.mono tp.size))) (λ_ _ h=>h) ((hC.NJ.mono tp.size).mono BYS);have bz:=cN w5 (madeCells (Value.slice none 0 0).cells (h*1)) 22;have zT:(w5.alloc (.cells (madeCells (Value.slice none 0 0).cells (h*1)) 22)).heap.size=w5.heap.size+1:=BYS;have hl5:(madeCells (Value.slice none 0 0).cells (h*1)).size=h:=by rw[size_madeCells,Nat.mul_one]
  have aNA:=tp.size;have tZ:=hC;obtain⟨pk,Xt⟩:∃pk,pk=w5.heap.size:=⟨_,rfl⟩;rw[<-Xt]at bz zT aNA⊢;generalize XN:madeCells (Value.slice none 0 0).cells (h*1)=cs5 at xB bz zT hl5⊢;generalize w5.alloc _=W5 at xB bz zT⊢;clear hC;refine CJ.alloc hJ nW rfl BYD rfl λw6 XI=>?_;rw[or_false]at XI;have aG5:mQ w6.heap.size (S2.or λb x=>x=none/\b=pk):=λb x hx=>by
   have:=XI.size;rcases hx with hx|⟨_,e⟩
   .have:=xB.NJ b x hx;omega
   .omega
  have tg:=XI.trans (gN (.cells (Value.slice none 0 0).cells 125) aG5);have wZ:=xB.move (tg.sub λ_ _ h=>.inl h) (λ_ _ h=>h) (xB.NJ.mono tg.size);have zg:=(tg.all pk (.inr ⟨rfl,rfl⟩)).trans bz;have hq6:=cN w6 (Value.slice none 0 0).cells 125;have aNL:=XI.size;have FW:(w6.alloc (.cells (Value.slice none 0 0).cells 125)).heap.size=w6.heap.size+1:=BYS;obtain⟨pb,xK⟩:∃pb,pb=w6.heap.size:=⟨_,rfl⟩;rw[<-xK]at hq6 aNL FW⊢;generalize w6.alloc _=W6 at wZ zg hq6 FW⊢;refine CJ.store hJ nW rfl BYD rfl rfl rfl rfl (.inl (.inr ⟨rfl,rfl⟩)) hq6 (by simp[Value.cells]) λw7 c7 Xl hc7 hl7 _=>?_;rw[or_false]at Xl;have hnb:∀x,¬(S2.or λb x=>x=none/\b=pk) pb x:=λx hx=>by
   have:=aG5 pb x hx;omega
  have hA7:bZ (S2.or λb x=>x=none/\b=pk) W6 (w7.setCell ⟨pb,0,none⟩ (.slice (some ⟨pk,0,none⟩) h h)):=(Xl.sub λ_ _ h=>.inl h).trans (nV hnb);have NM:=wZ.move (hA7.sub λ_ _ h=>.inl h) (λ_ _ h=>h) (wZ.NJ.mono hA7.size);have hp7:=(hA7.all pk (.inr ⟨rfl,rfl⟩)).trans zg;have hq7:(w7.setCell ⟨pb,0,none⟩ (.slice (some ⟨pk,0,none⟩) h h)).cell? ⟨pb,0,none⟩=some (.slice (some ⟨pk,0,none⟩) h h):=tB hc7 (by rw[hl7];simp[Value.cells]);have aLC:=hA7.size;generalize w7.setCell _ _=W7 at hA7 NM hp7 hq7 aLC⊢;refine aLZ hJ (CJ.seq hJ (CJ.region hJ ?_));simp only[aBT,aBJ,aBv,Nat.reduceAdd,aAn,List.range,List.range.loop];intro a ha;refine aRn aKN rfl rfl BYD rfl ha (aBS EP NM.iQ.size) λw8 Mz a8 hA8=>?_;rw[or_false]at Mz;have aMs:mQ w8.heap.size ((S2.or λb x=>x=none/\b=pk).or λb x=>x=none/\b=pb):=λb x hx=>by
   have:=Mz.size;rcases hx with(hx|⟨_,e⟩)|⟨_,e⟩
   .have:=NM.NJ b x hx;omega
   .omega
   .omega
  have hA9:=Mz.trans (gN (wgBlock link.tWg 0 0) aMs);have pS:=NM.move (hA9.sub λ_ _ h=>.inl (.inl h)) (λ_ _ h=>h) (NM.NJ.mono hA9.size);have hp9:=(hA9.all pk (.inl (.inr ⟨rfl,rfl⟩))).trans hp7;have hq9:=cT hA9 (.inl (.inr ⟨rfl,rfl⟩)) hq7;have aNj:=Mz.size;have ba:(w8.alloc (wgBlock link.tWg 0 0)).heap.size=w8.heap.size+1:=BYS;obtain⟨Wg,Ey⟩:∃Wg,Wg=w8.heap.size:=⟨_,rfl⟩;rw[<-Ey]at aNj ba hA8⊢;generalize w8.alloc _=W9 at pS hp9 hq9 ba⊢;have GX:=MT.own (P:=Tryz.prog) (lo:=lo) (ty:=link.tWg) (Post:=Post) (ms:=.wg Wg [] .op) (R:=λ_ _=>False);refine aLZ GX (CJ.seq GX (CJ.seq GX (CJ.region GX ?_))) a8 hA8;simp only[aBT,aBJ,aBv,Nat.reduceAdd,aAn,List.range,List.range.loop];refine CJ.load GX aN rfl BYD rfl rfl pS.hc (.inl (.inl (.inl (.inl pS.sh)))) ?_;refine aLS GX (v:=nI 0) rfl BYD rfl (λ_ _ _=>⟨aA.move rfl,bQ.move⟩) ?_;refine aLZ GX (CJ.block GX (CJ.loop GX ?_));have Wu:=tZ.NJ lb _ tZ.sl;have aQ7:=tZ.NJ hb _ tZ.sh;have Ec:=pS.l1;have CG:=pS.l2;have hX:Mn w W9 w.heap.size lb hb pb pk A n c 0 h f:=⟨pS.lc,pS.hc,hq9,pS.row,pS.seen,λ_=>⟨cs5,_,hp9,hl5⟩,pS.gb,he,sa,h6,pS.iQ⟩;refine CJ.sub (E':=mE lb hb pb Wg h 0) (λa ha=>MT.Xf ?_ (Ud (Post:=Post) (cs:=cf::cs) (ds:=[]) BYD BYO BYO BYO BYO (λb ⟨p,hp,e⟩=>e▸(hA p hp).2.1.2) BYO BYO BYO BYO BYO
   (λw a ha hX=>Ue BYD BYO BYO BYO BYO (λ_ w1 _ h3 h4 hX=>bY h rfl h1 h6 w1 pb pk Wg hX.old hX.gb h3 h4) w a ha hX) h 0 BYO W9 a BYO BYO BYO BYO BYO BYO ha hX)) (mH.sub ⟨rfl,rfl,rfl,rfl,rfl,rfl,trivial⟩)
  have hw:bP (mS pk 0 h) ((S2.or λb x=>x=none/\b=pk).or λb x=>x=none/\b=pb):=λb x ⟨e,_⟩=>.inl (.inl (.inr ⟨rfl,e⟩));refine⟨hw,λb x hx=>?_⟩;rcases hx with hx|⟨e,hx⟩
  .exact(hw b x hx).imp .inl .inl
  .subst e;rcases hx with hx|hx|hx|hx
   .exact .inl (.inl (.inl (.inl (pS.old b hx))))
   .exact .inl (.inl (.inl (.inl (hx▸pS.sl))))
   .exact .inl (.inl (.inl (.inl (hx▸pS.sh))))
   .exact .inl (.inl (.inr ⟨rfl,hx⟩))
 .have e1:(!(decide (1<=z)&&decide (z<=6)))=true:=by
   simp only[aDj,Bool.and_eq_false_iff,decide_eq_false_iff_not];omega
  refine aLZ hJ (CJ.cond hJ true (by rw[<-e1];rfl) (CJ.seq hJ (CJ.region hJ ?_)));simp only[aBT,aBJ,aBv,Nat.reduceAdd,aAn,List.range,List.range.loop];refine aLS hJ (v:=cI 1) rfl BYD rfl (λ_ _ _=>⟨aPE rfl,bQ.makeInterface HF (λ_ h=>by cases h) rfl⟩) ?_;refine aLS hJ (v:=.slice none 0 0) rfl BYD rfl (λ_ _ _=>⟨aA.assign rfl,bQ.assign⟩) ?_;refine aLS hJ (v:=cI 1) rfl BYD rfl (λ_ _ _=>⟨aA.assign rfl,bQ.assign⟩) ?_;exact aLZ hJ (aSA hJ Tryz.func22 rfl rfl rfl (aCE hz _ _ hC.iQ hC.old))
end
end Rk.Cw
namespace Rk.Al
open Go Rk.fD
variable{α β:Type}{P:Program}
inductive NA{α:Type}:Sem α->Prop
 |pure {a:α}:NA (.pure a)
 |load {a:Addr} {k:Value->Sem α}:(∀v,NA (k v))->NA (.load .plain a k)
 |store {a:Addr} {v:Value} {k:Sem α}:NA k->NA (.store .plain a v k)
 |new {o:Obj} {k:Nat->Sem α}:(∀r,NA (k r))->NA (.new o k)
 |shape {r:Nat} {k:Option (TypeId×Nat)->Sem α}:(∀s,NA (k s))->NA (.shape r k)
 |frozen {a:Addr} {k:Bool->Sem α}:(∀b,NA (k b))->NA (.frozen a k)
 |choose {q:Question} {k:Nat->Sem α}:(∀n,NA (k n))->NA (.choose q k)
 |program {k:Program->Sem α}:(∀p,NA (k p))->NA (.program k)
 |room {k:Sem α}:NA k->NA (.mark .noRoom k)
 |halt {h:Halt}:NA (.halt h)
def NA.bind'{s:Sem α}{f:α->Sem β}(h:NA s)(hf:∀a,NA (f a)):NA (s.bind f):=by
 induction h with
 |pure=>exact hf _
 |load _ ih=>exact .load ih
 |store _ ih=>exact .store ih
 |new _ ih=>exact .new ih
 |shape _ ih=>exact .shape ih
 |frozen _ ih=>exact .frozen ih
 |choose _ ih=>exact .choose ih
 |program _ ih=>exact .program ih
 |room _ ih=>exact .room ih
 |halt=>exact .halt
def M8(e:Event):Prop:=e=⟨.mark .noRoom,false,true⟩\/e.sync=false
def NA.ev{s:Sem α}(h:NA s):∀(w:World) (es:Array Event),∀e∈(s.runT P w es).2,e∈es\/M8 e:=by
 have em:(Mode.plain==Mode.atomic)=false:=rfl;induction h with
 |pure=>intro w es e he;exact .inl he
 | @load a k hk ih=>
  intro w es e he;simp only[Sem.runT,em]at he;split at he
  .rcases ih _ _ _ e he with h|h
   .rcases aDa.1 h with h|rfl
    .exact .inl h
    .exact .inr (.inr rfl)
   .exact .inr h
  .split at he
   .rcases ih _ _ _ e he with h|h
    .rcases aD4.1 h with h|h
     .exact .inl h
     .simp only[aHm,aD8]at h;obtain⟨x,_,rfl⟩:=h;exact .inr (.inr rfl)
    .exact .inr h
   .exact .inl he
 | @store a v k hk ih=>
  intro w es e he;cases v<;>simp only[Sem.runT,em]at he<;>first
   |exact .inl he
   |(split at he
     .split at he
      .exact .inl he
      .rcases ih _ _ e he with h|h
       .rcases aDa.1 h with h|rfl
        .exact .inl h
        .exact .inr (.inr rfl)
       .exact .inr h
     .split at he
      .rcases ih _ _ e he with h|h
       .rcases aD4.1 h with h|h
        .exact .inl h
        .simp only[aHm,aD8]at h;obtain⟨x,_,rfl⟩:=h;exact .inr (.inr rfl)
       .exact .inr h
      .exact .inl he)
 |new _ ih=>intro w es e he;simp only[Sem.runT]at he;exact ih _ _ _ e he
 |shape _ ih=>intro w es e he;simp only[Sem.runT]at he;exact ih _ _ _ e he
 |frozen _ ih=>intro w es e he;simp only[Sem.runT]at he;exact ih _ _ _ e he
 |choose _ ih=>
  intro w es e he;simp only[Sem.runT]at he;split at he<;>exact ih _ _ _ e he
 |program _ ih=>intro w es e he;simp only[Sem.runT]at he;exact ih _ _ _ e he
 |room _ ih=>
  intro w es e he;simp only[Sem.runT]at he;rcases ih _ _ e he with h|h
  .rcases aDa.1 h with h|rfl
   .exact .inl h
   .exact .inr (.inl rfl)
  .exact .inr h
 |halt=>intro w es e he;exact .inl he
def kC{s:Sem α}{f:α->Sem β}(h:NA s)(hf:∀a,NA (f a)):NA (s>>=f):=NA.bind' h hf
def kD{a:α}:NA (pure a:Sem α):=.pure
def mI{k:Program->Sem α}(h:∀p,NA (k p)):NA (program>>=k):=.program h
def jM{s:String}:NA (stuck s:Sem α):=.halt
def jN{u:Unsupported}:NA (unsupported u:Sem α):=.halt
def jO{v:Value}:NA (goPanic v:Sem α):=.halt
def qL{s:Sem α}{f:α->β}(h:NA s):NA (Functor.map f s):=kC h λ_=>kD
def qM{c:Prop}[Decidable c]{s t:Sem α}(h:NA s)(h':NA t):NA (if c then s else t):=by split<;>assumption
def mr(r:Nat):NA (shape r):=.shape λ_=>.pure
def M9(a:Addr):NA (frozen a):=.frozen λ_=>.pure
def N0(q:Question):NA (choose q):=.choose λ_=>.pure
def N1:NA (mark .noRoom):=.room .pure
def N2(o:Obj):NA (newObj o):=.new λ_=>.pure
def yX(t:TypeId):NA (typeInfo t):=by unfold typeInfo;repeat' (first|with_reducible exact kD|with_reducible exact jM|with_reducible exact jN|with_reducible exact jO|with_reducible refine mI λ_=>?_|with_reducible refine qL ?_|with_reducible refine kC ?_ λ_=>?_|with_reducible refine qM ?_ ?_|intro _|split|dsimp only)
def xy(t:TypeId):NA (underlying t):=by unfold underlying;repeat' (first|with_reducible exact kD|with_reducible exact jM|with_reducible exact jN|with_reducible exact jO|with_reducible refine mI λ_=>?_|with_reducible refine qL ?_|with_reducible refine kC ?_ λ_=>?_|with_reducible refine qM ?_ ?_|intro _|split|dsimp only)
def aBC(t:TypeId):NA (zeroValue t):=by unfold zeroValue;repeat' (first|with_reducible exact kD|with_reducible exact jM|with_reducible exact jN|with_reducible exact jO|with_reducible exact yX _|with_reducible refine mI λ_=>?_|with_reducible refine qL ?_|with_reducible refine kC ?_ λ_=>?_|with_reducible refine qM ?_ ?_|intro _|split|dsimp only)
def aBD(t:TypeId):NA (Go.sizeOf t):=by unfold Go.sizeOf;repeat' (first|with_reducible exact kD|with_reducible exact jM|with_reducible exact jN|with_reducible exact jO|with_reducible exact yX _|with_reducible refine mI λ_=>?_|with_reducible refine qL ?_|with_reducible refine kC ?_ λ_=>?_|with_reducible refine qM ?_ ?_|intro _|split|dsimp only)
def N3(t:TypeId):NA (elemOf t):=by unfold elemOf;repeat' (first|with_reducible exact kD|with_reducible exact jM|with_reducible exact jN|with_reducible exact jO|with_reducible exact xy _|with_reducible refine mI λ_=>?_|with_reducible refine qL ?_|with_reducible refine kC ?_ λ_=>?_|with_reducible refine qM ?_ ?_|intro _|split|dsimp only)
def Au(t:TypeId)(c:Array Value):NA (newRow t c):=by unfold newRow;repeat' (first|with_reducible exact kD|with_reducible exact jM|with_reducible exact jN|with_reducible exact jO|with_reducible exact N2 _|with_reducible refine mI λ_=>?_|with_reducible refine qL ?_|with_reducible refine kC ?_ λ_=>?_|with_reducible refine qM ?_ ?_|intro _|split|dsimp only)
def N4(t:TypeId)(v:Value):NA (newVar t v):=Au _ _
def aKO(e:RuntimeError):NA (runtimePanic e:Sem α):=by unfold runtimePanic;repeat' (first|with_reducible exact kD|with_reducible exact jM|with_reducible exact jN|with_reducible exact jO|with_reducible exact N4 _ _|with_reducible exact N3 _|with_reducible refine mI λ_=>?_|with_reducible refine qL ?_|with_reducible refine kC ?_ λ_=>?_|with_reducible refine qM ?_ ?_|intro _|split|dsimp only)
def mu(v:Value):NA (asInt v):=by unfold asInt asIntOf;repeat' (first|with_reducible exact kD|with_reducible exact jM|with_reducible exact jN|with_reducible exact jO|with_reducible refine mI λ_=>?_|with_reducible refine qL ?_|with_reducible refine kC ?_ λ_=>?_|with_reducible refine qM ?_ ?_|intro _|split|dsimp only)
def Uf(n:Nat):NA (askRoom n):=by unfold askRoom;repeat' (first|with_reducible exact kD|with_reducible exact jM|with_reducible exact jN|with_reducible exact jO|with_reducible exact N1|with_reducible refine mI λ_=>?_|with_reducible refine qL ?_|with_reducible refine kC ?_ λ_=>?_|with_reducible refine qM ?_ ?_|intro _|split|dsimp only)
def Jz(a:Addr)(n:Nat):∀(i:Nat) (acc:Array Value),NA (loadCellsFrom a i n acc):=by
 induction n with
 |zero=>intro i acc;exact kD
 |succ n ih=>intro i acc;unfold loadCellsFrom;exact kC (.load λ_=>.pure) λ_=>ih _ _
def UX(a:Addr)(vs:List Value):∀i:Nat,NA (storeCells a vs i):=by
 induction vs with
 |nil=>intro i;unfold storeCells;exact kD
 |cons v r ih=>intro i;unfold storeCells;exact kC (.store .pure) λ_=>ih _
def N5(a:Addr)(n:Nat):NA (Builtin.holdsCells a n):=by unfold Builtin.holdsCells;repeat' (first|with_reducible exact kD|with_reducible exact jM|with_reducible exact jN|with_reducible exact jO|with_reducible exact mr _|with_reducible refine mI λ_=>?_|with_reducible refine qL ?_|with_reducible refine kC ?_ λ_=>?_|with_reducible refine qM ?_ ?_|intro _|split|dsimp only)
def Ka(a b c:Nat)(o:Option Addr)(x:Value):NA (Builtin.mayShare a b c o x):=by unfold Builtin.mayShare;repeat' (first|with_reducible exact kD|with_reducible exact jM|with_reducible exact jN|with_reducible exact jO|with_reducible exact N5 _ _|with_reducible exact M9 _|with_reducible refine mI λ_=>?_|with_reducible refine qL ?_|with_reducible refine kC ?_ λ_=>?_|with_reducible refine qM ?_ ?_|intro _|split|dsimp only)
def mv(x:Value):NA (Builtin.lenOf x):=by unfold Builtin.lenOf;repeat' (first|with_reducible exact kD|with_reducible exact jM|with_reducible exact jN|with_reducible exact jO|with_reducible refine mI λ_=>?_|with_reducible refine qL ?_|with_reducible refine kC ?_ λ_=>?_|with_reducible refine qM ?_ ?_|intro _|split|dsimp only)
def N6(a b:Nat)(x:Value):NA (Builtin.firstCells a b x):=by unfold Builtin.firstCells loadCells;repeat' (first|with_reducible exact kD|with_reducible exact jM|with_reducible exact jN|with_reducible exact jO|with_reducible exact Jz _ _ _ _|with_reducible refine mI λ_=>?_|with_reducible refine qL ?_|with_reducible refine kC ?_ λ_=>?_|with_reducible refine qM ?_ ?_|intro _|split|dsimp only)
def N7(a:Array TypeId)(t:TypeId)(xs:Array Value):NA (Builtin.append_ a t xs):=by unfold Builtin.append_;repeat' (first|with_reducible exact kD|with_reducible exact jM|with_reducible exact jN|with_reducible exact jO|with_reducible exact xy _|with_reducible exact aBD _|with_reducible exact mu _|with_reducible exact aKO _|with_reducible exact yX _|with_reducible exact N0 _|with_reducible exact mv _|with_reducible exact N6 _ _ _|with_reducible exact aBC _|with_reducible exact UX _ _ _|with_reducible exact Ka _ _ _ _ _|with_reducible exact N1|with_reducible exact Uf _|with_reducible exact Au _ _|with_reducible refine mI λ_=>?_|with_reducible refine qL ?_|with_reducible refine kC ?_ λ_=>?_|with_reducible refine qM ?_ ?_|intro _|split|dsimp only)
def OE{a:Array TypeId}{t:TypeId}{args:Array Value}{w:World}:∀ev∈(Builtin.append_ a t args).events P w #[],M8 ev:=λev he=>by
 rcases(N7 a t args).ev w #[] ev he with h|h
 .simp at h
 .exact h
end Rk.Al
