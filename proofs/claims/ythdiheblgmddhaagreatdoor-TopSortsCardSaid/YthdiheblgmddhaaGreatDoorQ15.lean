/- Part of the proof of TopSorts. -/
import Derived.Conc.CompanyDraw
import Derived.Test.YthdiheblgmddhaaGreatDoorQ14
set_option linter.all false
set_option maxHeartbeats 4000000
namespace Rk.fD
open Go
variable{v v':Value}{ρ ρ':Operand->Value}{α:Type}
structure Fx(P:Program):Prop where
 low:P.globals.size<=GB
 Rv:P.underlying 3=some (.int .i64)
 No:P.underlying 167=some (.int .u64)
 aEX:∃ms,P.underlying 25=some (.interface ms)
 vD:P.underlying 22=some (.slice 38)
 Np:P.underlying 125=some (.slice 22)
 z8:∃i,P.info? 3=some i/\∀n x,i.desc≠.named n x
 vi:∀i v,P.info? 38=some i->i.zero=some v->v=.agg #[.int .i64 0,.int .i64 0]
 B4:∀i v,P.info? 22=some i->i.zero=some v->v=.slice none 0 0
 field:∀(n:Nat) (fs:Array Go.Field) (f:Go.Field),P.underlying 38=some (.struct fs)->fs[n]?=some f->∃i,P.info? f.type=some i/\i.size≠0
 vj:∃fs,P.underlying 38=some (.struct fs)/\∀f∈fs.toList,f.type=3
 stood:P.stoodInHeld 38=false
 guard:P.eqGuardType P.depth 38=false
 vk:∃fn,P.funcs[27]?=some fn/\(fn.name== "runtime.NumGoroutine")=false/\fn.body.isNone=false
def flat:Value->Bool
 | .bool _| .int _ _| .string _| .pointer none| .slice none _ _| .nilIface=>true
 |_=>false
def VR.flat{σ:Nm}(h:flat v=true):VR σ v v:=by
 unfold Rk.fD.flat at h;split at h<;>first|exact .bool _|exact .int _ _|exact .string _|exact .YI|exact .Ez _ _|exact .nilIface|cases h
def wI:Operand->Bool
 | .tmp _=>true
 | .const v=>flat v
 | .func f=>f==27
 | .global _=>false
def B5(P:Program)(f:FuncId):Bool:=match P.funcs[f]? with
 |some fn=>wl.contains f&&(!(fn.name== "runtime.NumGoroutine")&& !fn.body.isNone)
 |none=>false
def mB(P:Program):Op->Bool
 | .move x| .assign x=>wI x
 | .pick a b c=>wI a&&(wI b&&wI c)
 | .alloc t=>t==38
 | .box _ x=>wI x
 | .buildSlice t _ ps=>(t==22||t==125)&&ps.toList.all λp=>wI p.2
 | .load _ a=>wI a
 | .store _ a x=>wI a&&wI x
 | .binOp op t x y _=>wI x&&(wI y&&((PR op&&(t==3||t==167))||((op==.eql||op==.neq)&&(t==3||t==38||(match y with
   | .const .nilIface=>t==25
   | .const (.slice none _ _)=>t==22
   |_=>false)))))
 | .unOp .not _ x=>wI x
 | .convert s d x=>wI x&&((s==3&&d==167)||(s==167&&d==3))
 | .makeInterface _ x=>wI x
 | .makeSlice t l c=>t==22&&(wI l&&wI c)
 | .slice t x lo hi mx=>t==22&&(wI x&&(lo.all wI&&(hi.all wI&&mx.isNone)))
 | .fieldAddr s x _=>s==38&&wI x
 | .indexAddr t x i=>(t==22||t==125)&&(wI x&&wI i)
 | .extract x _=>wI x
 | .call {callee:=.builtin .append,args,argTypes}=>args.toList.all wI&&(args.size==2&&argTypes== #[22,22])
 | .call {callee:=.builtin .len,args,argTypes}=>args.toList.all wI&&(args.size==1&&(argTypes== #[22]||argTypes== #[125]))
 | .call {callee:=.value (.func f),args,..}=>B5 P f&&args.toList.all wI
 | .call {callee:=.value (.tmp _),args,..}=>args.toList.all wI
 |_=>false
variable{P:Program}{σ:Nm}
def eY.map(hr:∀x,wI x=true->VR σ (ρ x) (ρ' x)){xs:Array Operand}(h:xs.toList.all wI=true):eY σ (xs.map ρ) (xs.map ρ'):=by
 refine⟨BYS,λi h1 h2=>?_⟩;simp only[Array.size_map]at h1;simp only[aFo];exact hr _ (aCJ.1 h _ BYS)
def B6{xs:Array α}(h:xs.size=2):∃x y,xs= #[x,y]:=⟨xs[0],xs[1],by
 apply Array.ext
 .simp[h]
 .intro i h1 h2;have:i=0\/i=1:=BYO;rcases this with rfl|rfl<;>rfl⟩
def aAA{xs:Array α}(h:xs.size=1):∃x,xs= #[x]:=⟨xs[0],by
 apply Array.ext
 .simp[h]
 .intro i h1 h2;have:i=0:=BYO;subst this;rfl⟩
def eY.one(h:VR σ v v'):eY σ #[v] #[v']:=eY.nil.push h
def aQH{x x':Value}(h:VR σ v v')(h':VR σ x x'):eY σ #[v,x] #[v',x']:=(eY.nil.push h).push h'
def JB(F:Fx P):∀τ:Nm,σ.le τ->∀i v,P.info? 38=some i->i.zero=some v->VR τ v v:=λτ _ i v h1 h2=>by
 rw[F.vi i v h1 h2];exact .agg rfl λj h1 h2=>(aQH (.int _ _) (.int _ _)).at_ j h1 h2
def jb(F:Fx P):∀τ:Nm,σ.le τ->∀i v,P.info? 22=some i->i.zero=some v->VR τ v v:=λτ _ i v h1 h2=>by
 rw[F.B4 i v h1 h2];exact .Ez _ _
def Sx.B5{f:FuncId}(h:B5 P f=true){asL Dz:Array Value}(ha:eY σ asL Dz):SR P Ru σ (callFunc f asL) (callFunc f Dz):=by
 unfold Rk.fD.B5 at h;cases hf:P.funcs[f]? with
 |none=>rw[hf]at h;cases h
 |some fn=>
  rw[hf]at h;simp only[aBg,aDj]at h;exact Sx.call hf h.2.1 h.2.2 (by simpa using h.1) ha
def Sx.op(F:Fx P)(hr:∀x,wI x=true->VR σ (ρ x) (ρ' x))(hf:∀f,ρ (.func f)=.func (.func f) #[] #[])(ei:∀f,ρ' (.func f)=.func (.func f) #[] #[])(hc:∀v,ρ (.const v)=v)(Ee:∀v,ρ' (.const v)=v)(o:Oper)(h:mB P o.op=true):SR P Ru σ (execOp ρ o) (execOp ρ' o):=by
 unfold execOp;cases ho:o.op with
 |move x=>rw[ho]at h;exact .pure (.value (hr x h))
 |assign x=>rw[ho]at h;exact .pure (.value (hr x h))
 |pick a b c=>
  rw[ho]at h;simp only[mB,aBg]at h;refine(Sx.bool (hr a h.1)).bind λτ z z' hl e=>?_;cases e;cases z with
  |true=>exact .pure (.value ((hr b h.2.1).mono hl))
  |false=>exact .pure (.value ((hr c h.2.2).mono hl))
 |alloc t=>
  rw[ho]at h;simp only[mB,beq_iff_eq]at h;subst h;exact Sx.v (Sx.alloc _ (JB F))
 |box t x=>rw[ho]at h;exact Sx.v (Sx.box t (hr x h))
 |load t x=>rw[ho]at h;exact Sx.v (Sx.loadAt t (hr x h))
 |store t a x=>
  rw[ho]at h;simp only[mB,aBg]at h;exact Sx.u (Sx.storeAt t (hr a h.1) (hr x h.2))
 |extract x n=>rw[ho]at h;exact Sx.v (Sx.extract (hr x h) n)
 |makeInterface t x=>rw[ho]at h;exact Sx.v (aSx t (hr x h))
 |makeSlice t l c=>
  rw[ho]at h;simp only[mB,aBg,beq_iff_eq]at h;obtain⟨rfl,h1,h2⟩:=h;exact Sx.v (aSy _ F.vD (JB F _ (Nm.le_refl _)) (JB F) (hr l h1) (hr c h2))
 |fieldAddr t x n=>
  rw[ho]at h;simp only[mB,aBg,beq_iff_eq]at h;obtain⟨rfl,h1⟩:=h;exact Sx.v (Sx.fieldAt _ n (hr x h1) (F.field n))
 |indexAddr t x i=>
  rw[ho]at h;simp only[mB,aBg,aDc,beq_iff_eq]at h;obtain⟨ht,h1,h2⟩:=h;refine Sx.v (Sx.indexAt t (hr x h1) (hr i h2) λd hd=>?_);rcases ht with rfl|rfl
  .rw[F.vD]at hd;cases hd;exact⟨_,rfl⟩
  .rw[F.Np]at hd;cases hd;exact⟨_,rfl⟩
 |slice t x lo hi mx=>
  rw[ho]at h;simp only[mB,aBg,beq_iff_eq]at h;obtain⟨rfl,h1,h2,h3,h4⟩:=h;have op:∀{y:Option Operand},y.all wI=true->y9 σ (y.map ρ) (y.map ρ'):=λ{y} hy=>by
   cases y with
   |none=>exact .none
   |some y=>exact .some (hr y (by simpa using hy))
  cases mx with
  |some _=>simp at h4
  |none=>exact Sx.v (Sx.sliceAt _ F.vD (hr x h1) (op h2) (op h3))
 |unOp op t x=>
  rw[ho]at h;cases op with
  |not=>exact Sx.v (Sx.not (hr x h))
  |_=>simp[mB]at h
 |convert s d x=>
  rw[ho]at h;simp only[mB,aBg,aDc,beq_iff_eq]at h;obtain⟨h1,⟨rfl,rfl⟩|⟨rfl,rfl⟩⟩:=h
  .exact Sx.v (Sx.conv _ _ F.Rv F.No (hr x h1))
  .exact Sx.v (Sx.conv _ _ F.No F.Rv (hr x h1))
 |binOp op t x y u=>
  rw[ho]at h;simp only[mB,aBg,aDc,beq_iff_eq]at h;obtain⟨h1,h2,⟨h3,h4⟩|⟨h3,h4⟩⟩:=h
  .have key:∀k,P.underlying t=some (.int k)->SR P VR σ (eqGuard op t x y (ρ x) (ρ y)>>=λ_=>binOp op t (ρ x) (ρ y)) (eqGuard op t x y (ρ' x) (ρ' y)>>=λ_=>binOp op t (ρ' x) (ρ' y)):=λk hk=>by
    have hb:=aT1 F.low op h3 hk (hr x h1) (hr y h2);cases op<;>first|(simp[PR]at h3;done)|exact hb
   rcases h4 with rfl|rfl
   .exact Sx.v (key _ F.Rv)
   .exact Sx.v (key _ F.No)
  .rcases h4 with(rfl|rfl)|h4
   .obtain⟨i,hi,hd⟩:=F.z8;exact Sx.v (aT2 F.low op h3 F.Rv hi hd x y (hr x h1) (hr y h2))
   .obtain⟨i,hi,hd⟩:=F.z8;obtain⟨fs,hu,hf⟩:=F.vj;exact Sx.v (aT3 F.low op h3 F.Rv hi hd hu hf F.stood F.guard x y (hr x h1) (hr y h2))
   .have key:∀t y,SR P VR σ (eqGuard op t x (.const y) (ρ x) y>>=λ_=>binOp op t (ρ x) y) (eqGuard op t x (.const y) (ρ' x) y>>=λ_=>binOp op t (ρ' x) y)->SR P VR σ (eqGuard op t x (.const y) (ρ x) (ρ (.const y))>>=λ_=>binOp op t (ρ x) (ρ (.const y))) (eqGuard op t x (.const y) (ρ' x) (ρ' (.const y))>>=λ_=>binOp op t (ρ' x) (ρ' (.const y))):=λt y h=>by rw[hc,Ee];exact h
    split at h4
    .simp only[beq_iff_eq]at h4;subst h4;obtain⟨ms,hm⟩:=F.aEX;exact Sx.v (key _ _ (aTB op h3 hm x (hr x h1) (.inl ⟨rfl,ms,rfl⟩)))
    .simp only[beq_iff_eq]at h4;subst h4;exact Sx.v (key _ _ (aTB op h3 F.vD x (hr x h1) (.inr ⟨_,_,_,rfl,rfl⟩)))
    .cases h4
 |buildSlice t n ps=>
  rw[ho]at h;simp only[mB,aBg,aDc,beq_iff_eq]at h;obtain⟨ht,hp⟩:=h;have hl:(ps.map λp:Nat×Operand=>(p.1,ρ p.2)).toList.length=(ps.map λp:Nat×Operand=>(p.1,ρ' p.2)).toList.length:=BYS;have hv:∀i (h:i<(ps.map λp:Nat×Operand=>(p.1,ρ p.2)).toList.length) (h':i<(ps.map λp:Nat×Operand=>(p.1,ρ' p.2)).toList.length),VR σ (ps.map λp:Nat×Operand=>(p.1,ρ p.2)).toList[i].2 (ps.map λp:Nat×Operand=>(p.1,ρ' p.2)).toList[i].2/\(ps.map λp:Nat×Operand=>(p.1,ρ p.2)).toList[i].1=(ps.map λp:Nat×Operand=>(p.1,ρ' p.2)).toList[i].1:=λi h h'=>by
   simp only[aF3,Array.size_map]at h;simp only[Array.getElem_toList,aFo,and_true];exact hr _ (aCJ.1 hp ps[i] BYS)
  rcases ht with rfl|rfl
  .exact Sx.v (aQl _ F.vD (JB F) n hl hv)
  .exact Sx.v (aQl _ F.Np (jb F) n hl hv)
 |call c=>
  rw[ho]at h;obtain⟨callee,args,sG⟩:=c;cases callee with
  |invoke r n=>simp[mB]at h
  |builtin b=>
   cases b<;>first|(simp[mB]at h;done)|skip
   case append=>
    simp only[mB,aBg,beq_iff_eq]at h;obtain⟨h1,h2,rfl⟩:=h;obtain⟨x,y,rfl⟩:=B6 h2;simp at h1;have key:SR P VR σ (Builtin.append_ #[22,22] o.type (#[x,y].map ρ)) (Builtin.append_ #[22,22] o.type (#[x,y].map ρ')):=by
     rw[show #[x,y].map ρ= #[ρ x,ρ y] by simp,show #[x,y].map ρ'= #[ρ' x,ρ' y] by simp];exact Sx.append _ _ F.vD (JB F) (hr x h1.1) (hr y h1.2)
    exact Sx.v key
   case len=>
    simp only[mB,aBg,aDc,beq_iff_eq]at h;obtain⟨h1,h2,h3⟩:=h;obtain⟨x,rfl⟩:=aAA h2;simp at h1;have key:∀t e,P.underlying t=some (.slice e)->SR P VR σ (Builtin.len_ #[t] o.type (#[x].map ρ)) (Builtin.len_ #[t] o.type (#[x].map ρ')):=λt e he=>by
     rw[show #[x].map ρ= #[ρ x] by simp,show #[x].map ρ'= #[ρ' x] by simp];exact Sx.len _ _ he (hr x h1)
    rcases h3 with rfl|rfl
    .exact Sx.v (key _ _ F.vD)
    .exact Sx.v (key _ _ F.Np)
  |value f=>
   cases f with
   |const v=>simp[mB]at h
   |global g=>simp[mB]at h
   |func f=>
    simp only[mB,aBg]at h;have ha:=eY.map hr h.2;show SR P Ru σ (Sem.bind (Deferred.ofValue (ρ (.func f)) _) _) (Sem.bind (Deferred.ofValue (ρ' (.func f)) _) _);rw[hf,ei];exact Sx.B5 h.1 ((eY.nil.append ha).append .nil)
   |tmp t=>
    simp only[mB]at h;have ha:=eY.map hr h;have hv:=hr (.tmp t) rfl;show SR P Ru σ (Sem.bind (Deferred.ofValue (ρ (.tmp t)) _) _) (Sem.bind (Deferred.ofValue (ρ' (.tmp t)) _) _);generalize ρ (.tmp t)=v at hv;generalize ρ' (.tmp t)=v' at hv;cases hv with
    |func e=>
     subst e;obtain⟨fn,h1,h2,h3⟩:=F.vk;exact Sx.call h1 h2 h3 BYD ((eY.nil.append ha).append .nil)
    |_=>exact SR.halt _ _
 |_=>rw[ho]at h;simp[mB]at h
variable{W:World}{b o:Nat}{c:Array Value}{fz:Nat×Nat}{es:Array Event}
def jc{T:TypeId}{k:Value->Sem α}(h:W.heap[b]?=some (.cells c T fz))(hc:c[o]?=none):
  (Sem.load .plain ⟨b,o,none⟩ k).runT P W es=(.halt (.stuck "load: no such cell") W,es):=by
 have h1:W.cell? ⟨b,o,none⟩=none:=by rw[cell_of h];exact hc
 simp only[Sem.runT,h1,World.farLoad,h,World.noCell]
def Rw{x:Addr}{l:Bool}{k:Value->Sem α}(h:W.heap[b]?=some (.number x l)):
  (Sem.load .plain ⟨b,o,none⟩ k).runT P W es=(.halt (.stuck "load: no such cell") W,es):=by
 have h1:W.cell? ⟨b,o,none⟩=none:=by simp[World.cell?,h]
 simp only[Sem.runT,h1,World.farLoad,h,World.noCell]
def YK{T:TypeId}{k:Value->Sem α}(h:W.heap[b]?=some (.cells c T fz))(hc:c[o]?=some v):
  (Sem.load .plain ⟨b,o,none⟩ k).runT P W es=(k v).runT P W (es.push ⟨.cell ⟨b,o,none⟩,false,false⟩):=by
 have h1:W.cell? ⟨b,o,none⟩=some v:=by rw[cell_of h];exact hc
 simp only[Sem.runT,h1];rfl
def CX{x:Obj}{k:Sem α}(h:W.heap[b]?=some x)(hx:(∃c T fz,x=.cells c T fz/\c[o]?=none)\/∃a l,x=.number a l):
  ∃s,(Sem.store .plain ⟨b,o,none⟩ v k).runT P W es=(.halt (.stuck s) W,es):=by
 have h1:W.cell? ⟨b,o,none⟩=none:=by
  rcases hx with⟨c,T,fz,rfl,hc⟩|⟨a,l,rfl⟩
  .rw[cell_of h];exact hc
  .simp[World.cell?,h]
 have h2:∀m,W.farStore P ⟨b,o,none⟩ v m=.error (.stuck "store: no such cell"):=λm=>by
  rcases hx with⟨c,T,fz,rfl,hc⟩|⟨a,l,rfl⟩<;>simp only[World.farStore,h,World.noCell]
 cases v<;>simp only[Sem.runT,h1,h2]<;>exact⟨_,rfl⟩
def Rx{T:TypeId}{k:Sem α}(h:W.heap[b]?=some (.cells c T fz))(hf:W.frozen? ⟨b,o,none⟩=true):
  ∃x,NP x=true/\(Sem.store .plain ⟨b,o,none⟩ v k).runT P W es=(.halt x W,es):=by
 cases hc:c[o]? with
 |none=>
  obtain⟨s,hs⟩:=CX (P:=P) (v:=v) (k:=k) (es:=es) (o:=o) h (.inl ⟨c,T,fz,rfl,hc⟩);exact⟨_,rfl,hs⟩
 |some u=>
  have h1:W.cell? ⟨b,o,none⟩=some u:=by rw[cell_of h];exact hc
  cases v<;>simp only[Sem.runT,h1,hf,if_true]<;>exact⟨_,rfl,rfl⟩
def PT{a:Addr}{k:Sem α}(h:v.yO=false):
  ∃s,(Sem.store .plain a v k).runT P W es=(.halt (.stuck s) W,es):=by
 cases v<;>first|(simp[Go.Value.yO]at h;done)|exact⟨_,rfl⟩
def SR.soft{Q:Nm->α->α->Prop}{σ:Nm}{s s':Sem α}(h:SR P Q σ s s'):∀{W w:World} {es:Array Event},WR σ W w->GB<=W.heap.size->GB<=w.heap.size->
  (∃a W1 e1,s.runT P W es=(.ok a W1,e1))\/∃x W1 e1,s.runT P W es=(.halt x W1,e1)/\NP x=true:=by
 induction h with
 |pure q=>intro W w es hw hG hg;exact .inl ⟨_,W,es,rfl⟩
 | @load σ b b' o k k' hb hk ih=>
  intro W w es hw hG hg;obtain⟨X,Y,h1,h2,hc⟩:=hw.cell _ _ hb;cases hc with
  |number hn=>exact .inr ⟨_,_,_,Rw h1,rfl⟩
  |cells hc hf=>
   rcases hc.get o with⟨hn,_⟩|⟨u,u',hu,Fg,huv⟩
   .exact .inr ⟨_,_,_,jc h1 hn,rfl⟩
   .rw[YK h1 hu];exact ih _ _ huv hw hG hg
 | @store σ b b' o v v' k k' hb hv hk ih=>
  intro W w es hw hG hg;obtain⟨X,Y,h1,h2,hc⟩:=hw.cell _ _ hb;cases hc with
  |number hn=>
   obtain⟨s,hs⟩:=CX (P:=P) (v:=v) (k:=k) (es:=es) (o:=o) h1 (.inr ⟨_,_,rfl⟩);exact .inr ⟨_,_,_,hs,rfl⟩
  | @cells c c' T fz fz' hc hfz=>
   cases WQ:v.yO with
   |false=>
    obtain⟨s,hs⟩:=PT (P:=P) (a:=⟨b,o,none⟩) (W:=W) (k:=k) (es:=es) WQ;exact .inr ⟨_,_,_,hs,rfl⟩
   |true=>
    by_cases ho:o<c.size
    .cases hf:W.frozen? ⟨b,o,none⟩ with
     |true=>
      obtain⟨x,hx,hs⟩:=Rx (P:=P) (v:=v) (k:=k) (es:=es) h1 hf;exact .inr ⟨_,_,_,hs,hx⟩
     |false=>
      rw[CV h1 WQ ho hf];exact ih (hw.store hb hv) (by rw[cL];exact hG) (by rw[cL];exact hg)
    .obtain⟨s,hs⟩:=CX (P:=P) (v:=v) (k:=k) (es:=es) (o:=o) h1 (.inl ⟨c,T,fz,rfl,BYT⟩);exact .inr ⟨_,_,_,hs,rfl⟩
 |new hc hk ih=>
  intro W w es hw hG hg;simp only[Sem.runT];exact ih _ _ hG hg (hw.new hc) BYT BYT
 |getObj hb hk ih=>
  intro W w es hw hG hg;obtain⟨X,Y,h1,h2,hc⟩:=hw.cell _ _ hb;cases hc with
  |cells hc hf=>simp only[Sem.runT,h1];exact .inr ⟨_,_,_,rfl,rfl⟩
  |number hn=>simp only[Sem.runT,h1];exact ih _ _ _ _ hn hw hG hg
 |shape hb hk ih=>intro W w es hw hG hg;simp only[Sem.runT];exact ih _ hw hG hg
 |choose q hk ih=>
  intro W w es hw hG hg;simp only[Sem.runT];split
  .exact ih _ hw hG hg
  .exact ih _ (hw.draw (W.drawn+1) w.drawn) hG hg
 |program hk ih=>intro W w es hw hG hg;simp only[Sem.runT];exact ih hw hG hg
 |room hk ih=>intro W w es hw hG hg;simp only[Sem.runT];exact ih hw hG hg
 |dead hd=>
  intro W w es hw hG hg;obtain⟨x,W1,e1,h1,h2⟩:=hd W es;exact .inr ⟨x,W1,e1,h1,h2⟩
def _root_.Go.World.on(W:World)(T:Nat->Question->Nat):World:={W with tape:=T}
def WR.on{σ:Nm}{w:World}(h:WR σ W w)(T:Nat->Question->Nat):WR σ (W.on T) w:=⟨h.fn,h.inj,h.cell⟩
def SR.local{Q:Nm->α->α->Prop}{σ:Nm}{s s':Sem α}(h:SR P Q σ s s'):∀{W w W1:World} {es e1:Array Event} {a:α} {T:Nat->Question->Nat},WR σ W w->GB<=W.heap.size->GB<=w.heap.size->s.runT P W es=(.ok a W1,e1)->
  (∀i q,W.drawn<=i->i<W1.drawn->T i q=W.tape i q)->s.runT P (W.on T) es=(.ok a (W1.on T),e1)/\W1.tape=W.tape:=by
 induction h with
 |pure q=>intro W w W1 es e1 a T hw hG hg h ht;simp only[Sem.runT]at h;cases h;exact⟨rfl,rfl⟩
 | @load σ b b' o k k' hb hk ih=>
  intro W w W1 es e1 a T hw hG hg h ht;obtain⟨X,Y,h1,h2,hc⟩:=hw.cell _ _ hb;cases hc with
  |number hn=>exact(IZ h1 h).elim
  |cells hc hf=>
   obtain⟨v,hv,hr⟩:=SV h1 h;rcases hc.get o with⟨hn,_⟩|⟨u,u',hu,Fg,huv⟩
   .rw[hn]at hv;cases hv
   .rw[hu]at hv;cases hv;rw[YK (W:=W.on T) h1 hu];exact ih _ _ huv hw hG hg hr ht
 | @store σ b b' o v v' k k' hb hv hk ih=>
  intro W w W1 es e1 a T hw hG hg h ht;obtain⟨X,Y,h1,h2,hc⟩:=hw.cell _ _ hb;cases hc with
  |number hn=>exact(CW h1 h).elim
  |cells hc hf=>
   obtain⟨WQ,ho,hf,hr⟩:=IY h1 h;rw[CV (w:=W.on T) h1 WQ ho hf];exact ih (hw.store hb hv) (by rw[cL];exact hG) (by rw[cL];exact hg) hr ht
 |new hc hk ih=>
  intro W w W1 es e1 a T hw hG hg h ht;simp only[Sem.runT]at h⊢;exact ih _ _ hG hg (hw.new hc) BYT BYT h ht
 |getObj hb hk ih=>
  intro W w W1 es e1 a T hw hG hg h ht;obtain⟨X,Y,h1,h2,hc⟩:=hw.cell _ _ hb;cases hc with
  |cells hc hf=>simp only[Sem.runT,h1]at h;cases h
  |number hn=>
   simp only[Sem.runT,h1]at h;simp only[Sem.runT,show(W.on T).heap=W.heap from rfl,h1];exact ih _ _ _ _ hn hw hG hg h ht
 |shape hb hk ih=>
  intro W w W1 es e1 a T hw hG hg h ht;simp only[Sem.runT]at h⊢;exact ih _ hw hG hg h ht
 | @choose σ q k k' hk ih=>
  intro W w W1 es e1 a T hw hG hg h ht;simp only[Sem.runT]at h⊢;by_cases hq:q.forced=true
  .rw[if_pos hq]at h⊢;exact ih _ hw hG hg h ht
  .rw[if_neg hq]at h⊢;have hd:=(hk _).drawn (hw.draw (W.drawn+1) (w.drawn+1)) hG hg h;have h0:=ht W.drawn q (aAB _) hd;rw[show(W.on T).tape (W.on T).drawn q=W.tape W.drawn q from h0];exact ih _ (hw.draw (W.drawn+1) (w.drawn+1)) hG hg h λi q h1 h2=>ht i q (Nat.le_of_succ_le h1) h2
 |program hk ih=>intro W w W1 es e1 a T hw hG hg h ht;simp only[Sem.runT]at h⊢;exact ih hw hG hg h ht
 |room hk ih=>intro W w W1 es e1 a T hw hG hg h ht;simp only[Sem.runT]at h⊢;exact ih hw hG hg h ht
 |dead hd=>intro W w W1 es e1 a T hw hG hg h;obtain⟨x,_,_,hx,_⟩:=hd W es;rw[h]at hx;cases hx
end Rk.fD
namespace Rk.Al
open Go Rk.fD
variable{w w' w1:World}{o:Obj}{α β:Type}{x:Halt}{v:Value}{at_ k a:Addr}{u:TypeId}{b:Bool}{l:List Addr}
abbrev stub(P:Program)(F:Array Func):Program:={P with funcs:=F}
def jW:Obj->Bool
 | .chan .. | .loop _=>false
 |_=>true
def Ry(w:World):Prop:=∀(b:Nat) (o:Obj),w.heap[b]?=some o->jW o=true
abbrev gob:Obj:=.deferred none
def gh(o:Obj):Obj:=match jW o with
 |true=>o
 |false=>gob
def gw(w:World):World:={w with heap:=w.heap.map gh}
def cl(B:Nat)(e:Event):Prop:=e=⟨.mark .noRoom,false,true⟩\/(∃f,e.loc=.mark (.extern f))\/(e.sync=false/\((∃a,e.loc=.cell a/\a.block<B)\/∃r,e.loc=.obj r/\r<B))\/∃r,e=⟨.obj r,false,true⟩/\r<B
def cl.mono{B B':Nat}{e:Event}(h:cl B e)(hb:B<=B'):cl B' e:=by
 rcases h with h|h|⟨h1,⟨a,h2,h3⟩|⟨r,h2,h3⟩⟩|⟨r,h2,h3⟩
 .exact .inl h
 .exact .inr (.inl h)
 .exact .inr (.inr (.inl ⟨h1,.inl ⟨a,h2,aAx h3 hb⟩⟩))
 .exact .inr (.inr (.inl ⟨h1,.inr ⟨r,h2,aAx h3 hb⟩⟩))
 .exact .inr (.inr (.inr ⟨r,h2,aAx h3 hb⟩))
structure uB(w w':World):Prop where
 un:∀(b:Nat) (o:Obj),jW o=false->(w'.heap[b]?=some o↔w.heap[b]?=some o)
 size:w.heap.size<=w'.heap.size
 os:w'.os=w.os
 tape:w'.tape=w.tape
 output:w'.output=w.output
def uB.refl(w:World):uB w w:=⟨λ_ _ _=>.rfl,aAB _,rfl,rfl,rfl⟩
def uB.trans{j0:World}(h:uB w w')(g:uB w' j0):uB w j0:=⟨λb o ho=>(g.un b o ho).trans (h.un b o ho),aBS h.size g.size,g.os.trans h.os,g.tape.trans h.tape,g.output.trans h.output⟩
def uB.aEY(h:uB w w')(ht:Ry w):Ry w':=λb o ho=>by
 cases e:jW o with
 |true=>rfl
 |false=>rw[<-e];exact ht b o ((h.un b o e).1 ho)
section
variable{P:Program}
def wJ(h:jW o=true):gh o=o:=by simp[gh,h]
def tO(w:World)(b:Nat):(gw w).heap[b]?=(w.heap[b]?).map gh:=by simp[gw]
def wK(w:World):(gw w).heap.size=w.heap.size:=by simp[gw]
def YL(h:Ry w):gw w=w:=by
 have:w.heap.map gh=w.heap:=Array.ext BYS λi h1 h2=>by simp[wJ (h i w.heap[i] (by simp[h2]))]
 unfold gw;rw[this]
def SY(w:World)(a:Addr):(gw w).cell? a=w.cell? a:=by
 unfold World.cell?;rw[tO];cases w.heap[a.block]? with
 |none=>rfl
 |some o=>cases o<;>rfl
def B7(w:World)(r:Nat):(gw w).shape? r=w.shape? r:=by
 unfold World.shape?;rw[tO];cases w.heap[r]? with
 |none=>rfl
 |some o=>cases o<;>rfl
def PU(w:World)(a:Addr):(gw w).frozen? a=w.frozen? a:=by
 unfold World.frozen?;rw[tO];cases w.heap[a.block]? with
 |none=>rfl
 |some o=>cases o<;>rfl
def B8{w2:World}(h:w1.tape=w2.tape/\w1.drawn=w2.drawn/\w1.os=w2.os/\w1.output=w2.output)(hb:∀b:Nat,w1.heap[b]?=w2.heap[b]?):w1=w2:=by
 obtain⟨h1,h2,h3,h4⟩:=h;have:=Array.ext_getElem? hb;cases w1;cases w2;simp_all
def B9(w:World)(k:Nat)(f:Obj->Obj)(hf:∀o,gh (f o)=f (gh o)):gw {w with heap:=w.heap.modify k f}={gw w with heap:=(gw w).heap.modify k f}:=B8 ⟨rfl,rfl,rfl,rfl⟩ λb=>by
 simp only[gw,aIb,aDI];split<;>cases w.heap[b]?<;>simp[hf]
def aAC(w:World)(a:Addr)(v:Value):gw (w.setCell a v)=(gw w).setCell a v:=B9 w a.block _ λo=>by cases o<;>rfl
def Rz(w:World)(a:Addr)(n:Nat):gw (w.freeze a n)=(gw w).freeze a n:=by
 unfold World.freeze;split
 .rfl
 .exact B9 w a.block _ λo=>by cases o<;>rfl
def jd(w:World)(h:jW o=true):gw {w with heap:=w.heap.push o}={gw w with heap:=(gw w).heap.push o}:=by
 simp[gw,wJ h]
def Nq(w:World)(at_:Addr)(u:TypeId)(k:Addr)(b:Bool):(gw w).seen P at_ u k b=w.seen P at_ u k b:=by
 unfold World.seen;rw[tO];cases w.heap[at_.block]? with
 |none=>rfl
 |some o=>cases o<;>rfl
def je(w:World)(at_:Addr)(u:TypeId)(k:Addr)(b:Bool):(gw w).viewLoad P at_ u k b=w.viewLoad P at_ u k b:=by
 unfold World.viewLoad;rw[Nq]
def PV(w:World)(a:Addr)(m:String):(gw w).noCell a m=w.noCell a m:=by
 unfold World.noCell;rw[tO];cases w.heap[a.block]? with
 |none=>rfl
 |some o=>cases o<;>rfl
def jf(w:World)(a:Addr)(b:Bool):(gw w).farLoad P a b=w.farLoad P a b:=by
 unfold World.farLoad;rw[tO,PV];cases w.heap[a.block]? with
 |none=>rfl
 |some o=>cases o<;>first|rfl|simp[gh,jW,je]
end
section
variable(P:Program)(F:Array Func)
inductive Al{α:Type}(Q:α->Prop):Sem α->Prop
 |pure {a:α}:Q a->Al Q (.pure a)
 |load {a:Addr} {k:Value->Sem α}:(∀v,Al Q (k v))->Al Q (.load .plain a k)
 |store {a:Addr} {v:Value} {k:Sem α}:Al Q k->Al Q (.store .plain a v k)
 |new {o:Obj} {k:Nat->Sem α}:jW o=true->(∀r,Al Q (k r))->Al Q (.new o k)
 |shape {r:Nat} {k:Option (TypeId×Nat)->Sem α}:(∀s,Al Q (k s))->Al Q (.shape r k)
 |freeze {a:Addr} {n:Nat} {k:Sem α}:Al Q k->Al Q (.freeze a n k)
 |frozen {a:Addr} {k:Bool->Sem α}:(∀b,Al Q (k b))->Al Q (.frozen a k)
 |getObj {r:Nat} {k:Obj->Sem α}:(∀o,jW o=true->Al Q (k o))->(∀o,jW o=false->k o=k gob\/aV (stub P F) (k gob))->Al Q (.getObj r k)
 |choose {q:Question} {k:Nat->Sem α}:(∀n,Al Q (k n))->Al Q (.choose q k)
 |program {k:Program->Sem α}:k (stub P F)=k P->Al Q (k P)->Al Q (.program k)
 |mark {m:Mark} {k:Sem α}:(m=.noRoom\/∃f,m=.extern f)->Al Q k->Al Q (.mark m k)
 |dead {s:Sem α}:aV (stub P F) s->Al Q s
end
section
variable{P:Program}{F:Array Func}
def Al.mono{Q Q':α->Prop}{s:Sem α}(h:Al P F Q s)(hq:∀a,Q a->Q' a):Al P F Q' s:=by
 induction h with
 |pure h=>exact .pure (hq _ h)
 |load _ ih=>exact .load ih
 |store _ ih=>exact .store ih
 |new h _ ih=>exact .new h ih
 |shape _ ih=>exact .shape ih
 |freeze _ ih=>exact .freeze ih
 |frozen _ ih=>exact .frozen ih
 |getObj _ h ih=>exact .getObj ih h
 |choose _ ih=>exact .choose ih
 |program h _ ih=>exact .program h ih
 |mark h _ ih=>exact .mark h ih
 |dead h=>exact .dead h
def PW{P:Program}{s:Sem α}{f:α->Sem β}(h:aV P s):aV P (s.bind f):=aV.oE (k:=f) h
def Al.bind'{Q:α->Prop}{Q':β->Prop}{s:Sem α}{f:α->Sem β}(h:Al P F Q s)(hf:∀a,Q a->Al P F Q' (f a)):Al P F Q' (s.bind f):=by
 induction h with
 |pure h=>exact hf _ h
 |load _ ih=>exact .load ih
 |store _ ih=>exact .store ih
 |new h _ ih=>exact .new h ih
 |shape _ ih=>exact .shape ih
 |freeze _ ih=>exact .freeze ih
 |frozen _ ih=>exact .frozen ih
 |getObj _ h ih=>exact .getObj ih λo ho=>(h o ho).imp (congrArg λs:Sem α=>s.bind f) PW
 |choose _ ih=>exact .choose ih
 | @program k h _ ih=>exact .program (congrArg (λs:Sem α=>s.bind f) h) ih
 |mark h _ ih=>exact .mark h ih
 |dead h=>exact .dead (PW h)
def Al.bind{Q:α->Prop}{Q':β->Prop}{s:Sem α}{f:α->Sem β}(h:Al P F Q s)(hf:∀a,Q a->Al P F Q' (f a)):Al P F Q' (s>>=f):=h.bind' hf
def Al.halt{Q:α->Prop}(h:NP x=true):Al P F Q (.halt x:Sem α):=.dead λW es=>⟨x,W,es,rfl,h⟩
def Al.stuck{Q:α->Prop}{s:String}:Al P F Q (Go.stuck s:Sem α):=.halt rfl
def Al.panic{Q:α->Prop}:Al P F Q (goPanic v:Sem α):=.halt rfl
section
variable(P F)
def boc(d t off:Nat):byteOfCell (stub P F) d t off=byteOfCell P d t off:=by
 induction d generalizing t off with
 |zero=>rfl
 |succ d ih=>simp only[byteOfCell,ih];rfl
def holding(d t b:Nat):cellHolding (stub P F) d t b=cellHolding P d t b:=by
 induction d generalizing t b with
 |zero=>rfl
 |succ d ih=>simp only[cellHolding,ih];rfl
def aAD(d t off:Nat):plainCell (stub P F) d t off=plainCell P d t off:=by
 induction d generalizing t off with
 |zero=>rfl
 |succ d ih=>simp only[plainCell,ih];rfl
def aAE(d t:Nat):tight (stub P F) d t=tight P d t:=by
 induction d generalizing t with
 |zero=>rfl
 |succ d ih=>simp only[tight,ih];rfl
def aE0(c:Array Value)(e n x y:Nat):seenCells (stub P F) c e n x y=seenCells P c e n x y:=by
 induction n generalizing x y with
 |zero=>rfl
 |succ n ih=>simp only[seenCells,ih,holding];rfl
def vm(w:World)(at_:Addr)(u:TypeId)(k:Addr)(b:Bool):w.seen (stub P F) at_ u k b=w.seen P at_ u k b:=by
 unfold World.seen;simp only[aAD,boc,aE0];rfl
def aE1(w:World)(at_:Addr)(u:TypeId)(k:Addr)(b:Bool):w.viewLoad (stub P F) at_ u k b=w.viewLoad P at_ u k b:=by
 unfold World.viewLoad;rw[vm]
def aE2(w:World)(at_:Addr)(u:TypeId)(k:Addr)(v:Value)(b:Bool):w.viewStore (stub P F) at_ u k v b=w.viewStore P at_ u k v b:=by
 unfold World.viewStore;rw[vm];simp only[aAE];rfl
def aJs(w:World)(a:Addr)(b:Bool):w.farLoad (stub P F) a b=w.farLoad P a b:=by
 unfold World.farLoad;simp only[aE1]
def aJt(w:World)(a:Addr)(v:Value)(b:Bool):w.farStore (stub P F) a v b=w.farStore P a v b:=by
 unfold World.farStore;simp only[aE2]
def C0(n t u:Nat):(stub P F).alikeButTags n t u=P.alikeButTags n t u:=by
 induction n generalizing t u with
 |zero=>rfl
 |succ n ih=>simp only[Program.alikeButTags,ih]
def jg(t:Nat):(stub P F).packed t=P.packed t:=by
 unfold Program.packed Program.packedAs;simp only[C0];rfl
def Nr(d t:Nat):(stub P F).holdsPacked d t=P.holdsPacked d t:=by
 induction d generalizing t with
 |zero=>rfl
 |succ d ih=>simp only[Program.holdsPacked,ih,jg];rfl
def C1(d t:Nat):(stub P F).eqGuardType d t=P.eqGuardType d t:=by
 induction d generalizing t with
 |zero=>rfl
 |succ d ih=>simp only[Program.eqGuardType,ih];rfl
def JC(t:Nat):(stub P F).stoodInHeld t=P.stoodInHeld t:=by
 unfold Program.stoodInHeld Program.stoodInAs;simp only[C0];rfl
def aAF(d t:Nat):(stub P F).holdsStoodIn d t=P.holdsStoodIn d t:=by
 induction d generalizing t with
 |zero=>rfl
 |succ d ih=>simp only[Program.holdsStoodIn,ih,JC];rfl
end
def seen_cells{r:Array Value×TypeId×(Nat×Nat)×Nat×Value×List (Nat×Nat×List UInt8)}(h:w.seen P at_ u k b=.ok r):w.heap[at_.block]?=some (.cells r.1 r.2.1 r.2.2.1):=by
 unfold World.seen at h;simp only[bind,Except.bind,pure,Except.pure,MonadExcept.throw,throwThe,MonadExceptOf.throw]at h
 repeat' (first|cases h|split at h)
 all_goals assumption
def C2(h:w.viewLoad P at_ u k b=.ok (v,l)):∀x∈l,x.block<w.heap.size:=by
 unfold World.viewLoad at h;cases hs:w.seen P at_ u k b with
 |error e=>rw[hs]at h;cases h
 |ok r=>
  have hc:=seen_cells hs;obtain⟨c,e,fz,first,aHA,cells⟩:=r;rw[hs]at h;simp only[bind,Except.bind,pure,Except.pure,MonadExcept.throw,throwThe,MonadExceptOf.throw]at h;split at h
  .cases h;intro x hx;simp only[aCc]at hx;obtain⟨y,_,rfl⟩:=hx;exact(aCH.1 hc).1
  .cases h
def YM(h:w.viewStore P at_ u k v b=.ok (w',l)):uB w w'/\∀x∈l,x.block<w'.heap.size:=by
 unfold World.viewStore at h;cases hs:w.seen P at_ u k b with
 |error e=>
  rw[hs]at h;simp only[bind,Except.bind,pure,Except.pure,MonadExcept.throw,throwThe,MonadExceptOf.throw]at h;split at h<;>cases h
 |ok r=>
  have hc:=seen_cells hs;obtain⟨c,e,fz,first,aHA,cells⟩:=r;rw[hs]at h;simp only[bind,Except.bind,pure,Except.pure,MonadExcept.throw,throwThe,MonadExceptOf.throw]at h
  repeat' (first|cases h|split at h)
  have dD:=(aCH.1 hc).1;refine⟨⟨λb o ho=>?_,BYS,rfl,rfl,rfl⟩,λx hx=>?_⟩
  .simp only[aIn];split
   .rename_i e;subst e;rw[hc];simp only[dD,if_true];exact⟨λe=>(by cases e;cases ho),λe=>(by cases e;cases ho)⟩
   .exact .rfl
  .simp only[aCc]at hx;obtain⟨y,_,rfl⟩:=hx;simpa using dD
def jh(w:World)(k:Nat)(h:jW o=true):gw {w with heap:=w.heap.setIfInBounds k o}={gw w with heap:=(gw w).heap.setIfInBounds k o}:=B8 ⟨rfl,rfl,rfl,rfl⟩ λb=>by
 simp only[gw,aIb,aIn,Array.size_map];split
 .split<;>simp[wJ h]
 .rfl
def C3(w:World)(at_:Addr)(u:TypeId)(k:Addr)(v:Value)(b:Bool):(gw w).viewStore P at_ u k v b=(w.viewStore P at_ u k v b).map λr=>(gw r.1,r.2):=by
 unfold World.viewStore;rw[Nq];cases hs:w.seen P at_ u k b with
 |error e=>
  simp only[bind,Except.bind,pure,Except.pure,MonadExcept.throw,throwThe,MonadExceptOf.throw];split<;>rfl
 |ok r=>
  obtain⟨c,e,fz,first,aHA,cells⟩:=r;simp only[bind,Except.bind,pure,Except.pure,MonadExcept.throw,throwThe,MonadExceptOf.throw]
  repeat' (first|rfl|split)
  simp only[Except.map];rw[jh _ _ rfl]
def stop:Halt->Bool
 | .panic _| .stuck _| .unsupported _=>true
 |_=>false
def PX(h:NP x=true):stop x=true:=by
 cases x<;>first|rfl|cases h
def EZ{m:String}:stop (w.noCell a m)=true:=by
 unfold World.noCell;split<;>rfl
def Sa(h:w.farLoad P a b=.error x):stop x=true:=by
 unfold World.farLoad at h;split at h
 .split at h<;>cases h;rfl
 .cases h;exact EZ
def Sb(h:w.farStore P a v b=.error x):stop x=true:=by
 unfold World.farStore at h;split at h
 .split at h<;>cases h;rfl
 .cases h;exact EZ
def ji(w:World)(a:Addr)(v:Value)(b:Bool):(gw w).farStore P a v b=(w.farStore P a v b).map λr=>(gw r.1,r.2):=by
 unfold World.farStore;rw[tO,PV];cases w.heap[a.block]? with
 |none=>rfl
 |some o=>
  cases o<;>first|rfl|skip
  simp only[gh,jW,aDo,C3];generalize w.viewStore P _ _ a v b=r;cases r<;>rfl
def C4(h:w.farLoad P a b=.ok (v,l)):∀x∈l,x.block<w.heap.size:=by
 unfold World.farLoad at h;split at h
 .split at h
  .rename_i hr;cases h;exact C2 hr
  .cases h
 .cases h
def C5(h:w.farStore P a v b=.ok (w',l)):uB w w'/\∀x∈l,x.block<w'.heap.size:=by
 unfold World.farStore at h;split at h
 .split at h
  .rename_i hr;cases h;exact YM hr
  .cases h
 .cases h
def YN(h:w.cell? a=some v):a.block<w.heap.size:=by
 unfold World.cell? at h;split at h
 .rename_i hc;exact(aCH.1 hc).1
 .cases h
def Ns{k:Nat}{f:Obj->Obj}(h1:∀o,jW o=false->f o=o)(h2:∀o,jW o=true->jW (f o)=true):uB w {w with heap:=w.heap.modify k f}:=by
 refine⟨λb o ho=>?_,BYS,rfl,rfl,rfl⟩;simp only[aDI];split
 .cases hc:w.heap[b]? with
  |none=>exact⟨λe=>(by cases e),λe=>(by cases e)⟩
  |some x=>
   simp only[aDo,aDu];cases hx:jW x with
   |false=>rw[h1 x hx]
   |true=>exact⟨λe=>(by have:=h2 x hx;rw[e,ho]at this;cases this),λe=>(by rw[e,ho]at hx;cases hx)⟩
 .exact .rfl
def jj:uB w (w.setCell a v):=Ns (λo ho=>by cases o<;>first|rfl|cases ho) λo ho=>by cases o<;>first|rfl|cases ho
def He{n:Nat}:uB w (w.freeze a n):=by
 unfold World.freeze;split
 .exact uB.refl w
 .exact Ns (λo ho=>by cases o<;>first|rfl|cases ho) λo ho=>by cases o<;>first|rfl|cases ho
def C6(ho:jW o=true):uB w {w with heap:=w.heap.push o}:=by
 refine⟨λb x hx=>?_,BYS,rfl,rfl,rfl⟩;simp only[aDK];split
 .rename_i e;subst e;exact⟨λe=>(by cases e;rw[ho]at hx;cases hx),λe=>(by simp at e)⟩
 .exact .rfl
def Good(P:Program)(Q:α->Prop)(s:Sem α)(w:World)(es:Array Event)(r:Result α):Prop:=
 (∃a w' mO,r=.ok a (gw w')/\Q a/\s.runT P w es=(.ok a w',mO)/\uB w w'/\∀e∈mO,e∈es\/cl w'.heap.size e)\/∃x w',r=.halt x w'/\stop x=true
def Good.step{Q:α->Prop}{s s':Sem α}{es es1:Array Event}{r:Result α}(h:Good P Q s' w1 es1 r)(hs:s.runT P w es=s'.runT P w1 es1)(hk:uB w w1)(he:∀e∈es1,e∈es\/cl w1.heap.size e):Good P Q s w es r:=by
 rcases h with⟨a,w',mO,h1,h2,h3,h4,h5⟩|h
 .refine .inl ⟨a,w',mO,h1,h2,hs.trans h3,hk.trans h4,λe hm=>?_⟩;rcases h5 e hm with h6|h6
  .exact(he e h6).imp id λh7=>h7.mono h4.size
  .exact .inr h6
 .exact .inr h
def Al.run{α:Type}{Q:α->Prop}{s:Sem α}(h:Al P F Q s):∀{w:World} {Fo mO:Array Event} {r:Result α} (es:Array Event),s.runT (stub P F) (gw w) Fo=(r,mO)->Good P Q s w es r:=by
 induction h with
 |pure hq=>intro w Fo mO r es h;simp only[Sem.runT]at h;cases h;exact .inl ⟨_,w,es,rfl,hq,rfl,uB.refl w,λe he=>.inl he⟩
 | @load a k hk ih=>
  intro w Fo mO r es h;have em:(Mode.plain==Mode.atomic)=false:=rfl;simp only[Sem.runT,em,SY]at h;cases hc:w.cell? a with
  |some v=>
   rw[hc]at h;refine(ih v (es.push ⟨.cell a,false,false⟩) h).step (by simp only[Sem.runT,hc,em]) (uB.refl w) λe he=>?_;rcases aDa.1 he with he|rfl
   .exact .inl he
   .exact .inr (.inr (.inr (.inl ⟨rfl,.inl ⟨a,rfl,YN hc⟩⟩)))
  |none=>
   rw[hc]at h;simp only[aJs,jf]at h;cases hf:w.farLoad P a false with
   |error x=>
    rw[hf]at h;cases h;exact .inr ⟨x,_,rfl,Sa hf⟩
   |ok y=>
    obtain⟨v,l⟩:=y;rw[hf]at h;refine(ih v (es++l.toArray.map (⟨.cell ·,false,false⟩)) h).step (by simp only[Sem.runT,hc,em,hf]) (uB.refl w) λe he=>?_;rcases aD4.1 he with he|he
    .exact .inl he
    .simp only[aHm,aD8]at he;obtain⟨x,hx,rfl⟩:=he;exact .inr (.inr (.inr (.inl ⟨rfl,.inl ⟨x,rfl,C4 hf x hx⟩⟩)))
 | @store a v k hk ih=>
  intro w Fo mO r es h;have em:(Mode.plain==Mode.atomic)=false:=rfl;have main:v.yO=true->Good P Q (.store .plain a v k) w es r:=λhv=>by
   have e1:∀(p:Program) (w:World) (es:Array Event),(Sem.store .plain a v k).runT p w es=match w.cell? a with
    |some _=>
     if w.frozen? a then(.halt (.unsupported (.unsafePointer "a write to bytes that a string shares")) w,es)
     else k.runT p (w.setCell a v) (es.push ⟨.cell a,true,false⟩)
    |none=>match w.farStore p a v false with
     | .ok (w,CF)=>k.runT p w (es++CF.toArray.map (⟨.cell ·,true,false⟩))
     | .error h=>(.halt h w,es):=λp w es=>by cases v<;>first|rfl|cases hv
   rw[e1,SY,PU]at h;cases hc:w.cell? a with
   |some u=>
    rw[hc]at h;cases hf:w.frozen? a with
    |true=>
     rw[hf]at h;cases h;exact .inr ⟨_,_,rfl,rfl⟩
    |false=>
     rw[hf]at h;have hk:=jj (w:=w) (a:=a) (v:=v);dsimp only at h;rw[<-aAC]at h;refine(ih _ h).step (by rw[e1,hc,hf];rfl) hk λe he=>?_;rcases aDa.1 he with he|rfl
     .exact .inl he
     .exact .inr (.inr (.inr (.inl ⟨rfl,.inl ⟨a,rfl,aAx (YN hc) hk.size⟩⟩)))
   |none=>
    rw[hc]at h;simp only[aJt,ji]at h;cases hf:w.farStore P a v false with
    |error x=>
     rw[hf]at h;cases h;exact .inr ⟨x,_,rfl,Sb hf⟩
    |ok y=>
     obtain⟨w1,l⟩:=y;rw[hf]at h;obtain⟨hk,hl⟩:=C5 hf;refine(ih _ h).step (by rw[e1,hc,hf]) hk λe he=>?_;rcases aD4.1 he with he|he
     .exact .inl he
     .simp only[aHm,aD8]at he;obtain⟨x,hx,rfl⟩:=he;exact .inr (.inr (.inr (.inl ⟨rfl,.inl ⟨x,rfl,hl x hx⟩⟩)))
  cases hv:v.yO with
  |true=>exact main hv
  |false=>
   obtain⟨m,hs⟩:=PT (P:=stub P F) (a:=a) (W:=gw w) (k:=k) (es:=Fo) hv;rw[hs]at h;cases h;exact .inr ⟨_,_,rfl,rfl⟩
 | @new o k ho hk ih=>
  intro w Fo mO r es h;simp only[Sem.runT]at h;rw[<-jd w ho,wK]at h;exact(ih _ _ h).step rfl (C6 ho) λe he=>.inl he
 |shape hk ih=>
  intro w Fo mO r es h;simp only[Sem.runT,B7]at h;exact(ih _ _ h).step rfl (uB.refl w) λe he=>.inl he
 | @freeze a n k hk ih=>
  intro w Fo mO r es h;simp only[Sem.runT]at h;rw[<-Rz]at h;exact(ih _ h).step rfl He λe he=>.inl he
 |frozen hk ih=>
  intro w Fo mO r es h;simp only[Sem.runT,PU]at h;exact(ih _ _ h).step rfl (uB.refl w) λe he=>.inl he
 | @getObj b k hk hg ih=>
  intro w Fo mO r es h;simp only[Sem.runT,tO]at h;cases hc:w.heap[b]? with
  |none=>rw[hc]at h;cases h;exact .inr ⟨_,_,rfl,rfl⟩
  |some o=>
   rw[hc]at h;have dD:=(aCH.1 hc).1;cases ht:jW o with
   |true=>
    simp only[aDo,wJ ht]at h;have hch:o.isChan=false:=by cases o<;>first|rfl|cases ht
    cases o with
    |cells c e fz=>cases h;exact .inr ⟨_,_,rfl,rfl⟩
    |_=>
     refine(ih _ ht (es.push ⟨.obj b,false,false⟩) h).step (by simp only[Sem.runT,hc,hch]) (uB.refl w) λe he=>?_;rcases aDa.1 he with he|rfl
     .exact .inl he
     .exact .inr (.inr (.inr (.inl ⟨rfl,.inr ⟨b,rfl,dD⟩⟩)))
   |false=>
    have e1:gh o=gob:=by simp[gh,ht]
    simp only[aDo,e1]at h;have e2:(Sem.getObj b k).runT P w es=(k o).runT P w (es.push ⟨.obj b,false,o.isChan⟩):=by
     cases o<;>first|cases ht;done|simp only[Sem.runT,hc]
    rcases hg o ht with h1|h1
    .refine(ih gob rfl (es.push ⟨.obj b,false,o.isChan⟩) h).step (by rw[e2,h1]) (uB.refl w) λe he=>?_;rcases aDa.1 he with he|rfl
     .exact .inl he
     .cases e3:o.isChan with
      |true=>exact .inr (.inr (.inr (.inr ⟨b,rfl,dD⟩)))
      |false=>exact .inr (.inr (.inr (.inl ⟨rfl,.inr ⟨b,rfl,dD⟩⟩)))
    .obtain⟨x,w1,e3,h2,h3⟩:=h1 (gw w) (Fo.push ⟨.obj b,false,gob.isChan⟩);rw[h2]at h;cases h;exact .inr ⟨x,w1,rfl,PX h3⟩
 | @choose q k hk ih=>
  intro w Fo mO r es h;simp only[Sem.runT]at h;by_cases hq:q.forced=true
  .rw[if_pos hq]at h;exact(ih _ _ h).step (by simp only[Sem.runT];rw[if_pos hq]) (uB.refl w) λe he=>.inl he
  .rw[if_neg hq]at h;have hk:uB w {w with drawn:=w.drawn+1}:=⟨λ_ _ _=>.rfl,aAB _,rfl,rfl,rfl⟩;exact(ih _ (w:={w with drawn:=w.drawn+1}) _ h).step (by simp only[Sem.runT];rw[if_neg hq];rfl) hk λe he=>.inl he
 | @program k hp hk ih=>
  intro w Fo mO r es h;simp only[Sem.runT]at h;rw[hp]at h;exact(ih _ h).step rfl (uB.refl w) λe he=>.inl he
 | @mark m k hm hk ih=>
  intro w Fo mO r es h;simp only[Sem.runT]at h;refine(ih _ h).step rfl (uB.refl w) λe he=>?_;rcases aDa.1 he with he|rfl
  .exact .inl he
  .rcases hm with rfl|⟨f,rfl⟩
   .exact .inr (.inl rfl)
   .exact .inr (.inr (.inl ⟨f,rfl⟩))
 |dead hd=>
  intro w Fo mO r es h;obtain⟨x,w1,e1,h1,h2⟩:=hd (gw w) Fo;rw[h1]at h;cases h;exact .inr ⟨x,w1,rfl,PX h2⟩
end
section
variable{P:Program}{F:Array Func}
abbrev A1(P:Program)(F:Array Func)(s:Sem α):Prop:=Al P F (λ_=>True) s
def nT{s:Sem α}{f:α->Sem β}(h:A1 P F s)(hf:∀a,A1 P F (f a)):A1 P F (s>>=f):=Al.bind h λa _=>hf a
def gJ{a:α}:A1 P F (pure a:Sem α):=.pure trivial
def JD{Q:α->Prop}{k:Program->Sem α}(h:k (stub P F)=k P)(h':Al P F Q (k P)):Al P F Q (program>>=k):=.program h h'
def AI{Q:α->Prop}{u:Unsupported}(h:NP (.unsupported u)=true):Al P F Q (unsupported u:Sem α):=.halt h
def vo{s:Sem α}{f:α->β}(h:A1 P F s):A1 P F (Functor.map f s):=nT h λ_=>gJ
def aE3{c:Prop}[Decidable c]{s t:Sem α}(h:A1 P F s)(h':A1 P F t):A1 P F (if c then s else t):=by split<;>assumption
def Nt(a:Addr):A1 P F (load a):=.load λ_=>.pure trivial
def C7(a:Addr)(v:Value):A1 P F (store a v):=.store (.pure trivial)
def C8(o:Obj)(h:jW o=true):A1 P F (newObj o):=.new h λ_=>.pure trivial
def jk(r:Nat):A1 P F (shape r):=.shape λ_=>.pure trivial
def C9(a:Addr)(n:Nat):A1 P F (freeze a n):=.freeze (.pure trivial)
def D2(a:Addr):A1 P F (frozen a):=.frozen λ_=>.pure trivial
def aAG{r:Nat}{f:Obj->Sem α}(h:∀o,jW o=true->A1 P F (f o))(h':aV (stub P F) (f gob)):A1 P F (getObj r>>=f):=.getObj h λ_ _=>.inr h'
def Hf{Q:Program}{m:String}:aV Q (stuck m:Sem α):=λW es=>⟨_,W,es,rfl,rfl⟩
def YO(q:Question):A1 P F (choose q):=.choose λ_=>.pure trivial
def aAH:A1 P F (mark .noRoom):=.mark (.inl rfl) (.pure trivial)
def AU0{G:Prop}(h:G:=by with_reducible first|exact gJ|exact .stuck|exact .panic|exact aAH|exact Hg _|exact vp _|exact C8 _ rfl|exact D3 _ _|exact D4 _|exact YO _|exact aJu _|exact Sd _|exact aE4 _|exact YP _ _|exact D5 _|exact Nt _|exact SZ _ _ _|exact Hh _|exact D6 _|exact jk _|exact C9 _ _|exact D2 _|exact YQ _|exact D7 _|exact Hi _ _|exact Hj _ _|exact D8 _|exact D9 _ _ _|exact aAI _|exact Hk _ _ _|exact E1 _ _ λ_=>nT (D5 _) λ_=>gJ|exact YR _ _|exact aAJ _|exact CY _ _|exact TA _ _|exact E2 _ _ _ _|exact Nu _|exact Se _|exact TB _ _ _|exact NQ _ _ _ _ _ _|exact YS _|exact jl _ _ _ _ _|exact jm _|exact aAK _ _ _|exact aE5 _ _ _|exact E3 _ _ _ _|exact E4 _ _ _ _|exact YT _|exact aE6 _ _ _ _|exact aAL _ _ _ _|exact aE7 _ _ _ _ _|exact aE8 _ _ _|exact aE9 _ _ _ _|exact aEa _ _ _ _|exact ih _ _ _|exact E5 _|exact Sg _ _|exact Si _|exact Sj _ _ _ _|exact YU _ _ _|exact Hl _ _|exact aEb _ _|exact jo _ _ _ _ _|exact aAM _ _ _ _|exact aAN _ _ _ _|exact aAO _ _ _ _|exact aAP _ _ _|exact Sk _ _ _ _ _ _|exact E6 _ _ _|exact jq _ _ _|exact E7 _ _ _|exact E8 _ _ _|exact Sm _ _ _|exact Sn _ _ _|exact So _ _ _|exact jr _|exact E9 _|exact Sp _|exact aAQ _ _ _|exact aEc _ _ _|exact aEd _ _ _ _|exact aEe _ _|exact aEf _ _|exact aEg _|exact aEh _|exact YV _ _ _|exact F0 _ _|exact ju _|exact F3 _ _ _|exact Hm _ _ _ _ _|exact ih _ _|exact aEi _ _|exact aAR _ _ _ _|exact F4 _ _ _|exact F5 _ _ _ _|exact jv _ _ _):G:=h
def AU{G:Prop}(h:G:=by repeat' (first|exact AU0|exact Hf|((with_reducible refine AI ?_);exact rfl)|with_reducible refine aAG (λo ho=>?_) ?_|with_reducible refine F6 _ _ _ λ_ _=>?_|with_reducible refine F7 _ _ _ λ_ _=>?_|((with_reducible refine JD ?_ ?_);focus (first|(simp only[boc,Nv,TC,F8,F9,aEj,Nr,JC,C1,aAF];done)|(simp only[boc,Nv,TC,F8,F9];done)|(simp only[C1,TC];done)|(simp only[Nr,JC,TC];done)|(simp only[boc];first|done|rfl)|exact rfl))|with_reducible refine vo ?_|with_reducible refine nT ?_ λ_=>?_|with_reducible refine aE3 ?_ ?_|intro _|split|dsimp only)):G:=h
def Se(n:Nat):A1 P F (askRoom n):=by unfold askRoom;exact AU
def Hg(t:TypeId):A1 P F (typeInfo t):=by unfold typeInfo;exact AU
def vp(t:TypeId):A1 P F (underlying t):=by unfold underlying;exact AU
def aAI(t:TypeId):A1 P F (zeroValue t):=by unfold zeroValue;exact AU
def D5(t:TypeId):A1 P F (Go.sizeOf t):=by unfold Go.sizeOf;exact AU
def aE4(t:TypeId):A1 P F (isAgg t):=by unfold isAgg;exact AU
def Si(t:TypeId):A1 P F (typeStr t):=by unfold typeStr;exact AU
def D4(t:TypeId):A1 P F (elemOf t):=by unfold elemOf;exact AU
def YR(t:TypeId)(c:Array Value):A1 P F (newRow t c):=by unfold newRow;exact AU
def D3(t:TypeId)(v:Value):A1 P F (newVar t v):=by unfold newVar;exact YR _ _
def aJu(e:RuntimeError):A1 P F (runtimePanic e:Sem α):=by unfold runtimePanic;exact AU
def E2(k:IntKind)(x y:Int)(c:BoundsCode):A1 P F (boundsPanic k x y c:Sem α):=by unfold boundsPanic;exact AU
def Sd(v:Value):A1 P F (asIntOf v):=by unfold asIntOf;exact AU
def Nu(v:Value):A1 P F (asInt v):=by unfold asInt;exact AU
def YT(v:Value):A1 P F (asBool v):=by unfold asBool;exact AU
def jm(v:Value):A1 P F (asAgg v):=by unfold asAgg;exact AU
def YS(v:Value):A1 P F (asAddr v):=by unfold asAddr;exact AU
def aAJ(v:Value):A1 P F (Instr.sureAddr v):=by unfold Instr.sureAddr;exact AU
def Hn(a:Addr)(n:Nat):∀(i:Nat) (acc:Array Value),A1 P F (loadCellsFrom a i n acc):=by
 induction n with
 |zero=>intro i acc;exact gJ
 |succ n ih=>intro i acc;unfold loadCellsFrom;exact nT (Nt _) λ_=>ih _ _
def YP(a:Addr)(n:Nat):A1 P F (loadCells a n):=Hn a n 0 #[]
def SZ(a:Addr)(vs:List Value):∀i:Nat,A1 P F (storeCells a vs i):=by
 induction vs with
 |nil=>intro i;unfold storeCells;exact gJ
 |cons v r ih=>intro i;unfold storeCells;exact nT (C7 _ _) λ_=>ih _
def CY(t:TypeId)(a:Addr):A1 P F (loadVar t a):=by unfold loadVar;exact AU
def Hk(t:TypeId)(a:Addr)(v:Value):A1 P F (storeVar t a v):=by unfold storeVar;exact AU
def D6(r:Nat):A1 P F (viewAt r):=.shape λx=>by
 cases x with
 |some _=>exact gJ
 |none=>exact .getObj (λo _=>by cases o<;>exact gJ) λo ho=>.inl (by cases o<;>first|rfl|cases ho)
def Hh(r:Nat):A1 P F (numberAt r):=.shape λx=>by
 cases x with
 |some _=>exact gJ
 |none=>exact .getObj (λo _=>by cases o<;>exact gJ) λo ho=>.inl (by cases o<;>first|rfl|cases ho)
def Sp(r:Nat):A1 P F (cellsIn r):=.shape λx=>by
 cases x with
 |some _=>exact gJ
 |none=>exact .getObj (λo _=>by cases o<;>exact gJ) λo ho=>.inl (by cases o<;>first|rfl|cases ho)
def Hl(a:Addr)(b:Bool):A1 P F (asNumber a b):=by unfold asNumber;exact AU
def E5(a:Addr):A1 P F (behindNumber a):=by unfold behindNumber;exact AU
def D7(a:Addr):A1 P F (noView a):=by unfold noView;exact AU
def jr(a:Addr):A1 P F (markStringish a):=by unfold markStringish;exact AU
def YQ(a:Addr):A1 P F (stringish a):=by unfold stringish;exact AU
def Hi(a b:Addr):A1 P F (mayBeOne a b):=by unfold mayBeOne;exact AU
def Hj(a b:Addr):A1 P F (sameAddr a b):=by unfold sameAddr;exact AU
def Sg(a b:Option Addr):A1 P F (samePointer a b):=by unfold samePointer;exact AU
def aAK(t:TypeId)(c:Array Value)(o:Nat):A1 P F (part t c o):=by unfold part;exact AU
def D8(a:Addr):A1 P F (byteOf a):=by unfold byteOf;exact AU
def D9(a:Addr)(c b:Nat):A1 P F (partAt a c b):=by unfold partAt;exact AU
def TA(a:Addr)(f:Go.Field):A1 P F (fieldPlace a f):=by unfold fieldPlace;exact AU
def jw(t:TypeId)(b:Bool)(v:Value):A1 P F (Instr.alloc t b v):=by unfold Instr.alloc;exact AU
def aEk(t:TypeId)(v:Value):A1 P F (Instr.box t v):=by unfold Instr.box;exact AU
def E1(xs:Array α)(f:α->Sem β)(h:∀x,A1 P F (f x)):A1 P F (xs.mapM f):=by
 rw[Array.mapM_eq_foldlM];rw[<-Array.foldlM_toList];generalize (#[]:Array β)=acc;induction xs.toList generalizing acc with
 |nil=>exact gJ
 |cons x r ih=>rw[List.foldlM_cons];exact nT (vo (h x)) λ_=>ih _
def jx(t:TypeId)(ps:Array (Nat×Value)):A1 P F (Instr.build t ps):=by unfold Instr.build;exact AU
def TD(t:TypeId)(n:Nat)(ps:Array (Nat×Value)):A1 P F (Instr.buildSlice t n ps):=by unfold Instr.buildSlice;exact AU
def G0(t:TypeId)(v:Value):A1 P F (Instr.loadAt t v):=by unfold Instr.loadAt;exact AU
def Sq(t:TypeId)(v x:Value):A1 P F (Instr.storeAt t v x):=by unfold Instr.storeAt;exact AU
def Sr(t:TypeId)(v:Value)(n:Nat):A1 P F (Instr.fieldAt t v n):=by unfold Instr.fieldAt;exact AU
def Ss(t:TypeId)(v i:Value):A1 P F (Instr.indexAt t v i):=by unfold Instr.indexAt;exact AU
def jy(t:TypeId)(v:Value):A1 P F (Instr.makeInterface t v):=by unfold Instr.makeInterface;exact AU
def jz(t:TypeId)(v x:Value):A1 P F (Instr.makeSlice t v x):=by unfold Instr.makeSlice;exact AU
def TB(x:Value)(y:Nat)(c:BoundsCode):A1 P F (Instr.sliceBound x y c):=by unfold Instr.sliceBound;exact AU
def NQ(b:Bool)(l c:Nat)(x y z:Option Value):A1 P F (Instr.sliceBounds b l c x y z):=by unfold Instr.sliceBounds;exact AU
def jl(t:TypeId)(v:Value)(x y z:Option Value):A1 P F (Instr.slice t v x y z):=by unfold Instr.slice;exact AU
def Su(t:TypeId)(v:Value)(x y z:Option Value):A1 P F (Instr.sliceAt t v x y z):=by unfold Instr.sliceAt;exact AU
def kg(t:TypeId)(v:Value)(n:Nat):A1 P F (Instr.field t v n):=by unfold Instr.field;exact AU
def ki(t:TypeId)(v i:Value):A1 P F (Instr.index t v i):=by unfold Instr.index;exact AU
def Sv(v:Value)(n:Nat):A1 P F (Instr.extract v n):=by unfold Instr.extract;exact AU
end
section
variable{P:Program}{F:Array Func}
def ek(P:Program)(F:Array Func)(d t b:Nat):cellOfByte (stub P F) d t b=cellOfByte P d t b:=by
 induction d generalizing t b with
 |zero=>rfl
 |succ d ih=>simp only[cellOfByte,ih];rfl
def Nv(P:Program)(F:Array Func)(d e n o:Nat)(b:Int):cellAtBytes (stub P F) d e n o b=cellAtBytes P d e n o b:=by
 unfold cellAtBytes;simp only[ek,boc];rfl
def aEl(P:Program)(F:Array Func)(d t u:Nat):sameLayout (stub P F) d t u=sameLayout P d t u:=by
 induction d generalizing t u with
 |zero=>rfl
 |succ d ih=>simp only[sameLayout,ih,JC];rfl
def aJv(P:Program)(F:Array Func)(fits:TypeId->Bool)(d e n o m:Nat):rowAt (stub P F) fits d e n o m=rowAt P fits d e n o m:=by
 induction d generalizing e n o m with
 |zero=>rfl
 |succ d ih=>simp only[rowAt,ih,JC];rfl
def aEj(P:Program)(F:Array Func)(d e n o u m:Nat):liesAt (stub P F) d e n o u m=liesAt P d e n o u m:=by
 induction d generalizing u m with
 |zero=>rfl
 |succ d ih=>
  have:(λt=>sameLayout (stub P F) (stub P F).depth t u)=λt=>sameLayout P P.depth t u:=funext λt=>aEl P F _ t u;simp only[liesAt,ih,aJv,this];rfl
def F8(P:Program)(F:Array Func)(t:TypeId):(stub P F).cellsOf t=P.cellsOf t:=rfl
def F9(P:Program)(F:Array Func)(t:TypeId):(stub P F).bytesOf t=P.bytesOf t:=rfl
def TC(P:Program)(F:Array Func):(stub P F).depth=P.depth:=rfl
def YW(xs:List α)(f:α->β->Sem (ForInStep β))(h:∀x b,A1 P F (f x b)):∀b:β,A1 P F (forIn xs b f):=by
 induction xs with
 |nil=>intro b;exact gJ
 |cons x r ih=>
  intro b;rw[List.forIn_cons];refine nT (h x b) λs=>?_;cases s with
  |done b=>exact gJ
  |yield b=>exact ih b
def F6(xs:Array α)(f:α->β->Sem (ForInStep β))(b:β)(h:∀x b,A1 P F (f x b)):A1 P F (forIn xs b f):=by
 rw[<-aId];exact YW _ _ h b
def F7(r:Std.Legacy.Range)(f:Nat->β->Sem (ForInStep β))(b:β)(h:∀x b,A1 P F (f x b)):A1 P F (forIn r b f):=by
 rw[Std.Legacy.Range.forIn_eq_forIn_range'];exact YW _ _ h b
def E3(op:BinOp)(k:FloatKind)(x y:Nat):A1 P F (Op.floatArith op k x y):=by unfold Op.floatArith;exact AU
def E4(op:BinOp)(k:FloatKind)(x y:Nat):A1 P F (Op.floatCmp op k x y):=by unfold Op.floatCmp;exact AU
def aE5(a:FloatKind)(b:Nat)(c:FloatKind):A1 P F (Conv.floatToFloat a b c):=by unfold Conv.floatToFloat;exact AU
def aEc(a:FloatKind)(b:Nat)(c:IntKind):A1 P F (Conv.floatToInt a b c):=by unfold Conv.floatToInt;exact AU
def aEd(a:FloatKind)(b c:Nat)(d:FloatKind):A1 P F (Conv.complexToComplex a b c d):=by unfold Conv.complexToComplex;exact AU
def E6(op:BinOp)(x y:ByteArray):A1 P F (Op.stringOp op x y):=by unfold Op.stringOp;exact AU
def aAM(op:BinOp)(k:IntKind)(x y:Int):A1 P F (Op.intArith op k x y):=by unfold Op.intArith;exact AU
def aAN(op:BinOp)(k:IntKind)(x y:Int):A1 P F (Op.intDiv op k x y):=by unfold Op.intDiv;exact AU
def aAO(op:BinOp)(k:IntKind)(x y:Int):A1 P F (Op.intBits op k x y):=by unfold Op.intBits;exact AU
def aAP(op:BinOp)(x y:Int):A1 P F (Op.intCmp op x y):=by unfold Op.intCmp;exact AU
def jo(op:BinOp)(k:IntKind)(x:Int)(k':IntKind)(y:Int):A1 P F (Op.shift op k x k' y):=by unfold Op.shift;exact AU
def aE6(op:BinOp)(k:FloatKind)(x y:Nat):A1 P F (Op.Complex.arith op k x y):=by unfold Op.Complex.arith;exact AU
def aAL(op:BinOp)(k:FloatKind)(x y:Nat):A1 P F (Op.Complex.cmp op k x y):=by unfold Op.Complex.cmp;exact AU
def aE8(k:FloatKind)(x:Nat)(l:FloatKind):A1 P F (Op.Complex.conv k x l):=by unfold Op.Complex.conv;exact AU
def aE9(a b c d:Nat):A1 P F (Op.Complex.product a b c d):=by unfold Op.Complex.product Op.Complex.mul Op.Complex.add Op.Complex.sub;exact AU
def aE7(a b c d e:Nat):A1 P F (Op.Complex.corrected a b c d e):=by unfold Op.Complex.corrected Op.Complex.mul Op.Complex.add Op.Complex.sub;exact AU
def aEa(a b c d:Nat):A1 P F (Op.Complex.quotient a b c d):=by unfold Op.Complex.quotient Op.Complex.mul Op.Complex.add Op.Complex.sub Op.Complex.quo;exact AU
def Sk(op:BinOp)(k:FloatKind)(a b c d:Nat):A1 P F (Op.complexOp op k a b c d):=by unfold Op.complexOp;exact AU
def Sw(d:Nat):∀(t:TypeId) (x y:Value),A1 P F (Op.equalIn d t x y):=by
 induction d with
 |zero=>intro t x y;unfold Op.equalIn;exact AI rfl
 |succ d ih=>
  intro t x y;unfold Op.equalIn;exact AU
def jq(t:TypeId)(x y:Value):A1 P F (Op.equal t x y):=Sw _ _ _ _
def Sj(d:Nat):∀(t:TypeId) (x y:Value),A1 P F (Op.eqGuardIn d t x y):=by
 induction d with
 |zero=>intro t x y;unfold Op.eqGuardIn;exact AI rfl
 |succ d ih=>
  intro t x y;unfold Op.eqGuardIn;exact AU
def Sy(op:BinOp)(t:TypeId)(x y:Operand)(a b:Value):A1 P F (eqGuard op t x y a b):=by unfold eqGuard;exact AU
def YU(t:TypeId)(x y:Value):A1 P F (Builtin.unsafeAdd_ #[] t #[x,y]):=by
 cases x
 case pointer p=>
  refine nT (s:=asInt y) (Nu _) λn=>?_;dsimp only;exact AU
 all_goals exact Al.stuck
def E7(t:TypeId)(x y:Value):A1 P F (movedNumber t x y):=by unfold movedNumber;exact AU
def E8(t:TypeId)(x y:Value):A1 P F (movedPointer t x y):=by unfold movedPointer;exact AU
def aEb(a b:Addr):A1 P F (Op.twoPlaces a b):=by unfold Op.twoPlaces;exact AU
def Sm(k:IntKind)(a b:Addr):A1 P F (Op.addrSub k a b):=by unfold Op.addrSub;exact AU
def Sn(op:BinOp)(a b:Addr):A1 P F (Op.addrCmp op a b):=by unfold Op.addrCmp;exact AU
def So(k:IntKind)(a:Addr)(n:Int):A1 P F (Op.addrMod k a n):=by unfold Op.addrMod;exact AU
def kj(op:BinOp)(t:TypeId)(x y:Value):A1 P F (binOp op t x y):=by unfold binOp;exact AU
def ko(op:UnOp)(x:Value):A1 P F (Op.unary op x):=by unfold Op.unary;exact AU
def aEe(t:TypeId)(s:ByteArray):A1 P F (Conv.stringToBytes t s):=by unfold Conv.stringToBytes;exact AU
def aEf(t:TypeId)(s:ByteArray):A1 P F (Conv.stringToRunes t s):=by unfold Conv.stringToRunes;exact AU
def aEg(x:Value):A1 P F (Conv.bytesToString x):=by unfold Conv.bytesToString;exact AU
def aEh(x:Value):A1 P F (Conv.runesToString x):=by unfold Conv.runesToString;exact AU
def E9(a:Addr):A1 P F (Conv.seenAt a):=by unfold Conv.seenAt;exact AU
def aAQ(a:Addr)(u:TypeId)(n:Nat):A1 P F (variablesAt a u n):=by unfold variablesAt;exact AU
def YV(s d:TypeId)(x:Value):A1 P F (Conv.unsafePointer s d x):=by unfold Conv.unsafePointer;exact AU
def Ta(s d:TypeId)(x:Value):A1 P F (convert s d x):=by unfold convert Conv.intToInt Conv.intToFloat Conv.intToString;exact AU
def aEm(a:Array TypeId)(t:TypeId)(xs:Array Value):A1 P F (Builtin.len_ a t xs):=by unfold Builtin.len_;exact AU
def aEn(a:Array TypeId)(t:TypeId)(xs:Array Value):A1 P F (Builtin.cap_ a t xs):=by unfold Builtin.cap_;exact AU
def F0(a:Addr)(n:Nat):A1 P F (Builtin.holdsCells a n):=by unfold Builtin.holdsCells;exact AU
def Hm(a b c:Nat)(o:Option Addr)(x:Value):A1 P F (Builtin.mayShare a b c o x):=by unfold Builtin.mayShare;exact AU
def ju(x:Value):A1 P F (Builtin.lenOf x):=by unfold Builtin.lenOf;exact AU
def F3(a b:Nat)(x:Value):A1 P F (Builtin.firstCells a b x):=by unfold Builtin.firstCells;exact AU
def G1(a:Array TypeId)(t:TypeId)(xs:Array Value):A1 P F (Builtin.append_ a t xs):=by unfold Builtin.append_;exact AU
end
variable{P:Program}
inductive Xc(F:Array Func):Next->Prop
 |value {v:Value}:Xc F (.value v)
 |skip:Xc F .skip
 |enter {f:FuncId} {fn:Func} {c:Code} {asL:Array Value}:F[f]?=some fn->fn.body=some c->Xc F (.enter f asL)
structure Fs(P:Program)(F:Array Func):Prop where
 name:∀(f:FuncId) (fn:Func),F[f]?=some fn->(fn.name== "runtime.NumGoroutine")=false
 same:∀(f:FuncId) (fn:Func) (c:Code),F[f]?=some fn->fn.body=some c->P.funcs[f]?=some fn
 none:∀(f:FuncId) (fn:Func),F[f]?=some fn->fn.body=none->Extern.findNext fn=Option.none/\((Extern.find fn=Option.none/\(fn.name.endsWith ".init" && !fn.name.startsWith "(" && !fn.name.startsWith "gosem.")=false)\/
  (P.funcs[f]?=some fn/\∃e,Extern.find fn=some e/\∀asL,A1 P F (e asL)))
 early:(stub P F).follows .staticDataAhead=true/\∀g,(stub P F).stepOf g=Option.none
section
variable{F:Array Func}
def qU{s:Sem Value}(h:A1 P F s):Al P F (Xc F) (do pure (.value (<-s))):=Al.bind h λ_ _=>.pure .value
def aJw{s:Sem Unit}(h:A1 P F s):Al P F (Xc F) (do s;pure .skip):=Al.bind h λ_ _=>.pure .skip
def TE(H:Fs P F)(f:FuncId)(asL:Array Value):Al P F (Xc F) (callFunc f asL):=by
 have dI:(stub P F).funcs[f]?=F[f]?:=rfl;cases hf:F[f]? with
 |none=>
  refine .dead ?_;unfold callFunc;refine aV.prog ?_;rw[dI,hf];exact aV.halt _
 |some fn=>
  have hn:=H.name f fn hf;cases hb:fn.body with
  |some c=>
   have hs:=H.same f fn c hf hb;unfold callFunc;refine JD ?_ ?_
   .show(match (stub P F).funcs[f]? with|Option.none=>_|some fn=>_)=_;rw[dI,hf,hs]
   .rw[hs];simp only[hn,hb,Option.isNone_some,aHU,if_false];exact .pure (.enter hf hb)
  |none=>
   obtain⟨h1,h2⟩:=H.none f fn hf hb;rcases h2 with⟨h2,h3⟩|⟨hs,e,h2,h3⟩
   .refine .dead λW es=>⟨.unsupported (.extern fn.name),W,es.push ⟨.mark (.extern f),false,true⟩,?_,rfl⟩;unfold callFunc;show Sem.runT _ (match (stub P F).funcs[f]? with|Option.none=>_|some fn=>_) W es=_;rw[dI,hf];dsimp only;rw[hn,hb,h1,h2];simp only[h3];rfl
   .unfold callFunc;refine JD ?_ ?_
    .show(match (stub P F).funcs[f]? with|Option.none=>_|some fn=>_)=_;rw[dI,hf,hs]
    .rw[hs];dsimp only;rw[hn,hb,h1,h2];exact .mark (.inr ⟨f,rfl⟩) (qU (h3 asL))
def aEi(t:TypeId)(x:Place):A1 P F (x.get t):=by
 cases x<;>unfold Place.get
 .exact gJ
 .exact CY _ _
def F4(l:List FieldStep):∀(t:TypeId) (x:Place),A1 P F (follow l t x):=by
 induction l with
 |nil=>intro t x;unfold follow;exact gJ
 |cons s r ih=>intro t x;unfold follow;exact AU
def aAR(t:TypeId)(x:Value)(u m:String):A1 P F (Builtin.ssaWrapNilChk_ #[t] t #[x,strVal u,strVal m]):=by
 cases x
 case pointer p=>
  cases p with
  |some a=>exact gJ
  |none=>
   refine nT (s:=choose (.extern "ssa:wrapnilchk.dereferenced" 2)) (YO _) λn=>?_;exact AU
 all_goals exact Al.stuck
def F5(t:TypeId)(x:Place)(b:Bool)(o:Option String):A1 P F (receiverAt t x b o):=by unfold receiverAt;exact AU
def Tc(t:TypeId)(v:Value)(p:Array FieldStep)(b:Bool):A1 P F (receiverVia t v p b):=by unfold receiverVia;exact AU
def G2(n:Nat):∀(t:TypeId) (v:Value) (m:String),A1 P F (method n t v m):=by
 induction n with
 |zero=>intro t v m;unfold method;exact AI rfl
 |succ n ih=>intro t v m;unfold method;exact AU
def jv(l:List FieldStep):∀(t:TypeId) (x:Option Value),A1 P F (followBlind l t x):=by
 induction l with
 |nil=>intro t x;unfold followBlind;exact gJ
 |cons s r ih=>intro t x;unfold followBlind;exact AU
def Ho(n:Nat):∀(t:TypeId) (v:Value) (m:String),A1 P F (nilAhead n t v m):=by
 induction n with
 |zero=>intro t v m;unfold nilAhead;exact gJ
 |succ n ih=>intro t v m;unfold nilAhead;exact AU
def rI{Q:β->Prop}{s:Sem α}{f:α->Sem β}(h:A1 P F s)(hf:∀a,Al P F Q (f a)):Al P F Q (s>>=f):=Al.bind h λa _=>hf a
def G3(l:Nat)(asL:Array Value):Al P F (Xc F) (Instr.yield l asL):=by
 unfold Instr.yield Instr.getLoop;exact .getObj (λo ho=>by cases o<;>first|exact Al.halt rfl|cases ho) λo ho=>.inr λW es=>⟨_,_,_,rfl,rfl⟩
def PY(H:Fs P F)(v:Value)(m:String)(asL:Array Value):Al P F (Xc F) (callMethod v m asL):=by
 unfold callMethod;split
 .refine JD (by first|rfl) ?_;exact rI (G2 _ _ _ _) λ_=>TE H _ _
 .exact .dead (aV.panic _)
 .exact .stuck
def NR:cY P Instr.panicnil:=λW es=>by
 unfold Instr.panicnil;simp only[bind,Sem.bind,sys,Sem.runT];generalize (W.sys .env).1=r;cases r<;>first|exact .inl ⟨_,_,_,rfl⟩|exact .inr ⟨_,_,_,rfl,rfl⟩
def YX(t:TypeId):cY P (elemOf t):=λW es=>by
 unfold elemOf underlying;simp only[bind,Sem.bind,program,Sem.runT];cases P.underlying t with
 |none=>exact .inr ⟨_,_,_,rfl,rfl⟩
 |some d=>cases d<;>first|exact .inl ⟨_,_,_,rfl⟩|exact .inr ⟨_,_,_,rfl,rfl⟩
def NS:aV P (runtimePanic .panicNil:Sem α):=by
 unfold runtimePanic;refine aV.prog ?_;exact aV.bind (YX _) λe=>aV.bind (λW es=>.inl ⟨_,_,_,rfl⟩) λr=>aV.halt _
def G4(v:Value):aV (stub P F) (Instr.panic v):=by
 unfold Instr.panic;split
 .exact aV.halt _
 .exact aV.bind NR λn=>aO8 (aV.halt _) NS
 .exact aV.halt _
def G6(H:Fs P F)(v:Value)(asL:Array Value):Al P F (Xc F) (do let d<-Deferred.ofValue v asL;invoke d.target d.args):=by
 unfold Deferred.ofValue;split
 .rename_i fn first captured
  show Al P F (Xc F) (invoke (.fn fn captured) (first++asL));unfold invoke;split
  .rename_i h;cases h
  .rename_i h;cases h
  .exact TE H _ _
  .split
   .exact PY H _ _ _
   .exact .stuck
  .split
   .refine rI (vp _) λd=>?_;exact PY H _ _ _
   .exact .stuck
  .split
   .exact rI (Tc _ _ _ _) λ_=>TE H _ _
   .exact .stuck
  .exact G3 _ _
  .exact .stuck
  .rename_i h;cases h
 .show Al P F (Xc F) (invoke .nil asL);exact .dead (aV.panic .nilDeref)
 .exact .stuck
def aAS:Callee->Bool
 | .builtin .append| .builtin .len| .builtin .cap| .value _=>true
 |_=>false
def mB:Op->Bool
 | .move _| .assign _| .pick _ _ _| .alloc _| .box _ _| .build _ _| .buildSlice _ _ _| .load _ _| .store _ _ _| .nilCheck _| .binOp _ _ _ _ _| .unOp _ _ _| .convert _ _ _| .makeInterface _ _| .makeFunc _ _ _| .makeSlice _ _ _| .slice _ _ _ _ _
 | .fieldAddr _ _ _| .field _ _ _| .indexAddr _ _ _| .index _ _ _| .extract _ _| .panic _=>true
 | .call c=>aAS c.callee
 |_=>false
def aEo(H:Fs P F)(ρ:Operand->Value)(o:Oper)(h:mB o.op=true):Al P F (Xc F) (execOp ρ o):=by
 unfold execOp;cases ho:o.op with
 |move x=>exact .pure .value
 |assign x=>exact .pure .value
 |pick a b c=>exact rI (YT _) λ_=>.pure .value
 |alloc t=>exact qU (jw _ _ _)
 |box t x=>exact qU (aEk _ _)
 |build t ps=>exact qU (jx _ _)
 |buildSlice t n ps=>exact qU (TD _ _ _)
 |load t a=>exact qU (G0 _ _)
 |store t a x=>exact aJw (Sq _ _ _)
 |nilCheck x=>
  dsimp only;split
  .exact .dead (aV.panic _)
  .exact .dead (aV.panic _)
  .exact .dead (aV.panic _)
  .split
   .exact .dead (aV.panic _)
   .refine JD (by rfl) ?_;refine rI (Ho _ _ _ _) λb=>?_;split
    .exact rI (AI rfl) λ_=>.pure .value
    .exact .pure .value
   .exact .pure .value
  .exact .pure .value
 |binOp op t x y u=>exact qU (nT (Sy _ _ _ _ _ _) λ_=>kj _ _ _ _)
 |unOp op t x=>exact qU (ko _ _)
 |convert s d x=>exact qU (Ta _ _ _)
 |makeInterface t x=>exact qU (jy _ _)
 |makeFunc fn f c=>exact qU (.pure trivial)
 |makeSlice t l c=>exact qU (jz _ _ _)
 |slice t x lo hi mx=>exact qU (Su _ _ _ _ _)
 |fieldAddr s x f=>exact qU (Sr _ _ _)
 |field t x f=>exact qU (kg _ _ _)
 |indexAddr t x i=>exact qU (Ss _ _ _)
 |index t x i=>exact qU (ki _ _ _)
 |extract x i=>exact qU (Sv _ _)
 |panic x=>exact .dead (aV.oE (G4 _))
 |call c=>
  rw[ho]at h;obtain⟨callee,args,sG⟩:=c;cases callee with
  |builtin b=>
   cases b<;>first|(cases h;done)|skip
   .exact qU (G1 _ _ _)
   .exact qU (aEn _ _ _)
   .exact qU (aEm _ _ _)
  |value x=>exact G6 H _ _
  |invoke r n=>cases h
 |_=>rw[ho]at h;cases h
end
end Rk.Al
namespace Rk.fD
open Go Go.Conc
variable{asL bs cs:List Frame}{W:World}{T':Array Value}{f:FuncId}{k:List Item}
variable{P:Program}{σ:Nm}
def Fr(f:FuncId)(T:Array Value)(k:List Item):Frame:=(base f).at ⟨T,[]⟩ k
def Rt(f:FuncId)(T:Array Value)(k:List Item):Frame:={Fr f T k with mode:=.returning}
def fV(P:Program):Code->Bool
 | .skip| .ret| .exit _| .label _=>true
 | .region _ ops _=>ops.toList.all λo=>mB P o.op
 | .seq a b=>fV P a&&fV P b
 | .cond c a b=>wI c&&(fV P a&&fV P b)
 | .block _ b| .loop b=>fV P b
 |_=>false
def dV(P:Program):Item->Bool
 | .code c=>fV P c
 | .inBlock _=>true
 | .inLoop b=>fV P b
 | .inRegion ops _=>ops.toList.all λo=>mB P o.op
 |_=>false
def oY(P:Program)(f:FuncId):Prop:=∃fn c,P.funcs[f]?=some fn/\fn.body=some c/\fV P c=true/\(fn.results= #[]\/(∃t,fn.results= #[.tmp t])\/∃t u,fn.results= #[.tmp t,.tmp u])
def oZ(P:Program):Prop:=∀f∈wl,oY P f
inductive Hp(P:Program)(σ:Nm):Frame->Frame->Prop
 |run {f:FuncId} {T T':Array Value} {k:List Item}:eY σ T T'->k.all (dV P)=true->oY P f->Hp P σ (Fr f T k) (Fr f T' k)
 |rt {f:FuncId} {T T':Array Value} {k:List Item}:eY σ T T'->oY P f->Hp P σ (Rt f T k) (Rt f T' k)
inductive YY(P:Program)(σ:Nm):Frame->Frame->Prop
 |mk {f:FuncId} {T T':Array Value} {ops:Array Oper} {i:Nat} {rest:List Nat} {k:List Item}:eY σ T T'->(Item.inRegion ops (i::rest)::k).all (dV P)=true->oY P f->YY P σ (Fr f T (.inRegion ops (i::rest)::k)) (Fr f T' (.inRegion ops (i::rest)::k))
inductive YZ(P:Program)(σ:Nm):List Frame->List Frame->Prop
 |nil:YZ P σ [] []
 |cons {a b:Frame} {asL bs:List Frame}:YY P σ a b->YZ P σ asL bs->YZ P σ (a::asL) (b::bs)
def YY.mono{τ:Nm}(hs:σ.le τ){a b:Frame}(h:YY P σ a b):YY P τ a b:=by
 cases h with
 |mk h1 h2 h3=>exact .mk (h1.mono hs) h2 h3
def YZ.mono{τ:Nm}(hs:σ.le τ)(h:YZ P σ asL bs):YZ P τ asL bs:=by
 induction h with
 |nil=>exact .nil
 |cons h _ ih=>exact .cons (h.mono hs) ih
def NT(P:Program)(cs:List Frame):GStep->Prop
 | .ended _ _ _=>True
 | .go g _ _=>∃f T k ch,g=G {Fr f T k with mode:=.panicking ch} cs/\∃fn,P.funcs[f]?=some fn
 |_=>False
structure NU(P:Program)(σ:Nm)(A B:Frame)(asL bs:List Frame)(c0:Frame)(W:World)(A1:Frame)(uJ:List Frame)(W1:World):Prop where
 left:∀T,(∀i q,W.drawn<=i->i<W1.drawn->T i q=W.tape i q)->∃es,stepG P true (G A (asL++[c0])) (W.on T)=.go (G A1 (uJ++[c0])) (W1.on T) es
 tape:W1.tape=W.tape
 drawn:W.drawn<=W1.drawn
 right:∀main cs w,WR σ W w->GB<=w.heap.size->(∀i q,W.drawn+i<W1.drawn->W.tape (W.drawn+i) q=w.tape (w.drawn+i) q)->
  ∃τ B1 bs1 w1 f,stepG P main (G B (bs++cs)) w=.go (G B1 (bs1++cs)) w1 f/\Hp P τ A1 B1/\YZ P τ uJ bs1/\WR τ W1 w1/\qT σ τ W W1 w w1 f/\w1.drawn+W.drawn=w.drawn+W1.drawn
def NU.ctl{A B A1 B1:Frame}{uJ bs1:List Frame}{c0:Frame}(hl:∀w,stepG P true (G A (asL++[c0])) w=.go (G A1 (uJ++[c0])) w #[])(hr:∀main cs w,stepG P main (G B (bs++cs)) w=.go (G B1 (bs1++cs)) w #[])
  (ht:Hp P σ A1 B1)(hs:YZ P σ uJ bs1):NU P σ A B asL bs c0 W A1 uJ W:=
 ⟨λT _=>⟨#[],hl _⟩,rfl,aAB _,λmain cs w hw _ _=>⟨σ,B1,bs1,w,#[],hr main cs w,ht,hs,hw,qT.refl W.drawn w.drawn,BYO⟩⟩
def JE:∀{k k':List Item} {id:Nat},k.all (dV P)=true->exitTo id k=some k'->k'.all (dV P)=true:=by
 intro k;induction k with
 |nil=>intro k' id _ h;simp[exitTo]at h
 |cons x k ih=>
  intro k' id hk h;simp only[aCR,aBg]at hk;cases x<;>simp only[exitTo]at h<;>first|exact ih hk.2 h|skip
  split at h
  .cases h;exact hk.2
  .exact ih hk.2 h
def eY.kp{T:Array Value}(h:eY σ T T')(t:Nat):VR σ (T.getD t undef) (T'.getD t undef):=by
 rw[aCd,aCd];rcases h.get t with⟨h1,h2⟩|⟨u,u',h1,h2,hu⟩
 .rw[h1,h2];exact .tuple rfl λi h=>by simp at h
 .rw[h1,h2];exact hu
def ZA{T:Array Value}(h:eY σ T T')(x:Operand)(hx:wI x=true):VR σ ((⟨T,[]⟩:Act).eval x) ((⟨T',[]⟩:Act).eval x):=by
 cases x with
 |tmp t=>exact h.kp t
 |const v=>exact VR.flat hx
 |func f=>exact .func (by simpa[wI] using hx)
 |global g=>cases hx
def FA{T:Array Value}(h:eY σ T T')(ops:Array Oper):yielded ops T=yielded ops T':=by
 funext j;unfold yielded;cases ((ops[j]?).bind (·.dst)) with
 |none=>rfl
 |some d=>
  simp only[aDv];rcases h.get d with⟨h1,h2⟩|⟨u,u',h1,h2,hu⟩
  .rw[h1,h2]
  .rw[h1,h2];cases hu with
   |hid h=>cases u'<;>first|rfl|cases h
   |_=>rfl
def Out(P:Program)(σ:Nm)(A B:Frame)(asL bs:List Frame)(c0:Frame)(W:World):Prop:=
 (∃A1 uJ W1,NU P σ A B asL bs c0 W A1 uJ W1)\/NT P (asL++[c0]) (stepG P true (G A (asL++[c0])) W)
def PZ{T:Array Value}{id:Nat}(h:exitTo id k=none):NT P cs (stepG P true (G (Fr f T (.code (.exit id)::k)) cs) W):=by
 simp[G,Fr,stepG,stepG.exec,Frame.at,base,h,NT,default]
def QA{T:Array Value}{c:Operand}{x y:Code}(h:∀b,(⟨T,[]⟩:Act).eval c≠.bool b):NT P cs (stepG P true (G (Fr f T (.code (.cond c x y)::k)) cs) W):=by
 have h':∀b,(Fr f T (.code (.cond c x y)::k)).eval c≠.bool b:=by unfold Fr;rw[Frame.eval_at'];exact h
 have:stepG P true (G (Fr f T (.code (.cond c x y)::k)) cs) W=stepG.exec P true true (Fr f T (.code (.cond c x y)::k)) cs none W:=rfl;rw[this];unfold stepG.exec;dsimp only[Fr,Frame.at];split
 .exact absurd (by assumption) (h' _)
 .trivial
def JF{T:Array Value}{x:Item}{c0:Frame}(hT:eY σ T T')(hS:YZ P σ asL bs)(hk:(x::k).all (dV P)=true)(hO:oY P f)(hx:∀ops l,x≠.inRegion ops l)(hr:∀id ops,x≠.code (.region id ops true)):
  Out P σ (Fr f T (x::k)) (Fr f T' (x::k)) asL bs c0 W:=by
 simp only[aCR,aBg]at hk;have go:∀{k1:List Item},(∀main T cs w,stepG P main (G (Fr f T (x::k)) cs) w=.go (G (Fr f T k1) cs) w #[])->k1.all (dV P)=true->Out P σ (Fr f T (x::k)) (Fr f T' (x::k)) asL bs c0 W:=λh h1=>
  .inl ⟨_,asL,W,NU.ctl (λw=>h _ _ _ _) (λmain cs w=>h _ _ _ _) (.run hT h1 hO) hS⟩
 cases x with
 |inBlock id=>exact go (λ_ _ _ _=>stepG_inBlock) hk.2
 |inLoop c=>exact go (λ_ _ _ _=>stepG_inLoop) (by simp only[aCR,aBg];exact⟨hk.1,hk.1,hk.2⟩)
 |inRegion ops l=>exact absurd rfl (hx ops l)
 |code c=>
  have hc:=hk.1;cases c with
  |skip=>exact go (λ_ _ _ _=>stepG_skip) hk.2
  |label l=>exact go (λ_ _ _ _=>stepG_label) hk.2
  |ret=>exact .inl ⟨_,asL,W,NU.ctl (λw=>stepG_ret') (λmain cs w=>stepG_ret') (.rt hT hO) hS⟩
  |seq a b=>
   simp only[dV,fV,aBg]at hc;exact go (λ_ _ _ _=>stepG_seq) (by simp only[aCR,aBg];exact⟨hc.1,hc.2,hk.2⟩)
  |block id b=>exact go (λ_ _ _ _=>stepG_block) (by simp only[aCR,aBg];exact⟨hc,rfl,hk.2⟩)
  |loop b=>exact go (λ_ _ _ _=>stepG_loop) (by simp only[aCR,aBg];exact⟨hc,hc,hk.2⟩)
  |exit id=>
   cases he:exitTo id k with
   |none=>exact .inr (PZ he)
   |some k'=>exact go (λ_ _ _ _=>stepG_exit he) (JE hk.2 he)
  |region id ops d=>
   cases d with
   |true=>exact absurd rfl (hr id ops)
   |false=>exact go (λ_ _ _ _=>stepG_region) (by simp only[aCR,aBg];exact⟨hc,hk.2⟩)
  |cond c a b=>
   simp only[dV,fV,aBg]at hc;have hv:=ZA hT c hc.1;by_cases hb:∃t,(⟨T,[]⟩:Act).eval c=.bool t
   .obtain⟨t,ht⟩:=hb;have CC:(⟨T',[]⟩:Act).eval c=.bool t:=by
     rw[ht]at hv;generalize (⟨T',[]⟩:Act).eval c=v at hv;cases hv;rfl
    refine .inl ⟨_,asL,W,NU.ctl (λw=>stepG_cond ht) (λmain cs w=>stepG_cond CC) (.run hT ?_ hO) hS⟩;simp only[aCR,aBg];refine⟨?_,hk.2⟩;cases t<;>first|exact hc.2.1|exact hc.2.2
   .exact .inr (QA λt ht=>hb ⟨t,ht⟩)
  |_=>simp[dV,fV]at hc
 |_=>simp[dV]at hk
end Rk.fD
