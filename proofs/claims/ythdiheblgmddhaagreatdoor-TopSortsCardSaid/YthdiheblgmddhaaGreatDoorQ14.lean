/- Part of the proof of TopSorts. -/
import Derived.Conc.Own
import Derived.Conc.Events
import Derived.Test.YthdiheblgmddhaaGreatDoorQM
set_option linter.all false
set_option maxHeartbeats 2000000
namespace Rk.fD
open Go
variable{v v':Value}{xs ys c:Array Value}{x:Addr}{α β:Type}{P:Program}{W w W1 w1:World}{a b o:Nat}{fz:Nat×Nat}{l m:Bool}{es e1 f:Array Event}
def GB:Nat:=3+5
structure Nm where
 r:Nat->Nat->Prop
 hi:∀a b,r a b->GB<=a/\GB<=b
instance:CoeFun Nm λ_=>Nat->Nat->Prop:=⟨Nm.r⟩
def Nm.put(σ:Nm)(r r':Nat):Nm:=⟨λa b=>σ a b\/(a=r/\b=r'/\GB<=r/\GB<=r'),λa b h=>h.elim (σ.hi a b) λ⟨h1,h2,h3,h4⟩=>by rw[h1,h2];exact⟨h3,h4⟩⟩
def Nm.le(σ τ:Nm):Prop:=∀a b,σ a b->τ a b
def Nm.le_refl(σ:Nm):σ.le σ:=λ_ _ h=>h
def Nm.le.trans{σ τ υ:Nm}(h:σ.le τ)(g:τ.le υ):σ.le υ:=λa b k=>g a b (h a b k)
def aPu(σ:Nm)(r r':Nat):σ.le (σ.put r r'):=λ_ _ h=>.inl h
def aJq:Value->Bool
 | .bool _| .agg _=>false
 |_=>true
inductive VR(σ:Nm):Value->Value->Prop
 |bool (b:Bool):VR σ (.bool b) (.bool b)
 |int (k:IntKind) (n:Int):VR σ (.int k n) (.int k n)
 |string (s:ByteArray):VR σ (.string s) (.string s)
 |YI:VR σ (.pointer none) (.pointer none)
 |ptr {b b' o:Nat}:σ b b'->VR σ (.pointer (some ⟨b,o,none⟩)) (.pointer (some ⟨b',o,none⟩))
 |Ez (n c:Nat):VR σ (.slice none n c) (.slice none n c)
 |sl {b b' o n c:Nat}:σ b b'->VR σ (.slice (some ⟨b,o,none⟩) n c) (.slice (some ⟨b',o,none⟩) n c)
 |nilIface:VR σ .nilIface .nilIface
 |iface {t:TypeId} {v v':Value}:VR σ v v'->VR σ (.iface t v) (.iface t v')
 |func {f:FuncId}:f=27->VR σ (.func (.func f) #[] #[]) (.func (.func f) #[] #[])
 |hid {v:Value}:aJq v=true->VR σ (.tuple #[]) v
 |chan (r:Option Nat):VR σ (.chan r) (.chan r)
 |agg {xs ys:Array Value}:xs.size=ys.size->(∀i (h:i<xs.size) (h':i<ys.size),VR σ xs[i] ys[i])->VR σ (.agg xs) (.agg ys)
 |tuple {xs ys:Array Value}:xs.size=ys.size->(∀i (h:i<xs.size) (h':i<ys.size),VR σ xs[i] ys[i])->VR σ (.tuple xs) (.tuple ys)
structure eY(σ:Nm)(xs ys:Array Value):Prop where
 size:xs.size=ys.size
 at_:∀i (h:i<xs.size) (h':i<ys.size),VR σ xs[i] ys[i]
def VR.mono{σ τ:Nm}(hs:σ.le τ)(h:VR σ v v'):VR τ v v':=by
 induction h with
 |bool b=>exact .bool b
 |int k n=>exact .int k n
 |string s=>exact .string s
 |YI=>exact .YI
 |ptr h=>exact .ptr (hs _ _ h)
 |Ez n c=>exact .Ez n c
 |sl h=>exact .sl (hs _ _ h)
 |nilIface=>exact .nilIface
 |iface _ ih=>exact .iface ih
 |func h=>exact .func h
 |hid h=>exact .hid h
 |chan r=>exact .chan r
 |agg hz _ ih=>exact .agg hz ih
 |tuple hz _ ih=>exact .tuple hz ih
def eY.mono{σ τ:Nm}(hs:σ.le τ)(h:eY σ xs ys):eY τ xs ys:=⟨h.size,λi h1 h2=>(h.at_ i h1 h2).mono hs⟩
def eY.get{σ:Nm}(h:eY σ xs ys)(i:Nat):(xs[i]?=none/\ys[i]?=none)\/∃v v',xs[i]?=some v/\ys[i]?=some v'/\VR σ v v':=by
 by_cases hi:i<xs.size
 .exact .inr ⟨xs[i],ys[i]'(h.size▸hi),by simp[hi],by simp[h.size▸hi],h.at_ i hi _⟩
 .exact .inl ⟨BYT,by have:=h.size;simp;omega⟩
def eY.set{σ:Nm}(h:eY σ xs ys)(i:Nat)(hv:VR σ v v'):eY σ (xs.setIfInBounds i v) (ys.setIfInBounds i v'):=by
 refine⟨by simpa using h.size,λj h1 h2=>?_⟩;simp only[aGt]at h1 h2;rw[Array.getElem_setIfInBounds h1,Array.getElem_setIfInBounds h2];split
 .exact hv
 .exact h.at_ j h1 h2
inductive ve(σ:Nm):Obj->Obj->Prop
 |cells {c c':Array Value} {T:TypeId} {fz fz':Nat×Nat}:eY σ c c'->(∀o,fz'.1<=o->o<fz'.2->fz.1<=o/\o<fz.2)->ve σ (.cells c T fz) (.cells c' T fz')
 |number {b b' o:Nat} {l:Bool}:σ b b'->ve σ (.number ⟨b,o,none⟩ l) (.number ⟨b',o,none⟩ l)
def ve.mono{σ τ:Nm}(hs:σ.le τ){x y:Obj}(h:ve σ x y):ve τ x y:=by
 cases h with
 |cells hc hf=>exact .cells (hc.mono hs) hf
 |number hb=>exact .number (hs _ _ hb)
def NP:Halt->Bool
 | .panic _| .stuck _=>true
 | .unsupported (.initOrder _)=>false
 | .unsupported _=>true
 |_=>false
def aV(P:Program)(s:Sem α):Prop:=∀W es,∃h W1 e1,s.runT P W es=(.halt h W1,e1)/\NP h=true
def cY(P:Program)(s:Sem α):Prop:=∀W es,(∃a W1 e1,s.runT P W es=(.ok a W1,e1))\/∃h W1 e1,s.runT P W es=(.halt h W1,e1)/\NP h=true
def aV.oE{s:Sem α}{k:α->Sem β}(h:aV P s):aV P (s>>=k):=λW es=>by
 obtain⟨x,W1,e1,h1,h2⟩:=h W es;refine⟨x,W1,e1,?_,h2⟩;show(s.bind k).runT P W es=_;rw[Sem.runT_bind',h1]
def aV.bind{s:Sem α}{k:α->Sem β}(hs:cY P s)(h:∀a,aV P (k a)):aV P (s>>=k):=λW es=>by
 rcases hs W es with⟨a,W1,e1,h1⟩|⟨x,W1,e1,h1,h2⟩
 .obtain⟨x,W2,e2,h2,h3⟩:=h a W1 e1;refine⟨x,W2,e2,?_,h3⟩;show(s.bind k).runT P W es=_;rw[Sem.runT_bind',h1];exact h2
 .refine⟨x,W1,e1,?_,h2⟩;show(s.bind k).runT P W es=_;rw[Sem.runT_bind',h1]
inductive SR{α:Type}(P:Program)(Q:Nm->α->α->Prop):Nm->Sem α->Sem α->Prop
 |pure {σ:Nm} {a b:α}:Q σ a b->SR P Q σ (.pure a) (.pure b)
 |load {σ:Nm} {b b' o:Nat} {k k':Value->Sem α}:σ b b'->(∀v v',VR σ v v'->SR P Q σ (k v) (k' v'))->SR P Q σ (.load .plain ⟨b,o,none⟩ k) (.load .plain ⟨b',o,none⟩ k')
 |store {σ:Nm} {b b' o:Nat} {v v':Value} {k k':Sem α}:σ b b'->VR σ v v'->SR P Q σ k k'->SR P Q σ (.store .plain ⟨b,o,none⟩ v k) (.store .plain ⟨b',o,none⟩ v' k')
 |new {σ:Nm} {x y:Obj} {k k':Nat->Sem α}:ve σ x y->(∀r r',GB<=r->GB<=r'->SR P Q (σ.put r r') (k r) (k' r'))->SR P Q σ (.new x k) (.new y k')
 |getObj {σ:Nm} {b b':Nat} {k k':Obj->Sem α}:σ b b'->(∀a a' o l,σ a a'->SR P Q σ (k (.number ⟨a,o,none⟩ l)) (k' (.number ⟨a',o,none⟩ l)))->SR P Q σ (.getObj b k) (.getObj b' k')
 |shape {σ:Nm} {b b':Nat} {k k':Option (TypeId×Nat)->Sem α}:σ b b'->(∀s,SR P Q σ (k s) (k' s))->SR P Q σ (.shape b k) (.shape b' k')
 |choose {σ:Nm} (q:Question) {k k':Nat->Sem α}:(∀n,SR P Q σ (k n) (k' n))->SR P Q σ (.choose q k) (.choose q k')
 |program {σ:Nm} {k k':Program->Sem α}:SR P Q σ (k P) (k' P)->SR P Q σ (.program k) (.program k')
 |room {σ:Nm} {k k':Sem α}:SR P Q σ k k'->SR P Q σ (.mark .noRoom k) (.mark .noRoom k')
 |dead {σ:Nm} {s s':Sem α}:aV P s->SR P Q σ s s'
structure WR(σ:Nm)(W w:World):Prop where
 fn:∀a b b',σ a b->σ a b'->b=b'
 inj:∀a a' b,σ a b->σ a' b->a=a'
 cell:∀a b,σ a b->∃x y,W.heap[a]?=some x/\w.heap[b]?=some y/\ve σ x y
def WR.lt{σ:Nm}(h:WR σ W w)(k:σ a b):a<W.heap.size/\b<w.heap.size:=by
 obtain⟨x,y,h1,h2,_⟩:=h.cell a b k;exact⟨(aCH.1 h1).1,(aCH.1 h2).1⟩
def xD(W:World)(a:Nat):Prop:=∃c T fz,W.heap[a]?=some (.cells c T fz)/\∀o,o<c.size->fz.1<=o/\o<fz.2
structure qT(σ τ:Nm)(W W1 w w1:World)(f:Array Event):Prop where
 le:σ.le τ
 size:w.heap.size<=w1.heap.size
 PQ:W.heap.size<=W1.heap.size
 ice:∀a,xD W a->xD W1 a
 still:∀a y,σ a y->xD W a->w1.heap[y]?=w.heap[y]?
 other:∀y,y<w.heap.size->(∀a,¬σ a y)->w1.heap[y]?=w.heap[y]?
 fresh:∀a b,τ a b->σ a b\/(W.heap.size<=a/\w.heap.size<=b/\b<w1.heap.size)
 all:∀y,w.heap.size<=y->y<w1.heap.size->∃a,τ a y
 os:w1.os=w.os
 tape:w1.tape=w.tape
 output:w1.output=w.output
 events:∀e∈f,e=⟨.mark .noRoom,false,true⟩\/∃a b,τ a b/\e.sync=false/\((e.loc=.obj b/\e.write=false)\/∃o,e.loc=.cell ⟨b,o,none⟩/\(e.write=true->¬xD W a))
def _root_.Go.Value.yO:Value->Bool
 | .agg _| .tuple _=>false
 |_=>true
def cell_of{T:TypeId}(h:w.heap[b]?=some (.cells c T fz)):w.cell? ⟨b,o,none⟩=c[o]?:=by simp[World.cell?,h]
def wH{T:TypeId}(h:w.heap[b]?=some (.cells c T fz)):w.frozen? ⟨b,o,none⟩=(decide (fz.1<=o)&&decide (o<fz.2)):=by simp[World.frozen?,h]
def YJ{T:TypeId}(h:w.heap[b]?=some (.cells c T fz)):w.shape? b=some (T,c.size):=by simp[World.shape?,h]
def Ha{T:TypeId}(h:w.heap[b]?=some (.cells c T fz)):(w.setCell ⟨b,o,none⟩ v).heap[b]?=some (.cells (c.setIfInBounds o v) T fz):=by
 have hl:=(aCH.1 h).1;simp[World.setCell,aDI,h]
def Nk(h:w.heap[b]?=some (.number x l)):(w.setCell ⟨b,o,none⟩ v).heap[b]?=some (.number x l):=by
 simp[World.setCell,aDI,h]
def eZ{y:Nat}(hy:y≠b):(w.setCell ⟨b,o,none⟩ v).heap[y]?=w.heap[y]?:=by
 simp[World.setCell,aDI,Ne.symm hy]
def cL:(w.setCell ⟨b,o,none⟩ v).heap.size=w.heap.size:=by simp[World.setCell]
def Rs{T:TypeId}(h:w.heap[b]?=some (.cells c T fz)):∃e,w.farLoad P ⟨b,o,none⟩ m=.error e:=by
 unfold World.farLoad;rw[h];exact⟨_,rfl⟩
def Hb{T:TypeId}(h:w.heap[b]?=some (.cells c T fz)):∃e,w.farStore P ⟨b,o,none⟩ v m=.error e:=by
 unfold World.farStore;rw[h];exact⟨_,rfl⟩
def SV{T:TypeId}{k:Value->Sem α}{a:α}(h:W.heap[b]?=some (.cells c T fz))
  (hr:(Sem.load .plain ⟨b,o,none⟩ k).runT P W es=(.ok a W1,e1)):∃v,c[o]?=some v/\(k v).runT P W (es.push ⟨.cell ⟨b,o,none⟩,false,false⟩)=(.ok a W1,e1):=by
 simp only[Sem.runT,cell_of h]at hr;cases hc:c[o]? with
 |some v=>rw[hc]at hr;exact⟨v,rfl,hr⟩
 |none=>
  rw[hc]at hr;obtain⟨e,he⟩:=Rs (P:=P) (o:=o) (m:=(Mode.plain==Mode.atomic)) h;simp only[he]at hr;cases hr
def IY{T:TypeId}{k:Sem α}{a:α}(h:W.heap[b]?=some (.cells c T fz))
  (hr:(Sem.store .plain ⟨b,o,none⟩ v k).runT P W es=(.ok a W1,e1)):v.yO=true/\o<c.size/\W.frozen? ⟨b,o,none⟩=false/\k.runT P (W.setCell ⟨b,o,none⟩ v) (es.push ⟨.cell ⟨b,o,none⟩,true,false⟩)=(.ok a W1,e1):=by
 have key:v.yO=true->o<c.size/\W.frozen? ⟨b,o,none⟩=false/\k.runT P (W.setCell ⟨b,o,none⟩ v) (es.push ⟨.cell ⟨b,o,none⟩,true,false⟩)=(.ok a W1,e1):=λhv=>by
  have sD:(match W.cell? ⟨b,o,none⟩ with
   |some _=>if W.frozen? ⟨b,o,none⟩ then(Result.halt (.unsupported (.unsafePointer "a write to bytes that a string shares")) W,es) else k.runT P (W.setCell ⟨b,o,none⟩ v) (es.push ⟨.cell ⟨b,o,none⟩,true,false⟩)
   |none=>match W.farStore P ⟨b,o,none⟩ v false with
    | .ok (w,CF)=>k.runT P w (es++CF.toArray.map (⟨.cell ·,true,false⟩))
    | .error h=>(.halt h W,es))=(.ok a W1,e1):=by
   cases v<;>first|exact hr|(simp[Go.Value.yO]at hv)
  rw[cell_of h]at sD;cases hc:c[o]? with
  |some u=>
   rw[hc]at sD;dsimp only at sD;cases hf:W.frozen? ⟨b,o,none⟩ with
   |true=>rw[hf]at sD;cases sD
   |false=>rw[hf]at sD;exact⟨(aCH.1 hc).1,rfl,sD⟩
  |none=>
   rw[hc]at sD;obtain⟨e,he⟩:=Hb (P:=P) (o:=o) (m:=false) (v:=v) h;simp only[he]at sD;cases sD
 cases hv:v.yO with
 |true=>exact⟨rfl,key hv⟩
 |false=>
  exfalso;cases v<;>first|(simp[Go.Value.yO]at hv;done)|(simp only[Sem.runT]at hr;cases hr)
def CV{T:TypeId}{k:Sem α}(h:w.heap[b]?=some (.cells c T fz))(hv:v.yO=true)(ho:o<c.size)(hf:w.frozen? ⟨b,o,none⟩=false):
  (Sem.store .plain ⟨b,o,none⟩ v k).runT P w es=k.runT P (w.setCell ⟨b,o,none⟩ v) (es.push ⟨.cell ⟨b,o,none⟩,true,false⟩):=by
 have hc:w.cell? ⟨b,o,none⟩=some c[o]:=by rw[cell_of h];simp[ho]
 have sD:(Sem.store .plain ⟨b,o,none⟩ v k).runT P w es=(match w.cell? ⟨b,o,none⟩ with
   |some _=>if w.frozen? ⟨b,o,none⟩ then(Result.halt (.unsupported (.unsafePointer "a write to bytes that a string shares")) w,es) else k.runT P (w.setCell ⟨b,o,none⟩ v) (es.push ⟨.cell ⟨b,o,none⟩,true,false⟩)
   |none=>match w.farStore P ⟨b,o,none⟩ v false with
    | .ok (w,CF)=>k.runT P w (es++CF.toArray.map (⟨.cell ·,true,false⟩))
    | .error h=>(.halt h w,es)):=by
  cases v<;>first|rfl|(simp[Go.Value.yO]at hv)
 rw[sD,hc,hf];rfl
def VR.one{σ:Nm}(h:VR σ v v')(hv:v.yO=true):v'.yO=true:=by
 cases h with
 |hid h=>cases hv
 |_=>simp_all[Go.Value.yO]
def IZ{k:Value->Sem α}{a:α}(h:W.heap[b]?=some (.number x l))
  (hr:(Sem.load .plain ⟨b,o,none⟩ k).runT P W es=(.ok a W1,e1)):False:=by
 simp only[Sem.runT,World.cell?,h,World.farLoad]at hr;cases hr
def CW{k:Sem α}{a:α}(h:W.heap[b]?=some (.number x l))
  (hr:(Sem.store .plain ⟨b,o,none⟩ v k).runT P W es=(.ok a W1,e1)):False:=by
 cases v<;>simp only[Sem.runT,World.cell?,h,World.farStore]at hr<;>cases hr
def WR.store{σ:Nm}{W w:World}(hw:WR σ W w){b b' o:Nat}{v v':Value}(hb:σ b b')(hv:VR σ v v'):WR σ (W.setCell ⟨b,o,none⟩ v) (w.setCell ⟨b',o,none⟩ v'):=by
 refine⟨hw.fn,hw.inj,λx y NK=>?_⟩;obtain⟨X,Y,h1,h2,hc⟩:=hw.cell x y NK;by_cases hx:x=b
 .subst hx;obtain rfl:=hw.fn _ _ _ NK hb;cases hc with
  |cells hc hf=>exact⟨_,_,Ha h1,Ha h2,.cells (hc.set o hv) hf⟩
  |number hn=>exact⟨_,_,Nk h1,Nk h2,.number hn⟩
 .have hy:y≠b':=λe=>hx (hw.inj _ _ _ NK (e▸hb));exact⟨X,Y,by rw[eZ hx];exact h1,by rw[eZ hy];exact h2,hc⟩
def WR.new{σ:Nm}{W w:World}(hw:WR σ W w){X Y:Obj}(hc:ve σ X Y):
  WR (σ.put W.heap.size w.heap.size) {W with heap:=W.heap.push X} {w with heap:=w.heap.push Y}:=by
 refine⟨λa b b' h1 h2=>?_,λa a' b h1 h2=>?_,λx y NK=>?_⟩
 .rcases h1 with h1|⟨rfl,rfl,_,_⟩<;>rcases h2 with h2|⟨h2a,h2b,_,_⟩
  .exact hw.fn _ _ _ h1 h2
  .have:=(hw.lt h1).1;omega
  .have:=(hw.lt h2).1;omega
  .exact h2b.symm
 .rcases h1 with h1|⟨rfl,rfl,_,_⟩<;>rcases h2 with h2|⟨h2a,h2b,_,_⟩
  .exact hw.inj _ _ _ h1 h2
  .have:=(hw.lt h1).2;omega
  .have:=(hw.lt h2).2;omega
  .exact h2a.symm
 .rcases NK with NK|⟨rfl,rfl,_,_⟩
  .obtain⟨D,D',h1,h2,hd⟩:=hw.cell x y NK;obtain⟨l1,l2⟩:=hw.lt NK;exact⟨D,D',by simp only[aDK,if_neg (aGY l1)];exact h1,by simp only[aDK,if_neg (aGY l2)];exact h2,hd.mono (aPu _ _ _)⟩
  .exact⟨X,Y,BYS,BYS,hc.mono (aPu _ _ _)⟩
def WR.draw{σ:Nm}(hw:WR σ W w)(n m:Nat):WR σ {W with drawn:=n} {w with drawn:=m}:=⟨hw.fn,hw.inj,hw.cell⟩
def SR.drawn{Q:Nm->α->α->Prop}{σ:Nm}{s s':Sem α}(h:SR P Q σ s s'):∀{W w W1:World} {es e1:Array Event} {a:α},WR σ W w->GB<=W.heap.size->GB<=w.heap.size->s.runT P W es=(.ok a W1,e1)->W.drawn<=W1.drawn:=by
 induction h with
 |pure q=>intro W w W1 es e1 a hw hG hg h;simp only[Sem.runT]at h;cases h;exact aAB _
 | @load σ b b' o k k' hb hk ih=>
  intro W w W1 es e1 a hw hG hg h;obtain⟨X,Y,h1,h2,hc⟩:=hw.cell _ _ hb;cases hc with
  |number hn=>exact(IZ h1 h).elim
  |cells hc hf=>
   obtain⟨v,hv,hr⟩:=SV h1 h;rcases hc.get o with⟨hn,_⟩|⟨u,u',hu,Fg,huv⟩
   .rw[hn]at hv;cases hv
   .rw[hu]at hv;cases hv;exact ih _ _ huv hw hG hg hr
 |store hb hv hk ih=>
  intro W w W1 es e1 a hw hG hg h;obtain⟨X,Y,h1,h2,hc⟩:=hw.cell _ _ hb;cases hc with
  |number hn=>exact(CW h1 h).elim
  |cells hc hf=>
   obtain⟨_,_,_,hr⟩:=IY h1 h;have:=ih (hw.store hb hv) (by rw[cL];exact hG) (by rw[cL];exact hg) hr;exact this
 |new hc hk ih=>
  intro W w W1 es e1 a hw hG hg h;simp only[Sem.runT]at h;have:=ih _ _ hG hg (hw.new hc) BYT BYT h;exact this
 |getObj hb hk ih=>
  intro W w W1 es e1 a hw hG hg h;obtain⟨X,Y,h1,h2,hc⟩:=hw.cell _ _ hb;cases hc with
  |cells hc hf=>simp only[Sem.runT,h1]at h;cases h
  |number hn=>
   simp only[Sem.runT,h1]at h;exact ih _ _ _ _ hn hw hG hg h
 |shape hb hk ih=>
  intro W w W1 es e1 a hw hG hg h;simp only[Sem.runT]at h;exact ih _ hw hG hg h
 |choose q hk ih=>
  intro W w W1 es e1 a hw hG hg h;simp only[Sem.runT]at h;split at h
  .exact ih _ hw hG hg h
  .have:=ih _ (hw.draw (W.drawn+1) w.drawn) hG hg h;exact Nat.le_of_succ_le this
 |program hk ih=>
  intro W w W1 es e1 a hw hG hg h;simp only[Sem.runT]at h;exact ih hw hG hg h
 |room hk ih=>
  intro W w W1 es e1 a hw hG hg h;simp only[Sem.runT]at h;exact ih hw hG hg h
 |dead hd=>intro W w W1 es e1 a hw hG hg h;obtain⟨x,_,_,hx,_⟩:=hd _ _;rw[h]at hx;cases hx
def qT.refl{σ:Nm}(n m:Nat):qT σ σ W {W with drawn:=n} w {w with drawn:=m} #[]:=
 ⟨σ.le_refl,aAB _,aAB _,λ_ h=>h,λ_ _ _ _=>rfl,λ_ _ _=>rfl,λ_ _ h=>.inl h,λy h1 h2=>by simp at h2;omega,rfl,rfl,rfl,λe he=>by simp at he⟩
def qT.ev{σ τ:Nm}(h:qT σ τ W W1 w w1 f){e:Event}(he:e=⟨.mark .noRoom,false,true⟩\/∃a b,τ a b/\e.sync=false/\((e.loc=.obj b/\e.write=false)\/∃o,e.loc=.cell ⟨b,o,none⟩/\(e.write=true->¬xD W a))):
  qT σ τ W W1 w w1 (#[e]++f):=
 ⟨h.le,h.size,h.PQ,h.ice,h.still,h.other,h.fresh,h.all,h.os,h.tape,h.output,λx hx=>by
  rcases aD4.1 hx with hx|hx
  .rw[show x=e from by simpa using hx];exact he
  .exact h.events x hx⟩
def SW(h:xD W a):xD (W.setCell ⟨b,o,none⟩ v) a:=by
 obtain⟨c,T,fz,h1,h2⟩:=h;by_cases WU:a=b
 .subst WU;exact⟨_,T,fz,Ha h1,by simpa using h2⟩
 .exact⟨c,T,fz,by rw[eZ WU];exact h1,h2⟩
def y5(h:xD W a):a<W.heap.size:=by
 obtain⟨c,T,fz,h1,h2⟩:=h;exact(aCH.1 h1).1
def JA{x:Obj}(h:xD W a):xD {W with heap:=W.heap.push x} a:=by
 have hl:=y5 h;obtain⟨c,T,fz,h1,h2⟩:=h;exact⟨c,T,fz,by simp only[aDK,if_neg (aGY hl)];exact h1,h2⟩
def qT.evs{σ τ:Nm}{W':World}(h:qT σ τ W' W1 w w1 f)(hi:∀a,xD W a->xD W' a):∀e∈f,e=⟨.mark .noRoom,false,true⟩\/∃a b,τ a b/\e.sync=false/\((e.loc=.obj b/\e.write=false)\/∃o,e.loc=.cell ⟨b,o,none⟩/\(e.write=true->¬xD W a)):=λe he=>by
 rcases h.events e he with h|⟨a,b,h1,h2,h3|⟨o,h3,h4⟩⟩
 .exact .inl h
 .exact .inr ⟨a,b,h1,h2,.inl h3⟩
 .exact .inr ⟨a,b,h1,h2,.inr ⟨o,h3,λhw hc=>h4 hw (hi a hc)⟩⟩
def SR.run{α:Type}{P:Program}{Q:Nm->α->α->Prop}{σ:Nm}{s s':Sem α}(h:SR P Q σ s s'):∀{W w W1:World} {es mO e1:Array Event} {a:α},WR σ W w->GB<=W.heap.size->GB<=w.heap.size->s.runT P W es=(.ok a W1,e1)->
  (∀i q,W.drawn+i<W1.drawn->W.tape (W.drawn+i) q=w.tape (w.drawn+i) q)->
  ∃τ b w1 f,s'.runT P w mO=(.ok b w1,mO++f)/\Q τ a b/\WR τ W1 w1/\qT σ τ W W1 w w1 f/\w1.drawn+W.drawn=w.drawn+W1.drawn:=by
 induction h with
 |pure q=>intro W w W1 es mO e1 a hw hG hg h ht;simp only[Sem.runT]at h;cases h;exact⟨_,_,w,#[],by simp[Sem.runT],q,hw,qT.refl W.drawn w.drawn,BYO⟩
 | @load σ b b' o k k' hb hk ih=>
  intro W w W1 es mO e1 a hw hG hg h ht;obtain⟨X,Y,h1,h2,hc⟩:=hw.cell _ _ hb;cases hc with
  |number hn=>exact(IZ h1 h).elim
  |cells hc hf=>
   obtain⟨v,hv,hr⟩:=SV h1 h;rcases hc.get o with⟨hn,_⟩|⟨u,u',hu,Fg,huv⟩
   .rw[hn]at hv;cases hv
   .rw[hu]at hv;cases hv;obtain⟨τ,x,w1,f,g1,g2,g3,g4,g5⟩:=ih _ _ huv (mO:=mO.push ⟨.cell ⟨b',o,none⟩,false,false⟩) hw hG hg hr ht;refine⟨τ,x,w1,#[⟨.cell ⟨b',o,none⟩,false,false⟩]++f,?_,g2,g3,g4.ev (.inr ⟨b,b',g4.le _ _ hb,rfl,.inr ⟨o,rfl,λh=>by cases h⟩⟩),g5⟩;simp only[Sem.runT,cell_of h2,Fg];rw[<-aFJ,<-aHB];exact g1
 | @store σ b b' o v v' k k' hb hv hk ih=>
  intro W w W1 es mO e1 a hw hG hg h ht;obtain⟨X,Y,h1,h2,hc⟩:=hw.cell _ _ hb;cases hc with
  |number hn=>exact(CW h1 h).elim
  | @cells c c' T fz fz' hc hfz=>
   obtain⟨WQ,ho,hf,hr⟩:=IY h1 h;have ei:w.frozen? ⟨b',o,none⟩=false:=by
    rw[wH h1]at hf;rw[wH h2];cases hh:(decide (fz'.1<=o)&&decide (o<fz'.2)) with
    |false=>rfl
    |true=>
     simp at hh;have:=hfz o hh.1 hh.2;simp at hf;omega
   obtain⟨τ,x,w1,f,g1,g2,g3,g4,g5⟩:=ih (mO:=mO.push ⟨.cell ⟨b',o,none⟩,true,false⟩) (hw.store hb hv) (by rw[cL];exact hG) (by rw[cL];exact hg) hr ht;have Wu:=hw.lt hb;refine⟨τ,x,w1,#[⟨.cell ⟨b',o,none⟩,true,false⟩]++f,?_,g2,g3,qT.ev (W:=W) (w:=w) ⟨g4.le,by have:=g4.size;rw[cL]at this;exact this,by have:=g4.PQ;rw[cL]at this;exact this,λa ha=>g4.ice a (SW ha),λa y Fj ha=>?_,λy hy hn=>?_,λa y Fj=>?_,λy h3 h4=>?_,g4.os,g4.tape,g4.output,g4.evs λa=>SW⟩ (.inr ⟨b,b',g4.le _ _ hb,rfl,.inr ⟨o,rfl,λ_ hi=>?_⟩⟩),g5⟩
   .rw[CV h2 (hv.one WQ) (hc.size▸ho) ei,<-aFJ,<-aHB];exact g1
   .rw[g4.still a y Fj (SW ha)];refine eZ λe=>?_;subst e;obtain rfl:=hw.inj _ _ _ Fj hb;obtain⟨c2,T2,fz2,i1,i2⟩:=ha;rw[h1]at i1;cases i1;rw[wH h1]at hf;have:=i2 o ho;simp at hf;omega
   .rw[g4.other y (by rw[cL];exact hy) hn,eZ (λe=>hn b (by rw[e];exact hb))]
   .have:=g4.fresh a y Fj;rw[cL,cL]at this;exact this
   .exact g4.all y (by rw[cL];exact h3) h4
   .obtain⟨c2,T2,fz2,i1,i2⟩:=hi;rw[h1]at i1;cases i1;rw[wH h1]at hf;have:=i2 o ho;simp at hf;omega
 | @new σ X Y k k' hc hk ih=>
  intro W w W1 es mO e1 a hw hG hg h ht;simp only[Sem.runT]at h;obtain⟨τ,x,w1,f,g1,g2,g3,g4,g5⟩:=ih _ w.heap.size hG hg (mO:=mO) (hw.new hc) BYT BYT h ht;have hs:=g4.size;have hgs:=g4.PQ;simp only[aHe]at hs hgs;refine⟨τ,x,w1,f,by simp only[Sem.runT];exact g1,g2,g3,⟨λa b WU=>g4.le _ _ (.inl WU),BYO,BYO,λa ha=>g4.ice a (JA ha),λa y Fj ha=>?_,λy hy hn=>?_,λa y Fj=>?_,λy h3 h4=>?_,g4.os,g4.tape,g4.output,g4.evs λa=>JA⟩,g5⟩
  .rw[g4.still a y (.inl Fj) (JA ha)];simp only[aDK,if_neg (aGY (hw.lt Fj).2)]
  .rw[g4.other y BYT (λa=>by rintro(h1|⟨_,h2,_,_⟩);exact hn a h1;omega)];simp only[aDK,if_neg (aGY hy)]
  .rcases g4.fresh a y Fj with(h1|⟨rfl,rfl,_,_⟩)|⟨h1,h2,h3⟩
   .exact .inl h1
   .exact .inr ⟨aAB _,aAB _,BYO⟩
   .simp only[aHe]at h1 h2;exact .inr ⟨BYO,BYO,h3⟩
  .by_cases e:y=w.heap.size
   .subst e;exact⟨W.heap.size,g4.le _ _ (.inr ⟨rfl,rfl,hG,hg⟩)⟩
   .exact g4.all y BYT h4
 | @getObj σ b b' k k' hb hk ih=>
  intro W w W1 es mO e1 a hw hG hg h ht;obtain⟨X,Y,h1,h2,hc⟩:=hw.cell _ _ hb;cases hc with
  |cells hc hf=>simp only[Sem.runT,h1]at h;cases h
  | @number d d' o l hn=>
   simp only[Sem.runT,h1]at h;obtain⟨τ,x,w1,f,g1,g2,g3,g4,g5⟩:=ih _ _ _ _ hn (mO:=mO.push ⟨.obj b',false,false⟩) hw hG hg h ht;refine⟨τ,x,w1,#[⟨.obj b',false,false⟩]++f,?_,g2,g3,g4.ev (.inr ⟨b,b',g4.le _ _ hb,rfl,.inl ⟨rfl,rfl⟩⟩),g5⟩;simp only[Sem.runT,h2];rw[<-aFJ,<-aHB];exact g1
 | @shape σ b b' k k' hb hk ih=>
  intro W w W1 es mO e1 a hw hG hg h ht;simp only[Sem.runT]at h;have he:W.shape? b=w.shape? b':=by
   obtain⟨X,Y,h1,h2,hc⟩:=hw.cell _ _ hb;cases hc with
   |cells hc hf=>rw[YJ h1,YJ h2,hc.size]
   |number hn=>simp[World.shape?,h1,h2]
  rw[he]at h;obtain⟨τ,x,w1,f,g1,g2⟩:=ih _ (mO:=mO) hw hG hg h ht;exact⟨τ,x,w1,f,by simp only[Sem.runT];exact g1,g2⟩
 | @choose σ q k k' hk ih=>
  intro W w W1 es mO e1 a hw hG hg h ht;simp only[Sem.runT]at h;by_cases hq:q.forced=true
  .rw[if_pos hq]at h;obtain⟨τ,x,w1,f,g1,g2⟩:=ih _ (mO:=mO) hw hG hg h ht;exact⟨τ,x,w1,f,by simp only[Sem.runT];rw[if_pos hq];exact g1,g2⟩
  .rw[if_neg hq]at h;have hd:=(hk _).drawn (hw.draw (W.drawn+1) (w.drawn+1)) hG hg h;have h0:=ht 0 q (by simp only at hd;omega);rw[aDV,aDV]at h0;obtain⟨τ,x,w1,f,g1,g2,g3,g4,g5⟩:=ih _ (mO:=mO) (hw.draw (W.drawn+1) (w.drawn+1)) hG hg h (λi q hi=>by
    have:=ht (i+1) q (by simp only at hi;omega);simp only;rw[show W.drawn+1+i=W.drawn+(i+1) by omega,show w.drawn+1+i=w.drawn+(i+1) by omega];exact this)
   simp only at g5;refine⟨τ,x,w1,f,?_,g2,g3,⟨g4.le,g4.size,g4.PQ,g4.ice,g4.still,g4.other,g4.fresh,g4.all,g4.os,g4.tape,g4.output,g4.events⟩,BYO⟩;simp only[Sem.runT];rw[if_neg hq,<-h0];exact g1
 |program hk ih=>
  intro W w W1 es mO e1 a hw hG hg h ht;simp only[Sem.runT]at h;obtain⟨τ,b,w1,f,h1,h2⟩:=ih (mO:=mO) hw hG hg h ht;exact⟨τ,b,w1,f,by simp only[Sem.runT];exact h1,h2⟩
 |room hk ih=>
  intro W w W1 es mO e1 a hw hG hg h ht;simp only[Sem.runT]at h;obtain⟨τ,x,w1,f,g1,g2,g3,g4,g5⟩:=ih (mO:=mO.push ⟨.mark .noRoom,false,true⟩) hw hG hg h ht;refine⟨τ,x,w1,#[⟨.mark .noRoom,false,true⟩]++f,?_,g2,g3,g4.ev (.inl rfl),g5⟩;simp only[Sem.runT];rw[<-aFJ,<-aHB];exact g1
 |dead hd=>intro W w W1 es mO e1 a hw hG hg h;obtain⟨x,_,_,hx,_⟩:=hd _ _;rw[h]at hx;cases hx
def SR.bind{Q:Nm->α->α->Prop}{R:Nm->β->β->Prop}{σ:Nm}{s s':Sem α}(h:SR P Q σ s s'){k k':α->Sem β}(hk:∀τ a b,σ.le τ->Q τ a b->SR P R τ (k a) (k' b)):SR P R σ (s>>=k) (s'>>=k'):=by
 induction h with
 |pure q=>exact hk _ _ _ (Nm.le_refl _) q
 |load hb _ ih=>exact .load hb λv v' hv=>ih v v' hv hk
 |store hb hv _ ih=>exact .store hb hv (ih hk)
 |new hc _ ih=>exact .new hc λr r' h1 h2=>ih r r' h1 h2 λτ a b hl=>hk τ a b ((aPu _ _ _).trans hl)
 |getObj hb _ ih=>exact .getObj hb λa a' o l ha=>ih a a' o l ha hk
 |shape hb _ ih=>exact .shape hb λs=>ih s hk
 |choose q _ ih=>exact .choose q λn=>ih n hk
 |program _ ih=>exact .program (ih hk)
 |room _ ih=>exact .room (ih hk)
 |dead hd=>exact .dead hd.oE
def SR.halt{Q:Nm->α->α->Prop}{σ:Nm}(h:Halt)(s:Sem α)(hh:NP h=true:=by rfl):SR P Q σ (.halt h) s:=.dead λW es=>⟨h,W,es,rfl,hh⟩
variable{a a':Addr}{c:Prop}
variable{σ:Nm}
def nS:Nm->α->α->Prop:=λ_ a b=>a=b
inductive eF(σ:Nm):Addr->Addr->Prop
 |mk {b b' o:Nat}:σ b b'->eF σ ⟨b,o,none⟩ ⟨b',o,none⟩
def eF.mono{τ:Nm}(hs:σ.le τ)(h:eF σ a a'):eF τ a a':=by
 cases h with
 |mk h=>exact .mk (hs _ _ h)
def eF.add{a a':Addr}(h:eF σ a a')(n:Nat):eF σ (a.add n) (a'.add n):=by
 cases h with
 |mk h=>unfold Addr.add;split<;>exact .mk h
def VR.Nl(h:eF σ a a'):VR σ (.pointer (some a)) (.pointer (some a')):=by
 cases h with
 |mk h=>exact .ptr h
def VR.ja(h:eF σ a a')(n c:Nat):VR σ (.slice (some a) n c) (.slice (some a') n c):=by
 cases h with
 |mk h=>exact .sl h
def SR.same{s:Sem α}(h:SR P nS σ s s){R:Nm->β->β->Prop}{k k':α->Sem β}(hk:∀τ a,σ.le τ->SR P R τ (k a) (k' a)):SR P R σ (s>>=k) (s>>=k'):=
 h.bind λτ a b hl e=>by cases e;exact hk τ a hl
def Sx.prog:SR P nS σ program program:=.program (.pure rfl)
def aSq(t:TypeId):SR P nS σ (underlying t) (underlying t):=
 SR.same Sx.prog λτ p _=>by split<;>first|exact .pure rfl|exact SR.halt _ _
def Sx.info(t:TypeId):SR P nS σ (typeInfo t) (typeInfo t):=
 SR.same Sx.prog λτ p _=>by split<;>first|exact .pure rfl|exact SR.halt _ _
def Sx.size(t:TypeId):SR P nS σ (sizeOf t) (sizeOf t):=SR.same (Sx.info t) λτ p _=>.pure rfl
def Sx.agg(t:TypeId):SR P nS σ (isAgg t) (isAgg t):=
 SR.same (aSq t) λτ p _=>by split<;>exact .pure rfl
def aSr(n:Nat):SR P nS σ (askRoom n) (askRoom n):=by
 unfold askRoom;split
 .exact .room (.pure rfl)
 .exact .pure rfl
def aTZ(q:Question):SR P nS σ (choose q) (choose q):=.choose q λn=>.pure rfl
def aXG(h:eF σ a a'):SR P nS σ (shape a.block) (shape a'.block):=by
 cases h with
 |mk h=>exact .shape h λs=>.pure rfl
def aLv{Q:Nm->α->α->Prop}{s s':Sem α}(h:aV P s):SR P Q σ s s':=.dead h
def aO8 [Decidable c]{s t:Sem α}(h:aV P s)(h':aV P t):aV P (if c then s else t):=by split<;>assumption
def aV.halt(h:Halt)(hh:NP h=true:=by rfl):aV P (.halt h:Sem α):=λW es=>⟨h,W,es,rfl,hh⟩
def cY.ret(a:α):cY P (Pure.pure a:Sem α):=λW es=>.inl ⟨a,W,es,rfl⟩
def cY.prog{k:Program->Sem α}(h:cY P (k P)):cY P (program>>=k):=λW es=>h W es
def aV.prog{k:Program->Sem α}(h:aV P (k P)):aV P (program>>=k):=λW es=>h W es
def aR0(q:Question):cY P (choose q):=λW es=>by
 by_cases hq:q.forced=true
 .exact .inl ⟨_,W,es,by show Sem.runT P (.choose q .pure) W es=_;simp only[Sem.runT,if_pos hq];rfl⟩
 .exact .inl ⟨_,_,es,by show Sem.runT P (.choose q .pure) W es=_;simp only[Sem.runT,if_neg hq];rfl⟩
def cY.bind{s:Sem α}{k:α->Sem β}(hs:cY P s)(h:∀a,cY P (k a)):cY P (s>>=k):=λW es=>by
 rcases hs W es with⟨a,W1,e1,h1⟩|⟨x,W1,e1,h1,h2⟩
 .have e:(s>>=k).runT P W es=(k a).runT P W1 e1:=by
   show(s.bind k).runT P W es=_;rw[Sem.runT_bind',h1]
  rw[e];exact h a W1 e1
 .refine .inr ⟨x,W1,e1,?_,h2⟩;show(s.bind k).runT P W es=_;rw[Sem.runT_bind',h1]
def aPL{s:Sem α}(h:aV P s):cY P s:=λW es=>.inr (h W es)
def aVB [Decidable c]{s t:Sem α}(h:cY P s)(h':cY P t):cY P (if c then s else t):=by split<;>assumption
def aSs(r:Nat):cY P (shape r):=λW es=>.inl ⟨_,W,es,rfl⟩
def aSt(a:Addr):cY P (frozen a):=λW es=>.inl ⟨_,W,es,rfl⟩
def A8:RuntimeError->Bool
 | .bounds .. | .error _| .nilDeref=>true
 |_=>false
def aV.panic(e:RuntimeError)(he:A8 e=true:=by rfl):aV P (runtimePanic e:Sem α):=by
 unfold runtimePanic;refine aV.prog ?_;cases e<;>first|exact aV.halt _|cases he
def aV.bounds(k:IntKind)(x y:Int)(c:BoundsCode):aV P (boundsPanic k x y c:Sem α):=by
 unfold boundsPanic;dsimp only;split
 .exact aV.bind (cY.bind (aR0 _) λ_=>cY.ret _) λ_=>aV.panic _
 .exact aV.bind (cY.ret _) λ_=>aV.panic _
def Sx.zero(t:TypeId)(hz:∀i v,P.info? t=some i->i.zero=some v->VR σ v v):SR P VR σ (zeroValue t) (zeroValue t):=by
 unfold zeroValue typeInfo;refine .program ?_;show SR P VR σ (Sem.bind (match P.info? t with|some i=>pure i|none=>stuck "no such type") _) (Sem.bind (match P.info? t with|some i=>pure i|none=>stuck "no such type") _);cases hi:P.info? t with
 |none=>exact SR.halt _ _
 |some i=>
  show SR P VR σ (match i.zero with|some v=>pure v|none=>_) (match i.zero with|some v=>pure v|none=>_);cases hv:i.zero with
  |none=>exact SR.halt _ _
  |some v=>exact .pure (hz i v hi hv)
def eY.push(h:eY σ xs ys)(hv:VR σ v v'):eY σ (xs.push v) (ys.push v'):=by
 refine⟨by simp[h.size],λi h1 h2=>?_⟩;simp only[aHe]at h1 h2;rw[Array.getElem_push,Array.getElem_push];by_cases hi:i<xs.size
 .rw[dif_pos hi,dif_pos (h.size▸hi)];exact h.at_ i hi _
 .rw[dif_neg hi,dif_neg (by rw[<-h.size];exact hi)];exact hv
def eY.nil:eY σ #[] #[]:=⟨rfl,λi h=>by simp at h⟩
def eY.append{zs us:Array Value}(h:eY σ xs ys)(g:eY σ zs us):eY σ (xs++zs) (ys++us):=by
 refine⟨by simp[h.size,g.size],λi h1 h2=>?_⟩;simp only[Array.size_append]at h1 h2;by_cases hi:i<xs.size
 .rw[Array.getElem_append_left hi,Array.getElem_append_left (h.size▸hi)];exact h.at_ i hi _
 .rw[Array.getElem_append_right BYO,Array.getElem_append_right (by have:=h.size;omega)];have e:=h.size;have:=g.at_ (i-xs.size) BYO (by have:=g.size;omega);simpa[e] using this
def Sx.load{a a':Addr}(ha:eF σ a a'):SR P VR σ (load a) (load a'):=by
 cases ha with
 |mk h=>exact .load h λv v' hv=>.pure hv
def Sx.store{a a':Addr}{v v':Value}(ha:eF σ a a')(hv:VR σ v v'):SR P nS σ (store a v) (store a' v'):=by
 cases ha with
 |mk h=>exact .store h hv (.pure rfl)
def cY.int(v:Value):cY P (asInt v):=by
 refine cY.bind ?_ λ_=>cY.ret _;unfold asIntOf;split<;>first|exact cY.ret _|exact aPL (aV.halt _)
def aSu(n:Nat):∀{σ:Nm} {a a':Addr} (i:Nat) {acc uq:Array Value},eF σ a a'->eY σ acc uq->SR P eY σ (loadCellsFrom a i n acc) (loadCellsFrom a' i n uq):=by
 induction n with
 |zero=>intro σ a a' i acc uq _ hc;exact .pure hc
 |succ n ih=>
  intro σ a a' i acc uq ha hc;unfold loadCellsFrom;exact(Sx.load (ha.add i)).bind λτ v v' hs hv=>ih (i+1) (ha.mono hs) ((hc.mono hs).push hv)
def aR1(ha:eF σ a a')(n:Nat):SR P eY σ (loadCells a n) (loadCells a' n):=aSu n 0 ha .nil
def aSv(t:TypeId)(ha:eF σ a a'):SR P VR σ (loadVar t a) (loadVar t a'):=by
 unfold loadVar;refine SR.same (Sx.agg t) λτ b hs=>?_;cases b with
 |true=>
  refine SR.same (Sx.size t) λυ n MO=>?_;exact(aR1 ((ha.mono hs).mono MO) n).bind λω xs ys _ h=>.pure (.agg h.size h.at_)
 |false=>
  exact Sx.load (ha.mono hs)
def aQh:∀(xs ys:List Value) {σ:Nm} {a a':Addr} (i:Nat),eF σ a a'->xs.length=ys.length->(∀j (h:j<xs.length) (h':j<ys.length),VR σ xs[j] ys[j])->SR P nS σ (storeCells a xs i) (storeCells a' ys i):=by
 intro xs;induction xs with
 |nil=>intro ys σ a a' i _ hl _;cases ys with
  |nil=>exact .pure rfl
  |cons y ys=>simp at hl
 |cons x xs ih=>
  intro ys σ a a' i ha hl hv;cases ys with
  |nil=>simp at hl
  |cons y ys=>
   unfold storeCells;exact(Sx.store (ha.add i) (hv 0 BYS BYS)).bind λτ _ _ hs _=>ih ys (i+1) (ha.mono hs) (by simpa using hl) λj h h'=>(hv (j+1) (by simpa using h) (by simpa using h')).mono hs
def VR.cells{v v':Value}(h:VR σ v v'):eY σ v.cells v'.cells:=by
 cases h with
 |agg hz hv=>exact⟨hz,hv⟩
 |bool b=>exact eY.nil.push (.bool b)
 |int k n=>exact eY.nil.push (.int k n)
 |string s=>exact eY.nil.push (.string s)
 |YI=>exact eY.nil.push .YI
 |ptr h=>exact eY.nil.push (.ptr h)
 |Ez n c=>exact eY.nil.push (.Ez n c)
 |sl h=>exact eY.nil.push (.sl h)
 |nilIface=>exact eY.nil.push .nilIface
 |iface h=>exact eY.nil.push (.iface h)
 |func h=>exact eY.nil.push (.func h)
 |chan r=>exact eY.nil.push (.chan r)
 |hid h=>
  have e:v'.cells= #[v']:=by cases v'<;>first|rfl|cases h
  rw[e];exact eY.nil.push (.hid h)
 |tuple hz hv=>exact eY.nil.push (.tuple hz hv)
def eY.list(h:eY σ xs ys):xs.toList.length=ys.toList.length/\∀j (h1:j<xs.toList.length) (h2:j<ys.toList.length),VR σ xs.toList[j] ys.toList[j]:=
 ⟨by simpa using h.size,λj h1 h2=>by simpa using h.at_ j (by simpa using h1) (by simpa using h2)⟩
def aSO(t:TypeId)(ha:eF σ a a')(hv:VR σ v v'):SR P nS σ (storeVar t a v) (storeVar t a' v'):=by
 unfold storeVar;refine SR.same (Sx.size t) λτ n hs=>?_;have hc:=(hv.mono hs).cells;rw[hc.size];split
 .exact(SR.halt _ _)
 .exact aQh _ _ 0 (ha.mono hs) hc.list.1 hc.list.2
def Sx.row{c c':Array Value}(t:TypeId)(hc:eY σ c c'):SR P eF σ (newRow t c) (newRow t c'):=
 SR.bind (Q:=λτ r r'=>τ r r') (.new (.cells hc λo h1 h2=>⟨h1,h2⟩) λr r' h1 h2=>.pure (.inr ⟨rfl,rfl,h1,h2⟩)) λτ r r' _ h=>.pure (.mk h)
def aSw(t:TypeId)(hv:VR σ v v'):SR P eF σ (newVar t v) (newVar t v'):=Sx.row t hv.cells
variable{x x':Value}
def aQU(h:VR σ v v'):SR P nS σ (asIntOf v) (asIntOf v'):=by
 cases h<;>first|exact .pure rfl|exact SR.halt _ _
def aRJ(h:VR σ v v'){R:Nm->β->β->Prop}{k k':Int->Sem β}(hk:∀τ a,σ.le τ->SR P R τ (k a) (k' a)):SR P R σ (asInt v>>=k) (asInt v'>>=k'):=by
 refine SR.bind (Q:=nS) ?_ λτ a b hl e=>by cases e;exact hk τ a hl
 refine SR.bind (Q:=nS) (aQU h) λτ a b hl e=>by cases e;exact .pure rfl
def Sx.bool(h:VR σ v v'):SR P nS σ (asBool v) (asBool v'):=by
 cases h<;>first|exact .pure rfl|exact SR.halt _ _
def aRK(h:VR σ v v'):SR P eF σ (Instr.sureAddr v) (Instr.sureAddr v'):=by
 cases h<;>first|exact .pure (.mk (by assumption))|exact SR.halt _ _
def Sx.loadAt(t:TypeId)(h:VR σ v v'):SR P VR σ (Instr.loadAt t v) (Instr.loadAt t v'):=
 (aRK h).bind λ_ _ _ _ ha=>aSv t ha
def Sx.storeAt(t:TypeId)(h:VR σ v v')(hx:VR σ x x'):SR P nS σ (Instr.storeAt t v x) (Instr.storeAt t v' x'):=
 (aRK h).bind λ_ _ _ hs ha=>aSO t ha (hx.mono hs)
def Sx.fieldAt(s:TypeId)(n:Nat)(h:VR σ v v')(hf:∀fs f,P.underlying s=some (.struct fs)->fs[n]?=some f->∃i,P.info? f.type=some i/\i.size≠0):SR P VR σ (Instr.fieldAt s v n) (Instr.fieldAt s v' n):=by
 unfold Instr.fieldAt underlying;refine .program ?_;show SR P VR σ (Sem.bind (match P.underlying s with|some d=>pure d|none=>stuck "no such type") _) (Sem.bind (match P.underlying s with|some d=>pure d|none=>stuck "no such type") _);cases hu:P.underlying s with
 |none=>exact SR.halt _ _
 |some d=>
  cases d with
  |struct fs=>
   show SR P VR σ (match fs[n]? with|some f=>_|_=>_) (match fs[n]? with|some f=>_|_=>_);cases hn:fs[n]? with
   |none=>exact SR.halt _ _
   |some f=>
    refine(aRK h).bind λτ a a' hs ha=>?_;obtain⟨i,hi,hz⟩:=hf fs f hu hn;have hp:SR P eF τ (fieldPlace a f) (fieldPlace a' f):=by
     unfold fieldPlace Go.sizeOf typeInfo;refine .program ?_;show SR P eF τ (Sem.bind (Sem.bind (match P.info? f.type with|some i=>pure i|none=>stuck "no such type") _) _) (Sem.bind (Sem.bind (match P.info? f.type with|some i=>pure i|none=>stuck "no such type") _) _);rw[hi];show SR P eF τ (if i.size=0 then _ else _) (if i.size=0 then _ else _);rw[if_neg hz,if_neg hz];exact .pure (ha.add _)
    exact hp.bind λυ b b' _ hb=>.pure (.Nl hb)
  |_=>exact SR.halt _ _
def Sx.indexAt(t:TypeId)(h:VR σ v v')(hx:VR σ x x')(ht:∀d,P.underlying t=some d->∃e,d=.slice e):SR P VR σ (Instr.indexAt t v x) (Instr.indexAt t v' x'):=by
 unfold Instr.indexAt;refine SR.bind (aQU hx) λτ a b hs e=>?_;cases e;obtain⟨k,i⟩:=a;unfold underlying;refine .program ?_;show SR P VR τ (Sem.bind (match P.underlying t with|some d=>pure d|none=>stuck "no such type") _) (Sem.bind (match P.underlying t with|some d=>pure d|none=>stuck "no such type") _);cases hu:P.underlying t with
 |none=>exact SR.halt _ _
 |some d=>
  obtain⟨e,rfl⟩:=ht d hu;cases h.mono hs with
  |Ez n c=>
   refine .program ?_;show SR P VR τ (Sem.bind (match P.underlying t with|some d=>pure d|none=>stuck "no such type") _) (Sem.bind (match P.underlying t with|some d=>pure d|none=>stuck "no such type") _);rw[hu];exact aLv (aV.bounds _ _ _ _)
  | @sl b b' o n c hb=>
   refine .program ?_;show SR P VR τ (Sem.bind (match P.underlying t with|some d=>pure d|none=>stuck "no such type") _) (Sem.bind (match P.underlying t with|some d=>pure d|none=>stuck "no such type") _);rw[hu];show SR P VR τ (if _ then _ else _) (if _ then _ else _);by_cases hi:0<=i/\i<n
   .rw[if_pos hi,if_pos hi];exact(Sx.size e).same λυ n MO=>.pure (.Nl ((eF.mk (MO _ _ hb)).add _))
   .rw[if_neg hi,if_neg hi];exact aLv (aO8 (aV.halt _) (aV.bounds _ _ _ _))
  |_=>exact SR.halt _ _
variable{lo lo' hi uK:Option Value}{e:TypeId}
inductive y9(σ:Nm):Option Value->Option Value->Prop
 |none:y9 σ none none
 |some {v v':Value}:VR σ v v'->y9 σ (some v) (some v')
def aPc(h:VR σ v v')(y:Nat)(c:BoundsCode):SR P nS σ (Instr.sliceBound v y c) (Instr.sliceBound v' y c):=by
 unfold Instr.sliceBound;refine(aQU h).bind λτ a b _ e=>?_;cases e;obtain⟨k,i⟩:=a;show SR P nS τ (if _ then _ else _) (if _ then _ else _);split
 .exact .pure rfl
 .exact aLv (aV.bounds _ _ _ _)
def Sx.bounds(b:Bool)(n c:Nat)(hl:y9 σ lo lo')(hh:y9 σ hi uK):SR P nS σ (Instr.sliceBounds b n c lo hi none) (Instr.sliceBounds b n c lo' uK none):=by
 unfold Instr.sliceBounds;cases hl with
 |none=>
  cases hh with
  |none=>exact .pure rfl
  |some hv=>exact SR.bind (Q:=nS) (aPc hv _ _) λυ l l' hs e=>by cases e;exact .pure rfl
 |some hw=>
  cases hh with
  |none=>exact SR.bind (Q:=nS) (aPc hw _ _) λυ l l' hs e=>by cases e;exact .pure rfl
  |some hv=>exact SR.bind (Q:=nS) (aPc hv _ _) λυ l l' hs e=>by cases e;exact SR.bind (Q:=nS) (aPc (hw.mono hs) _ _) λυ l l' hs e=>by cases e;exact .pure rfl
def aMd(t:TypeId){d:TypeDesc}(hu:P.underlying t=some d){Q:Nm->α->α->Prop}{k k':TypeDesc->Sem α}(h:SR P Q σ (k d) (k' d)):SR P Q σ (underlying t>>=k) (underlying t>>=k'):=by
 unfold underlying;refine .program ?_;show SR P Q σ (Sem.bind (match P.underlying t with|some d=>pure d|none=>stuck "no such type") _) (Sem.bind (match P.underlying t with|some d=>pure d|none=>stuck "no such type") _);rw[hu];exact h
def Sx.sliceAt(t:TypeId)(hu:P.underlying t=some (.slice e))(h:VR σ v v')(hl:y9 σ lo lo')(hh:y9 σ hi uK):SR P VR σ (Instr.sliceAt t v lo hi none) (Instr.sliceAt t v' lo' uK none):=by
 unfold Instr.sliceAt;refine aMd t hu ?_;show SR P VR σ (Instr.slice t v lo hi none) (Instr.slice t v' lo' uK none);unfold Instr.slice;refine aMd t hu ?_;cases h with
 |Ez n c=>
  refine(Sx.bounds true n c hl hh).bind λτ a b hs e=>?_;cases e;obtain⟨l,h,m⟩:=a;refine SR.same (Sx.size e) λυ s _=>?_;show SR P VR υ (Sem.pure (.slice (if m=l then none else Option.map _ none) _ _)) (Sem.pure (.slice (if m=l then none else Option.map _ none) _ _));by_cases hm:m=l
  .rw[if_pos hm];exact .pure (.Ez _ _)
  .rw[if_neg hm];exact .pure (.Ez _ _)
 | @sl b b' o n c hb=>
  refine(Sx.bounds true n c hl hh).bind λτ a b hs e=>?_;cases e;obtain⟨l,h,m⟩:=a;refine SR.same (Sx.size e) λυ s MO=>?_;have rD:=MO _ _ (hs _ _ hb);by_cases hm:m=l
  .refine .pure ?_;rw[if_pos hm,if_pos hm];exact .sl rD
  .refine .pure ?_;rw[if_neg hm,if_neg hm];exact .ja ((eF.mk rD).add _) _ _
 |_=>exact SR.halt _ _
def aSx(t:TypeId)(h:VR σ v v'):SR P VR σ (Instr.makeInterface t v) (Instr.makeInterface t v'):=
 SR.same (aSq t) λτ d hs=>by
  split
  .exact SR.halt _ _
  .exact .pure (.iface (h.mono hs))
def Sx.extract(h:VR σ v v')(n:Nat):SR P VR σ (Instr.extract v n) (Instr.extract v' n):=by
 cases h with
 | @tuple xs ys hz hv=>
  show SR P VR σ (match xs[n]? with|some v=>pure v|none=>_) (match ys[n]? with|some v=>pure v|none=>_);rcases eY.get ⟨hz,hv⟩ n with⟨h1,h2⟩|⟨u,u',h1,h2,hu⟩
  .rw[h1];exact SR.halt _ _
  .rw[h1,h2];exact .pure hu
 |_=>exact SR.halt _ _
def Sx.not(h:VR σ v v'):SR P VR σ (Op.unary .not v) (Op.unary .not v'):=by
 cases h<;>first|exact .pure (.bool _)|exact SR.halt _ _
def Sx.conv(s d:TypeId){k k':IntKind}(hs:P.underlying s=some (.int k))(hd:P.underlying d=some (.int k'))(h:VR σ v v'):SR P VR σ (convert s d v) (convert s d v'):=by
 unfold convert;refine aMd s hs (aMd d hd ?_);cases h<;>first|exact .pure (.int _ _)|exact SR.halt _ _
def Sx.len(t u:TypeId)(hu:P.underlying t=some (.slice e))(h:VR σ v v'):SR P VR σ (Builtin.len_ #[t] u #[v]) (Builtin.len_ #[t] u #[v']):=by
 unfold Builtin.len_;refine aMd t hu ?_;cases h<;>first|exact .pure (.int _ _)|exact SR.halt _ _
variable{s s':Value}
def eY.getD(h:eY σ xs ys)(i:Nat):VR σ (xs[i]!) (ys[i]!):=by
 rw[getElem!_def,getElem!_def];rcases h.get i with⟨h1,h2⟩|⟨u,u',h1,h2,hu⟩
 .rw[h1,h2];exact .bool _
 .rw[h1,h2];exact hu
def eY.rep(h:eY σ xs ys)(n:Nat):eY σ ((Array.range n).map λi=>xs[i % xs.size]!) ((Array.range n).map λi=>ys[i % ys.size]!):=by
 refine⟨BYS,λi h1 h2=>?_⟩;have e:=h.size;simp only[aFo,Array.getElem_range,<-e];exact h.getD _
def aSy(t:TypeId)(hu:P.underlying t=some (.slice e))(hz:∀i v,P.info? e=some i->i.zero=some v->VR σ v v)(Mr:∀τ:Nm,σ.le τ->∀i v,P.info? e=some i->i.zero=some v->VR τ v v)
  {l l' c c':Value}(hl:VR σ l l')(hc:VR σ c c'):SR P VR σ (Instr.makeSlice t l c) (Instr.makeSlice t l' c'):=by
 unfold Instr.makeSlice;refine aMd t hu ?_;refine aRJ hl λτ n hs=>?_;refine aRJ (hc.mono hs) λυ m MO=>?_;refine SR.same (Sx.info e) λω i aNW=>?_;dsimp only;split
 .refine aLv ?_
  repeat' first
   |exact aV.oE (aV.panic _)
   |exact aV.panic _
   |refine aV.bind (aR0 _) λ_=>?_
   |refine aO8 ?_ ?_
 .refine SR.same (aSr _) λτ1 _ h1=>?_;refine SR.same (Sx.size e) λτ2 s h2=>?_;have CG:σ.le τ2:=(((hs.trans MO).trans aNW).trans h1).trans h2;have go:∀{τ3:Nm} {z z':Array Value},eY τ3 z z'->∀(k n c:Nat),SR P VR τ3 (newRow e ((Array.range k).map λi=>z[i % z.size]!)>>=λa=>Pure.pure (.slice (some a) n c)) (newRow e ((Array.range k).map λi=>z'[i % z'.size]!)>>=λa=>Pure.pure (.slice (some a) n c)):=λXk k n c=>
   (Sx.row e (Xk.rep _)).bind λτ4 a a' _ ha=>.pure (.ja ha _ _)
  split
  .exact go .nil _ _ _
  .exact(Sx.zero e (Mr _ CG)).bind λτ4 z z' _ h4=>go h4.cells _ _ _
def Sx.box(t:TypeId)(h:VR σ v v'):SR P VR σ (Instr.box t v) (Instr.box t v'):=
 (aSw t h).bind λτ a a' _ ha=>.pure (.Nl ha)
def Sx.alloc(t:TypeId)(hz:∀τ:Nm,σ.le τ->∀i v,P.info? t=some i->i.zero=some v->VR τ v v):SR P VR σ (Instr.alloc t true (.tuple #[])) (Instr.alloc t true (.tuple #[])):=
 (Sx.zero t (hz _ (Nm.le_refl _))).bind λτ z z' _ h=>(aSw t h).bind λτ a a' _ ha=>.pure (.Nl ha)
def aPQ(h:VR σ v v')(s n:Nat):SR P eY σ (Builtin.firstCells s n v) (Builtin.firstCells s n v'):=by
 cases h with
 |sl h=>exact aR1 (.mk h) _
 |Ez n c=>exact .pure .nil
 |string s=>exact .pure ⟨BYS,λi h1 h2=>by simp only[aFo];exact .int _ _⟩
 |_=>exact SR.halt _ _
def Sx.lenOf(h:VR σ v v'):SR P nS σ (Builtin.lenOf v) (Builtin.lenOf v'):=by
 cases h<;>first|exact .pure rfl|exact SR.halt _ _
def cY.room:cY P (mark .noRoom):=λW es=>.inl ⟨_,W,_,rfl⟩
def cY.holds(a:Addr)(n:Nat):cY P (Builtin.holdsCells a n):=by
 unfold Builtin.holdsCells;refine cY.bind (aSs _) λs=>?_;split<;>exact cY.ret _
def aQV(size aCi n:Nat)(base:Option Addr)(x:Value):cY P (Builtin.mayShare size aCi n base x):=by
 unfold Builtin.mayShare;have jp:∀there:Bool,cY P (if(!there)=true then Pure.pure true else match x with| .slice (some b) _ _=>Builtin.holdsCells b (n*size)>>=λh=>Pure.pure (!h||base.any (·.block==b.block))|_=>Pure.pure false):=λthere=>by
  split
  .exact cY.ret _
  .split
   .exact cY.bind (cY.holds _ _) λ_=>cY.ret _
   .exact cY.ret _
 cases base with
 |none=>exact jp true
 |some a=>
  refine cY.bind (s:=Builtin.holdsCells a (aCi*size)) (cY.holds _ _) λh=>?_;exact cY.bind (s:=frozen (a.add (aCi/2*size))) (aSt _) λf=>jp (h&& !f)
def eY.zc(h:eY σ xs ys)(n:Nat):eY σ (Builtin.zeroCells xs n) (Builtin.zeroCells ys n):=by
 unfold Builtin.zeroCells;rw[show n*ys.size=n*xs.size by rw[h.size]];exact h.rep _
def Sx.grow(Mr:∀τ:Nm,σ.le τ->∀i v,P.info? e=some i->i.zero=some v->VR τ v v)(q:Question)(f:Nat->Nat->Nat)(sz n m k:Nat)
 (hs:VR σ s s')(hx:VR σ x x'):SR P VR σ
   (choose q>>=λc=>typeInfo e>>=λi=>askRoom (c*i.bytes)>>=λ_=>Builtin.firstCells sz n s>>=λold=>Builtin.firstCells sz m x>>=λnew=>zeroValue e>>=λz=>newRow e (old++new++Builtin.zeroCells z.cells (c-k))>>=λa=>Pure.pure (.slice (some a) k c))
   (choose q>>=λc=>typeInfo e>>=λi=>askRoom (c*i.bytes)>>=λ_=>Builtin.firstCells sz n s'>>=λold=>Builtin.firstCells sz m x'>>=λnew=>zeroValue e>>=λz=>newRow e (old++new++Builtin.zeroCells z.cells (c-k))>>=λa=>Pure.pure (.slice (some a) k c)):=by
 refine SR.same (aTZ q) λτ1 c h1=>?_;refine SR.same (Sx.info e) λτ2 i h2=>?_;refine SR.same (aSr _) λτ3 _ h3=>?_;have l3:=(h1.trans h2).trans h3;refine(aPQ (hs.mono l3) _ _).bind λτ4 old aQt h4 ho=>?_;refine(aPQ ((hx.mono l3).mono h4) _ _).bind λτ5 new aRN h5 hn=>?_;refine(Sx.zero e (Mr _ ((l3.trans h4).trans h5))).bind λτ6 z z' h6 hz=>?_;exact(Sx.row e ((((ho.mono h5).append hn).mono h6).append (hz.cells.zc _))).bind λτ7 a a' _ ha=>.pure (.ja ha _ _)
def Sx.append(t u:TypeId)(hu:P.underlying t=some (.slice e))(Mr:∀τ:Nm,σ.le τ->∀i v,P.info? e=some i->i.zero=some v->VR τ v v)
 (hs:VR σ s s')(hx:VR σ x x'):SR P VR σ (Builtin.append_ #[t,t] u #[s,x]) (Builtin.append_ #[t,t] u #[s',x']):=by
 unfold Builtin.append_;refine aMd t hu ?_;cases hs with
 |Ez n c=>
  refine SR.same (Sx.size e) λτ1 sz h1=>?_;refine aMd t hu ?_;refine(Sx.lenOf (hx.mono h1)).bind λτ2 m m' h2 em=>?_;cases em;dsimp only;split
  .exact(aPQ ((hx.mono h1).mono h2) _ _).bind λτ3 z z' h3 hz=>.pure (.Ez _ _)
  .refine SR.same (Sx.info e) λτ3 i h3=>?_;split
   .exact aLv (aV.oE (aV.panic _))
   .refine SR.same (Sx.info e) λτ4 i h4=>?_;split
    .exact aLv (aV.oE (aO8 (aV.panic _) (aV.bind (aQV _ _ _ _ _) λ_=>aO8 (aV.bind cY.room λ_=>aV.halt _) (aV.halt _))))
    .exact Sx.grow (λτ h=>Mr τ ((((h1.trans h2).trans h3).trans h4).trans h)) _ (λ_ _=>0) sz n m (n+m) (.Ez n c) (hx.mono (((h1.trans h2).trans h3).trans h4))
 | @sl b b' o n c hb=>
  refine SR.same (Sx.size e) λτ1 sz h1=>?_;refine aMd t hu ?_;refine(Sx.lenOf (hx.mono h1)).bind λτ2 m m' h2 em=>?_;cases em;dsimp only;split
  .refine(aPQ ((hx.mono h1).mono h2) _ _).bind λτ3 z z' h3 hz=>?_;have mM:=h3 _ _ (h2 _ _ (h1 _ _ hb));exact(aQh _ _ 0 ((eF.mk mM).add _) hz.list.1 hz.list.2).bind λτ4 _ _ h4 _=>.pure (.sl (h4 _ _ mM))
  .refine SR.same (Sx.info e) λτ3 i h3=>?_;split
   .exact aLv (aV.oE (aV.panic _))
   .refine SR.same (Sx.info e) λτ4 i h4=>?_;split
    .exact aLv (aV.oE (aO8 (aV.panic _) (aV.bind (aQV _ _ _ _ _) λ_=>aO8 (aV.bind cY.room λ_=>aV.halt _) (aV.halt _))))
    .exact Sx.grow (λτ h=>Mr τ ((((h1.trans h2).trans h3).trans h4).trans h)) _ (λ_ _=>0) sz n m (n+m) (.sl (((h1.trans h2).trans h3).trans h4 _ _ hb)) (hx.mono (((h1.trans h2).trans h3).trans h4))
 |_=>exact SR.halt _ _
variable{y y':Value}{t:TypeId}{k:IntKind}
def Sx.obj{r r':Nat}(h:σ r r'){Q:Nm->α->α->Prop}{k k':Obj->Sem α}(hk:∀a a' l,eF σ a a'->SR P Q σ (k (.number a l)) (k' (.number a' l))):SR P Q σ (getObj r>>=k) (getObj r'>>=k'):=
 .getObj h λa a' o l ha=>hk _ _ l (.mk ha)
def aTQ(h:eF σ a a'){R:Nm->β->β->Prop}{k k':Option (Addr×TypeId)->Sem β}(hk:∀τ,σ.le τ->SR P R τ (k none) (k' none)):SR P R σ (viewAt a.block>>=k) (viewAt a'.block>>=k'):=by
 refine SR.bind (Q:=λ_ x y=>x=none/\y=none) ?_ λτ x y hl e=>by rw[e.1,e.2];exact hk τ hl
 unfold viewAt;cases h with
 | @mk b b' o hb=>
  refine .shape hb λs=>?_;cases s with
  |some s=>exact .pure ⟨rfl,rfl⟩
  |none=>exact Sx.obj hb λa a' l ha=>.pure ⟨rfl,rfl⟩
def aT0(h:eF σ a a'):SR P (λτ x y=>(x=none/\y=none)\/∃a a' l,x=some (a,l)/\y=some (a',l)/\eF τ a a') σ (numberAt a.block) (numberAt a'.block):=by
 unfold numberAt;cases h with
 | @mk b b' o hb=>
  refine .shape hb λs=>?_;cases s with
  |some s=>exact .pure (.inl ⟨rfl,rfl⟩)
  |none=>exact Sx.obj hb λa a' l ha=>.pure (.inr ⟨a,a',l,rfl,rfl,ha⟩)
def aOM(h:eF σ a a'){R:Nm->β->β->Prop}{k k':Addr×Bool->Sem β}(hk:∀τ b b' l,σ.le τ->eF τ b b'->SR P R τ (k (b,l)) (k' (b',l))):SR P R σ (behindNumber a>>=k) (behindNumber a'>>=k'):=by
 refine SR.bind (Q:=λτ x y=>eF τ x.1 y.1/\x.2=y.2) ?_ λτ x y hl e=>?_
 .unfold behindNumber;refine(aT0 h).bind λτ x y hl e=>?_;rcases e with⟨rfl,rfl⟩|⟨b,b',l,rfl,rfl,hb⟩
  .exact .pure ⟨h.mono hl,rfl⟩
  .exact .pure ⟨hb,rfl⟩
 .obtain⟨b,l⟩:=x;obtain⟨b',l'⟩:=y;obtain⟨h1,h2⟩:=e;cases h2;exact hk τ b b' l hl h1
def aRL(t:TypeId)(h:eF σ a a')(hy:VR σ y y'):SR P (λτ v v'=>∃b b',v=Value.pointer (some b)/\v'=Value.pointer (some b')/\eF τ b b') σ (Builtin.unsafeAdd_ #[] t #[.pointer (some a),y]) (Builtin.unsafeAdd_ #[] t #[.pointer (some a'),y']):=by
 unfold Builtin.unsafeAdd_;refine aRJ hy λτ n hs=>?_;have h1:=h.mono hs;dsimp only;split
 .exact aTQ h1 λυ hl=>.pure ⟨a,a',rfl,rfl,h1.mono hl⟩
 .have rest:SR P (λτ v v'=>∃b b',v=Value.pointer (some b)/\v'=Value.pointer (some b')/\eF τ b b') τ
    (shape a.block>>=λs=>match s with|some (e,cells)=>(program>>=λp=>match cellAtBytes p p.depth e (cells/p.cellsOf e) a.off n with|some off=>Pure.pure (Value.pointer (some {a with off}))|none=>unsupported (.unsafePointer "Add"))|_=>unsupported (.unsafePointer "Add"))
    (shape a'.block>>=λs=>match s with|some (e,cells)=>(program>>=λp=>match cellAtBytes p p.depth e (cells/p.cellsOf e) a'.off n with|some off=>Pure.pure (Value.pointer (some {a' with off}))|none=>unsupported (.unsafePointer "Add"))|_=>unsupported (.unsafePointer "Add")):=by
   cases h1 with
   | @mk b b' o hb=>
    refine .shape hb λs=>?_;cases s with
    |none=>exact SR.halt _ _
    |some s=>
     obtain⟨e,cells⟩:=s;refine .program ?_;show SR P _ τ (match cellAtBytes P P.depth e (cells/P.cellsOf e) o n with|some off=>_|none=>_) (match cellAtBytes P P.depth e (cells/P.cellsOf e) o n with|some off=>_|none=>_);cases cellAtBytes P P.depth e (cells/P.cellsOf e) o n with
     |none=>exact SR.halt _ _
     |some off=>exact .pure ⟨_,_,rfl,rfl,.mk hb⟩
  split
  .exact aLv (aV.oE (aV.halt _))
  .exact rest
def aSz(h:eF σ a a')(l:Bool):SR P VR σ (asNumber a l) (asNumber a' l):=by
 cases h with
 |mk hb=>exact SR.bind (Q:=λτ r r'=>τ r r') (.new (.number hb) λr r' h1 h2=>.pure (.inr ⟨rfl,rfl,h1,h2⟩)) λτ r r' _ h=>.pure (.ptr h)
def aR2(hP:P.globals.size<=GB)(h:eF σ a a')(b:Addr):aV P (Op.twoPlaces a b):=by
 unfold Op.twoPlaces;refine aV.prog ?_;have hc:(a.block !=b.block||decide (a.block≥P.globals.size))=true:=by
  cases h with
  |mk hb=>have:=(σ.hi _ _ hb).1;simp;right;omega
 rw[if_pos hc];exact aV.oE (aV.halt _)
def aQ5(t:TypeId)(y:Value):aV P (Builtin.unsafeAdd_ #[] t #[.pointer none,y]):=by
 unfold Builtin.unsafeAdd_;refine aV.bind (cY.int _) λn=>?_;dsimp only;split
 .exact aV.halt _
 .split
  .exact aV.oE (aV.halt _)
  .exact aV.halt _
def aPd(ht:P.underlying t=some (.int k))(hx:VR σ x x')(hp:∃a,x=.pointer a)(hy:VR σ y y'):SR P VR σ (movedNumber t x y) (movedNumber t x' y'):=by
 unfold movedNumber;refine aMd t ht ?_;obtain⟨a,rfl⟩:=hp;cases hx with
 |YI=>exact aLv (aQ5 t y)
 |ptr hb=>
  refine aOM (.mk hb) λτ b b' l hl HA=>?_;refine(aRL t HA (hy.mono hl)).bind λυ v v' WI hv=>?_;obtain⟨c,c',rfl,rfl,hc⟩:=hv;exact aSz hc l
def PR:BinOp->Bool
 | .add| .sub| .mul| .lss| .leq| .gtr| .geq| .shr=>true
 |_=>false
def aTA(op:BinOp)(cK:PR op=true)(t:TypeId)(k k':IntKind)(m n:Int):SR P VR σ (binOp op t (.int k m) (.int k' n)) (binOp op t (.int k m) (.int k' n)):=by
 cases op<;>first|(simp[PR]at cK;done)|skip
 case shr=>
  show SR P VR σ (if n<0 then _ else _) (if n<0 then _ else _);split
  .exact aLv (aV.panic _)
  .exact .pure (.int _ _)
 all_goals
  by_cases hk:k≠k'
  .refine aLv ?_;simp only[binOp,if_pos hk];exact aV.halt _
  .simp only[binOp,if_neg hk]
   first|exact .pure (.int _ _)|exact .pure (.bool _)
def aT1(hP:P.globals.size<=GB)(op:BinOp)(cK:PR op=true)(ht:P.underlying t=some (.int k))(hx:VR σ x x')(hy:VR σ y y'):SR P VR σ (binOp op t x y) (binOp op t x' y'):=by
 have pp:∀{b b' o c c' q:Nat} (f:Addr->Addr->Sem Value),σ b b'->σ c c'->(∀τ (a a' d:Addr),eF τ a a'->aV P (f a d))->SR P VR σ (behindNumber ⟨b,o,none⟩>>=λx=>behindNumber ⟨c,q,none⟩>>=λy=>f x.1 y.1) (behindNumber ⟨b',o,none⟩>>=λx=>behindNumber ⟨c',q,none⟩>>=λy=>f x.1 y.1):=λf hb hc hd=>
  aOM (.mk hb) λτ a a' l hl ha=>aOM ((eF.mk hc).mono hl) λυ d d' l' WI BS=>aLv (hd υ a a' d (ha.mono WI))
 cases op<;>first|(simp[PR]at cK;done)|skip
 all_goals
  cases hx<;>cases hy<;>first
   |exact SR.halt _ _
   |exact aTA _ rfl t _ _ _ _
   |exact .pure (.string _)
   |exact .pure (.bool _)
   |exact aMd t ht (aPd ht (.ptr (by assumption)) ⟨_,rfl⟩ (.int _ _))
   |exact aMd t ht (aPd ht .YI ⟨_,rfl⟩ (.int _ _))
   |exact aPd ht (.ptr (by assumption)) ⟨_,rfl⟩ (.int _ _)
   |exact aPd ht .YI ⟨_,rfl⟩ (.int _ _)
   |(show SR P VR σ (if _ then _ else _) (if _ then _ else _);split<;>first|exact SR.halt _ _|exact .pure (.string _))
   |exact pp _ (by assumption) (by assumption) λτ a a' d ha=>aV.oE (aR2 hP ha d)
variable{b' c c' q:Nat}
def aPR(t:TypeId){d:TypeDesc}(hu:P.underlying t=some d){k:TypeDesc->Sem α}(h:aV P (k d)):aV P (underlying t>>=k):=by
 unfold underlying;refine aV.prog (k:=λp=>Sem.bind (match p.underlying t with|some d=>pure d|none=>stuck "no such type") k) ?_;show aV P (Sem.bind (match P.underlying t with|some d=>pure d|none=>stuck "no such type") _);rw[hu];exact h
def aQW(t:TypeId){i:TypeInfo}(hu:P.info? t=some i){k:TypeInfo->Sem α}(h:aV P (k i)):aV P (typeInfo t>>=k):=by
 unfold typeInfo;refine aV.prog (k:=λp=>Sem.bind (match p.info? t with|some d=>pure d|none=>stuck "no such type") k) ?_;show aV P (Sem.bind (match P.info? t with|some d=>pure d|none=>stuck "no such type") _);rw[hu];exact h
def aTR(hP:P.globals.size<=GB)(ht:P.underlying t=some (.int k)){i:TypeInfo}(hi:P.info? t=some i)(hd:∀n x,i.desc≠.named n x)(hb:σ b b')(hc:σ c c'):
  SR P nS σ (Op.equal t (.pointer (some ⟨b,o,none⟩)) (.pointer (some ⟨c,q,none⟩))) (Op.equal t (.pointer (some ⟨b',o,none⟩)) (.pointer (some ⟨c',q,none⟩))):=by
 refine aMd t ht ?_;refine aOM (.mk hb) λτ a a' l hl ha=>aOM ((eF.mk hc).mono hl) λυ d d' l' WI BS=>?_;refine aLv ?_;refine aV.prog ?_;have hc:(a.block==d.block&&decide (a.block<P.globals.size))=false:=by
  cases ha with
  |mk hb=>have:=(τ.hi _ _ hb).1;simp;omega
 show aV P (if _ then _ else _);rw[if_neg (by rw[hc];simp)];refine aQW t hi ?_;split
 .exact absurd (by assumption) (hd _ _)
 .exact aV.halt _
def cY.guard{op:BinOp}(ht:P.underlying t=some (.int k))(X Y:Operand)(a b:Value):cY P (eqGuard op t X Y a b):=by
 have hg:∀x y,cY P (Op.eqGuardIn Op.maxDepth t x y):=λx y=>by
  show cY P (underlying t>>=_);unfold underlying;refine cY.prog (k:=λp=>Sem.bind (match p.underlying t with|some d=>pure d|none=>stuck "no such type") _) ?_;show cY P (Sem.bind (match P.underlying t with|some d=>pure d|none=>stuck "no such type") _);rw[ht];exact cY.ret _
 unfold eqGuard
 repeat' first
  |exact cY.ret _
  |exact aPL (aV.halt _)
  |refine cY.bind (hg _ _) λz=>?_
  |split
  |refine cY.prog ?_
def aT2(hP:P.globals.size<=GB)(op:BinOp)(ho:op=.eql\/op=.neq)(ht:P.underlying t=some (.int k)){i:TypeInfo}(hi:P.info? t=some i)(hd:∀n x,i.desc≠.named n x)(X Y:Operand)(hx:VR σ x x')(hy:VR σ y y'):
  SR P VR σ (eqGuard op t X Y x y>>=λ_=>binOp op t x y) (eqGuard op t X Y x' y'>>=λ_=>binOp op t x' y'):=by
 have pi:∀{b b' o:Nat} (k:IntKind) (n:Int),SR P nS σ (Op.equal t (.pointer (some ⟨b,o,none⟩)) (.int k n)) (Op.equal t (.pointer (some ⟨b',o,none⟩)) (.int k n)):=λk n=>by
  refine aMd t ht ?_;by_cases h:n=0
  .subst h;exact .pure rfl
  .refine aLv ?_;split<;>first|exact aV.halt _|simp_all
 have ip:∀{b b' o:Nat} (k:IntKind) (n:Int),SR P nS σ (Op.equal t (.int k n) (.pointer (some ⟨b,o,none⟩))) (Op.equal t (.int k n) (.pointer (some ⟨b',o,none⟩))):=λk n=>by
  refine aMd t ht ?_;by_cases h:n=0
  .subst h;exact .pure rfl
  .refine aLv ?_;split<;>first|exact aV.halt _|simp_all
 rcases ho with rfl|rfl
 all_goals
  cases hx<;>cases hy<;>first
   |exact aLv (aV.bind (cY.guard ht _ _ _ _) λ_=>aV.oE (aPR t ht (aV.halt _)))
   |exact .pure (.bool _)
   |exact SR.bind (Q:=nS) (aTR hP ht hi hd (by assumption) (by assumption)) λτ a b _ e=>by cases e;exact .pure (.bool _)
   |exact SR.bind (Q:=nS) (pi _ _) λτ a b _ e=>by cases e;exact .pure (.bool _)
   |exact SR.bind (Q:=nS) (ip _ _) λτ a b _ e=>by cases e;exact .pure (.bool _)
   |(show SR P VR σ (if _ then _ else _) (if _ then _ else _);split<;>first|exact SR.halt _ _|exact .pure (.bool _))
def aTB(op:BinOp)(ho:op=.eql\/op=.neq){d:TypeDesc}(ht:P.underlying t=some d)(X:Operand)(hx:VR σ x x')(hy:(y=.nilIface/\∃ms,d=.interface ms)\/(∃n c e,y=.slice none n c/\d=.slice e)):
  SR P VR σ (eqGuard op t X (.const y) x y>>=λ_=>binOp op t x y) (eqGuard op t X (.const y) x' y>>=λ_=>binOp op t x' y):=by
 rcases ho with rfl|rfl
 all_goals
  rcases hy with⟨rfl,ms,rfl⟩|⟨n,c,e,rfl,rfl⟩
  all_goals
   cases hx<;>first
    |exact aLv (show aV P (Op.equal _ _ _>>=_) from aV.oE (aPR t ht (aV.halt _)))
    |(cases X<;>exact SR.bind (Q:=nS) (show SR P nS σ (Op.equal t _ _) (Op.equal t _ _) from aMd t ht (.pure rfl)) λτ a b _ e=>by cases e;exact .pure (.bool _))
def aTC(d:Nat)(hP:P.globals.size<=GB)(ht:P.underlying t=some (.int k)){i:TypeInfo}(hi:P.info? t=some i)(hd:∀n x,i.desc≠.named n x)(hb:σ b b')(hc:σ c c'):
  SR P nS σ (Op.equalIn (d+1) t (.pointer (some ⟨b,o,none⟩)) (.pointer (some ⟨c,q,none⟩))) (Op.equalIn (d+1) t (.pointer (some ⟨b',o,none⟩)) (.pointer (some ⟨c',q,none⟩))):=by
 refine aMd t ht ?_;refine aOM (.mk hb) λτ a a' l hl ha=>aOM ((eF.mk hc).mono hl) λυ d d' l' WI BS=>?_;refine aLv ?_;refine aV.prog ?_;have hc:(a.block==d.block&&decide (a.block<P.globals.size))=false:=by
  cases ha with
  |mk hb=>have:=(τ.hi _ _ hb).1;simp;omega
 show aV P (if _ then _ else _);rw[if_neg (by rw[hc];simp)];refine aQW t hi ?_;split
 .exact absurd (by assumption) (hd _ _)
 .exact aV.halt _
def aTD(d:Nat)(hP:P.globals.size<=GB)(ht:P.underlying t=some (.int k)){i:TypeInfo}(hi:P.info? t=some i)(hd:∀n x,i.desc≠.named n x)(hx:VR σ x x')(hy:VR σ y y'):
  SR P nS σ (Op.equalIn (d+1) t x y) (Op.equalIn (d+1) t x' y'):=by
 have pi:∀{b b' o:Nat} (k:IntKind) (n:Int),SR P nS σ (Op.equalIn (d+1) t (.pointer (some ⟨b,o,none⟩)) (.int k n)) (Op.equalIn (d+1) t (.pointer (some ⟨b',o,none⟩)) (.int k n)):=λk n=>by
  refine aMd t ht ?_;by_cases h:n=0
  .subst h;exact .pure rfl
  .refine aLv ?_;split<;>first|exact aV.halt _|simp_all
 have ip:∀{b b' o:Nat} (k:IntKind) (n:Int),SR P nS σ (Op.equalIn (d+1) t (.int k n) (.pointer (some ⟨b,o,none⟩))) (Op.equalIn (d+1) t (.int k n) (.pointer (some ⟨b',o,none⟩))):=λk n=>by
  refine aMd t ht ?_;by_cases h:n=0
  .subst h;exact .pure rfl
  .refine aLv ?_;split<;>first|exact aV.halt _|simp_all
 cases hx<;>cases hy<;>first
  |exact aLv (aPR t ht (aV.halt _))
  |exact aTC d hP ht hi hd (by assumption) (by assumption)
  |exact pi _ _
  |exact ip _ _
  |(refine aMd t ht ?_;show SR P nS σ (if _ then _ else _) (if _ then _ else _);split<;>first|exact SR.halt _ _|exact .pure rfl)
def eY.cut(h:eY σ xs ys)(a b:Nat):eY σ (xs.extract a b) (ys.extract a b):=by
 refine⟨by simp[h.size],λi h1 h2=>?_⟩;simp only[Array.getElem_extract];exact h.at_ _ _ _
def Sx.part(t:TypeId)(h:eY σ xs ys)(off:Nat):SR P VR σ (part t xs off) (part t ys off):=by
 unfold Go.part;refine SR.same (Sx.agg t) λτ b hl=>?_;have h:=h.mono hl;cases b with
 |true=>exact SR.same (Sx.size t) λυ n hl=>.pure (.agg ((h.mono hl).cut _ _).size ((h.mono hl).cut _ _).at_)
 |false=>
  rcases h.get off with⟨h1,h2⟩|⟨v,v',h1,h2,h3⟩
  .simp only[h1,h2];exact SR.halt _ _
  .simp only[h1,h2];exact .pure h3
def aSP(xs:List α)(f g:α->β->Sem (ForInStep β))(h:∀τ,σ.le τ->∀x∈xs,∀b,SR P nS τ (f x b) (g x b)):∀b:β,SR P nS σ (forIn xs b f) (forIn xs b g):=by
 induction xs generalizing σ with
 |nil=>intro b;exact .pure rfl
 |cons x r ih=>
  intro b;rw[List.forIn_cons,List.forIn_cons];refine SR.bind (h σ (Nm.le_refl _) x (aBw ..) b) λτ s s' hl e=>?_;cases e;cases s with
  |done b=>exact .pure rfl
  |yield b=>exact ih (λυ hu x hx b=>h υ (hl.trans hu) x (aBm _ hx) b) b
def aT3(hP:P.globals.size<=GB)(op:BinOp)(ho:op=.eql\/op=.neq){ti:TypeId}(ht:P.underlying ti=some (.int k)){i:TypeInfo}(hi:P.info? ti=some i)(hd:∀n x,i.desc≠.named n x){fs:Array Go.Field}(hu:P.underlying t=some (.struct fs))(hf:∀f∈fs.toList,f.type=ti)
  (dI:P.stoodInHeld t=false)(hg:P.eqGuardType P.depth t=false)(X Y:Operand)(hx:VR σ x x')(hy:VR σ y y'):
  SR P VR σ (eqGuard op t X Y x y>>=λ_=>binOp op t x y) (eqGuard op t X Y x' y'>>=λ_=>binOp op t x' y'):=by
 have key:∀{φ:Nm} {xs Fv ys Fz:Array Value},eY φ xs Fv->eY φ ys Fz->SR P nS φ (Op.equal t (.agg xs) (.agg ys)) (Op.equal t (.agg Fv) (.agg Fz)):=λ{φ xs Fv ys Fz} h1 h2=>by
  refine aMd t hu ?_;refine .program ?_;show SR P nS φ (if P.stoodInHeld t=true then _ else _) (if P.stoodInHeld t=true then _ else _);rw[if_neg (by rw[dI];simp),if_neg (by rw[dI];simp)];show SR P nS φ (forIn fs _ _>>=_) (forIn fs _ _>>=_);rw[<-aId,<-aId];refine SR.bind (Q:=nS) (aSP _ _ _ (λτ hl f ei b=>?_) _) λτ a b hl e=>?_
  .by_cases hn:f.name≠ "_"
   .rw[if_pos hn,if_pos hn];refine SR.bind (Sx.part _ (h1.mono hl) _) λυ u u' Ec hu1=>SR.bind (Sx.part _ ((h2.mono hl).mono Ec) _) λυ2 z z' CG hz=>?_;rw[hf f ei];refine SR.bind (Q:=nS) (aTD 9998 hP ht hi hd (hu1.mono CG) hz) λυ3 q q' _ e=>?_;cases e;cases q<;>exact .pure rfl
   .rw[if_neg hn,if_neg hn];exact .pure rfl
  .cases e;obtain⟨a1,a2⟩:=a;cases a1<;>exact .pure rfl
 have sg:∀a b,cY P (eqGuard op t X Y a b):=λa b=>by
  have fQ:cY P (Op.eqGuardIn Op.maxDepth t .nilIface .nilIface):=by
   show cY P (underlying t>>=_);unfold underlying;refine cY.prog (k:=λp=>Sem.bind (match p.underlying t with|some d=>pure d|none=>stuck "no such type") _) ?_;show cY P (Sem.bind (match P.underlying t with|some d=>pure d|none=>stuck "no such type") _);rw[hu];exact cY.ret _
  unfold eqGuard
  repeat' first
   |exact cY.ret _
   |exact aPL (aV.halt _)
   |refine cY.bind fQ λz=>?_
   |(refine cY.prog (cY.prog ?_);rw[hg];exact cY.ret _)
   |split
 have guard:∀{xs Fv ys Fz:Array Value},SR P nS σ (eqGuard op t X Y (.agg xs) (.agg ys)) (eqGuard op t X Y (.agg Fv) (.agg Fz)):=λ{xs Fv ys Fz}=>by
  rcases ho with rfl|rfl
  all_goals
   refine .program (.program ?_);show SR P nS σ (if _ then _ else _) (if _ then _ else _);rw[if_pos (by rw[hg];rfl),if_pos (by rw[hg];rfl)];exact .pure rfl
 have dead:∀x y,(∀xs ys,x=.agg xs->y=.agg ys->False)->aV P (Op.equal t x y):=λx y hn=>by
  refine aPR t hu ?_;cases x<;>first
   |exact aV.halt _
   |(cases y<;>first
    |exact aV.halt _
    |exact(hn _ _ rfl rfl).elim)
 by_cases NK:∃xs ys,x=.agg xs/\y=.agg ys
 .obtain⟨xs,ys,rfl,rfl⟩:=NK;cases hx with
  |agg uP Qz=>
   cases hy with
   |agg GN hi2=>
    refine SR.bind (Q:=nS) guard λτ a b hl e=>?_;have h3:=key (eY.mono hl ⟨uP,Qz⟩) (eY.mono hl ⟨GN,hi2⟩);rcases ho with rfl|rfl
    .exact SR.bind (Q:=nS) h3 λυ q q' _ e=>by cases e;exact .pure (.bool _)
    .exact SR.bind (Q:=nS) h3 λυ q q' _ e=>by cases e;exact .pure (.bool _)
 .have BS:=dead x y λxs ys h1 h2=>NK ⟨xs,ys,h1,h2⟩;rcases ho with rfl|rfl
  all_goals
   cases hx<;>cases hy<;>first
    |exact aLv (aV.bind (sg _ _) λ_=>show aV P (Op.equal t _ _>>=_) from aV.oE BS)
    |exact .pure (.bool _)
    |(show SR P VR σ (if _ then _ else _) (if _ then _ else _);split<;>first|exact SR.halt _ _|exact .pure (.bool _))
end Rk.fD
namespace Rk.fD
open Go
variable{e:TypeId}
variable{P:Program}{σ:Nm}
def aEU(off:Nat):∀(L L':List (Value×Nat)) {cs MU:Array Value},eY σ cs MU->L.length=L'.length->(∀i (h:i<L.length) (h':i<L'.length),VR σ L[i].1 L'[i].1/\L[i].2=L'[i].2)->
  eY σ (L.foldl (λcs (p:Value×Nat)=>cs.setIfInBounds (off+p.2) p.1) cs) (L'.foldl (λcs (p:Value×Nat)=>cs.setIfInBounds (off+p.2) p.1) MU):=by
 intro L;induction L with
 |nil=>intro L' cs MU hc hl _;cases L' with
  |nil=>exact hc
  |cons y ys=>simp at hl
 |cons x xs ih=>
  intro L' cs MU hc hl hv;cases L' with
  |nil=>simp at hl
  |cons y ys=>
   obtain⟨h1,h2⟩:=hv 0 BYS BYS;simp only[List.getElem_cons_zero]at h1 h2;simp only[List.foldl_cons,h2];exact ih ys (hc.set _ h1) (by simpa using hl) λi h h'=>hv (i+1) (by simpa using h) (by simpa using h')
def aEV(off:Nat){vs fp cs MU:Array Value}(hc:eY σ cs MU)(hv:eY σ vs fp):
  eY σ (vs.zipIdx.foldl (λcs (p:Value×Nat)=>cs.setIfInBounds (off+p.2) p.1) cs) (fp.zipIdx.foldl (λcs (p:Value×Nat)=>cs.setIfInBounds (off+p.2) p.1) MU):=by
 rw[<-aHZ,<-aHZ];refine aEU off _ _ hc (by simp[hv.size]) λi h h'=>?_;simp only[aF3,Array.size_zipIdx]at h h';simp only[Array.getElem_toList,Array.getElem_zipIdx,aAn,and_true];exact hv.at_ i h h'
def aEW(place:Nat->Option (Nat×Nat)):∀(L L':List (Nat×Value)) {cs MU:Array Value},eY σ cs MU->L.length=L'.length->(∀i (h:i<L.length) (h':i<L'.length),VR σ L[i].2 L'[i].2/\L[i].1=L'[i].1)->
  (Instr.fill place cs L=none/\Instr.fill place MU L'=none)\/∃ds ds',Instr.fill place cs L=some ds/\Instr.fill place MU L'=some ds'/\eY σ ds ds':=by
 intro L;induction L with
 |nil=>intro L' cs MU hc hl _;cases L' with
  |nil=>exact .inr ⟨_,_,rfl,rfl,hc⟩
  |cons y ys=>simp at hl
 |cons x xs ih=>
  intro L' cs MU hc hl hv;cases L' with
  |nil=>simp at hl
  |cons y ys=>
   obtain⟨h1,h2⟩:=hv 0 BYS BYS;simp only[List.getElem_cons_zero]at h1 h2;obtain⟨i,v⟩:=x;obtain⟨i',v'⟩:=y;simp only at h1 h2;subst h2;have hs:=h1.cells.size;unfold Instr.fill;cases place i with
   |none=>exact .inl ⟨rfl,rfl⟩
   |some p=>
    obtain⟨off,size⟩:=p;simp only[<-hs,<-hc.size];by_cases hb:(v.cells.size≠size||off+v.cells.size>cs.size)=true
    .rw[if_pos hb,if_pos hb];exact .inl ⟨rfl,rfl⟩
    .rw[if_neg hb,if_neg hb];exact ih ys (aEV off hc h1.cells) (by simpa using hl) λj h h'=>hv (j+1) (by simpa using h) (by simpa using h')
def aQl(t:TypeId)(hu:P.underlying t=some (.slice e))(Mr:∀τ:Nm,σ.le τ->∀i v,P.info? e=some i->i.zero=some v->VR τ v v)(len:Nat)
  {ps ps':Array (Nat×Value)}(hl:ps.toList.length=ps'.toList.length)(hv:∀i (h:i<ps.toList.length) (h':i<ps'.toList.length),VR σ ps.toList[i].2 ps'.toList[i].2/\ps.toList[i].1=ps'.toList[i].1):
  SR P VR σ (Instr.buildSlice t len ps) (Instr.buildSlice t len ps'):=by
 unfold Instr.buildSlice;refine aMd t hu ?_;refine SR.same (Sx.size e) λτ s hs=>?_;dsimp only;have go:∀{υ:Nm} {z z':Array Value},τ.le υ->eY υ z z'->SR P VR υ
   (match Instr.fill (λi=>some (i*s,s)) ((Array.range (len*s)).map (λi=>z[i % z.size]!)) ps.toList with|some cells=>newRow e cells>>=λa=>Pure.pure (Value.slice (some a) len len)|_=>stuck "buildSlice: a part of the wrong size")
   (match Instr.fill (λi=>some (i*s,s)) ((Array.range (len*s)).map (λi=>z'[i % z'.size]!)) ps'.toList with|some cells=>newRow e cells>>=λa=>Pure.pure (Value.slice (some a) len len)|_=>stuck "buildSlice: a part of the wrong size"):=λ{υ z z'} h hz=>by
  rcases aEW (σ:=υ) (λi=>some (i*s,s)) ps.toList ps'.toList (hz.rep (len*s)) hl (λi h1 h2=>⟨((hv i h1 h2).1.mono hs).mono h,(hv i h1 h2).2⟩) with⟨h1,h2⟩|⟨ds,ds',h1,h2,hd⟩
  .rw[h1,h2];exact SR.halt _ _
  .rw[h1,h2];exact(Sx.row e hd).bind λ_ a a' _ ha=>.pure (.ja ha _ _)
 split
 .exact aLv (aV.oE (aV.halt _))
 .split
  .exact go (Nm.le_refl _) .nil
  .exact(Sx.zero e (Mr _ hs)).bind λυ z z' h hz=>go h hz.cells
def wl:List FuncId:=[5,24,61,25,26,67,98,99,110,118,27,68,100,97,109,117,23]
inductive Ru(σ:Nm):Next->Next->Prop
 |value {v v':Value}:VR σ v v'->Ru σ (.value v) (.value v')
 |skip:Ru σ .skip .skip
 |enter {f:FuncId} {asL Dz:Array Value}:f∈wl->eY σ asL Dz->Ru σ (.enter f asL) (.enter f Dz)
def Sx.v{s s':Sem Value}(h:SR P VR σ s s'):SR P Ru σ (s>>=λv=>Pure.pure (.value v)) (s'>>=λv=>Pure.pure (.value v)):=h.bind λ_ _ _ _ h=>.pure (.value h)
def Sx.u{s s':Sem Unit}(h:SR P nS σ s s'):SR P Ru σ (s>>=λ_=>Pure.pure .skip) (s'>>=λ_=>Pure.pure .skip):=h.bind λ_ _ _ _ h=>.pure .skip
def Sx.call{f:FuncId}{fn:Func}(hf:P.funcs[f]?=some fn)(hn:(fn.name== "runtime.NumGoroutine")=false)(hb:fn.body.isNone=false)(hw:f∈wl){asL Dz:Array Value}(ha:eY σ asL Dz):SR P Ru σ (callFunc f asL) (callFunc f Dz):=by
 unfold callFunc;refine .program ?_;show SR P Ru σ (match P.funcs[f]? with|none=>_|some fn=>_) (match P.funcs[f]? with|none=>_|some fn=>_);rw[hf];show SR P Ru σ (if _ then _ else if _ then _ else _) (if _ then _ else if _ then _ else _);rw[if_neg (by rw[hn];simp),if_neg (by rw[hb];simp),if_neg (by rw[hn];simp),if_neg (by rw[hb];simp)];exact .pure (.enter hw ha)
end Rk.fD
