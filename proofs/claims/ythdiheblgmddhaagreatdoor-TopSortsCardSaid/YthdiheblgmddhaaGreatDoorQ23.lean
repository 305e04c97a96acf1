/- Part of the proof of TopSorts. -/
import Derived.Deep.AppendLies
import Derived.Conc.AppendEvents3
import Derived.Conc.SmallLaws
import Derived.Test.YthdiheblgmddhaaGreatDoorQ22
set_option linter.all false
set_option maxHeartbeats 4000000
set_option maxRecDepth 100000
namespace Rk.Cw
open Go Go.Conc Go.RowKit Go.Proofs Rk.fD
variable{x:Operand}{r n c:Nat}{vs xs:List Value}{w:World}{A:Option Addr}
abbrev Qs:=List (Nat×(Value->World->Prop))
section
variable{P:Program}{lo:Nat}{ty:TypeId}{Post:Value->World->Prop}{S R:PS}{b:Frame}{cs:List Frame}{N d i:Nat}{ds:List Deferred}{E:Env}{k:List Item}{ops:Array Oper}{rest:List Nat}{t T e:TypeId}{dir:ChanDir}{inf:TypeInfo}{pos:String}{after:Array Edge}{a:Act}{agg:Bool}{sz bytes:Nat}{z v:Value}
def aRp{qs:Qs}{ms:MS}(ar:(ms=.calm/\qs=[])\/ms=.ch qs none [] false)(ht:P.underlying T=some (.chan dir e))(ye:Ty P e agg sz bytes z)(hb:bytes<=1000)(ho:ops[i]?=some ⟨some d,.makeChan T (.const (.int .i64 1)),t,pos,after,none⟩)(hk:b.kind≠.early)(oP:lo<=w.heap.size)
  (h:∀w1,bZ (S.or R) w w1->MT P lo ty Post (.ch qs (some w1.heap.size) [] false) S R (G (b.at (a.put (some d) (.chan (some w1.heap.size))) (.inRegion ops rest::k)) cs) (w1.alloc (.chan 1 #[] false 0 0 false))):
  MT P lo ty Post ms S R (G (b.at a (.inRegion ops (i::rest)::k)) cs) w:=by
 refine MT.step rfl λw1 ha _=>?_;obtain⟨ti,hi,hz,oC,HA⟩:=ye.info;have h1:=run_makeChan (w:=w1) ht hi .i64 1 BYO (by rw[HA];omega);have hr:(execOp a.eval ⟨some d,.makeChan T (.const (.int .i64 1)),t,pos,after,none⟩).run P w1=.ok (.value (.chan (some w1.heap.size))) (w1.alloc (.chan 1 #[] false 0 0 false)):=by
  have:(Instr.makeChan T (.int .i64 1)).run P w1=.ok (.chan (some w1.heap.size)) (w1.alloc (.chan 1 #[] false 0 0 false)):=h1;simp[execOp,Act.eval,this]
 have he:listed P b.fn a ⟨some d,.makeChan T (.const (.int .i64 1)),t,pos,after,none⟩ w1= #[]:=by
  unfold listed;have h2:=events_makeChan (w:=w1) ht hi .i64 1 BYO (by rw[HA];omega) #[];have h3:(Instr.makeChan T (.int .i64 1)).events P w1 #[]= #[]:=h2;have h4:(Instr.makeChan T (.int .i64 1)).run P w1=.ok (.chan (some w1.heap.size)) (w1.alloc (.chan 1 #[] false 0 0 false)):=h1;have:(execOp a.eval ⟨some d,.makeChan T (.const (.int .i64 1)),t,pos,after,none⟩).events P w1 #[]= #[]:=by simp[execOp,Act.eval,go_sem,h3,h4]
  rw[this,seen_none]
 refine .xS (g':=G (b.at (a.put (some d) (.chan (some w1.heap.size))) (.inRegion ops rest::k)) cs) (qs:=qs) ar ?_ rfl rfl (aBS oP ha.size) (h w1 ha);rw[stepG_value ho rfl hk hr,he]
def aS6{Q:Value->World->Prop}{qs:Qs}(ht:P.underlying T=some (.chan dir e))(ye:Ty P e agg sz bytes z)(ho:ops[i]?=some ⟨some d,.recv T x true,t,pos,after,none⟩)(hk:b.kind≠.early)(hd:Nat.blt d N=true)(hE:Ad a N ds E)(hx:aM E x=some (.chan (some r)))(hq:qs[vs.length]?=some (r,Q))
  (h:∀v w1,bZ (S.or R) w w1->(∃w3,Q v w3)->∀a',Ad a' N ds ((d,.tuple #[v,.bool true])::E)->MT P lo ty Post (.ch qs none (vs++[v]) true) S R (G (b.at a' (.inRegion ops rest::k)) cs) w1):
  MT P lo ty Post (.ch qs none vs false) S R (G (b.at a (.inRegion ops (i::rest)::k)) cs) w:=by
 refine MT.step rfl λw1 ha _=>?_;have hr:(execOp a.eval ⟨some d,.recv T x true,t,pos,after,none⟩).run P w1=.ok (.comm #[rcase r z] true (.recv true)) w1:=by
  simp[execOp,rcase,hE.eval hx,run_underlying ht,ye.zero]
 have he:listed P b.fn a ⟨some d,.recv T x true,t,pos,after,none⟩ w1= #[]:=by
  unfold listed;have:(execOp a.eval ⟨some d,.recv T x true,t,pos,after,none⟩).events P w1 #[]= #[]:=by simp[execOp,go_sem,hE.eval hx,run_underlying ht,ye.zero]
  rw[this,seen_none]
 refine .recv (z:=z) hq ?_ λv w2 h2 h3=>?_
 .rw[core_G,stepG_comm ho rfl hk hr,he]
 .rw[core_G,served_G];have e:(ops[i]?).bind (·.dst)=some d:=by rw[ho];rfl
  rw[e];exact h v w2 (ha.trans h2) h3 _ (hE.put _ hd)
def aS7{Q:Value->World->Prop}{qs:Qs}(ht:P.underlying T=some (.chan dir e))(ye:Ty P e agg sz bytes z)(ho:ops[i]?=some ⟨some d,.recv T x true,t,pos,after,none⟩)(hk:b.kind≠.early)(hd:Nat.blt d N=true)(hE:Ad a N ds E)(hx:aM E x=some (.chan (some r)))(hq:qs[vs.length]?=some (r,Q))
  (h1:vs.length+1<qs.length->∀w1,bZ (S.or R) w w1->∀a',Ad a' N ds ((d,.tuple #[z,.bool false])::E)->MT P lo ty Post (.ch qs none (vs++[v]) false) S R (G (b.at a' (.inRegion ops rest::k)) cs) w1)
  (h2:vs.length+1=qs.length->∀w1,bZ (S.or R) w w1->(∀(m:Nat) (r:Nat) (Q:Value->World->Prop) (u:Value),qs[m]?=some (r,Q)->(vs++[v])[m]?=some u->Q u w1)->∀a',Ad a' N ds ((d,.tuple #[z,.bool false])::E)->MT P lo ty Post .calm (Whole lo ty w1) (λ_ _=>False) (G (b.at a' (.inRegion ops rest::k)) cs) w1):
  MT P lo ty Post (.ch qs none (vs++[v]) true) S R (G (b.at a (.inRegion ops (i::rest)::k)) cs) w:=by
 refine MT.step rfl λw1 ha _=>?_;have hr:(execOp a.eval ⟨some d,.recv T x true,t,pos,after,none⟩).run P w1=.ok (.comm #[rcase r z] true (.recv true)) w1:=by
  simp[execOp,rcase,hE.eval hx,run_underlying ht,ye.zero]
 have he:listed P b.fn a ⟨some d,.recv T x true,t,pos,after,none⟩ w1= #[]:=by
  unfold listed;have:(execOp a.eval ⟨some d,.recv T x true,t,pos,after,none⟩).events P w1 #[]= #[]:=by simp[execOp,go_sem,hE.eval hx,run_underlying ht,ye.zero]
  rw[this,seen_none]
 have e:(ops[i]?).bind (·.dst)=some d:=by rw[ho];rfl
 refine .shut (z:=z) hq ?_ (λh3=>?_) λh3 h4=>?_
 .rw[core_G,stepG_comm ho rfl hk hr,he]
 .rw[core_G,served_G,e];exact h1 h3 w1 ha _ (hE.put _ hd)
 .rw[core_G,served_G,e];exact h2 h3 w1 ha h4 _ (hE.put _ hd)
end
def aBG(ev:Event):Prop:=ev=⟨.mark .noRoom,false,true⟩\/ev.sync=false
def UY{P:Program}{t ty:TypeId}{args:Array Value}:∀ev∈(Builtin.append_ #[t,t] ty args).events P w #[],aBG ev:=Rk.Al.OE
def Oz{V:PS}{w1:World}{base size:Nat}{e:TypeId}{v:Value}(h:w.ownsRow base e size v n xs)(ha:bZ V w w1)(hV:∀g,v.ownBlock=some g->V g none):w1.ownsRow base e size v n xs:=by
 refine⟨h.1,h.2.imp id λ⟨g,cap,cur,h1,h2,h3,h4⟩=>⟨g,cap,cur,h1,h2,(ha.all g (hV g (by rw[h1];rfl))).trans h3,h4⟩⟩
section
variable{P:Program}{main:Bool}{R:PS}{Q:World->Prop}{J:PS->Goroutine->World->Prop}(hJ:pF P main R Q J){b:Frame}{cs:List Frame}{N d i:Nat}{ds:List Deferred}{S:PS}{E:Env}{k:List Item}{w:World}{ops:Array Oper}{rest:List Nat}{t e st:TypeId}{pos:String}{after:Array Edge}{x y:Operand}{v z:Value}{agg:Bool}{sz bytes:Nat}
def my(ht:P.underlying st=some (.slice e))(ye:Ty P e false 1 bytes (.slice none 0 0))(w:World):
  (Instr.buildSlice st 1 #[(0,.slice A n c)]).run P w=.ok (.slice (some ⟨w.heap.size,0,none⟩) 1 1) (w.alloc (.cells #[.slice A n c] e))/\(Instr.buildSlice st 1 #[(0,.slice A n c)]).events P w #[]= #[]:=by
 have h2:∀f:Nat->Value,(Array.range 1).map f= #[f 0]:=λf=>by rw[show Array.range 1= #[0] by decide];simp
 constructor
 .simp[Instr.buildSlice,run_underlying ht,ye.size,ye.zero,Instr.fill,newRow,h2,Value.cells]
 .simp[Instr.buildSlice,go_sem,run_underlying ht,ye.size,ye.zero,Instr.fill,newRow,h2,Value.cells]
include hJ
def CJ.one(ht:P.underlying st=some (.slice e))(ye:Ty P e false 1 bytes (.slice none 0 0))(ho:ops[i]?=some ⟨some d,.buildSlice st 1 #[(0,x)],t,pos,after,none⟩)(hk:b.kind≠.early)(hd:Nat.blt d N=true)(hx:aM E x=some (.slice A n c))
  (h:∀w1,bZ (S.or R) w w1->CJ J b cs N ds (S.or λb x=>x=none/\b=w1.heap.size) ((d,.slice (some ⟨w1.heap.size,0,none⟩) 1 1)::E) (.inRegion ops rest::k) (w1.alloc (.cells #[.slice A n c] e))):CJ J b cs N ds S E (.inRegion ops (i::rest)::k) w:=
 aQ1 hJ ho hk hd λw1 ha _=>by
  obtain⟨h1,h2⟩:=my (A:=A) (n:=n) (c:=c) ht ye w1;have e1:∀(ρ:Operand->Value) (o:Oper),ρ x=.slice A n c->o.op=.buildSlice st 1 #[(0,x)]->execOp ρ o=(do pure (.value (<-Instr.buildSlice st 1 #[(0,.slice A n c)]))):=λρ o h3 h4=>by
   unfold execOp;rw[h4];simp[h3]
  revert h1 h2;generalize Instr.buildSlice st 1 #[(0,.slice A n c)]=B at e1;intro h1 h2;refine⟨_,w1.alloc (.cells #[.slice A n c] e),.slice (some ⟨w1.heap.size,0,none⟩) 1 1,λρ hρ _ _ _ _=>?_,.nil λρ hρ _ _ _ _=>?_,AY S R w1 _,h w1 ha⟩
  .rw[e1 _ _ (hρ _ _ hx) rfl];simp[h1]
  .rw[e1 _ _ (hρ _ _ hx) rfl];simp[go_sem,h1,h2]
def aRq{n':Nat}{s u:Value}(ht:P.underlying st=some (.slice e))(ye:Ty P e agg 1 bytes z)(hb:bytes<=1000)(hn:n<=1000)(ho:ops[i]?=some ⟨some d,.call {callee:=.builtin .append,args:= #[x,y],argTypes:= #[st,st]},t,pos,after,none⟩)(hk:b.kind≠.early)(hd:Nat.blt d N=true)
  (hx:aM E x=some s)(hy:aM E y=some (.slice (some ⟨n',0,none⟩) 1 1))(Ws:w.ownsRow 0 e 1 s n xs)(hS:∀g,s.ownBlock=some g->S g none)(hc:w.cell? ⟨n',0,none⟩=some u)(hu:u.oneCell'=true)(Ma:(S.or R) n' none)
  (h:∀w1 w' g cap,bZ (S.or R) w w1->w'.ownsRow 0 e 1 (.slice (some ⟨g,0,none⟩) (n+1) cap) (n+1) (xs++[u])->w1.grownBy w' s.ownBlock->(s.ownBlock=some g\/g=w1.heap.size)->g<w'.heap.size->
   CJ J b cs N ds (S.or λb x=>x=none/\b=g) ((d,.slice (some ⟨g,0,none⟩) (n+1) cap)::E) (.inRegion ops rest::k) w'):CJ J b cs N ds S E (.inRegion ops (i::rest)::k) w:=
 aQ1 hJ ho hk hd λw1 ha _=>by
  obtain⟨ti,hi,hz,oC,HA⟩:=ye.info;have ze:=Oz Ws ha λg hg=>.inl (hS g hg);have WG:=cT ha (.inl Ma) hc;have GG:∀(j:Nat) u',[u][j]?=some u'->w1.cell? ((⟨n',0,none⟩:Addr).add j)=some u':=λj u' hj=>by
   cases j with
   |zero=>simp at hj;subst hj;simpa[Addr.add] using WG
   |succ j=>simp at hj
  have h1:∀v∈[u],v.oneCell'=true:=λv hv=>by simp at hv;subst hv;exact hu
  have hbn:(n+1)*bytes<=140737488355328:=by
   have:(n+1)*bytes<=1001*1000:=Nat.mul_le_mul BYO hb;omega
  obtain⟨g,cap,w',r1,r2,r3,r4,r5⟩:=run_append_lies (P:=P) w1 st t 0 e ti z 1 bytes ht hi hz oC HA ye.zsz BYO s n xs ze ⟨n',0,none⟩ 1 1 [u] rfl GG h1 BYO (by simp only[maxLen];omega) hbn (aBt _) _ rfl;have hev:=events_append_where (P:=P) w1 0 st t e ti z 1 bytes ht hi hz oC HA s n xs ze ⟨n',0,none⟩ 1 1 [u] rfl GG h1 (by simp only[maxLen];omega) hbn;have Wh:=UY (P:=P) (t:=st) (ty:=t) (args:= #[s,.slice (some ⟨n',0,none⟩) 1 1]) (w:=w1);have e1:∀(ρ:Operand->Value) (o:Oper),ρ x=s->ρ y=.slice (some ⟨n',0,none⟩) 1 1->o.op=.call {callee:=.builtin .append,args:= #[x,y],argTypes:= #[st,st]}->o.type=t->execOp ρ o=(do pure (.value (<-Builtin.append_ #[st,st] t #[s,.slice (some ⟨n',0,none⟩) 1 1]))):=λρ o h3 h4 h5 h6=>by
   unfold execOp;rw[h5];simp[resolve,h3,h4,h6,invoke,builtin]
  revert hev Wh r1;generalize Builtin.append_ #[st,st] t #[s,.slice (some ⟨n',0,none⟩) 1 1]=B at e1;intro r1 hev Wh;refine⟨S.or λb x=>x=none/\b=g,w',.slice (some ⟨g,0,none⟩) (n+1) cap,λρ hρ _ _ _ _=>?_,λρ hρ _ _ _ _ ev he=>?_,?_,h w1 w' g cap ha r2 r3 r4 r5⟩
  .rw[e1 _ _ (hρ _ _ hx) (hρ _ _ hy) rfl rfl];simp[r1]
  .rw[e1 _ _ (hρ _ _ hx) (hρ _ _ hy) rfl rfl]at he;replace he:ev∈B.events P w1 #[]:=by simpa[go_sem,r1] using he
   rcases hev ev he with⟨ad,h2,h3⟩|⟨m,rfl,hm⟩
   .rcases Wh ev he with h4|h4
    .exact .inl h4
    .refine .inr ⟨h4,?_⟩;rw[h2];rcases h3 with⟨h3,h5⟩|h3
     .rcases Ma with h6|h6
      .exact .inl (.inl (.inl (by rw[h5];exact h6)))
      .exact .inr ⟨.inl (by rw[h5];exact h6),h3⟩
     .exact .inl (.inl (.inl (hS _ h3.symm)))
   .unfold Neutral at hm;subst hm;exact .inl rfl
  .refine⟨λ_ _ h=>.inl h,λb x hb=>?_,r3.size,λb hb hn=>.inl (r3.block b hb λe=>hn (hS b e.symm)),r3.os,r3.tape,r3.output,λe he=>by simp at he⟩;rcases hb with hb|⟨h2,rfl⟩
   .exact .inl hb
   .rcases r4 with h3|h3
    .exact .inl (h2▸hS _ h3)
    .exact .inr ⟨BYO,r5⟩
end
variable{lo:Nat}
def aBH:Tryz.prog.underlying 177=some (.chan .both 22):=BYK
noncomputable def cM:Array Oper:=match Tryz.f66.body with
 |some (.seq _ (.seq (.block _ (.loop (.seq _ (.block _ (.seq _ (.seq (.seq _ (.block _ (.loop (.seq _ (.seq _ (.seq (.block _ (.seq _ (.seq (.region _ ops _) _))) _)))))) _)))))) _))=>ops
 |_=> #[]
abbrev na(pb ob kb m k:Nat):Env:=[(4,.pointer (some ⟨kb,0,none⟩)),(19,nI k),(18,nI m),(3,.pointer (some ⟨ob,0,none⟩)),(1,.pointer (some ⟨pb,0,none⟩))]
def DL{pb ob kb m k:Nat}:mh cM (na pb ob kb m k) 47=true:=by rfl
abbrev rA(bW:Nat->Prop)(ob bR k:Nat):PS:=λb x=>(x=none/\(bW b\/b=ob))\/(b=bR/\∃j,x=some j/\j<k)
structure Gc(Z:World->Prop)(Q:Nat->Value->World->Prop)(bW:Nat->Prop)(w:World)(pb pk n c m:Nat)(pv:Nat->Value)(ls:Nat->List It)(ob bR k:Nat)(qs:Qs):Prop where
 en:w.cell? ⟨pb,0,none⟩=some (.slice (some ⟨pk,0,none⟩) n c)
 pc:∀j,j<n->w.cell? ⟨pk,j,none⟩=some (pv j)
 cut:∀j,j<n->Cut w (λb x=>x=none/\bW b) (pv j) (ls j)
 ek:w.cell? ⟨ob,0,none⟩=some (.slice (some ⟨bR,0,none⟩) m m)
 gb:GB<=w.heap.size
 len:qs.length=k
 ch:∀j,j<k->∃r,qs[j]?=some (r,Q j)/\w.cell? ⟨bR,j,none⟩=some (.chan (some r))
 ppb:bW pb
 ppk:bW pk
 low:∀b,bW b->b<w.heap.size
 xz:ob<w.heap.size
 nb:bR<w.heap.size
 nob:¬bW ob
 nok:¬bW bR
 d1:ob≠bR
 zs:∀w w1,bZ (λb x=>x=none/\bW b) w w1->Z w->Z w1
 z:Z w
structure eo(Z:World->Prop)(Q:Nat->Value->World->Prop)(bW:Nat->Prop)(w:World)(pb pk n c m:Nat)(pv:Nat->Value)(ls:Nat->List It)(ob bR kb k:Nat)(qs:Qs):Prop extends Gc Z Q bW w pb pk n c m pv ls ob bR k qs where
 d2:kb≠bR
 ckb:w.cell? ⟨kb,0,none⟩=some (nI k)
 lkb:kb<w.heap.size
 km:k<m
 okc:∃cs T,w.heap[bR]?=some (.cells cs T (0,0))/\cs.size=m
section
variable{Z:World->Prop}{Q:Nat->Value->World->Prop}{bW:Nat->Prop}{w1:World}{pb pk m ob bR kb k:Nat}{pv:Nat->Value}{ls:Nat->List It}{qs:Qs}
def Gc.iQ{V:PS}(h:Gc Z Q bW w pb pk n c m pv ls ob bR k qs)(ha:bZ V w w1)(hV:∀b x,rA bW ob bR k b x->V b x):Gc Z Q bW w1 pb pk n c m pv ls ob bR k qs:=by
 have hz:=ha.size;exact⟨cT ha (.inl (hV _ _ (.inl ⟨rfl,.inl h.ppb⟩))) h.en,λj hj=>cT ha (.inl (hV _ _ (.inl ⟨rfl,.inl h.ppk⟩))) (h.pc j hj),λj hj=>(h.cut j hj).iQ (ha.sub λb x hx=>hV _ _ (.inl ⟨hx.1,.inl hx.2⟩)),cT ha (.inl (hV _ _ (.inl ⟨rfl,.inr rfl⟩))) h.ek,aBS h.gb hz,h.len,
  λj hj=>let ⟨r,h1,h2⟩:=h.ch j hj;⟨r,h1,cT ha (.inr (hV _ _ (.inr ⟨rfl,j,rfl,hj⟩))) h2⟩,h.ppb,h.ppk,λb hb=>aAx (h.low b hb) hz,aAx h.xz hz,aAx h.nb hz,h.nob,h.nok,h.d1,h.zs,h.zs _ _ (ha.sub λb x hx=>hV _ _ (.inl ⟨hx.1,.inl hx.2⟩)) h.z⟩
def eo.iQ(h:eo Z Q bW w pb pk n c m pv ls ob bR kb k qs)(ha:bZ (((mS bR k m).or λb x=>x=none/\b=kb).or (rA bW ob bR k)) w w1):eo Z Q bW w1 pb pk n c m pv ls ob bR kb k qs:=by
 refine⟨h.toGc.iQ ha λb x hx=>.inr hx,h.d2,cT ha (.inl (.inl (.inr ⟨rfl,rfl⟩))) h.ckb,aAx h.lkb ha.size,h.km,?_⟩;obtain⟨cs,T,h1,h2⟩:=h.okc;obtain⟨c',h4,h5,_⟩:=ha.one bR k (.inl (.inl ⟨rfl,k,rfl,aAB _,h.km⟩)) cs T (0,0) h1;exact⟨c',T,h4,h5.trans h2⟩
def eo.inB(h:eo Z Q bW w pb pk n c m pv ls ob bR kb k qs):mQ w.heap.size (((mS bR k m).or λb x=>x=none/\b=kb).or (rA bW ob bR k)):=λb x hx=>by
 have h1:=h.xz;have h2:=h.nb;have h3:=h.lkb;rcases hx with(⟨e,_⟩|⟨_,e⟩)|⟨_,e|e⟩|⟨e,_⟩
 .omega
 .omega
 .exact h.low b e
 .omega
 .omega
def Cut.cells{S:PS}{v:Value}{l:List It}(h:Cut w S v l)(he:∀b,S b none->w1.heap[b]?=w.heap[b]?)(hz:w.heap.size<=w1.heap.size):Cut w1 S v l:=by
 obtain⟨A,c,h1,h2,h3,h4⟩:=h;refine⟨A,c,h1,h2,λhn=>?_,λp hp=>?_⟩
 .obtain⟨b,o,rfl,h5,h6⟩:=h3 hn;have e:=he b (h4 _ rfl).2.1;exact⟨b,o,rfl,aAx h5 hz,λi hi j u hu=>by rw[fB e];exact h6 i hi j u hu⟩
 .obtain⟨h5,h6,h7,h8⟩:=h4 p hp;exact⟨h5,h6,h7,by rw[he _ h6];exact h8⟩
def mJ{b o b' o':Nat}{v:Value}(h:b'≠b\/o'≠o):(w.setCell ⟨b,o,none⟩ v).cell? ⟨b',o',none⟩=w.cell? ⟨b',o',none⟩:=by
 by_cases e:b'=b
 .subst e;have ho:=h.resolve_left λx=>x rfl;simp only[World.cell?,World.setCell,aDI,if_true];cases hc:w.heap[b']? with
  |none=>rfl
  |some x=>cases x<;>simp[aCM (Ne.symm ho)]
 .simp only[World.cell?];rw[Rk.fD.eZ e]
def eo.stored(h:eo Z Q bW w pb pk n c m pv ls ob bR kb k qs){w2:World}(hz:w2.heap.size=w.heap.size)(hs:w2.cell? ⟨bR,k,none⟩=some (.chan (some r)))(ho:∀b' o',(b'≠bR\/o'≠k)->w2.cell? ⟨b',o',none⟩=w.cell? ⟨b',o',none⟩)(hb:∀b,b≠bR->w2.heap[b]?=w.heap[b]?)(hA:bZ (λb x=>x=none/\bW b) w w2):
  Gc Z Q bW w2 pb pk n c m pv ls ob bR (k+1) (qs++[(r,Q k)]):=by
 have cQ:∀b,bW b->b≠bR:=λb hb e=>h.nok (e▸hb);refine⟨(ho _ _ (.inl (cQ _ h.ppb))).trans h.en,λj hj=>(ho _ _ (.inl (cQ _ h.ppk))).trans (h.pc j hj),λj hj=>(h.cut j hj).cells (λb rD=>hb b (cQ b rD.2)) (Nat.le_of_eq hz.symm),(ho _ _ (.inl h.d1)).trans h.ek,by rw[hz];exact h.gb,by simp[h.len],λj hj=>?_,h.ppb,h.ppk,λb hb=>by rw[hz];exact h.low b hb,by rw[hz];exact h.xz,by rw[hz];exact h.nb,h.nob,h.nok,h.d1,h.zs,h.zs _ _ hA h.z⟩;by_cases e:j=k
 .subst e;refine⟨r,?_,hs⟩;have hl:=h.len;rw[aDt BYO];simp[hl]
 .obtain⟨r',h1,h2⟩:=h.ch j BYO;have hl:=h.len;exact⟨r',by rw[aDe BYO];exact h1,(ho _ _ (.inr e)).trans h2⟩
section
variable{Post:Value->World->Prop}{bf:Frame}{cs:List Frame}{ds:List Deferred}{kk:List Item}
def g6c(fF:bf.kind≠.early)
  (hn:CJ (λS g w=>MT Tryz.prog lo link.tWg Post (.ch qs (some r) [] false) S (rA bW ob bR k) g w) bf cs 47 ds ((mS bR k m).or λb x=>x=none/\b=kb) (na pb ob kb m k) kk w):∀fuel tt listed a,(∀j∈[0,1,2,3,4],listed[j]?=some true)->(∀j∈([]:List Nat),listed[j]?≠some true)->un cM.size listed<=fuel->Gd cM [some (.slice (some ⟨bR,0,none⟩) m m),some (nI k),some (.chan (some r)),some (.pointer (some ⟨bR,k,none⟩)),none] 47 ds (na pb ob kb m k) listed a->
   MT Tryz.prog lo link.tWg Post (.ch qs (some r) [] false) ((mS bR k m).or λb x=>x=none/\b=kb) (rA bW ob bR k) (G (bf.at a (.inRegion cM (Region.linearise.go .any cM fuel tt listed [])::kk)) cs) w:=by
 refine CJ.any (MT.own (P:=Tryz.prog) (lo:=lo) (ty:=link.tWg) (Post:=Post) (ms:=.ch qs (some r) [] false) (R:=rA bW ob bR k)) fF DL _ [0,1,2,3,4] [] BYS (λi o d v' HW ho hd hv w1 ha hq=>?_) (λi o fuel tt listed a OP yD ho hc hi hu hg=>?_) (λ_=>hn.sub ?_)
 .match i with
  |0=>
   obtain rfl:=OPE ho;obtain rfl:=OPE hv;exact absurd BYS HW
  |1=>
   obtain rfl:=OPE ho;obtain rfl:=OPE hv;exact absurd BYS HW
  |2=>
   obtain rfl:=OPE ho;obtain rfl:=OPE hv;exact absurd BYS HW
  |3=>
   obtain rfl:=OPE ho;obtain rfl:=OPE hv;exact absurd BYS HW
  |4=>
   obtain rfl:=OPE ho;cases hd
  |i+5=>exact OPN ho
 .match i with
  |0=>
   exact absurd BYS OP
  |1=>
   exact absurd BYS OP
  |2=>
   exact absurd BYS OP
  |3=>
   exact absurd BYS OP
  |4=>
   exact absurd BYS OP
  |i+5=>exact OPN ho
 .exact KP DL _
def g6b(fF:bf.kind≠.early)(hX:eo Z Q bW w pb pk n c m pv ls ob bR kb k qs)(r:Nat)
  (hn:∀w2,Gc Z Q bW w2 pb pk n c m pv ls ob bR (k+1) (qs++[(r,Q k)])->w2.cell? ⟨kb,0,none⟩=some (nI k)->kb<w2.heap.size->(∃cs T,w2.heap[bR]?=some (.cells cs T (0,0))/\cs.size=m)->
   CJ (λS g w=>MT Tryz.prog lo link.tWg Post (.ch qs (some r) [] false) S (rA bW ob bR k) g w) bf cs 47 ds ((mS bR k m).or λb x=>x=none/\b=kb) (na pb ob kb m k) kk w2):∀fuel tt listed a,(∀j∈[2],listed[j]?=some true)->(∀j∈[4],listed[j]?≠some true)->un cM.size listed<=fuel->Gd cM [some (.slice (some ⟨bR,0,none⟩) m m),some (nI k),some (.chan (some r)),some (.pointer (some ⟨bR,k,none⟩)),none] 47 ds (na pb ob kb m k) listed a->
   MT Tryz.prog lo link.tWg Post (.ch qs (some r) [] false) ((mS bR k m).or λb x=>x=none/\b=kb) (rA bW ob bR k) (G (bf.at a (.inRegion cM (Region.linearise.go .any cM fuel tt listed [])::kk)) cs) w:=by
 have hJ:=MT.own (P:=Tryz.prog) (lo:=lo) (ty:=link.tWg) (Post:=Post) (ms:=.ch qs (some r) [] false) (R:=rA bW ob bR k);refine CJ.any hJ fF DL _ [2] [4] (by intro j hj;simp at hj;subst hj;exact⟨BYD,.inl rfl⟩) (λi o d v' HW ho hd hv w1 ha hq=>?_) (λi o fuel tt listed a OP yD ho hc hi hu hg=>?_) (λe=>by cases e)
 .replace hX:=hX.iQ ha
  match i with
  |0=>
   obtain rfl:=OPE ho;obtain rfl:=OPE hv;exact⟨aJC AX rfl (hX.ek),aLQ AX rfl (hX.ek) (.inr ⟨rfl,.inl (.inr (.inl ⟨rfl,.inr rfl⟩)),rfl⟩)⟩
  |1=>
   obtain rfl:=OPE ho;obtain rfl:=OPE hv;exact⟨aJC aN rfl (hX.ckb),aLQ aN rfl (hX.ckb) (.inr ⟨rfl,.inl (.inl (.inr ⟨rfl,rfl⟩)),rfl⟩)⟩
  |2=>
   obtain rfl:=OPE ho;obtain rfl:=OPE hv;exact absurd BYS HW
  |3=>
   obtain rfl:=OPE ho;obtain rfl:=OPE hv;exact kQ.idx KQ xF rfl rfl hX.km
  |4=>
   obtain rfl:=OPE ho;cases hd
  |i+5=>exact OPN ho
 .match i with
  |0=>exact OPC ho hc
  |1=>exact OPC ho hc
  |2=>
   exact absurd BYS OP
  |3=>exact OPC ho hc
  |4=>
   obtain rfl:=OPE ho;have l2:listed[2]?=some true:=(hg.ahead hi (j:=2) BYD).1;refine jU hJ (E:=Jr cM [some (.slice (some ⟨bR,0,none⟩) m m),some (nI k),some (.chan (some r)),some (.pointer (some ⟨bR,k,none⟩)),none] (na pb ob kb m k) 4) rfl rfl fF (hg.ready hi) λw1 ha hq=>?_;have zY:=hX.iQ ha;obtain⟨dc,T1,nB,HS⟩:=zY.okc;have WO:=zY.km;have h3:w1.cell? ⟨bR,k,none⟩=some (dc[k]'BYO):=by simp[World.cell?,nB,HS,WO]
   have h4:w1.frozen? ⟨bR,k,none⟩=false:=by simp[World.frozen?,nB]
   have hmy:((mS bR k m).or λb x=>x=none/\b=kb) bR (some k):=.inl ⟨rfl,k,rfl,aAB _,WO⟩;refine⟨_,w1.setCell ⟨bR,k,none⟩ (.chan (some r)),aP5 xF rfl rfl rfl rfl h3 h4,aP7 xF rfl rfl rfl rfl h3 h4 (.inr ⟨rfl,.inl (.inr hmy)⟩),UT hmy nB,?_⟩;have l3:=(hg.ahead hi (j:=3) BYD).1;have l0:=hg.KN 3 l3 0 BYD;have l1:=hg.KN 3 l3 1 BYD;have Wo:Gc Z Q bW (w1.setCell ⟨bR,k,none⟩ (.chan (some r))) pb pk n c m pv ls ob bR (k+1) (qs++[(r,Q k)]):=zY.stored (by rw[Rk.fD.cL]) (tB nB BYO) (λb' o' hb=>mJ hb) (λb hb=>Rk.fD.eZ hb) (nV λx hx=>zY.nok hx.2)
   .refine g6c fF (hn _ Wo ((mJ (.inl zY.d2)).trans zY.ckb) (by rw[Rk.fD.cL];exact zY.lkb) (Jt nB HS)) fuel tt _ _ ?_ BYS hu (hg.done DL rfl (λp hp=>(hg.ahead hi hp).1) (λj u hj=>hj) (λd hd=>by cases hd) λ_=>⟨_,rfl⟩);intro j hj;simp at hj;rcases hj with rfl|rfl|rfl|rfl|rfl
    .rw[aCM BYO];exact l0
    .rw[aCM BYO];exact l1
    .rw[aCM BYO];exact l2
    .rw[aCM BYO];exact l3
    .rw[aCr (by rw[hg.size];decide)]
  |i+5=>exact OPN ho
def g6a(fF:bf.kind≠.early)(hZl:∀w,Z w->lo<=w.heap.size)(hX:eo Z Q bW w pb pk n c m pv ls ob bR kb k qs){ms:MS}(ar:(ms=.calm/\qs=[])\/ms=.ch qs none [] false)
  (hn:∀r w2,Gc Z Q bW w2 pb pk n c m pv ls ob bR (k+1) (qs++[(r,Q k)])->w2.cell? ⟨kb,0,none⟩=some (nI k)->kb<w2.heap.size->(∃cs T,w2.heap[bR]?=some (.cells cs T (0,0))/\cs.size=m)->
   CJ (λS g w=>MT Tryz.prog lo link.tWg Post (.ch qs (some r) [] false) S (rA bW ob bR k) g w) bf cs 47 ds ((mS bR k m).or λb x=>x=none/\b=kb) (na pb ob kb m k) kk w2):∀fuel tt listed a,(∀j∈([]:List Nat),listed[j]?=some true)->(∀j∈[2,4],listed[j]?≠some true)->un cM.size listed<=fuel->Gd cM [some (.slice (some ⟨bR,0,none⟩) m m),some (nI k),none,some (.pointer (some ⟨bR,k,none⟩)),none] 47 ds (na pb ob kb m k) listed a->
   MT Tryz.prog lo link.tWg Post ms ((mS bR k m).or λb x=>x=none/\b=kb) (rA bW ob bR k) (G (bf.at a (.inRegion cM (Region.linearise.go .any cM fuel tt listed [])::kk)) cs) w:=by
 have hJ:=MT.own (P:=Tryz.prog) (lo:=lo) (ty:=link.tWg) (Post:=Post) (ms:=ms) (R:=rA bW ob bR k);refine CJ.any hJ fF DL _ [] [2,4] (by intro j hj;simp at hj;rcases hj with rfl|rfl;exact⟨BYD,.inr rfl⟩;exact⟨BYD,.inl rfl⟩) (λi o d v' HW ho hd hv w1 ha hq=>?_) (λi o fuel tt listed a OP yD ho hc hi hu hg=>?_) (λe=>by cases e)
 .replace hX:=hX.iQ ha
  match i with
  |0=>
   obtain rfl:=OPE ho;obtain rfl:=OPE hv;exact⟨aJC AX rfl (hX.ek),aLQ AX rfl (hX.ek) (.inr ⟨rfl,.inl (.inr (.inl ⟨rfl,.inr rfl⟩)),rfl⟩)⟩
  |1=>
   obtain rfl:=OPE ho;obtain rfl:=OPE hv;exact⟨aJC aN rfl (hX.ckb),aLQ aN rfl (hX.ckb) (.inr ⟨rfl,.inl (.inl (.inr ⟨rfl,rfl⟩)),rfl⟩)⟩
  |2=>
   obtain rfl:=OPE ho;simp at hv
  |3=>
   obtain rfl:=OPE ho;obtain rfl:=OPE hv;exact kQ.idx KQ xF rfl rfl hX.km
  |4=>
   obtain rfl:=OPE ho;cases hd
  |i+5=>exact OPN ho
 .match i with
  |0=>exact OPC ho hc
  |1=>exact OPC ho hc
  |2=>
   obtain rfl:=OPE ho;refine aRp ar aBH pW BYO rfl fF (hZl _ hX.z) λw1 ha=>?_;have zY:=hX.iQ ha;have Wo:=zY.iQ (gN (.chan 1 #[] false 0 0 false) zY.inB);refine g6b fF Wo (r:=w1.heap.size) (hn w1.heap.size) fuel tt _ _ ?_ ?_ hu (hg.done DL rfl (λp hp=>(hg.ahead hi hp).1) (λj u hj=>?_) (λd hd=>⟨_,rfl,by cases hd;rfl⟩) λe=>by cases e)
   .intro j hj;simp at hj;subst hj;rw[aCr (by rw[hg.size];decide)]
   .intro j hj;simp at hj;subst hj;rw[aCM BYO];exact yD 4 BYS
   .match j with
    |0=>exact hj
    |1=>exact hj
    |2=>simp at hj
    |3=>exact hj
    |4=>simp at hj
    |j+5=>simp at hj
  |3=>exact OPC ho hc
  |4=>
   obtain rfl:=OPE ho;exact absurd ((hg.ahead hi (j:=2) BYD).2 rfl) (by simp[kB,cM,Tryz.f66])
  |i+5=>exact OPN ho
end
end
noncomputable def gB:Code:=match Tryz.f66.body with
 |some (.seq _ (.seq (.block _ (.loop c)) _))=>c
 |_=>.skip
noncomputable def N8:Code:=match Tryz.f66.body with
 |some (.seq _ (.seq _ c))=>c
 |_=>.skip
noncomputable def gD:Code:=match gB with
 | .seq _ (.block _ (.seq _ (.seq (.seq _ (.block _ (.loop c))) _)))=>c
 |_=>.skip
noncomputable def gT2:Code:=match gB with
 | .seq _ (.block _ (.seq _ (.seq _ c)))=>c
 |_=>.skip
noncomputable abbrev K0:List Item:=[.inBlock 1,.inLoop gB,.inBlock 0,.code N8]
def Qg(B0 n:Nat)(pv:Nat->Value)(ls:Nat->List It)(j:Nat)(v:Value)(w:World):Prop:=
 (2*j+1=n->v=pv (2*j))/\(2*j+1<n->Cut w (λb x=>x=none/\B0<b) v (bS (ls (2*j)++ls (2*j+1))))
abbrev gE0(pb ob m k:Nat):Env:=[(19,nI k),(18,nI m),(3,.pointer (some ⟨ob,0,none⟩)),(1,.pointer (some ⟨pb,0,none⟩))]
abbrev kRg(bW:Nat->Prop)(ob kb bR k:Nat):PS:=λb x=>(x=none/\(bW b\/b=ob\/b=kb))\/(b=bR/\x=some k)
def aBK{bW:Nat->Prop}{S:PS}{ob bR kb m k:Nat}(hS:∀b x,mS bR k m b x->S b x)(Wc:S kb none)(hk:k<m)(h1:¬bW bR)(h2:ob≠bR)(h3:kb≠bR):
  NY S (rA bW ob bR k) (mS bR (k+1) m) (rA bW ob bR (k+1)) (λ_ _=>False) (kRg bW ob kb bR k):=by
 refine⟨λb x ⟨e,j,e2,h6,h7⟩=>.inr (hS b x ⟨e,j,e2,BYO,h7⟩),λb x hx=>.inr ?_,λb x hx=>hx.elim,λb x hx=>.inr ?_,λb x y ⟨e,j,e2,h6,h7⟩ hy hl=>?_,λb x y hx=>hx.elim⟩
 .rcases hx with hx|⟨e,j,e2,hj⟩
  .exact .inr (.inl hx)
  .by_cases ej:j=k
   .exact .inl (hS b x ⟨e,j,e2,BYO,BYO⟩)
   .exact .inr (.inr ⟨e,j,e2,BYO⟩)
 .rcases hx with⟨e,e2|e2|e2⟩|⟨e,e2⟩
  .exact .inr (.inl ⟨e,.inl e2⟩)
  .exact .inr (.inl ⟨e,.inr e2⟩)
  .exact .inl (e▸e2▸Wc)
  .exact .inl (hS b x ⟨e,k,e2,aAB _,hk⟩)
 .subst e;rcases hy with hy|hy
  .exact hy
  .rcases hy with⟨_,e3|e3|e3⟩|⟨_,e3⟩
   .exact h1 e3
   .exact h2 e3.symm
   .exact h3 e3.symm
   .subst e2;subst e3;rcases hl with hl|hl|hl<;>simp at hl
    omega
section
variable{Z:World->Prop}{Post:Value->World->Prop}{bW:Nat->Prop}{pb pk m ob bR:Nat}{pv:Nat->Value}{ls:Nat->List It}{bf:Frame}{cs:List Frame}{ds:List Deferred}
def Aw(fF:bf.kind≠.early)(hZl:∀w,Z w->lo<=w.heap.size)(hn6:n<=6)(hm:m=(n+1)/2)(hm0:0<m)(he:∀j,2*j+1<n->eC (ls (2*j)).length (lf (ls (2*j))) (ls (2*j+1)).length (lf (ls (2*j+1)))=0)
  (GD:∀w qs a,Ad a 47 ds (gE0 pb ob m m)->Gc Z (Qg bR n pv ls) bW w pb pk n c m pv ls ob bR m qs->MT Tryz.prog lo link.tWg Post (.ch qs none [] false) (mS bR m m) (rA bW ob bR m) (G (bf.at a (.code gT2::K0)) cs) w):
  ∀q k,m=k+q->∀w a qs ms,((ms=.calm/\qs=[])\/ms=.ch qs none [] false)->Ad a 47 ds (gE0 pb ob m k)->Gc Z (Qg bR n pv ls) bW w pb pk n c m pv ls ob bR k qs->(k<m->∃cs T,w.heap[bR]?=some (.cells cs T (0,0))/\cs.size=m)->
   MT Tryz.prog lo link.tWg Post ms (mS bR k m) (rA bW ob bR k) (G (bf.at a (.code gD:: .inLoop gD:: .inBlock 2:: .code gT2::K0)) cs) w:=by
 intro q;induction q with
 |zero=>
  intro k hk w a qs ms ar ha hX _;obtain rfl:m=k:=BYO;have aLL:ms=.ch qs none [] false:=by
   rcases ar with⟨_,e⟩|e
   .have:=hX.len;rw[e]at this;simp at this;omega
   .exact e
  subst aLL;have hJ:=MT.own (P:=Tryz.prog) (lo:=lo) (ty:=link.tWg) (Post:=Post) (ms:=.ch qs none [] false) (R:=rA bW ob bR m);suffices key:CJ (λS g w=>MT Tryz.prog lo link.tWg Post (.ch qs none [] false) S (rA bW ob bR m) g w) bf cs 47 ds (mS bR m m) (gE0 pb ob m m) (.code gD:: .inLoop gD:: .inBlock 2:: .code gT2::K0) w from key a ha;refine CJ.seq hJ (CJ.region hJ ?_);simp only[aBT,aBJ,aBv,Nat.reduceAdd,aAn,List.range,List.range.loop];refine aLS hJ (v:=.bool false) rfl fF rfl (λw1 _ _=>aPY rfl rfl (decide_eq_false BYO)) (aLZ hJ (CJ.seq hJ (CJ.cond hJ false rfl (CJ.exit hJ rfl ?_))));exact CJ.sub (λa ha=>GD w qs a ha hX) (mH.sub ⟨rfl,rfl,rfl,rfl,trivial⟩)
 |succ q ih=>
  intro k hk w a qs ms ar ha hX aN2;have WO:k<m:=BYO;have hJ:=MT.own (P:=Tryz.prog) (lo:=lo) (ty:=link.tWg) (Post:=Post) (ms:=ms) (R:=rA bW ob bR k);suffices key:CJ (λS g w=>MT Tryz.prog lo link.tWg Post ms S (rA bW ob bR k) g w) bf cs 47 ds (mS bR k m) (gE0 pb ob m k) (.code gD:: .inLoop gD:: .inBlock 2:: .code gT2::K0) w from key a ha;refine CJ.seq hJ (CJ.region hJ ?_);simp only[aBT,aBJ,aBv,Nat.reduceAdd,aAn,List.range,List.range.loop];refine aLS hJ (v:=.bool true) rfl fF rfl (λw1 _ _=>aPY rfl rfl (decide_eq_true WO)) (aLZ hJ (CJ.seq hJ (CJ.cond hJ true rfl (CJ.skip hJ (CJ.seq hJ (CJ.block hJ (CJ.seq hJ (CJ.region hJ ?_))))))));simp only[aBT,aBJ,aBv,Nat.reduceAdd,aAn,List.range,List.range.loop];refine aLS hJ (v:=nI k) rfl fF rfl (λw1 _ _=>⟨aA.move rfl,bQ.move⟩) ?_;refine CJ.alloc hJ aN rfl fF rfl λw1 vX=>?_;have zY:=hX.iQ vX λb x h=>.inr h;obtain⟨cs0,T0,Z6,hs0⟩:=aN2 WO;obtain⟨dc,nB,uP,_⟩:=vX.one bR k (.inl ⟨rfl,k,rfl,aAB _,WO⟩) cs0 T0 (0,0) Z6;have iD:mQ w1.heap.size ((mS bR k m).or (rA bW ob bR k)):=λb x hx=>by
   have h1:=zY.xz;have h2:=zY.nb;rcases hx with⟨e,_⟩|⟨_,e|e⟩|⟨e,_⟩
   .omega
   .exact zY.low b e
   .omega
   .omega
  have WK:=gN (.cells (Value.int .i64 0).cells 3) iD;have Wo:=zY.iQ WK λb x h=>.inr h;obtain⟨cs2,HS,GN,_⟩:=WK.one bR k (.inl ⟨rfl,k,rfl,aAB _,WO⟩) dc T0 (0,0) nB;have uQ:=cN w1 (Value.int .i64 0).cells 3;have qO:(w1.alloc (.cells (Value.int .i64 0).cells 3)).heap.size=w1.heap.size+1:=BYS;obtain⟨kb,Wc⟩:∃kb,kb=w1.heap.size:=⟨_,rfl⟩;have ue:kb≠bR:=by have:=zY.nb;omega
  have aHb:∀b,bW b->b≠kb:=λb hb e=>by have:=zY.low b hb;omega
  have aN9:kb≠ob:=by have:=zY.xz;omega
  rw[<-Wc]at uQ qO⊢;generalize w1.alloc _=w2 at Wo HS uQ qO⊢;refine CJ.store hJ aN rfl fF rfl rfl rfl rfl (.inl (.inr ⟨rfl,rfl⟩)) uQ (by simp[Value.cells]) λw3 c3 uj hc3 EL _=>?_;have hX3:=Wo.iQ uj λb x h=>.inr h;obtain⟨cs3,hp3,hs3,_⟩:=uj.one bR k (.inl (.inl ⟨rfl,k,rfl,aAB _,WO⟩)) cs2 T0 (0,0) HS;have hnk:∀x,¬((mS bR k m).or (rA bW ob bR k)) kb x:=λx hx=>by
   rcases hx with⟨e,_⟩|⟨_,e|e⟩|⟨e,_⟩
   .exact ue e
   .exact aHb _ e rfl
   .exact aN9 e
   .exact ue e
  have hA4:bZ ((mS bR k m).or (rA bW ob bR k)) w3 (w3.setCell ⟨kb,0,none⟩ (nI k)):=nV hnk;have Mu:=hX3.iQ hA4 λb x h=>.inr h;obtain⟨cs4,hp4,hs4,_⟩:=hA4.one bR k (.inl ⟨rfl,k,rfl,aAB _,WO⟩) cs3 T0 (0,0) hp3;have hk4:(w3.setCell ⟨kb,0,none⟩ (nI k)).cell? ⟨kb,0,none⟩=some (nI k):=tB hc3 (by rw[EL];simp[Value.cells]);have RY:kb<(w3.setCell ⟨kb,0,none⟩ (nI k)).heap.size:=by rw[Rk.fD.cL];have:=uj.size;omega
  generalize w3.setCell _ _=w4 at Mu hp4 hk4 RY⊢;have hX6:eo Z (Qg bR n pv ls) bW w4 pb pk n c m pv ls ob bR kb k qs:=⟨Mu,ue,hk4,RY,WO,cs4,T0,hp4,BYO⟩;refine aLZ hJ (CJ.seq hJ ?_);refine CJ.sub (E':=na pb ob kb m k) (CJ.draw hJ mixed λtt a hg=>?_) (mH.sub ⟨rfl,rfl,rfl,rfl,rfl,trivial⟩);refine g6a fF hZl hX6 ar (λr w5 bb SF zT aHS=>?_) _ tt _ a (λj hj=>by cases hj) (λj hj=>by simp[aGf]) (Ox _ _) hg.start;have hJr:=MT.own (P:=Tryz.prog) (lo:=lo) (ty:=link.tWg) (Post:=Post) (ms:=.ch qs (some r) [] false) (R:=rA bW ob bR k);refine CJ.region hJr ?_;simp only[aBT,aBJ,aBv,Nat.reduceAdd,aAn,List.range,List.range.loop];refine aQ2 hJr (xs:=[.tmp 3,.tmp 4,.tmp 1]) (us:=[.pointer (some ⟨ob,0,none⟩),.pointer (some ⟨kb,0,none⟩),.pointer (some ⟨pb,0,none⟩)]) rfl fF rfl rfl λa7 Xl=>?_;refine aS4 rfl fF Xl rfl λw8 Mz=>?_;have uG:∀b x,rA bW ob bR (k+1) b x->(((mS bR k m).or λb x=>x=none/\b=kb).or (rA bW ob bR k)) b x:=λb x hx=>by
   rcases hx with hx|⟨e,j,e2,hj⟩
   .exact .inr (.inl hx)
   .by_cases ej:j=k
    .exact .inl (.inl ⟨e,j,e2,BYO,BYO⟩)
    .exact .inr (.inr ⟨e,j,e2,BYO⟩)
  have OZ:=bb.iQ Mz uG;have fu:=cT Mz (.inl (.inl (.inr ⟨rfl,rfl⟩))) SF;have b8:kb<w8.heap.size:=aAx zT Mz.size;obtain⟨r',EJ,pT⟩:=OZ.ch k (aH3 k);have hlen:qs.length=k:=hX.len;have GI:r'=r:=by
   rw[aDt BYO]at EJ;simp[hlen]at EJ;exact EJ.symm
  subst GI;have hold:∀b,bW b->kRg bW ob kb bR k b none:=λb hb=>.inl ⟨rfl,.inl hb⟩;have hGk:Gk w8 (kRg bW ob kb bR k) ob kb pb bR pk r' m k n c (pv (2*k)) (pv (2*k+1)) (ls (2*k)) (ls (2*k+1)):=
   ⟨OZ.ek,fu,OZ.en,pT,OZ.pc _ BYO,(OZ.cut _ BYO).mono λb hb=>hold b hb.2,λh=>OZ.pc _ h,λh=>(OZ.cut _ h).mono λb hb=>hold b hb.2,WO,BYO,hn6,OZ.gb⟩
  have hGr:Gr (kRg bW ob kb bR k) ob kb pb bR pk k:=⟨.inl ⟨rfl,.inr (.inl rfl)⟩,.inl ⟨rfl,.inr (.inr rfl)⟩,hold _ OZ.ppb,hold _ OZ.ppk,.inr ⟨rfl,rfl⟩⟩;have hV:mQ w8.heap.size (PS.or (λ_ _=>False) (kRg bW ob kb bR k)):=λb x hx=>by
   have h1:=OZ.xz;have h2:=OZ.nb;rcases hx with hx|⟨_,e|e|e⟩|⟨e,_⟩
   .exact hx.elim
   .exact OZ.low b e
   .omega
   .omega
   .omega
  refine⟨mS bR (k+1) m,rA bW ob bR (k+1),λ_ _=>False,kRg bW ob kb bR k,Qg bR n pv ls k,aBK (λb x hx=>.inl hx) (.inr ⟨rfl,rfl⟩) WO OZ.nok OZ.d1 ue,?_,?_⟩
  .exact Ju hGk hGr hV (he k) (λe w=>⟨λ_=>rfl,λh=>absurd e BYO⟩) (B0:=bR) OZ.nb λh w v hc=>⟨λe=>absurd e BYO,λ_=>hc⟩
  obtain⟨ic,fq⟩:∃ic,ic=qs++[(r',Qg bR n pv ls k)]:=⟨_,rfl⟩;rw[<-fq]at OZ⊢;have GX:=MT.own (P:=Tryz.prog) (lo:=lo) (ty:=link.tWg) (Post:=Post) (ms:=.ch ic none [] false) (R:=rA bW ob bR (k+1));refine aLZ GX (CJ.inBlock GX (CJ.region GX ?_)) a7 Xl;simp only[aBT,aBJ,aBv,Nat.reduceAdd,aAn,List.range,List.range.loop];refine aLS GX (v:=nI (k+1)) rfl fF rfl (λw1 _ _=>aN8 (b:=1) rfl rfl BYO) ?_;refine aLS GX (v:=nI (k+1)) rfl fF rfl (λw1 _ _=>⟨aA.move rfl,bQ.move⟩) ?_;refine aLZ GX (CJ.inLoop GX ?_);refine CJ.sub (E':=gE0 pb ob m (k+1)) (λa ha=>ih (k+1) BYO w8 a ic (.ch ic none [] false) (.inr rfl) ha OZ λh=>?_) (mH.sub ⟨rfl,rfl,rfl,rfl,trivial⟩);obtain⟨cs5,T5,bz,hs5⟩:=aHS;obtain⟨cs8,hp8,hs8,_⟩:=Mz.one bR k (.inl (.inl ⟨rfl,k,rfl,aAB _,WO⟩)) cs5 T5 (0,0) bz;exact⟨cs8,T5,hp8,BYO⟩
end
variable{V:PS}{bW:Nat->Prop}{ob bR i:Nat}{nx:Value}
noncomputable def gE:Code:=match gT2 with
 | .seq _ (.seq (.seq _ (.block _ (.loop c))) _)=>c
 |_=>.skip
noncomputable def Kb:Code:=match gT2 with
 | .seq _ (.seq _ c)=>c
 |_=>.skip
def Ug{w':World}{row:Option Nat}(h:w.grownBy w' row)(iD:mQ w.heap.size V)(cQ:∀b x,V b x->some b≠row):bZ V w w':=
 ⟨λb hb=>h.block b (iD b _ hb) (cQ b _ hb),λb o hb c T fz hc=>⟨c,(h.block b (iD b _ hb) (cQ b _ hb)).trans hc,rfl,rfl⟩,h.size,h.os,h.tape,h.output⟩
abbrev KR(nx:Value):PS:=λb x=>x=none/\nx.ownBlock=some b
structure N9(w:World)(bW:Nat->Prop)(ob bR:Nat)(nx:Value)(i:Nat)(vs:List Value):Prop where
 own:w.ownsRow 0 22 1 nx i vs
 apart:∀g,nx.ownBlock=some g->¬bW g/\g≠ob/\g≠bR
def N9.len(h:N9 w bW ob bR nx i vs):vs.length=i:=by have:=h.own.1;omega
def N9.iQ{w1:World}(h:N9 w bW ob bR nx i vs)(ha:bZ V w w1)(hV:∀b x,KR nx b x->V b x):N9 w1 bW ob bR nx i vs:=
 ⟨Oz h.own ha λg hg=>hV _ _ ⟨rfl,hg⟩,h.apart⟩
def N9.NJ(h:N9 w bW ob bR nx i vs):mQ w.heap.size (KR nx):=λb x ⟨_,hb⟩=>by
 rcases h.own.2 with⟨e,_⟩|⟨g,cap,cur,e,_,h3,_⟩
 .rw[e]at hb;cases hb
 .rw[e]at hb;cases hb;exact(aCH.1 h3).1
abbrev gEE(pb bR m i:Nat)(nx:Value):Env:=[(30,nI i),(29,nI m),(28,.slice (some ⟨bR,0,none⟩) m m),(5,nx),(1,.pointer (some ⟨pb,0,none⟩))]
section
variable{Z:World->Prop}{Post:Value->World->Prop}{pb pk m:Nat}{pv:Nat->Value}{ls:Nat->List It}{bf:Frame}{cs:List Frame}{ds:List Deferred}
def Gc.inR{Q:Nat->Value->World->Prop}{k:Nat}{qs:Qs}(h:Gc Z Q bW w pb pk n c m pv ls ob bR k qs):mQ w.heap.size (rA bW ob bR k):=λb x hx=>by
 have h1:=h.xz;have h2:=h.nb;rcases hx with⟨_,e|e⟩|⟨e,_⟩
 .exact h.low b e
 .omega
 .omega
def Az(fF:bf.kind≠.early)(hn6:n<=6)(hm:m=(n+1)/2){qs:Qs}
  (GD:∀w a nx vs,Ad a 47 ds [(5,nx),(1,.pointer (some ⟨pb,0,none⟩))]->Gc Z (Qg bR n pv ls) bW w pb pk n c m pv ls ob bR m qs->w.ownsRow 0 22 1 nx m vs->(∀g,nx.ownBlock=some g->¬bW g)->(∀j,j<m->∃v,vs[j]?=some v/\Qg bR n pv ls j v w)->
   MT Tryz.prog lo link.tWg Post .calm (Whole lo link.tWg w) (λ_ _=>False) (G (bf.at a (.code Kb::K0)) cs) w)
 (CM:i<m)(ih:i+1<m->∀w a nx vs,Ad a 47 ds (gEE pb bR m (i+1) nx)->Gc Z (Qg bR n pv ls) bW w pb pk n c m pv ls ob bR m qs->N9 w bW ob bR nx (i+1) vs->
   MT Tryz.prog lo link.tWg Post (.ch qs none vs false) (KR nx) (rA bW ob bR m) (G (bf.at a (.code gE:: .inLoop gE:: .inBlock 4:: .code Kb::K0)) cs) w):
  ∀w a nx vs,Ad a 47 ds (gEE pb bR m i nx)->Gc Z (Qg bR n pv ls) bW w pb pk n c m pv ls ob bR m qs->N9 w bW ob bR nx i vs->
   MT Tryz.prog lo link.tWg Post (.ch qs none vs false) (KR nx) (rA bW ob bR m) (G (bf.at a (.code gE:: .inLoop gE:: .inBlock 4:: .code Kb::K0)) cs) w:=by
 intro w a nx vs ha hX hN;have hlen:=hN.len;have hJ:=MT.own (P:=Tryz.prog) (lo:=lo) (ty:=link.tWg) (Post:=Post) (ms:=.ch qs none vs false) (R:=rA bW ob bR m);suffices key:CJ (λS g w=>MT Tryz.prog lo link.tWg Post (.ch qs none vs false) S (rA bW ob bR m) g w) bf cs 47 ds (KR nx) (gEE pb bR m i nx) (.code gE:: .inLoop gE:: .inBlock 4:: .code Kb::K0) w from key a ha;obtain⟨r,EJ,pT⟩:=hX.ch i CM;refine CJ.seq hJ (CJ.region hJ ?_);simp only[aBT,aBJ,aBv,Nat.reduceAdd,aAn,List.range,List.range.loop];refine aLS hJ (v:=.bool true) rfl fF rfl (λw1 _ _=>aPY rfl rfl (decide_eq_true CM)) (aLZ hJ (CJ.seq hJ (CJ.cond hJ true rfl (CJ.skip hJ (CJ.seq hJ (CJ.block hJ (CJ.seq hJ (CJ.region hJ ?_))))))));simp only[aBT,aBJ,aBv,Nat.reduceAdd,aAn,List.range,List.range.loop];refine aLS hJ (v:=.pointer (some ⟨bR,i,none⟩)) rfl fF rfl (λw1 _ _=>kQ.idx KQ xF rfl rfl CM) ?_;refine CJ.load hJ xF rfl fF rfl rfl pT (.inr (.inr (.inr ⟨rfl,i,rfl,CM⟩))) ?_;refine aLS hJ (v:=.chan (some r)) rfl fF rfl (λw1 _ _=>⟨aA.assign rfl,bQ.assign⟩) ?_;refine aLZ hJ (CJ.seq hJ (CJ.region hJ ?_));simp only[aBT,aBJ,aBv,Nat.reduceAdd,aAn,List.range,List.range.loop];refine aLS hJ (v:=.chan (some r)) rfl fF rfl (λw1 _ _=>⟨aA.move rfl,bQ.move⟩) ?_;refine aLZ hJ (CJ.block hJ (CJ.loop hJ (CJ.seq hJ (CJ.region hJ ?_))));simp only[aBT,aBJ,aBv,Nat.reduceAdd,aAn,List.range,List.range.loop];intro a1 vX;refine aS6 (Q:=Qg bR n pv ls i) aBH pW rfl fF rfl vX rfl (by rw[hlen];exact EJ) λv w1 PC b9 a2 Mc=>?_;obtain⟨A,vn,vc,rfl⟩:∃A vn vc,v=.slice A vn vc:=by
  obtain⟨w3,h1,h2⟩:=b9;by_cases e:2*i+1=n
  .obtain⟨A,c,h3,_⟩:=hX.cut (2*i) BYO;exact⟨A,_,c,(h1 e).trans h3⟩
  .obtain⟨A,c,h3,_⟩:=h2 BYO;exact⟨A,_,c,h3⟩
 have zY:=hX.iQ PC λb x h=>.inr h;have uM:=hN.iQ PC λ_ _ h=>.inl h;have NN:=MT.own (P:=Tryz.prog) (lo:=lo) (ty:=link.tWg) (Post:=Post) (ms:=.ch qs none (vs++[.slice A vn vc]) true) (R:=rA bW ob bR m);suffices key:CJ (λS g w=>MT Tryz.prog lo link.tWg Post (.ch qs none (vs++[.slice A vn vc]) true) S (rA bW ob bR m) g w) bf cs 47 ds (KR nx) _ _ w1 from key a2 Mc;refine aLS NN (v:=.bool true) rfl fF rfl (λw1 _ _=>⟨aA.extract rfl rfl,bQ.extract rfl rfl⟩) ?_;refine aLZ NN (CJ.seq NN (CJ.cond NN true rfl (CJ.skip NN (CJ.block NN (CJ.seq NN (CJ.region NN ?_))))));simp only[aBT,aBJ,aBv,Nat.reduceAdd,aAn,List.range,List.range.loop];refine aLS NN (v:=.slice A vn vc) rfl fF rfl (λw1 _ _=>⟨aA.extract rfl rfl,bQ.extract rfl rfl⟩) ?_;refine aLS NN (v:=.slice A vn vc) rfl fF rfl (λw1 _ _=>⟨aA.assign rfl,bQ.assign⟩) ?_;refine aLZ NN (CJ.region NN ?_);simp only[aBT,aBJ,aBv,Nat.reduceAdd,aAn,List.range,List.range.loop];refine aLS NN (v:=nx) rfl fF rfl (λw1 _ _=>⟨aA.move rfl,bQ.move⟩) ?_;refine aLS NN (v:=.slice A vn vc) rfl fF rfl (λw1 _ _=>⟨aA.move rfl,bQ.move⟩) ?_;refine CJ.one NN An pW rfl fF rfl rfl λw2 WK=>?_;have Ly:mQ w2.heap.size ((KR nx).or (rA bW ob bR m)):=λb x hx=>aAx (hx.elim (uM.NJ b x) (zY.inR b x)) WK.size;have ur:=WK.trans (gN (.cells #[.slice A vn vc] 22) Ly);have hX3:=zY.iQ ur λb x h=>.inr h;have EO:=uM.iQ ur λ_ _ h=>.inl h;have Xi:(w2.alloc (.cells #[.slice A vn vc] 22)).cell? ⟨w2.heap.size,0,none⟩=some (.slice A vn vc):=AZ w2 (.slice A vn vc) _ rfl;obtain⟨lb,Wu⟩:∃lb,lb=w2.heap.size:=⟨_,rfl⟩;rw[<-Wu]at Xi⊢;generalize w2.alloc _=w3 at hX3 EO Xi⊢;refine aRq NN An pW BYO (n:=i) BYO rfl fF rfl rfl rfl EO.own (λg hg=>.inl ⟨rfl,hg⟩) Xi rfl (.inl (.inr ⟨rfl,rfl⟩)) λw4 w5 g cap hA4 Ws hgr hg dD=>?_;have Mu:=hX3.iQ hA4 λb x h=>.inr h;have hA5:bZ (rA bW ob bR m) w4 w5:=Ug hgr Mu.inR λb x hb e=>by
  obtain⟨h1,h2,h3⟩:=hN.apart b e.symm;rcases hb with⟨_,e|e⟩|⟨e,_⟩
  .exact h1 e
  .exact h2 e
  .exact h3 e
 have bb:=Mu.iQ hA5 λb x h=>h;have Xo:¬bW g/\g≠ob/\g≠bR:=by
  rcases hg with hg|hg
  .exact hN.apart g hg
  .have h1:=Mu.xz;have h2:=Mu.nb;exact⟨λh=>by have:=Mu.low g h;omega,BYO,BYO⟩
 have pY:N9 w5 bW ob bR (.slice (some ⟨g,0,none⟩) (i+1) cap) (i+1) (vs++[.slice A vn vc]):=⟨Ws,λg' uA=>by cases uA;exact Xo⟩;obtain⟨sq,aHR⟩:∃sq,sq=Value.slice (some ⟨g,0,none⟩) (i+1) cap:=⟨_,rfl⟩;have aLr:∀b x,KR sq b x->((PS.or (KR nx) λb x=>x=none/\b=lb).or λb x=>x=none/\b=g) b x:=λb x ⟨h1,h2⟩=>.inr ⟨h1,by rw[aHR]at h2;cases h2;rfl⟩;rw[<-aHR]at pY⊢;refine CJ.Xf aLr ?_;refine aLS NN (v:=sq) rfl fF rfl (λw1 _ _=>⟨aA.assign rfl,bQ.assign⟩) ?_;refine aLZ NN (CJ.inBlock NN (CJ.inLoop NN (CJ.seq NN (CJ.region NN ?_))));simp only[aBT,aBJ,aBv,Nat.reduceAdd,aAn,List.range,List.range.loop];intro a6 XI;refine aS7 (Q:=Qg bR n pv ls i) (r:=r) aBH pW rfl fF rfl XI rfl (by rw[hlen];exact EJ) (λhle w6 tg a7 Xl=>?_) λhle w6 tg aLW a7 Xl=>?_
 .have zZ:=MT.own (P:=Tryz.prog) (lo:=lo) (ty:=link.tWg) (Post:=Post) (ms:=.ch qs none (vs++[.slice A vn vc]) false) (R:=rA bW ob bR m);suffices key:CJ (λS g w=>MT Tryz.prog lo link.tWg Post (.ch qs none (vs++[.slice A vn vc]) false) S (rA bW ob bR m) g w) bf cs 47 ds (KR sq) _ _ w6 from key a7 Xl;refine aLS zZ (v:=.bool false) rfl fF rfl (λw1 _ _=>⟨aA.extract rfl rfl,bQ.extract rfl rfl⟩) ?_;refine aLZ zZ (CJ.seq zZ (CJ.cond zZ false rfl (CJ.exit zZ rfl (CJ.inBlock zZ (CJ.region zZ ?_)))));simp only[aBT,aBJ,aBv,Nat.reduceAdd,aAn,List.range,List.range.loop];refine aLS zZ (v:=nI (i+1)) rfl fF rfl (λw1 _ _=>aN8 (b:=1) rfl rfl BYO) ?_;refine aLS zZ (v:=nI (i+1)) rfl fF rfl (λw1 _ _=>⟨aA.move rfl,bQ.move⟩) ?_;refine aLZ zZ (CJ.inLoop zZ ?_);have hlq:=hX.len;exact CJ.sub (E':=gEE pb bR m (i+1) sq) (λa ha=>ih BYO w6 a sq _ ha (bb.iQ tg λb x h=>.inr h) (pY.iQ tg λb x h=>.inl h)) (mH.sub ⟨rfl,rfl,rfl,rfl,rfl,trivial⟩)
 .have zZ:=MT.own (P:=Tryz.prog) (lo:=lo) (ty:=link.tWg) (Post:=Post) (ms:=.calm) (R:=λ_ _=>False);suffices key:CJ (λS g w=>MT Tryz.prog lo link.tWg Post .calm S (λ_ _=>False) g w) bf cs 47 ds (Whole lo link.tWg w6) _ _ w6 from key a7 Xl;refine aLS zZ (v:=.bool false) rfl fF rfl (λw1 _ _=>⟨aA.extract rfl rfl,bQ.extract rfl rfl⟩) ?_;refine aLZ zZ (CJ.seq zZ (CJ.cond zZ false rfl (CJ.exit zZ rfl (CJ.inBlock zZ (CJ.region zZ ?_)))));simp only[aBT,aBJ,aBv,Nat.reduceAdd,aAn,List.range,List.range.loop];refine aLS zZ (v:=nI (i+1)) rfl fF rfl (λw1 _ _=>aN8 (b:=1) rfl rfl BYO) ?_;refine aLS zZ (v:=nI (i+1)) rfl fF rfl (λw1 _ _=>⟨aA.move rfl,bQ.move⟩) ?_;refine aLZ zZ (CJ.inLoop zZ (CJ.seq zZ (CJ.region zZ ?_)));simp only[aBT,aBJ,aBv,Nat.reduceAdd,aAn,List.range,List.range.loop];have hlq:=hX.len;have aIc:i+1=m:=BYO;refine aLS zZ (v:=.bool false) rfl fF rfl (λw1 _ _=>aPY rfl rfl (decide_eq_false BYO)) (aLZ zZ (CJ.seq zZ (CJ.cond zZ false rfl (CJ.exit zZ rfl ?_))));have xC:=pY.iQ tg λb x h=>.inl h;refine CJ.sub (λa ha=>GD w6 a sq _ ha (bb.iQ tg λb x h=>.inr h) (aIc▸xC.own) (λg hg=>(xC.apart g hg).1) λj hj=>?_) (mH.sub ⟨rfl,rfl,trivial⟩);obtain⟨r',h1,_⟩:=hX.ch j hj;have Qu:(vs++[Value.slice A vn vc]).length=m:=by simp[hlen,aIc]
  exact⟨_,aDZ (by rw[Qu];exact hj),aLW j r' _ _ h1 (aDZ (by rw[Qu];exact hj))⟩
def Ba(fF:bf.kind≠.early)(hn6:n<=6)(hm:m=(n+1)/2){qs:Qs}
  (GD:∀w a nx vs,Ad a 47 ds [(5,nx),(1,.pointer (some ⟨pb,0,none⟩))]->Gc Z (Qg bR n pv ls) bW w pb pk n c m pv ls ob bR m qs->w.ownsRow 0 22 1 nx m vs->(∀g,nx.ownBlock=some g->¬bW g)->(∀j,j<m->∃v,vs[j]?=some v/\Qg bR n pv ls j v w)->
   MT Tryz.prog lo link.tWg Post .calm (Whole lo link.tWg w) (λ_ _=>False) (G (bf.at a (.code Kb::K0)) cs) w):
  ∀q i,m=i+(q+1)->∀w a nx vs,Ad a 47 ds (gEE pb bR m i nx)->Gc Z (Qg bR n pv ls) bW w pb pk n c m pv ls ob bR m qs->N9 w bW ob bR nx i vs->
   MT Tryz.prog lo link.tWg Post (.ch qs none vs false) (KR nx) (rA bW ob bR m) (G (bf.at a (.code gE:: .inLoop gE:: .inBlock 4:: .code Kb::K0)) cs) w:=by
 intro q;induction q with
 |zero=>exactλi hi=>Az fF hn6 hm GD BYO λh=>absurd h BYO
 |succ q ih=>exactλi hi=>Az fF hn6 hm GD BYO λ_=>ih (i+1) BYO
end
end Rk.Cw
namespace Rk
variable{n j:Nat}{ls ms:Nat->List It}{L:List It}
def iV(n:Nat)(ls:Nat->List It):List It:=(List.range n).flatMap ls
def fC(n:Nat)(ls:Nat->List It):iV (n+1) ls=iV n ls++ls n:=by simp[iV,aGV]
def FJ(h:∀j,j<n->ls j=ms j):iV n ls=iV n ms:=by
 induction n with
 |zero=>rfl
 |succ n ih=>rw[fC,fC,ih λj hj=>h j BYO,h n BYO]
def Uh(hj:j<n){x:It}(hx:x∈ls j):x∈iV n ls:=by
 simp only[iV,aGQ,aC5];exact⟨j,hj,hx⟩
def Ui(hj:j<n):(ls j).length<=(iV n ls).length:=by
 induction n with
 |zero=>omega
 |succ n ih=>
  rw[fC,aBh];by_cases e:j=n
  .subst e;omega
  .have:=ih BYO;omega
def Kc(hj:j+1<n):(ls j).length+(ls (j+1)).length<=(iV n ls).length:=by
 induction n with
 |zero=>omega
 |succ n ih=>
  rw[fC,aBh];by_cases e:j+1=n
  .subst e;rw[fC,aBh];omega
  .have:=ih BYO;omega
def KU(h:∀j,j<n->iC (ls j) (ms j)):iC (iV n ls) (iV n ms):=by
 induction n with
 |zero=>exact iC.refl _
 |succ n ih=>
  rw[fC,fC];exact(ih λj hj=>h j BYO).append (h n BYO)
def qN(n:Nat)(ls:Nat->List It)(j:Nat):List It:=ls (2*j)++if 2*j+1<n then ls (2*j+1) else []
def BA(ls:Nat->List It)(m:Nat):iV m (λj=>ls (2*j)++ls (2*j+1))=iV (2*m) ls:=by
 induction m with
 |zero=>rfl
 |succ m ih=>rw[fC,ih,show 2*(m+1)=2*m+1+1 by omega,fC,fC,aCb]
def Bb(n:Nat)(ls:Nat->List It):iV ((n+1)/2) (qN n ls)=iV n ls:=by
 obtain⟨m,hm⟩:∃m,n=2*m\/n=2*m+1:=⟨n/2,BYO⟩;rcases hm with rfl|rfl
 .rw[show(2*m+1)/2=m by omega,<-BA];exact FJ λj hj=>by simp only[qN];rw[if_pos BYO]
 .rw[show(2*m+1+1)/2=m+1 by omega,fC,fC,<-BA]
  congr 1
  .exact FJ λj hj=>by simp only[qN];rw[if_pos BYO]
  .simp only[qN];rw[if_neg BYO,aDD]
structure GP(n:Nat)(ls:Nat->List It)(L:List It):Prop where
 sorted:∀j,j<n->cW (ls j)
 len:(iV n ls).length<=60
 ok:∀x∈iV n ls,iR x=true
 all:bS (iV n ls)=L
def GP.err(h:GP n ls L)(hj:j<n):aH (ls j).length (lf (ls j))=0:=by
 have h1:=Ui (ls:=ls) hj;have h2:=h.len;unfold aH;rw[if_neg BYO,if_pos];rw[dE];exact aCJ.2 λx hx=>h.ok x (Uh hj hx)
def GP.eC(h:GP n ls L)(hj:2*j+1<n):eC (ls (2*j)).length (lf (ls (2*j))) (ls (2*j+1)).length (lf (ls (2*j+1)))=0:=by
 have e1:dP (ls (2*j)).length (lf (ls (2*j)))=0:=iK.2 ⟨h.err BYO,by rw[dE];exact h.sorted _ BYO⟩;have e2:dP (ls (2*j+1)).length (lf (ls (2*j+1)))=0:=iK.2 ⟨h.err hj,by rw[dE];exact h.sorted _ hj⟩;have h1:=Kc (ls:=ls) hj;have h2:=h.len;unfold Rk.eC;rw[if_neg (by simp[e1]),if_neg (by simp[e2]),if_neg BYO]
def GP.next(h:GP n ls L):GP ((n+1)/2) (λj=>bS (qN n ls j)) L:=by
 have hs:iC (iV ((n+1)/2) λj=>bS (qN n ls j)) (iV n ls):=by
  have:=KU (n:=(n+1)/2) (ms:=qN n ls) λj _=>kA (qN n ls j);rwa[Bb]at this
 refine⟨λj _=>jA _,by rw[hs.length];exact h.len,λx hx=>h.ok x (hs.mem.1 hx),?_⟩;rw[<-h.all];exact vL (jA _) ((kA _).trans hs)
def GP.one(h:GP 1 ls L):ls 0=L:=by
 rw[<-h.all];have:iV 1 ls=ls 0:=by simp[iV]
 rw[this,tS (h.sorted 0 BYO)]
def Kd(f:Nat->It)(a b:Nat):aG f (a+b)=aG f a++aG (λi=>f (a+i)) b:=by
 induction b with
 |zero=>simp[aG]
 |succ b ih=>rw[<-Nat.add_assoc,gM,gM,ih,aCb]
def Uj(f:Nat->It)(n h:Nat)(h0:0<h):∀k,k<=h->iV k (λj=>aG (λi=>f (j*n/h+i)) ((j+1)*n/h-j*n/h))=aG f (k*n/h):=by
 intro k;induction k with
 |zero=>intro _;simp[iV,aG]
 |succ k ih=>
  intro hk;rw[fC,ih BYO,<-Kd]
  congr 1
  have:k*n/h<=(k+1)*n/h:=Nat.div_le_div_right (aC1 n BYO);omega
def GP.start{f:Nat->It}{h:Nat}(h0:0<h)(he:aH n f=0):GP h (λj=>bS (aG (λi=>f (j*n/h+i)) ((j+1)*n/h-j*n/h))) (bS (aG f n)):=by
 have e:iV h (λj=>aG (λi=>f (j*n/h+i)) ((j+1)*n/h-j*n/h))=aG f n:=by
  rw[Uj f n h h0 h (aAB _),Nat.mul_div_cancel_left _ h0]
 have hs:iC (iV h λj=>bS (aG (λi=>f (j*n/h+i)) ((j+1)*n/h-j*n/h))) (aG f n):=by
  rw[<-e];exact KU λj _=>kA _
 have h1:n<=60/\(aG f n).all iR=true:=by
  unfold aH at he;split at he
  .cases he
  .split at he
   .rename_i h1 h2;exact⟨BYO,h2⟩
   .cases he
 refine⟨λj _=>jA _,by rw[hs.length,aF];exact h1.1,λx hx=>aCJ.1 h1.2 x (hs.mem.1 hx),vL (jA _) ((kA _).trans hs)⟩
end Rk
namespace Rk.Cw
open Go Go.Conc Go.RowKit Go.Proofs Rk.fD
variable{w:World}{b pb pk c:Nat}{v:Value}{S:PS}{l:List It}{pv:Nat->Value}{ls:Nat->List It}
variable{lo:Nat}
open Go.ConcR (wgBlock WgAt)
def aSB{P:Program}{E:Env}{t:TypeId}{x y:Operand}{xt yt:TypeId}{a:Nat}{V:PS}{u:Bool}(hx:aM E x=some (nI a))(hy:aM E y=some (nI b))(hu:decide (b<a)=u):kQ P (.binOp .gtr xt x y yt) t E w (.bool u) V:=by
 refine⟨?_,bQ.gtr hx hy⟩;have h1:=aA.gtr (P:=P) (w:=w) (t:=t) (xt:=xt) (yt:=yt) hx hy;have e:decide ((a:Int)>(b:Int))=u:=by rw[<-hu];exact decide_eq_decide.2 Int.ofNat_lt
 rwa[e]at h1
def HJ{cs:Array Value}{T:TypeId}{fz:Nat×Nat}(h:w.heap[b]?=some (.cells cs T fz))(hT:T=link.tWg->∀st sm,cs≠#[.int .u64 st,.int .u32 sm]):¬JI lo link.tWg w b:=by
 rintro⟨-,⟨st,sm,h1⟩|⟨cap,buf,cl,s,rc,tm,h1⟩⟩
 .unfold WgAt wgBlock at h1;rw[h]at h1;cases h1;exact hT rfl st sm rfl
 .rw[h]at h1;cases h1
def rQ{w':World}(h:w'.heap[b]?=w.heap[b]?):JI lo link.tWg w' b↔JI lo link.tWg w b:=by
 unfold JI WgLive WgAt;rw[h]
def oK{o:Nat}(h:w.cell? ⟨b,o,none⟩=some v)(hv:∀n,v≠.int .u64 n/\v≠.int .u32 n):¬JI lo link.tWg w b:=by
 simp only[World.cell?]at h;cases hc:w.heap[b]? with
 |none=>rw[hc]at h;simp at h
 |some x=>
  rw[hc]at h;cases x with
  |cells cs T fz=>
   refine HJ hc λ_ st sm e=>?_;subst e;simp at h
   match o with
   |0=>simp at h;exact(hv st).1 h.symm
   |1=>simp at h;exact(hv sm).2 h.symm
   |o+2=>simp at h
  |_=>simp at h
def DM(h:Cut w S v l):Cut w (Whole lo link.tWg w) v l:=by
 obtain⟨A,c,h1,h2,h3,h4⟩:=h;refine⟨A,c,h1,h2,h3,λp hp=>?_⟩;obtain⟨h5,h6,h7,cs,T,fz,h8,h9⟩:=h4 p hp;refine⟨h5,⟨rfl,(aCH.1 h8).1,?_⟩,h7,cs,T,fz,h8,h9⟩;by_cases hl:l=[]
 .exact HJ h8 λe=>absurd ((h9 hl).symm.trans e) BYD
 .have hlen:0<l.length:=aC8.2 hl;obtain⟨b,o,e,h10,h11⟩:=h3 BYO;rw[e]at hp;cases hp;have:=h11 0 hlen 0 _ rfl;exact oK this λn=>⟨λe=>(by cases e),λe=>(by cases e)⟩
def Cut.set{x:Value}(h:Cut w S v l)(hp:∀k n,w.cell? ⟨pb,0,none⟩≠some (.int k n)):Cut (w.setCell ⟨pb,0,none⟩ x) S v l:=by
 obtain⟨A,c,h1,h2,h3,h4⟩:=h;refine⟨A,c,h1,h2,λhn=>?_,λp ND=>?_⟩
 .obtain⟨b,o,rfl,h5,h6⟩:=h3 hn;refine⟨b,o,rfl,by rw[Rk.fD.cL];exact h5,λi hi j u hu=>?_⟩;have h7:=h6 i hi j u hu;rw[mJ ?_]
  .exact h7
  .by_cases e:b=pb
   .subst e;refine .inr λe0=>?_;rw[e0]at h7;simp only[cB]at hu;rcases j with _|_|j<;>simp at hu<;>subst hu<;>exact hp _ _ h7
   .exact .inl e
 .obtain⟨h5,h6,h7,cs,T,fz,h8,h9⟩:=h4 p ND;refine⟨h5,h6,h7,?_⟩;by_cases e:p.block=pb
  .rw[<-e];exact⟨cs.setIfInBounds 0 x,T,fz,by simp[World.setCell,aDI,h8],h9⟩
  .exact⟨cs,T,fz,by rw[Rk.fD.eZ e];exact h8,h9⟩
structure Hd(lo:Nat)(w0 w:World)(V S:PS)(pb pk n c:Nat)(pv:Nat->Value)(ls:Nat->List It):Prop where
 en:w.cell? ⟨pb,0,none⟩=some (.slice (some ⟨pk,0,none⟩) n c)
 fpb:∃cs T,w.heap[pb]?=some (.cells cs T (0,0))/\0<cs.size
 pc:∀j,j<n->w.cell? ⟨pk,j,none⟩=some (pv j)
 cut:∀j,j<n->Cut w S (pv j) (ls j)
 gb:GB<=w.heap.size
 NJ:mQ w.heap.size S
 ya:S pb none
 spk:S pk none
 vS:∀b x,V b x->x=none/\S b none/\¬JI lo link.tWg w b
 vpb:∀x,¬V pb x
 old:bZ V w0 w
section
variable{Post:Value->World->Prop}{w0:World}{V:PS}{L:List It}{cf:Frame}{cs:List Frame}
def Ke(hn:∀S' w' v,mQ w'.heap.size S'->GB<=w'.heap.size->bZ V w0 w'->(∀b x,V b x->S' b x)->Cut w' S' v L->MT Tryz.prog lo link.tWg Post .calm S' (λ_ _=>False) (G (cf.finish v) cs) w')
 {a:Act}(ha:Ad a 47 [] [(1,.pointer (some ⟨pb,0,none⟩))])(hH:Hd lo w0 w V S pb pk 1 c pv ls)(hG:GP 1 ls L):
  MT Tryz.prog lo link.tWg Post .calm S (λ_ _=>False) (G ((base 66).at a [.code N8]) (cf::cs)) w:=by
 have hJ:=MT.own (P:=Tryz.prog) (lo:=lo) (ty:=link.tWg) (Post:=Post) (ms:=.calm) (R:=λ_ _=>False);suffices key:CJ (λS g w=>MT Tryz.prog lo link.tWg Post .calm S (λ_ _=>False) g w) (base 66) (cf::cs) 47 [] S [(1,.pointer (some ⟨pb,0,none⟩))] [.code N8] w from key a ha;refine CJ.seq hJ (CJ.region hJ ?_);simp only[aBT,aBJ,aBv,Nat.reduceAdd,aAn,List.range,List.range.loop];refine CJ.load hJ nW rfl BYD rfl rfl hH.en (.inl (.inl hH.ya)) ?_;refine aLS hJ (v:=.pointer (some ⟨pk,0,none⟩)) rfl BYD rfl (λw1 _ _=>kQ.idx An pW (k:=0) rfl rfl BYO) ?_;refine CJ.load hJ pW rfl BYD rfl rfl (hH.pc 0 BYO) (.inl (.inl hH.spk)) ?_;refine aLS hJ (v:=pv 0) rfl BYD rfl (λ_ _ _=>⟨aA.assign rfl,bQ.assign⟩) ?_;refine aLZ hJ (aTU hJ Tryz.func66 rfl rfl ?_);have:=hH.cut 0 BYO;rw[hG.one]at this;exact hn S w _ hH.NJ hH.gb hH.old (λb x hb=>by obtain⟨rfl,h2,_⟩:=hH.vS b x hb;exact h2) this
def Bc(EP:lo<=w0.heap.size)(hn:∀S' w' v,mQ w'.heap.size S'->GB<=w'.heap.size->bZ V w0 w'->(∀b x,V b x->S' b x)->Cut w' S' v L->MT Tryz.prog lo link.tWg Post .calm S' (λ_ _=>False) (G (cf.finish v) cs) w'):
  ∀N n,n<=N->1<=n->n<=6->∀S w a pb pk c pv ls,Ad a 47 [] [(1,.pointer (some ⟨pb,0,none⟩))]->Hd lo w0 w V S pb pk n c pv ls->GP n ls L->
   MT Tryz.prog lo link.tWg Post .calm S (λ_ _=>False) (G ((base 66).at a [.code gB,.inLoop gB,.inBlock 0,.code N8]) (cf::cs)) w:=by
 intro N;induction N with
 |zero=>intro n h1 h2;omega
 |succ N ih=>
 intro n hnN h1 h6 S w a pb pk c pv ls ha hH hG;have hJ:=MT.own (P:=Tryz.prog) (lo:=lo) (ty:=link.tWg) (Post:=Post) (ms:=.calm) (R:=λ_ _=>False);suffices key:CJ (λS g w=>MT Tryz.prog lo link.tWg Post .calm S (λ_ _=>False) g w) (base 66) (cf::cs) 47 [] S [(1,.pointer (some ⟨pb,0,none⟩))] [.code gB,.inLoop gB,.inBlock 0,.code N8] w from key a ha;refine CJ.seq hJ (CJ.seq hJ (CJ.region hJ ?_));simp only[aBT,aBJ,aBv,Nat.reduceAdd,aAn,List.range,List.range.loop];refine CJ.load hJ nW rfl BYD rfl rfl hH.en (.inl (.inl hH.ya)) ?_;refine aLS hJ (v:=nI n) rfl BYD rfl (λw1 _ _=>⟨aL3 An rfl,aMW An rfl⟩) ?_;by_cases XK:n=1
 .subst XK;refine aLS hJ (v:=.bool false) rfl BYD rfl (λw1 _ _=>aSB (b:=1) rfl rfl BYD) ?_;refine aLZ hJ (CJ.cond hJ false rfl (CJ.exit hJ rfl ?_));exact CJ.sub (λa ha=>Ke hn ha hH hG) (mH.sub ⟨rfl,trivial⟩)
 have zd:2<=n:=BYO;refine aLS hJ (v:=.bool true) rfl BYD rfl (λw1 _ _=>aSB (b:=1) rfl rfl (decide_eq_true BYO)) ?_;refine aLZ hJ (CJ.cond hJ true rfl (CJ.skip hJ (CJ.block hJ (CJ.seq hJ (CJ.region hJ ?_)))));simp only[aBT,aBJ,aBv,Nat.reduceAdd,aAn,List.range,List.range.loop];obtain⟨m,hm⟩:∃m,m=(n+1)/2:=⟨_,rfl⟩;refine CJ.load hJ nW rfl BYD rfl rfl hH.en (.inl (.inl hH.ya)) ?_;refine aLS hJ (v:=nI n) rfl BYD rfl (λw1 _ _=>⟨aL3 An rfl,aMW An rfl⟩) ?_;refine aLS hJ (v:=nI (n+1)) rfl BYD rfl (λw1 _ _=>aN8 (b:=1) rfl rfl BYO) ?_;refine aLS hJ (v:=nI m) rfl BYD rfl (λw1 _ _=>by rw[hm];exact aO9 (b:=2) rfl rfl BYO BYO) ?_;refine aR5 hJ xF KQ (n:=m) BYO BYO rfl BYD rfl rfl rfl λw1 vX=>?_;rw[or_false]at vX;have PC:=vX.trans (gN (.cells (madeCells (Value.chan none).cells (m*1)) 177) (hH.NJ.mono vX.size));have nB:=cN w1 (madeCells (Value.chan none).cells (m*1)) 177;have Ec:(madeCells (Value.chan none).cells (m*1)).size=m:=by rw[size_madeCells,Nat.mul_one]
 have mP:(w1.alloc (.cells (madeCells (Value.chan none).cells (m*1)) 177)).heap.size=w1.heap.size+1:=BYS;have WE:=vX.size;obtain⟨bR,aMp⟩:∃bR,bR=w1.heap.size:=⟨_,rfl⟩;rw[<-aMp]at nB mP WE⊢;generalize aRF:madeCells (Value.chan none).cells (m*1)=dc at PC nB mP Ec⊢;generalize w1.alloc _=W1 at PC nB mP⊢;refine CJ.alloc hJ AX rfl BYD rfl λw2 Mc=>?_;rw[or_false]at Mc;have Ly:mQ w2.heap.size (S.or λb x=>x=none/\b=bR):=λb x hx=>by
  have:=Mc.size;rcases hx with hx|⟨_,e⟩
  .have:=hH.NJ b x hx;omega
  .omega
 have WK:=Mc.trans (gN (.cells (Value.slice none 0 0).cells 176) Ly);have HS:=(WK.all bR (.inr ⟨rfl,rfl⟩)).trans nB;have fq:=cN w2 (Value.slice none 0 0).cells 176;have qO:(w2.alloc (.cells (Value.slice none 0 0).cells 176)).heap.size=w2.heap.size+1:=BYS;have OO:=Mc.size;obtain⟨ob,yY⟩:∃ob,ob=w2.heap.size:=⟨_,rfl⟩;rw[<-yY]at fq qO OO⊢;generalize w2.alloc _=W2 at WK HS fq qO⊢;refine CJ.store hJ AX rfl BYD rfl rfl rfl rfl (.inl (.inr ⟨rfl,rfl⟩)) fq (by simp[Value.cells]) λw3 c3 uj hc3 Xi _=>?_;rw[or_false]at uj;have CK:∀x,¬(S.or λb x=>x=none/\b=bR) ob x:=λx hx=>by have:=Ly ob x hx;omega
 have ur:bZ (S.or λb x=>x=none/\b=bR) W2 (w3.setCell ⟨ob,0,none⟩ (.slice (some ⟨bR,0,none⟩) m m)):=(uj.sub λ_ _ h=>.inl h).trans (nV CK);have hp3:=(ur.all bR (.inr ⟨rfl,rfl⟩)).trans HS;have hq3:(w3.setCell ⟨ob,0,none⟩ (.slice (some ⟨bR,0,none⟩) m m)).cell? ⟨ob,0,none⟩=some (.slice (some ⟨bR,0,none⟩) m m):=tB hc3 (by rw[Xi];simp[Value.cells]);have aLa:=ur.size;generalize w3.setCell _ _=W3 at ur hp3 hq3 aLa⊢;have hA:bZ S w W3:=PC.trans ((WK.sub λ_ _ h=>.inl h).trans (ur.sub λ_ _ h=>.inl h));have hX:Gc (λw'=>(∃cs T,w'.heap[pb]?=some (.cells cs T (0,0))/\0<cs.size)/\bZ V w0 w') (Qg bR n pv ls) (λb=>S b none) W3 pb pk n c m pv ls ob bR 0 []:=
  ⟨cT hA (.inl hH.ya) hH.en,λj hj=>cT hA (.inl hH.spk) (hH.pc j hj),λj hj=>((hH.cut j hj).iQ hA).mono λb hb=>⟨rfl,hb⟩,hq3,aBS hH.gb hA.size,rfl,λj hj=>absurd hj BYO,hH.ya,hH.spk,λb hb=>by have:=hH.NJ b none hb;omega,BYO,BYO,λh=>by have:=hH.NJ _ _ h;omega,λh=>by have:=hH.NJ _ _ h;omega,BYO,
   λw' j0 hw ⟨⟨cs,T,h2,h3⟩,h4⟩=>⟨⟨cs,T,(hw.all pb ⟨rfl,hH.ya⟩).trans h2,h3⟩,h4.trans (hw.sub λb x hx=>by obtain⟨rfl,h5,_⟩:=hH.vS b x hx;exact⟨rfl,h5⟩)⟩,
   by obtain⟨cs,T,h2,h3⟩:=hH.fpb;exact⟨cs,T,(hA.all pb hH.ya).trans h2,h3⟩,hH.old.trans (hA.sub λb x hx=>by obtain⟨rfl,h5,_⟩:=hH.vS b x hx;exact h5)⟩
 refine aLZ hJ (CJ.seq hJ (CJ.seq hJ (CJ.region hJ ?_)));simp only[aBT,aBJ,aBv,Nat.reduceAdd,aAn,List.range,List.range.loop];refine CJ.load hJ AX rfl BYD rfl rfl hq3 (.inl (.inl (.inr ⟨rfl,rfl⟩))) ?_;refine aLS hJ (v:=nI m) rfl BYD rfl (λw1 _ _=>⟨aL3 KQ rfl,aMW KQ rfl⟩) ?_;refine aLS hJ (v:=nI 0) rfl BYD rfl (λ_ _ _=>⟨aA.move rfl,bQ.move⟩) ?_;refine aLZ hJ (CJ.block hJ (CJ.loop hJ ?_));refine CJ.sub (E':=gE0 pb ob m 0) (λa ha=>MT.Xf ?_ (Aw (Post:=Post) (cs:=cf::cs) (ds:=[]) BYD (λw h=>aBS EP h.2.size) h6 hm BYO (λj hj=>hG.eC hj) (λw4 qs a4 ha4 Mu=>?_) m 0 BYO W3 a [] .calm (.inl ⟨rfl,rfl⟩) ha hX λ_=>⟨dc,_,hp3,Ec⟩)) (mH.sub ⟨rfl,rfl,rfl,rfl,trivial⟩)
 .have hw:bP (mS bR 0 m) ((S.or λb x=>x=none/\b=bR).or λb x=>x=none/\b=ob):=λb x ⟨e,_⟩=>.inl (.inl (.inr ⟨rfl,e⟩));refine⟨hw,λb x hx=>?_⟩;rcases hx with hx|⟨e,hx|hx⟩|⟨_,j,_,hj⟩
  .exact(hw b x hx).imp .inl .inl
  .exact .inl (.inl (.inl (.inl hx)))
  .exact .inl (.inl (.inr ⟨rfl,hx⟩))
  .omega
 have Xa:=MT.own (P:=Tryz.prog) (lo:=lo) (ty:=link.tWg) (Post:=Post) (ms:=.ch qs none [] false) (R:=rA (λb=>S b none) ob bR m);suffices key:CJ (λS' g w=>MT Tryz.prog lo link.tWg Post (.ch qs none [] false) S' (rA (λb=>S b none) ob bR m) g w) (base 66) (cf::cs) 47 [] (mS bR m m) (gE0 pb ob m m) (.code gT2::K0) w4 from key a4 ha4;refine CJ.seq Xa (CJ.region Xa ?_);simp only[aBT,aBJ,aBv,Nat.reduceAdd,aAn,List.range,List.range.loop];refine aLS Xa (v:=.slice none 0 0) rfl BYD rfl (λ_ _ _=>⟨aA.assign rfl,bQ.assign⟩) ?_;refine aLZ Xa (CJ.seq Xa (CJ.seq Xa (CJ.region Xa ?_)));simp only[aBT,aBJ,aBv,Nat.reduceAdd,aAn,List.range,List.range.loop];refine CJ.load Xa AX rfl BYD rfl rfl Mu.ek (.inl (.inr (.inl ⟨rfl,.inr rfl⟩))) ?_;refine aLS Xa (v:=nI m) rfl BYD rfl (λw1 _ _=>⟨aL3 KQ rfl,aMW KQ rfl⟩) ?_;refine aLS Xa (v:=nI 0) rfl BYD rfl (λ_ _ _=>⟨aA.move rfl,bQ.move⟩) ?_;refine aLZ Xa (CJ.block Xa (CJ.loop Xa ?_));refine CJ.sub (E':=gEE pb bR m 0 (.slice none 0 0)) (λa ha=>MT.Xf ?_ (Ba (Post:=Post) (cs:=cf::cs) (ds:=[]) BYD h6 hm (λw5 a5 nx vs tp bb Ws Xo b9=>?_) (m-1) 0 BYO w4 a (.slice none 0 0) [] ha Mu ⟨⟨rfl,.inl ⟨rfl,rfl⟩⟩,λg hg=>by cases hg⟩)) (mH.sub ⟨rfl,rfl,rfl,rfl,rfl,trivial⟩)
 .exact⟨λb x hx=>(by obtain⟨_,hx⟩:=hx;cases hx),λb x hx=>.inr (hx.elim (λh=>by obtain⟨_,hx⟩:=h;cases hx) .inr)⟩
 have hJ5:=hJ;suffices key:CJ (λS g w=>MT Tryz.prog lo link.tWg Post .calm S (λ_ _=>False) g w) (base 66) (cf::cs) 47 [] (Whole lo link.tWg w5) [(5,nx),(1,.pointer (some ⟨pb,0,none⟩))] (.code Kb::K0) w5 from key a5 tp;obtain⟨⟨csb,Tb,aH1,aKo⟩,hV5⟩:=bb.z;have hm0:0<m:=BYO;obtain⟨g,cap,cur,rfl,fU,hmc,hcz,ua⟩:∃g cap cur,nx=.slice (some ⟨g,0,none⟩) m cap/\w5.heap[g]?=some (.cells cur 22 (0,0))/\m<=cap/\cur.size=cap*1/\cur.toList.take (m*1)=vs:=by
  rcases Ws.2 with⟨_,e⟩|⟨g,cap,cur,e,_,h2,h3,_,h4,h5⟩
  .omega
  .exact⟨g,cap,cur,e,h2,h3,h4,h5⟩
 have Wx:g≠pb:=λe=>Xo g rfl (e▸hH.ya);have ee:Whole lo link.tWg w5 pb none:=⟨rfl,(aCH.1 aH1).1,oK bb.en λn=>⟨λe=>(by cases e),λe=>(by cases e)⟩⟩;have hwg:Whole lo link.tWg w5 g none:=⟨rfl,(aCH.1 fU).1,HJ fU λe=>absurd e BYD⟩;have Qu:vs.length=m:=by have:=Ws.1;omega
 have hcg:∀j,j<m->w5.cell? ⟨g,j,none⟩=some (vs.getD j undef):=λj hj=>by
  have h2:cur[j]?=vs[j]?:=by
   rw[<-ua,aGr,if_pos BYO,aIW]
  simp only[World.cell?,fU];rw[aIA,aDZ BYO];simp[h2,Qu,hj]
 have zP:∀j,j<m->Cut w5 (Whole lo link.tWg w5) (vs.getD j undef) (bS (qN n ls j)):=λj hj=>by
  obtain⟨v,hv,hq1,fq⟩:=b9 j hj;have e:vs.getD j undef=v:=by rw[aIA,hv];rfl
  rw[e];by_cases qQ:2*j+1=n
  .have e2:qN n ls j=ls (2*j):=by simp only[qN];rw[if_neg BYO,aDD]
   rw[hq1 qQ,e2,tS (hG.sorted _ BYO)];exact DM (bb.cut _ BYO)
  .have e2:qN n ls j=ls (2*j)++ls (2*j+1):=by simp only[qN];rw[if_pos BYO]
   rw[e2];exact DM (fq BYO)
 refine CJ.region hJ5 ?_;simp only[aBT,aBJ,aBv,Nat.reduceAdd,aAn,List.range,List.range.loop];refine aLS hJ5 (v:=.slice (some ⟨g,0,none⟩) m cap) rfl BYD rfl (λ_ _ _=>⟨aA.move rfl,bQ.move⟩) ?_;refine CJ.store hJ5 nW rfl BYD rfl rfl rfl rfl (.inl ee) aH1 aKo λw6 c6 XI hc6 hl6 _=>?_;rw[or_false]at XI;refine aLZ hJ5 (CJ.inBlock hJ5 (CJ.inLoop hJ5 ?_));have aM6:=cT XI (.inl ee) bb.en;have hVW:∀b x,V b x->Whole lo link.tWg w5 b x:=λb x hb=>by
  obtain⟨rfl,h2,h3⟩:=hH.vS b x hb;exact⟨rfl,bb.low b h2,λh4=>h3 ((rQ (hH.old.all b hb)).2 ((rQ (hV5.all b hb)).1 h4))⟩
 have FW:(w6.setCell ⟨pb,0,none⟩ (.slice (some ⟨g,0,none⟩) m cap)).heap.size=w6.heap.size:=by rw[Rk.fD.cL]
 have zT:=XI.size;refine CJ.sub (E':=[(1,.pointer (some ⟨pb,0,none⟩))]) (λa ha=>ih m BYO BYO BYO (Whole lo link.tWg w5) _ a pb g cap (λj=>vs.getD j undef) (λj=>bS (qN n ls j)) ha ?_ (hm▸hG.next)) (mH.sub ⟨rfl,trivial⟩);obtain⟨cs6,T6,hs6,aRu⟩:=Jt (o:=0) (v:=.slice (some ⟨g,0,none⟩) m cap) hc6 hl6;refine⟨tB hc6 BYO,⟨cs6,T6,hs6,BYO⟩,λj hj=>(mJ (.inl Wx)).trans (cT XI (.inl hwg) (hcg j hj)),λj hj=>((zP j hj).iQ XI).set λk n e=>?_,?_,λb x hb=>?_,ee,hwg,λb x hb=>?_,hH.vpb,?_⟩
 .rw[aM6]at e;cases e
 .rw[FW];exact aBS bb.gb zT
 .rw[FW];have:=hb.2.1;omega
 .obtain⟨rfl,h2,h3⟩:=hH.vS b x hb;refine⟨rfl,hVW b _ hb,λh4=>(hVW b _ hb).2.2 ?_⟩;have cQ:b≠pb:=λe=>hH.vpb none (e▸hb);exact(rQ (XI.all b (hVW b _ hb))).1 ((rQ (Rk.fD.eZ cQ)).1 h4)
 .exact(hV5.trans (XI.sub hVW)).trans (nV hH.vpb)
def Kf(EP:lo<=w0.heap.size)(hn:∀S' w' v,mQ w'.heap.size S'->GB<=w'.heap.size->bZ V w0 w'->(∀b x,V b x->S' b x)->Cut w' S' v L->MT Tryz.prog lo link.tWg Post .calm S' (λ_ _=>False) (G (cf.finish v) cs) w')
  {n:Nat}(h1:1<=n)(h6:n<=6)(hpc:∀j,j<n->w.cell? ⟨pk,j,none⟩=some (pv j))(zP:∀j,j<n->Cut w S (pv j) (ls j))(hG:GP n ls L)(hg:GB<=w.heap.size)(hi:mQ w.heap.size S)(Xt:S pk none)
  (hV:∀b x,V b x->x=none/\S b none/\¬JI lo link.tWg w b)(hold:bZ V w0 w):
  MT Tryz.prog lo link.tWg Post .calm S (λ_ _=>False) (G (Frame.enter Tryz.prog 66 #[.slice (some ⟨pk,0,none⟩) n c] .normal) (cf::cs)) w:=by
 have hJ:=MT.own (P:=Tryz.prog) (lo:=lo) (ty:=link.tWg) (Post:=Post) (ms:=.calm) (R:=λ_ _=>False);rw[enter_at _ Tryz.func66 rfl];suffices key:CJ (λS g w=>MT Tryz.prog lo link.tWg Post .calm S (λ_ _=>False) g w) (base 66) (cf::cs) 47 [] S [(0,.slice (some ⟨pk,0,none⟩) n c)] [.code _] w from
  key _ ⟨by simp[Tryz.ntmps66],rfl,λj v hj=>by
   have:=iY [.slice (some ⟨pk,0,none⟩) n c] 0 j v hj;obtain⟨_,h2⟩:=this;rw[aD5]at h2;rcases j with _|j<;>simp at h2<;>subst h2<;>simp[aGx]⟩
 refine CJ.seq hJ (CJ.region hJ ?_);simp only[aBT,aBJ,aBv,Nat.reduceAdd,aAn,List.range,List.range.loop];refine CJ.box hJ (v:=.slice (some ⟨pk,0,none⟩) n c) rfl BYD rfl rfl λw1 vX=>?_;rw[or_false]at vX;have PC:=vX.trans (gN (.cells (Value.slice (some ⟨pk,0,none⟩) n c).cells 125) (hi.mono vX.size));have dr:=Jx (o:=.cells (Value.slice (some ⟨pk,0,none⟩) n c).cells 125) hi vX;have dM:=AZ w1 (.slice (some ⟨pk,0,none⟩) n c) 125 rfl;have zO:=cN w1 (Value.slice (some ⟨pk,0,none⟩) n c).cells 125;have WE:=vX.size;obtain⟨pb,xK⟩:∃pb,pb=w1.heap.size:=⟨_,rfl⟩;rw[<-xK]at dr dM zO WE⊢;generalize w1.alloc _=W1 at PC dr dM zO⊢;refine aLS hJ (v:=.slice none 0 0) rfl BYD rfl (λ_ _ _=>⟨aA.assign rfl,bQ.assign⟩) ?_;refine aLZ hJ (CJ.seq hJ (CJ.block hJ (CJ.loop hJ ?_)));refine CJ.sub (E':=[(1,.pointer (some ⟨pb,0,none⟩))]) (λa ha=>Bc EP hn n n (aAB _) h1 h6 _ W1 a pb pk c pv ls ha ?_ hG) (mH.sub ⟨rfl,trivial⟩);have hbl:∀b x,S b x->b<w.heap.size:=hi;refine⟨dM,⟨_,_,zO,by simp[Value.cells]⟩,λj hj=>cT PC (.inl Xt) (hpc j hj),λj hj=>((zP j hj).iQ PC).mono λb hb=>.inl hb,aBS hg PC.size,dr,.inr ⟨rfl,rfl⟩,.inl Xt,λb x hb=>?_,λx hb=>?_,hold.trans (PC.sub λb x hb=>by obtain⟨rfl,h2,_⟩:=hV b x hb;exact h2)⟩
 .obtain⟨h2,h3,h4⟩:=hV b x hb;exact⟨h2,.inl h3,λh5=>h4 ((rQ (PC.all b h3)).1 h5)⟩
 .obtain⟨_,h3,_⟩:=hV pb x hb;have:=hbl _ _ h3;omega
end
section
variable{Post:Value->World->Prop}{n:Nat}{A:Option Addr}{f:Nat->It}{cf:Frame}{cs:List Frame}{z:Int}{V:PS}
def Uk(hS:∀b,b<w.heap.size->S b none)(hi:mQ w.heap.size S)(hr:aE cB 2 w A n f)(hA:Seen w (λb x=>x=none/\b<w.heap.size) A)(hg:GB<=w.heap.size)(sa:n<=c)(he:aH n f=0)
  (EP:lo<=w.heap.size)(hV:∀b x,V b x->x=none/\b<w.heap.size/\¬JI lo link.tWg w b)
  (aCE:¬(1<=z/\z<=6)->∀S' w',bZ (λb x=>x=none/\b<w.heap.size) w w'->(∀b,b<w.heap.size->S' b none)->MT Tryz.prog lo link.tWg Post .calm S' (λ_ _=>False) (G (cf.finish (.tuple #[.slice none 0 0,cI 1])) cs) w')
  (hn:(1<=z/\z<=6)->∀S' w' v,mQ w'.heap.size S'->GB<=w'.heap.size->bZ V w w'->(∀b x,V b x->S' b x)->Cut w' S' v (bS (aG f n))->MT Tryz.prog lo link.tWg Post .calm S' (λ_ _=>False) (G (cf.finish (.tuple #[v,.nilIface])) cs) w'):
  MT Tryz.prog lo link.tWg Post .calm S (λ_ _=>False) (G (Frame.enter Tryz.prog 22 #[.slice A n c,.int .i64 z] .normal) (cf::cs)) w:=by
 refine Jy hS hi hr hA hg sa he EP aCE λh hz h1 h6 w1 pb pk Wg wD fQ xK hQ=>?_;have hJ:=MT.own (P:=Tryz.prog) (lo:=lo) (ty:=link.tWg) (Post:=Post) (ms:=.calm) (R:=λ_ _=>False);have ee:Whole lo link.tWg w1 pb none:=⟨rfl,by
  simp only[World.cell?]at xK;cases hc:w1.heap[pb]? with
  |none=>rw[hc]at xK;simp at xK
  |some x=>exact(aCH.1 hc).1,oK xK λn=>⟨λe=>(by cases e),λe=>(by cases e)⟩⟩
 have hq:∀j,j<h->∃v,w1.cell? ⟨pk,j,none⟩=some v/\Cut w1 (Whole lo link.tWg w1) v (bS (aG (λi=>f (j*n/h+i)) ((j+1)*n/h-j*n/h))):=λj hj=>by
  obtain⟨v,h2,h3⟩:=hQ j hj;exact⟨v,h2,DM h3⟩
 have aNB:Whole lo link.tWg w1 pk none:=by
  obtain⟨v,h2,A',c',rfl,_⟩:=hq 0 BYO;refine⟨rfl,?_,oK h2 λn=>⟨λe=>(by cases e),λe=>(by cases e)⟩⟩;simp only[World.cell?]at h2;cases hc:w1.heap[pk]? with
  |none=>rw[hc]at h2;simp at h2
  |some x=>exact(aCH.1 hc).1
 refine CJ.seq hJ (CJ.region hJ ?_);simp only[aBT,aBJ,aBv,Nat.reduceAdd,aAn,List.range,List.range.loop];refine CJ.load hJ nW rfl BYD rfl rfl xK (.inl (.inl ee)) ?_;refine aPj hJ (xs:=[.tmp 29]) (us:=[.slice (some ⟨pk,0,none⟩) h h]) rfl BYD rfl Tryz.func66 BYK rfl rfl λcf1 dc tY=>?_;refine Kf EP (w0:=w) (V:=V) (L:=bS (aG f n)) (λS' w' v h2 h3 h4 h5 h7=>tY (λS g w=>MT Tryz.prog lo link.tWg Post .calm S (λ_ _=>False) g w) S' v w' ?_) h1 h6 (pv:=λj=>(w1.cell? ⟨pk,j,none⟩).getD undef) (λj hj=>?_) (λj hj=>?_) (GP.start BYO he) fQ (λb x hb=>hb.2.1) aNB (λb x hb=>?_) (wD.sub λb x hb=>by obtain⟨rfl,h2,_⟩:=hV b x hb;exact⟨rfl,h2⟩)
 .refine aLS hJ (v:=v) rfl BYD rfl (λ_ _ _=>⟨aA.assign rfl,bQ.assign⟩) ?_;refine aLS hJ (v:=.nilIface) rfl BYD rfl (λ_ _ _=>⟨aA.assign rfl,bQ.assign⟩) ?_;exact aLZ hJ (aSA hJ Tryz.func22 rfl rfl rfl (hn BYO S' w' v h2 h3 h4 h5 h7))
 .obtain⟨v,h2,_⟩:=hq j hj;rw[h2];rfl
 .obtain⟨v,h2,h3⟩:=hq j hj;simp only[h2,aFV];exact h3
 .obtain⟨rfl,h2,h3⟩:=hV b x hb;have h4:¬JI lo link.tWg w1 b:=λh5=>h3 ((rQ (wD.all b ⟨rfl,h2⟩)).1 h5);exact⟨rfl,⟨rfl,aAx h2 wD.size,h4⟩,h4⟩
end
end Rk.Cw
