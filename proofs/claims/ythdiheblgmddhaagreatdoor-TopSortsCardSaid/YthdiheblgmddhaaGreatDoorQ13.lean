/- Part of the proof of TopSorts. -/
import Derived.Test.YthdiheblgmddhaaGreatDoorQ12
set_option linter.all false
set_option maxHeartbeats 8000000
namespace Rk.Hx
open Go Go.RowKit Go.Proofs
abbrev aIu:=Int×Int×Int
def aAk(x:aIu):List Value:=[.int .i64 x.1,.int .i64 x.2.1,.int .i64 x.2.2]
abbrev aJD(x:aIu):Value:=.agg (aAk x).toArray
def aHn(x:aIu):(aAk x).length=3:=rfl
def aJB(x:aIu):∀u∈aAk x,u.oneCell'=true:=by simp[aAk,Value.oneCell']
def aJE(x:aIu):(aJD x).cells.toList=aAk x:=rfl
def z_o:Value:=.agg #[.int .i64 0,.int .i64 0,.int .i64 0]
def aIy:Ty tz 120 true 3 24 z_o:=aLt BYK (λ_=>BYK) rfl
def aJS:tz.underlying 120=some (.struct (tz.fieldsOf 120)):=BYK
def aJg:((tz.fieldsOf 120)[0]?).map (λf=>(f.offset,f.type))=some (0,3):=BYK
def aJx:((tz.fieldsOf 120)[1]?).map (λf=>(f.offset,f.type))=some (1,3):=BYK
def aS0:((tz.fieldsOf 120)[2]?).map (λf=>(f.offset,f.type))=some (2,3):=BYK
def aIz(x:aIu):Prop:=0<=x.2.1/\x.2.1<=9223372036854775807
instance:G.Key aIu:=⟨λx=>x.1*9223372036854775808+x.2.1⟩
def aJK{a b:aIu}(ha:aIz a)(hb:aIz b):G.Key.key a<G.Key.key b↔a.1<b.1\/a.1=b.1/\a.2.1<b.2.1:=by
 simp only[G.Key.key,aIz]at*;omega
section
variable{E:Env}{w:World}{t:TypeId}{x y z:Operand}{bk o:Nat}{a b:Int}
def aNG(hx:aM E x=some (.pointer (some ⟨bk,o,none⟩)):=by with_unfolding_all exact rfl):aA tz (.fieldAddr 120 x 0) t E w (.pointer (some ⟨bk,o,none⟩)) w:=aA.fieldAddr (off:=0) aJS aJg aN BYO hx
def aMo(hx:aM E x=some (.pointer (some ⟨bk,o,none⟩)):=by with_unfolding_all exact rfl):aA tz (.fieldAddr 120 x 1) t E w (.pointer (some ⟨bk,o+1,none⟩)) w:=aA.fieldAddr aJS aJx aN BYO hx
def aQg(hx:aM E x=some (.pointer (some ⟨bk,o,none⟩)):=by with_unfolding_all exact rfl):aA tz (.fieldAddr 120 x 2) t E w (.pointer (some ⟨bk,o+2,none⟩)) w:=aA.fieldAddr aJS aS0 aN BYO hx
def aPt{d:Int}(hx:aM E x=some (.int .i64 a):=by with_unfolding_all exact rfl)(hy:aM E y=some (.int .i64 b):=by with_unfolding_all exact rfl)(hz:aM E z=some (.int .i64 d):=by with_unfolding_all exact rfl):aA tz (.build 120 #[(0,x),(1,y),(2,z)]) t E w (aJD (a,b,d)) w:=
 aA.build (parts:=[(0,x),(1,y),(2,z)]) (ps:=[(0,.int .i64 a),(1,.int .i64 b),(2,.int .i64 d)]) (by simp[OA,hx,hy,hz]) BYK
section
variable{ops:Array Oper}{K:Env->World->Prop}{N d_:Nat}{rest:List Oper}{pos:String}{after:Array Edge}{C:World->Prop}{R:Env->Prop}
end
end
section
variable{ops:Array Oper}{K:Env->World->Prop}{R:Env->Prop}{N:Nat}{E:Env}{rest:List Oper}{w:World}{t:TypeId}{pos:String}{after:Array Edge}{d:Nat}{x:Operand}{g:Nat}{te:TypeId}{y:aIu}
def aOk(hx:aM E x=some (.pointer (some ⟨g,0,none⟩)):=by with_unfolding_all exact rfl)(hb:Bk w g te (aAk y):=by assumption):OpB tz (.load 120 x) t E w (.agg (aAk y).toArray):=λ_ hw=>aL5 (cs:=aAk y) aIy hx (aHn y) (λj u hu=>by rw[aAn];exact(hb.bh hw).cell hu)
end
section
variable{ops:Array Oper}{K:Env->World->Prop}{R:Env->Prop}{N:Nat}{E:Env}{rest:List Oper}{w:World}{t:TypeId}{pos:String}{after:Array Edge}{d:Nat}{x:Operand}{b o i n:Nat}{f:Nat->aIu}
def aOj(hx:aM E x=some (.pointer (some ⟨b,o+i*3,none⟩)):=by with_unfolding_all exact rfl)(hr:aE aAk 3 w (some ⟨b,o,none⟩) n f:=by first|assumption|exact cO.bK (by assumption))(hi:i<n:=by omega):OpB tz (.load 120 x) t E w (.agg (aAk (f i)).toArray):=λ_ hw=>aL5 (cs:=aAk (f i)) aIy hx (aHn _) ((hr.bh hw).get hi)
end
end Rk.Hx
namespace Rk.Hx
open Go Go.RowKit Go.Proofs
def aJI:tz.underlying 158=some (.slice 120):=BYK
def aJF:Ty tz 158 false 1 24 (.slice none 0 0):=aLt BYK (λ_=>BYK) rfl
def aJR:Ty tz 121 false 1 8 .nilFunc:=aLt BYK (λ_=>BYK) rfl
def aJU:tz.underlying 160=some (.struct (tz.fieldsOf 160)):=BYK
def aKP:((tz.fieldsOf 160)[0]?).map (λf=>(f.offset,f.type))=some (0,158):=BYK
def aKI:((tz.fieldsOf 160)[1]?).map (λf=>(f.offset,f.type))=some (1,121):=BYK
abbrev aJT(eA:FuncId):Value:=.func (.func eA) #[] #[]
section
variable{E:Env}{w:World}{t:TypeId}{x y:Operand}{bk o n c j:Nat}
def aNd(hx:aM E x=some (.pointer (some ⟨bk,o,none⟩)):=by with_unfolding_all exact rfl):aA tz (.fieldAddr 160 x 0) t E w (.pointer (some ⟨bk,o,none⟩)) w:=aA.fieldAddr (off:=0) aJU aKP aJF BYO hx
def aOt(hx:aM E x=some (.pointer (some ⟨bk,o,none⟩)):=by with_unfolding_all exact rfl):aA tz (.fieldAddr 160 x 1) t E w (.pointer (some ⟨bk,o+1,none⟩)) w:=aA.fieldAddr aJU aKI aJR BYO hx
def aPH{A:Option Addr}(hx:aM E x=some (.slice A n c):=by with_unfolding_all exact rfl){rt:TypeId}:aA tz (.call {callee:=.builtin .len,args:= #[x],argTypes:= #[158]}) rt E w (.int .i64 n) w:=aL3 aJI hx
def aNm(hx:aM E x=some (.slice (some ⟨bk,o,none⟩) n c):=by with_unfolding_all exact rfl)(hi:aM E y=some (.int .i64 (j:Int)):=by with_unfolding_all exact rfl)(hn:j<n:=by omega):
  aA tz (.indexAddr 158 x y) t E w (.pointer (some ⟨bk,o+j*3,none⟩)) w:=aA.indexAddr aJI aIy.size hx hi BYO BYO
def aNl(hx:aM E x=some (.slice (some ⟨bk,o,none⟩) n c):=by with_unfolding_all exact rfl)(hn:0<n:=by omega):
  aA tz (.indexAddr 158 x (.const (.int .i64 0))) t E w (.pointer (some ⟨bk,o+0*3,none⟩)) w:=aA.indexAddr (j:=0) aJI aIy.size hx rfl BYO BYO
def aP2{A:Option Addr}(hx:aM E x=some (.slice A n c):=by with_unfolding_all exact rfl)(hh:aM E y=some (.int .i64 (j:Int)):=by with_unfolding_all exact rfl)(hc:j<=c:=by omega):
  aA tz (.slice 158 x none (some y) none) t E w (.slice A j c) w:=by
 have:=aNH (P:=tz) (t:=t) (w:=w) aJI aIy hx hh BYO BYO;rwa[aD3]at this
section
variable{ops:Array Oper}{K:Env->World->Prop}{N d_:Nat}{rest:List Oper}{pos:String}{after:Array Edge}{C:World->Prop}{R:Env->Prop}
end
end
section
variable{ops:Array Oper}{K:Env->World->Prop}{R:Env->Prop}{N:Nat}{E:Env}{rest:List Oper}{w:World}{t:TypeId}{pos:String}{after:Array Edge}{d:Nat}{x:Operand}{g j:Nat}{te:TypeId}{cs:List Value}{u:Value}
end
section
variable{ops:Array Oper}{K:Env->World->Prop}{R:Env->Prop}{N:Nat}{E:Env}{rest:List Oper}{w:World}{t:TypeId}{pos:String}{after:Array Edge}{d:Nat}{x:Operand}{g j:Nat}{te:TypeId}{cs:List Value}{u:Value}
end
attribute [local irreducible] aA jH OpC WL QL WC WX OL RL TL TM
structure aJG [G.Key aIu](eA:FuncId):Prop where
 code:∃fn c,tz.funcs[eA]?=some fn/\(fn.name== "runtime.NumGoroutine")=false/\fn.body=some c
 calls:∀a b w,aIz a->aIz b->Calls tz eA #[aJD a,aJD b] w (eT λv w'=>v=.bool (decide (G.Key.key a<G.Key.key b))/\Below w.heap.size w w')
structure aBU [G.Key aIu](w:World)(B hp:Nat)(eA:FuncId)(v:Value)(l:List aIu):Prop where
 blk:Bk w hp 160 [v,aJT eA]
 base:B<=hp
 own:bT aAk 3 120 w B v l
 ne:∀g,v.ownBlock=some g->g≠hp/\g<w.heap.size/\B<=g
 heap:G.hZ (lf l) l.length
 ok:∀x∈l,aIz x
section
variable{kk:G.Key aIu}{B hp:Nat}{eA:FuncId}{v:Value}{l:List aIu}{w w':World}
def aBU.ow(h:aBU w B hp eA v l):bT aAk 3 120 w B v l:=h.own
def aBU.re(h:aBU w B hp eA v l){B':Nat}(hB:B'<=B):aBU w B' hp eA v l:=⟨h.blk,aBS hB h.base,h.own.lower hB,λg hg=>⟨(h.ne g hg).1,(h.ne g hg).2.1,aBS hB (h.ne g hg).2.2⟩,h.heap,h.ok⟩
def aBU.lt(h:aBU w B hp eA v l):∀g,hF hp v g->g<w.heap.size:=λg hg=>by
 rcases hg with rfl|hg
 .exact h.blk.lt
 .exact(h.ne g hg).2.1
def aBU.ge(h:aBU w B hp eA v l):∀g,hF hp v g->B<=g:=λg hg=>by
 rcases hg with rfl|hg
 .exact h.base
 .exact(h.ne g hg).2.2
def aBU.below(h:aBU w B hp eA v l)(hb:Below w.heap.size w w'):aBU w' B hp eA v l:=
 ⟨h.blk.below hb,h.base,h.own.below hb,λg hg=>⟨(h.ne g hg).1,aAx (h.ne g hg).2.1 hb.size,(h.ne g hg).2.2⟩,h.heap,h.ok⟩
def aBU.dG{F F':Nat->Prop}(h:aBU w B hp eA v l)(hc:bF w w' F F')(ha:Apart F (hF hp v)):aBU w' B hp eA v l:=
 ⟨h.blk.dG hc (λhf=>ha hp hf (.inl rfl)),h.base,h.own.dG hc (λg hf hg=>ha g hf (.inr hg)) (λg hg=>(h.ne g hg).2.1),λg hg=>⟨(h.ne g hg).1,aAx (h.ne g hg).2.1 hc.size,(h.ne g hg).2.2⟩,h.heap,h.ok⟩
end
def aJ5{f:FuncId}{a b:Value}{w:World}{S:Ending->World->Prop}(h:Calls tz f #[a,b] w S):Calls tz f (([a,b]:List Value).toArray++ #[]) w S:=h
def aJX{hp n c:Nat}{eA:FuncId}{A:Option Addr}(w:World)(h:Bk w hp 160 [.slice A n c,aJT eA]):
  Calls tz 59 #[.pointer (some ⟨hp,0,none⟩)] w (eT λr w'=>r=.int .i64 n/\w'=w):=by
 refine aI xk rfl Tryz.ntmps59 rfl ?_;refine SU ?_;exact aLV rfl rfl ⟨rfl,rfl⟩
abbrev aK0:=@J1
abbrev aK3:=@Tryz.ntmps58
abbrev aJO:Nat:=120
abbrev aJ2:Nat:=160
abbrev aJ3:=@aJT
abbrev aJV:Nat:=3
abbrev aJi:=@aJ5
abbrev aKt:=@xi
abbrev aLE:=@Tryz.ntmps56
abbrev aLI:=@xl
abbrev aJj:=@Tryz.ntmps60
abbrev aJe:=@xj
abbrev aJk:=@Tryz.ntmps57
abbrev aJf:=@aUF
abbrev aJW:=@IT
def aJP{kk:G.Key aIu}{B hp:Nat}{eA:FuncId}{v:Value}{l:List aIu}(first:aJG eA)(x:aIu)(w:World)(h:aBU w B hp eA v l)(hx:aIz x)(hlen:l.length<=900):
  Calls tz 58 #[.pointer (some ⟨hp,0,none⟩),aJD x] w (eT λ_ w'=>∃v' l',aBU w' B hp eA v' l'/\l'.Perm (x::l)/\bF w w' (hF hp v) (hF hp v')):=aKZ
end Rk.Hx
namespace Rk.Hx
open Go Go.RowKit Go.Proofs
attribute [local irreducible] aA jH OpC WL QL WC WX OL RL TL TM
def aP3{E:Env}{w:World}{t:TypeId}{x:Operand}{eA:FuncId}(hx:aM E x=some (aJT eA)):aA tz (.build 160 #[(1,x)]) t E w (.agg #[.slice none 0 0,aJT eA]) w:=
 aA.build (parts:=[(1,x)]) (ps:=[(1,aJT eA)]) (by simp[OA,hx]) BYK
def aJ9 [G.Key aIu](eA:FuncId)(w:World):
  Calls tz 56 #[aJT eA,.slice none 0 0] w (eT λr w'=>r=.pointer (some ⟨w.heap.size,0,none⟩)/\aBU w' w.heap.size w.heap.size eA (.slice none 0 0) []/\Below w.heap.size w w'):=aKs
def aJ7{kk:G.Key aIu}{B hp:Nat}{eA:FuncId}{v:Value}{l:List aIu}(first:aJG eA)(w:World)(h:aBU w B hp eA v l)(Ep:l≠[])(hlen:l.length<=900):
  Calls tz 60 #[.pointer (some ⟨hp,0,none⟩)] w (eT λr w'=>∃v' l' x,r=aJD x/\aBU w' B hp eA v' l'/\l.Perm (x::l')/\(∀y∈l',G.Key.key x<=G.Key.key y)/\bF w w' (hF hp v) (hF hp v')):=aLF
def aLy{a b:aIu}(ha:aIz a)(hb:aIz b):decide (G.Key.key a<G.Key.key b)=(decide (a.1<b.1)||(decide (a.1=b.1)&&decide (a.2.1<b.2.1))):=by
 rw[aIU];simp[aJK ha hb]
def aJH:aJG 57:=aLJ
end Rk.Hx
namespace Rk
open Go Go.RowKit Go.Proofs
variable{i n:Nat}{α:Type}{rf:Nat->List Int}
def toH(rf:Nat->List Int)(r a:Nat):Hx.aIu:=(lf (rf r) a,(r:Int),(a:Int))
def yr(rf:Nat->List Int)(x:Hx.aIu):List Int:=(rf x.2.1.toNat).drop x.2.2.toNat
def HQ(rf:Nat->List Int)(r a:Nat):yr rf (toH rf r a)=(rf r).drop a:=by simp[yr,toH]
def qp{l:List Int}{a:Nat}(h:a<l.length):l.drop a=lf l a::l.drop (a+1):=by
 rw[bU h];exact aDf h
def lY(rf:Nat->List Int)(i:Nat):(aG rf (i+1)).flatten=(aG rf i).flatten++rf i:=by
 rw[gM,List.flatten_append];simp
def wX(rf:Nat->List Int)(h:i<=n):(aG rf i).flatten.length<=(aG rf n).flatten.length:=by
 induction n with
 |zero=>
  obtain rfl:i=0:=BYO;exact aAB _
 |succ n ih=>
  rcases Nat.lt_or_eq_of_le h with h1|rfl
  .have:=ih BYO;rw[lY,aBh];omega
  .exact aAB _
structure sA(rf:Nat->List Int)(n:Nat)(out:List Int)(l:List Hx.aIu)(flat:List Int):Prop where
 srt:out.Pairwise (·<=·)
 le:∀a∈out,∀x∈l,a<=x.1
 hd:∀x∈l,∃r a,r<n/\a<(rf r).length/\x=toH rf r a
 perm:(out++l.flatMap (yr rf)).Perm flat
def Dl{β:Type}(f:α->List β):∀l:List α,(∀x∈l,0<(f x).length)->l.length<=(l.flatMap f).length:=by
 intro l;induction l with
 |nil=>intro _;exact aBt _
 |cons a l ih=>
  intro h;have h1:=h a BYS;have h2:=ih λx hx=>h x (by simp[hx]);rw[aDs,aBh,aBJ];omega
section
variable{out:List Int}{l l':List Hx.aIu}{flat:List Int}
def sA.nil:sA rf n [] [] []:=⟨List.Pairwise.nil,λa h=>(by cases h),λa h=>(by cases h),aBx _⟩
def sA.len(h:sA rf n out l flat):out.length+l.length<=flat.length:=by
 have h1:=h.perm.length_eq;rw[aBh]at h1;have h2:=Dl (yr rf) l λx hx=>by
  obtain⟨r,a,_,ha,rfl⟩:=h.hd x hx;rw[HQ,aC6];omega
 omega
def sA.put(h:sA rf n [] l flat)(hi:i<n)(h0:0<(rf i).length)(hp:l'.Perm (toH rf i 0::l)):sA rf n [] l' (flat++rf i):=by
 refine⟨List.Pairwise.nil,λa ha=>(by cases ha),λx hx=>?_,?_⟩
 .rcases aBI.1 (hp.mem_iff.1 hx) with rfl|hx
  .exact⟨i,0,hi,h0,rfl⟩
  .exact h.hd x hx
 .have h1:=hp.flatMap_right (yr rf);have h2:=h.perm;rw[aDF]at h2⊢;rw[aDs,HQ,aF1]at h1;exact h1.trans (List.perm_append_comm.trans (h2.append_right _))
def sA.skip(h:sA rf n [] l flat)(h0:(rf i).length=0):sA rf n [] l (flat++rf i):=by
 rw[aCQ h0,aDD];exact h
def sA.pop{x:Hx.aIu}(h:sA rf n out l flat)(hs:∀r,r<n->(rf r).Pairwise (·<=·))(bY:∀x∈l,Hx.aIz x)(hp:l.Perm (x::l'))(hle:∀y∈l',G.Key.key x<=G.Key.key y):
  ∃r a,r<n/\a<(rf r).length/\x=toH rf r a/\(a+1<(rf r).length->∀l'',l''.Perm (toH rf r (a+1)::l')->sA rf n (out++[lf (rf r) a]) l'' flat)/\((rf r).length<=a+1->sA rf n (out++[lf (rf r) a]) l' flat):=by
 have hxl:x∈l:=hp.mem_iff.2 BYS;obtain⟨r,a,hr,ha,rfl⟩:=h.hd x hxl;have HV:(toH rf r a).1=lf (rf r) a:=rfl;have WA:∀y∈l',y∈l:=λy hy=>hp.mem_iff.2 (by simp[hy]);have Mf:∀y∈l',lf (rf r) a<=y.1:=λy hy=>by
  have h1:=hle y hy;have h2:=bY _ hxl;have h3:=bY _ (WA y hy);simp only[G.Key.key,Hx.aIz]at h1 h2 h3;rw[<-HV];omega
 have Ei:(out++[lf (rf r) a]).Pairwise (·<=·):=aGh.2 ⟨h.srt,List.pairwise_singleton _ _,λb hb c hc=>by
  obtain rfl:=aCj.1 hc;exact h.le b hb _ hxl⟩
 have OO:∀b∈out++[lf (rf r) a],∀y∈l',b<=y.1:=λb hb y hy=>by
  rcases aBR.1 hb with hb|hb
  .exact h.le b hb y (WA y hy)
  .obtain rfl:=aCj.1 hb;exact Mf y hy
 have xZ:((out++[lf (rf r) a])++((rf r).drop (a+1)++l'.flatMap (yr rf))).Perm flat:=by
  have h1:=(hp.flatMap_right (yr rf)).append_left out;rw[aDs,HQ,qp ha]at h1;refine List.Perm.trans ?_ (h1.symm.trans h.perm);simp
 refine⟨r,a,hr,ha,rfl,λh1 l'' hl=>⟨Ei,λb hb y hy=>?_,λy hy=>?_,?_⟩,λh1=>⟨Ei,OO,λy hy=>h.hd y (WA y hy),?_⟩⟩
 .rcases aBI.1 (hl.mem_iff.1 hy) with rfl|hy
  .have h3:lf (rf r) a<=lf (rf r) (a+1):=by
    rw[bU ha,bU h1];exact aDq.1 (hs r hr) a (a+1) ha h1 BYO
   rcases aBR.1 hb with hb|hb
   .exact aDG (h.le b hb _ hxl) h3
   .obtain rfl:=aCj.1 hb;exact h3
  .exact OO b hb y hy
 .rcases aBI.1 (hl.mem_iff.1 hy) with rfl|hy
  .exact⟨r,a+1,hr,h1,rfl⟩
  .exact h.hd y (WA y hy)
 .have h2:=(hl.flatMap_right (yr rf)).append_left (out++[lf (rf r) a]);rw[aDs,HQ]at h2;exact h2.trans xZ
 .rw[aIo h1,aDF]at xZ;exact xZ
def sA.done(h:sA rf n out [] flat):out.Perm flat:=by
 have:=h.perm;rwa[List.flatMap_nil,aDD]at this
end
def qq{r:List Int}(h:∀k,k+1<r.length->lf r k<=lf r (k+1)):r.Pairwise (·<=·):=by
 rw[aDq];intro i j hi hj XH;have:∀d,i+d<r.length->lf r i<=lf r (i+d):=by
  intro d;induction d with
  |zero=>intro _;exact aC0 _
  |succ d ih=>intro hd;exact aDG (ih BYO) (h (i+d) hd)
 have h2:=this (j-i) BYO;rw[show i+(j-i)=j from BYO,bU hi,bU hj]at h2;exact h2
def Dm{f:Nat->α}{p:α->Bool}:(aG f n).all p=true↔∀i,i<n->p (f i)=true:=by
 simp only[aG,aIi,aCJ,aC5,Function.comp]
def EG(r:List Int):Bool:=decide (r.Pairwise (·<=·))
def BR(n:Nat)(rf:Nat->List Int):Nat:=if 60<(aG rf n).flatten.length then 4 else if(aG rf n).flatten.all vG then(if(aG rf n).all EG then 0 else 3) else 1
def Vz(hi:i<n)(h:60<(aG rf i).flatten.length+(rf i).length):BR n rf=4:=by
 refine if_pos ?_;have:=wX rf (show i+1<=n from hi);rw[lY,aBh]at this;omega
def W8(h:(aG rf n).flatten.length<=60)(hk:¬(aG rf n).flatten.all vG=true):BR n rf=1:=by
 unfold BR;rw[if_neg BYO,if_neg hk]
def Lt(h:(aG rf n).flatten.length<=60)(hk:(aG rf n).flatten.all vG=true)(hi:i<n)(hs:¬(rf i).Pairwise (·<=·)):BR n rf=3:=by
 unfold BR;rw[if_neg BYO,if_pos hk,if_neg (show¬(aG rf n).all EG=true fromλhh=>hs (of_decide_eq_true (Dm.1 hh i hi)))]
def Qe(h:(aG rf n).flatten.length<=60)(hk:(aG rf n).flatten.all vG=true)(hs:∀i,i<n->(rf i).Pairwise (·<=·)):BR n rf=0:=by
 unfold BR;rw[if_neg BYO,if_pos hk,if_pos (show(aG rf n).all EG=true from Dm.2 λi hi=>decide_eq_true (hs i hi))]
def FR(l:List Int):kL l.length (lf l)=if 60<l.length then 4 else if l.all vG then 0 else 1:=by
 unfold kL;rw[dE]
end Rk
namespace Rk
open Go Go.RowKit Go.Proofs
attribute [local irreducible] aA jH OpC WL QL WC WX OL RL TL TM
def X0(n:Nat)(rf:Nat->List Int)(w:World)(v:Value)(w':World):Prop:=Below w.heap.size w w'/\(BR n rf≠0->v=.tuple #[.slice none 0 0,cI (BR n rf)])/\
 (BR n rf=0->∃s out,v=.tuple #[s,.nilIface]/\LU w' w.heap.size s out/\out.Perm (aG rf n).flatten/\out.Pairwise (·<=·))
def Lu(A:Option Addr)(n c:Nat)(uf:Nat->Sl)(rf:Nat->List Int)(w:World)(hR:Da w A n uf rf)(Qx:n<=1000000000000000/\∀i,i<n->(rf i).length<=1000000000000000):
  Calls tz 20 #[.slice A n c] w (eT (X0 n rf w)):=by
 have mL:∀e w',BR n rf=e->e≠0->Below w.heap.size w w'->X0 n rf w (.tuple #[.slice none 0 0,cI e]) w':=λe w' he h0 hB=>⟨hB,λ_=>by rw[he],λh=>absurd (he▸h) h0⟩;refine aI wq rfl Tryz.ntmps20 rfl ?_;refine y1 ?_;refine aMK (λ(i:Nat) (v:Value)=>[(0,.slice A n c),(4,v),(14,.slice A n c),(15,.int .i64 n),(16,.int .i64 i)])
  (λi v q wr=>i<=n/\q=n-i/\LU wr w.heap.size v (aG rf i).flatten/\(aG rf i).flatten.length<=60/\Below w.heap.size w wr) n 0 (.slice none 0 0) ⟨BYO,rfl,bT.nil _ _ _ _ _ _,by simp[aG],Below.refl _ _⟩ aJA ?_
 rintro i v q wr ⟨hi,rfl,ho,hl,hB⟩;have gz:=hR.below hB;have xJ:=gz.top;obtain⟨Aa,ca,rfl,ON⟩:=ho.form;refine Zu ?_;refine aJ6 rfl (λh=>?_) (λh=>?_)
 .have iD:i<n:=BYO;obtain⟨b,o,rfl,_⟩:=xJ.ne BYO;obtain⟨e1,e8⟩:=gz.row i iD;have aKq:=Qx.2 i iD;refine y1 ?_;refine aJ6 rfl (λh1=>?_) (λh1=>?_)
  .have hE:BR n rf=4:=Vz iD BYO;refine y1 ?_;exact aLe rfl rfl rfl (mL 4 _ hE BYD hB)
  .refine aKY λK hK=>?_;refine WL.append oM HP BYO tG aN rfl rfl rfl ho (by rw[e1];exact e8) BYO (by unfold maxLen;omega) hB.size λv3 w3 row lJ uA eE GA XO=>?_;rw[e1,dE,<-lY]at lJ;refine y1 ?_;exact aLm (i+1) v3 (n-(i+1)) BYO ⟨BYO,rfl,lJ,by rw[lY,aBh];omega,hB.rM uA GA⟩ aJA
 .obtain rfl:i=n:=BYO;obtain⟨_,_,aIf⟩:=bT.bK oM ho;refine aKY λK hK=>?_;refine aKQ I8 (ME Aa _ ca _ _ aIf) ?_;rintro v _ ⟨rfl,rfl⟩;rename_i wr;by_cases hk:(aG rf i).flatten.all vG=true
  .rw[FR,if_neg BYO,if_pos hk,show cI 0=.nilIface from rfl];clear aIf;obtain⟨L,hL⟩:∃L,(aG rf i).flatten.length=L:=⟨_,rfl⟩;rw[hL];refine y1 ?_;refine aJh rfl ?_;refine aKY λK hK=>?_;refine aKQ xi (Hx.aJ9 57 _) ?_;rintro v w1 ⟨rfl,gk,cA⟩;have hH:=gk.re hB.size;replace cA:=hB.tr cA;clear ho gk gz xJ;generalize wr.heap.size=hb at*;clear hB;refine y1 ?_;refine aPT (λ(k:Nat) (_:Value) (_:List Hx.aIu)=>[(0,.slice A i c),(4,.slice Aa L ca),(8,.pointer (some ⟨hb,0,none⟩)),(37,.slice A i c),(38,.int .i64 i),(39,.int .i64 k)])
    (λk v l q wr=>k<=i/\q=i-k/\Hx.aBU wr w.heap.size hb 57 v l/\sA rf i [] l (aG rf k).flatten/\(∀j,j<k->(rf j).Pairwise (·<=·))/\Below w.heap.size w wr) i 0 (.slice none 0 0) []
    ⟨BYO,rfl,hH,sA.nil,λj hj=>BYO,cA⟩ aJA ?_
   clear hH cA;rintro k v l q wr ⟨hki,rfl,hH,hM,Ei,hB⟩;have gz:=hR.below hB;have xJ:=gz.top;have ay:=hM.len;have hmo:=wX rf hki;refine y1 ?_;refine aJ6 rfl (λh=>?_) (λh=>?_)
   .have iD:k<i:=BYO;obtain⟨b,o,rfl,_⟩:=xJ.ne BYO;obtain⟨e1,e8⟩:=gz.row k iD;have aNP:=wX rf (show k+1<=i from iD);rw[lY,aBh]at aNP;refine y1 ?_;rcases hu:uf k with⟨Ai,mi,ci⟩;rw[hu]at e1 e8;dsimp only at e1 e8⊢;subst e1;refine aMP (λj:Nat=>[(0,.slice (some ⟨b,o,none⟩) i c),(4,.slice Aa L ca),(8,.pointer (some ⟨hb,0,none⟩)),(37,.slice (some ⟨b,o,none⟩) i c),(38,.int .i64 i),(39,.int .i64 k),(9,.int .i64 k),(10,.slice Ai (rf k).length ci),(11,.int .i64 j)])
     (λj q w5=>1<=j/\q=(rf k).length-j/\(∀k',k'+1<j->k'+1<(rf k).length->lf (rf k) k'<=lf (rf k) (k'+1))/\j<=(rf k).length+1/\Below wr.heap.size wr w5) (rf k).length.pred 1 ⟨BYO,by rw[Nat.pred_eq_sub_one],λk' h1=>BYO,BYO,Below.refl _ _⟩ aJA ?_
    rintro j q w5 ⟨hj1,rfl,aIH,wY,gO⟩;have aHk:=e8.below gO;refine y1 ?_;refine aJ6 rfl (λh3=>?_) (λh3=>?_)
    .have hjm:j<(rf k).length:=BYO;obtain⟨b',o',rfl,_⟩:=aHk.ne BYO;refine y1 ?_;refine aLh mixed BYK ?_;refine IU ?_;refine QL.done λw6 gH=>?_;refine y1 ?_;refine aJ6 rfl (λh4=>?_) (λh4=>?_)
     .have hE:BR i rf=3:=Lt BYO hk iD (λhp=>by
       have:=aDq.1 hp (j-1) j BYO hjm BYO;rw[<-bU BYO,<-bU hjm]at this;omega)
      refine y1 ?_;exact aLe rfl rfl rfl (mL 3 _ hE BYD (hB.tr (gO.tr gH)))
     .refine y1 ?_;refine aMF (j+1) ((rf k).length-(j+1)) BYO ⟨BYO,rfl,λk' h1 h2=>?_,BYO,gO.tr gH⟩ aJA;by_cases e:k'+1=j
      .obtain rfl:k'=j-1:=BYO;rw[show j-1+1=j from by omega];omega
      .exact aIH k' BYO h2
    .have hsr:(rf k).Pairwise (·<=·):=qq λk' HU=>aIH k' BYO HU;have za:∀j,j<k+1->(rf j).Pairwise (·<=·):=λj hj=>by
      rcases aDg.1 hj with h|rfl
      .exact Ei j h
      .exact hsr
     have hH5:=hH.below gO;refine y1 ?_;refine aJ6 rfl (λh5=>?_) (λh5=>?_)
     .have h5':0<(rf k).length:=BYO;obtain⟨b',o',rfl,_⟩:=aHk.ne h5';refine aKY λK hK=>?_;refine aKQ J1 (Hx.aJP Hx.aJH (toH rf k 0) _ hH5 ⟨by simp[toH],by simp[toH];omega⟩ (by simp only[aBv]at ay;omega)) ?_;rintro _ w7 ⟨v2,l2,hH7,hp7,NM⟩;have Xs:=hM.put iD h5' hp7;rw[<-lY]at Xs;refine y1 ?_;exact aMq (k+1) v2 l2 (i-(k+1)) BYO ⟨BYO,rfl,hH7,Xs,za,NM.below (hB.tr gO) hH5.ge⟩ aJA
     .have Xs:=hM.skip (i:=k) BYO;rw[<-lY]at Xs;refine y1 ?_;exact aMq (k+1) v l (i-(k+1)) BYO ⟨BYO,rfl,hH5,Xs,za,hB.tr gO⟩ aJA
   .obtain rfl:k=i:=BYO;clear ay hmo gz xJ;have hE:=Qe hl hk Ei;have hkL:∀out l',sA rf k out l' (aG rf k).flatten->out.length+l'.length<=60:=λout l' h=>by have:=h.len;omega
    refine aKY λK hK=>?_;refine aR4 OG tG aN rfl rfl rfl BYO (by unfold maxLen;omega) λw8 so SG=>?_;have mN:=aC SG;have hHl:=hH.lt;have aIl:l≠[]->∀g,(Value.slice (some ⟨wr.heap.size,0,none⟩) 0 L).ownBlock=some g->¬hF hb v g/\g<w8.heap.size:=λcQ g hg=>by
     simp[Value.ownBlock]at hg;subst hg;refine⟨λhf=>by have:=hHl _ hf;omega,?_⟩;have hl0:=aC8.2 cQ;have Ec:=hM.len;rcases so.2 with⟨A',h2,_⟩|⟨g',cap,cur,h2,_,h3,_⟩
     .injection h2 with _ _ h2;simp only[aBv]at Ec;omega
     .injection h2 with h2 _ _;injection h2 with h2;injection h2 with h2 _ _;rw[<-h2]at h3;exact(aCH.1 h3).1
    have hH8:=hH.below mN;have aG9:=so.lower hB.size;have aGo:=hB.tr mN;clear hHl so SG hB hH;refine y1 ?_;refine aPU (λ(_:Value) (_:List Hx.aIu) (s:Value) (_:List Int)=>[(0,.slice A k c),(8,.pointer (some ⟨hb,0,none⟩)),(12,s)])
     (λv l s out q wr=>q=60-out.length/\Hx.aBU wr w.heap.size hb 57 v l/\sA rf k out l (aG rf k).flatten/\LU wr w.heap.size s out/\(l≠[]->∀g,s.ownBlock=some g->¬hF hb v g/\g<wr.heap.size)/\Below w.heap.size w wr) 60 v l (.slice (some ⟨wr.heap.size,0,none⟩) 0 L) []
     ⟨BYS,hH8,hM,aG9,aIl,aGo⟩ aJA ?_
    clear hH8 aG9 aGo aIl mN hM;rintro v l s out q wr ⟨rfl,hH,hM,ho,Xo,hB⟩;obtain⟨Ah,ch,rfl,_⟩:=hH.own.form;have fF:=hH.blk;have hol:=hkL _ _ hM;refine aKY λK hK=>?_;refine aKQ xk (Hx.aJX _ fF) ?_;rintro v _ ⟨rfl,rfl⟩;rename_i wr;refine y1 ?_;refine aJ6 rfl (λh=>?_) (λh=>?_)
    .have cQ:l≠[]:=λe=>by rw[e]at h;simp at h
     have Ec:=aC8.2 cQ;replace Xo:=Xo cQ;refine aKY λK hK=>?_;refine aKQ xl (Hx.aJ7 Hx.aJH _ hH cQ BYO) ?_;rintro _ w1 ⟨v1,l1,x,rfl,gk,nB,WE,FY⟩;obtain⟨r,a,OU,ha,rfl,aG0,CK⟩:=hM.pop Ei hH.ok nB WE;have cA:=FY.below hB hH.ge;have aLl:l1.length<=60:=by have:=nB.length_eq;rw[aBJ]at this;omega
     have Xp:LU w1 w.heap.size s out:=ho.dG FY (λg hf hg=>(Xo g hg).1 hf) (λg hg=>(Xo g hg).2);have aCI:∀g,s.ownBlock=some g->¬hF hb v1 g/\g<w1.heap.size:=λg hg=>⟨λhf=>by
      rcases(FY.next g hf).1 with h|h
      .exact(Xo g hg).1 h
      .have:=(Xo g hg).2;omega,aAx (Xo g hg).2 FY.size⟩
     clear hH ho Xo fF nB WE FY hM;refine y1 ?_;refine WL.box Hx.aIy rfl rfl rfl (by intro u hu;exact Hx.aJB _ u hu) λw2 eB pP qO=>?_;replace pP:Bk w2 w1.heap.size 120 [.int .i64 (lf (rf r) a),.int .i64 ((r:Nat):Int),.int .i64 ((a:Nat):Int)]:=pP;have tM:=aC eB;have hH2:=gk.below tM;have kT:LU w2 w.heap.size s out:=Xp.below tM;have bM:=cA.tr tM;have aNw:=tM.size;have Ea:∀g,s.ownBlock=some g->g≠w1.heap.size:=λg hg e=>by have:=(aCI g hg).2;omega
     have hxF:¬hF hb v1 w1.heap.size:=λhf=>by have:=gk.lt _ hf;omega
     have Mm:∀g,s.ownBlock=some g->¬hF hb v1 g/\g<w2.heap.size:=λg hg=>⟨(aCI g hg).1,aAx (aCI g hg).2 tM.size⟩;clear gk Xp cA eB;refine aKY λK hK=>?_;refine WL.push (a:=(lf (rf r) a)) oM HP BYO tG aN rfl rfl rfl rfl (λ_=>rfl) kT (by first|omega|(simp;done)|(simp;omega)) (by first|omega|(simp;done)|(simp;omega)) BYO bM.size λv3 w3 row q lJ uA eE GA dD GY oC=>?_;have EM:bF w2 w3 (pK s) (pK s):=bF.grown uA eE (λg hg=>⟨.inl hg,aAx (Mm g hg).2 uA.size⟩);have hH3:=hH2.dG EM (λg hg hf=>(Mm g hg).1 hf);have Mv:=pP.dG EM (λhg=>Ea _ hg rfl);have dZ:=bM.rM uA GA;have aBu:∀g,v3.ownBlock=some g->¬hF hb v1 g/\g<w3.heap.size:=λg hg=>⟨λhf=>by
      rcases hf with hf|hf
      .rw[hf]at hg;exact(GY (.slice (some ⟨hb,0,none⟩) 0 0) ⟨λg hg=>(Mm g hg).2,λg hg=>by
        simp[Value.ownBlock]at hg;subst hg;exact hH2.blk.lt,λg h1 h2=>by simp[Value.ownBlock]at h2;subst h2;exact(Mm _ h1).1 (.inl rfl)⟩).apart _ hg rfl
      .exact(GY v1 ⟨λg hg=>(Mm g hg).2,λg hg=>hH2.lt g (.inr hg),λg h1 h2=>(Mm g h1).1 (.inr h2)⟩).apart g hg hf,dD g hg⟩
     have aSp:w1.heap.size<w3.heap.size:=Mv.lt;clear hH2 pP bM Mm EM kT uA eE GA dD GY;have hR3:=hR.below dZ;have xJ:=hR3.top;obtain⟨e1,e8⟩:=hR3.row r OU;obtain⟨b,o,rfl,_⟩:=xJ.ne BYO;have aS5:=Qx.2 r OU;refine y1 ?_;refine aLh mixed BYK ?_;refine yM ?_;refine QL.done λw4 jR=>?_;have hH4:=hH3.below jR;have sB:LU w4 w.heap.size v3 (out++[lf (rf r) a]):=lJ.below jR;have wC:=Mv.below jR;have kN:=dZ.tr jR;have Y3:=e8.below jR;have yy:=xJ.below jR;have Wb:∀g,v3.ownBlock=some g->¬hF hb v1 g/\g<w4.heap.size:=λg hg=>⟨(aBu g hg).1,aAx (aBu g hg).2 jR.size⟩;clear hH3 lJ Mv dZ aBu hR3 e8 xJ;refine y1 ?_;refine aJ6 rfl (λh4=>?_) (λh4=>?_)
     .have vX:a+1<(rf r).length:=by have:((a:Nat):Int)+1<((uf r).2.1:Nat):=h4;omega
      have hp:=aG0 vX;rcases hu:uf r with⟨Ai,mi,ci⟩;rw[hu]at e1 Y3;dsimp only at e1 Y3;subst e1;obtain⟨b',o',rfl,_⟩:=Y3.ne BYO;refine y1 ?_;refine WC.tm (λw'=>Bk w' w1.heap.size 120 [.int .i64 (lf (rf r) a),.int .i64 ((r:Nat):Int),.int .i64 ((a:Nat):Int)]/\aE GW 1 w' (some ⟨b,o,none⟩) k uf/\aE OG 1 w' (some ⟨b',o',none⟩) (rf r).length (lf (rf r))) [] (.pure 0 (.pure 1 (.pure 2 (.pure 6 (.pure 11 (.pure 13 (.read 3 (.pure 4 (.read 5 (.read 7 (.pure 8 (.pure 9 (.read 10 (.read 12 (.read 14 (.pure 15 (.pure 16 (.act 17 .fin)))))))))))))))))) mixed BYK rfl BYK (λw' hb _=>⟨wC.below hb,yy.below hb,Y3.below hb⟩) λK hK w5 gO de=>?_;have hHH:Bk w5 w1.heap.size 120 [.int .i64 (lf (rf r) a),.int .i64 ((r:Nat):Int),.int .i64 ((a:Nat):Int)]/\aE GW 1 w5 (some ⟨b,o,none⟩) k uf/\aE OG 1 w5 (some ⟨b',o',none⟩) (rf r).length (lf (rf r)):=⟨wC.below gO,yy.below gO,Y3.below gO⟩;refine Zx ?_;refine RL.step (λw' dY=>aJC aN rfl (dY.1.cell rfl)) rfl ?_;refine Zx ?_;refine RL.step (λw' dY=>aJC vU rfl (aE.get dY.2.1 OU 0 _ rfl)) rfl ?_;rw[hu];refine Zx ?_;refine RL.step (λw' dY=>aJC aN rfl (dY.1.cell rfl)) rfl ?_;refine Zx ?_;refine RL.step (λw' dY=>aJC aN rfl (aE.get dY.2.2 vX 0 _ rfl)) rfl ?_;refine Zx ?_;refine RL.step (λw' dY=>aJC aN rfl (dY.1.cell rfl)) rfl ?_;refine Zx ?_;refine RL.step (λw' dY=>aJC aN rfl (dY.1.cell rfl)) rfl ?_;rw[show((a:Nat):Int)+1=((a+1:Nat):Int) from by simp];refine Zx ?_;rw[show((a:Nat):Int)+1=((a+1:Nat):Int) from by simp];refine Zx ?_;have hH5:=hH4.below gO;have XD:=kN.tr gO;refine TM.act rfl ?_;refine aKQ J1 (Hx.aJP Hx.aJH (toH rf r (a+1)) _ hH5 ⟨by simp[toH],by simp[toH];omega⟩ (by have:=(aLl:l1.length<=60);omega)) ?_;rintro _ w6 ⟨v6,l6,hH6,zg,wZ⟩;have vZ:=wZ.below XD hH5.ge;have hR6:=hR.below vZ;have GI:=(hR6.row r OU).2;rw[hu]at GI;refine WL.nil ⟨⟨hHH.1.dG wZ hxF,hR6.top,GI⟩,TM.fin (hK _ _ ?_)⟩;clear hK K;have RZ:LU w6 w.heap.size v3 (out++[lf (rf r) a]):=(sB.below gO).dG wZ (λg hf hg=>(Wb g hg).1 hf) (λg hg=>aAx (Wb g hg).2 gO.size);have aL0:∀g,v3.ownBlock=some g->¬hF hb v6 g/\g<w6.heap.size:=λg hg=>⟨λhf=>by
       rcases(wZ.next g hf).1 with h|h
       .exact(Wb g hg).1 h
       .have:=(Wb g hg).2;have:=gO.size;omega,aAx (Wb g hg).2 (aBS gO.size wZ.size)⟩
      refine y1 ?_;exact aMz v6 l6 v3 (out++[lf (rf r) a]) (60-(out++[lf (rf r) a]).length) (by rw[aBh];simp only[aBJ,aBv];omega) ⟨rfl,hH6,hp l6 zg,RZ,λ_=>aL0,vZ⟩ aJA
     .have vX:(rf r).length<=a+1:=by have:¬((a:Nat):Int)+1<((uf r).2.1:Nat):=h4;omega
      refine y1 ?_;exact aMz v1 l1 v3 (out++[lf (rf r) a]) (60-(out++[lf (rf r) a]).length) (by rw[aBh];simp only[aBJ,aBv];omega) ⟨rfl,hH4,CK vX,sB,λ_=>Wb,kN⟩ aJA
    .obtain rfl:l=[]:=aCQ BYO;refine y1 ?_;exact aLe rfl rfl rfl ⟨hB,λh0=>absurd hE h0,λ_=>⟨s,out,rfl,ho,hM.done,hM.srt⟩⟩
  .have hE:=W8 hl hk;rw[FR,if_neg BYO,if_neg hk,show cI 1=.iface 68 (.int .i64 1) from rfl];refine y1 ?_;refine aLO rfl ?_;refine y1 ?_;exact aLe rfl rfl rfl (mL 1 _ hE BYD hB)
variable{n:Nat}
def VY{f g:Nat->Int}{m:Nat}:aG f n=aG g m↔n=m/\∀i,i<n->f i=g i:=by
 constructor
 .intro h;have hl:=congrArg List.length h;rw[aF,aF]at hl;subst hl;refine⟨rfl,λi hi=>?_⟩;rw[<-lF f (n:=n) (i:=i) (by rw[aF];exact hi),<-lF g (n:=n) (i:=i) (by rw[aF];exact hi)];simp only[h]
 .rintro⟨rfl,h⟩;exact lM h
def X1(A:Option Addr)(n c:Nat)(f:Nat->Int)(A':Option Addr)(m c':Nat)(g:Nat->Int)(w:World)(hr:aE OG 1 w A n f)(sD:aE OG 1 w A' m g)(hn:n<=100000):
  Calls tz 21 #[.slice A n c,.slice A' m c'] w (eT λv w'=>v=.bool (decide (aG f n=aG g m))/\Below w.heap.size w w'):=by
 refine aI wu rfl Tryz.ntmps21 rfl ?_;refine Zu ?_;refine aJ6 rfl (λh=>?_) (λh=>?_)
 .refine Zu ?_;exact aLV rfl rfl ⟨by rw[decide_eq_false (λhh=>by have:=(VY.1 hh).1;omega)],Below.refl _ _⟩
 .obtain rfl:n=m:=BYO;refine Zu ?_;refine aMP (λk:Nat=>[(0,.slice A n c),(1,.slice A' n c'),(5,.int .i64 k)]) (λk q wr=>k<=n/\q=n-k/\(∀i,i<k->f i=g i)/\Below w.heap.size w wr) n 0 ⟨BYO,rfl,λi hi=>BYO,Below.refl _ _⟩ aJA ?_;rintro k q wr ⟨hk,rfl,bY,hB⟩;refine Zu ?_;refine aJ6 rfl (λh2=>?_) (λh2=>?_)
  .have EJ:=hr.below hB;have pT:=sD.below hB;obtain⟨b,o,rfl,_⟩:=hr.ne BYO;obtain⟨b',o',rfl,_⟩:=sD.ne BYO;refine Zu ?_;refine aLh mixed BYK ?_;refine IU ?_;refine QL.done λw2 bM=>?_;refine Zu ?_;refine aJ6 rfl (λh3=>?_) (λh3=>?_)
   .refine Zu ?_;exact aLV rfl rfl ⟨by rw[decide_eq_false (λhh=>h3 ((VY.1 hh).2 k BYO))],hB.tr bM⟩
   .refine Zu ?_;refine aMF (k+1) (n-(k+1)) BYO ⟨BYO,rfl,λi hi=>?_,hB.tr bM⟩ aJA;by_cases e:i=k
    .subst e;omega
    .exact bY i BYO
  .obtain rfl:k=n:=BYO;refine Zu ?_;exact aLV rfl rfl ⟨by rw[decide_eq_true (VY.2 ⟨rfl,bY⟩)],hB⟩
def aKm{w:World}{g:Nat}{cs:List Value}(h:Bk w g 3 cs)(l:List Int)(e:cs=l.map λx=>.int .i64 x):aE OG 1 w (some ⟨g,0,none⟩) l.length (lf l):=by
 subst e;refine h.bK (enc:=OG) (k:=1) 0 λi hi j u hu=>?_;have:j=0:=by
  rcases aCD j 1 with h|h
  .omega
  .rw[aCU (by simpa[OG] using h)]at hu;cases hu
 subst this;rw[bU hi]at hu;obtain rfl:u=.int .i64 l[i]:=by simpa[OG] using hu.symm
 simp[hi]
end Rk
namespace Rk
open Go Go.RowKit Go.Proofs
variable{n:Nat}
def ML:Nat->Code->Code
 |0,c=>c
 |n+1,.seq _ y=>ML n y
 |_,c=>c
noncomputable def Dn:Code:=(Tryz.f3).body.getD .skip
attribute [local irreducible] aA jH OpC WL QL WC WX OL RL TL TM RE
def RE.sub{P:Program}{T:Code}{J Q:Act->World->Prop}{N:Nat}{E E':Env}{c:Code}{w:World}(hs:Sub E E')(h:RE P T J Q N E' c w):RE P T J Q N E c w:=by
 unfold RE at h⊢;exactλa ha=>h a (hs.ag ha)
def EB.at{w1 w2:World}{B B':Nat}{v:Value}(h:EB w1 B v n)(hB:Below w1.heap.size w1 w2)(hb:B'<=B):EB w2 B' v n:=by
 obtain⟨A,c,e,hc,h⟩:=h;refine⟨A,c,e,hc,λp hp=>?_⟩;obtain⟨h1,h2,cs,fz,h3⟩:=h p hp;refine⟨h1,aBS hb h2,cs,fz,?_⟩;have dD:p.block<w1.heap.size:=(aCH.1 h3).1;rw[hB.block _ dD];exact h3
def X2{f:Nat->It}{out:List Int}(hp:out.Perm (aG (λi=>(f i).1) n))(hs:out.Pairwise (·<=·)):out=aG (λi=>(lf (bS (aG f n)) i).1) n:=by
 have hl:(bS (aG f n)).length=n:=by rw[kW,aF]
 have e1:aG (λi=>(lf (bS (aG f n)) i).1) n=(bS (aG f n)).map (·.1):=by
  have:=congrArg (List.map (·.1)) (dE (bS (aG f n)));rw[hl]at this;rw[<-this];simp[aG]
 have e2:aG (λi=>(f i).1) n=(aG f n).map (·.1):=by simp[aG]
 rw[e1];rw[e2]at hp;have hk:((bS (aG f n)).map (·.1)).Pairwise (·<=·):=by
  rw[List.pairwise_map];exact jA (aG f n)
 exact(hp.trans ((kA (aG f n)).perm.symm.map (·.1))).eq_of_pairwise (λ_ _ _ _ h1 h2=>Int.le_antisymm h1 h2) hs hk
def X3(J Q:Act->World->Prop)(A A2:Option Addr)(n c c2:Nat)(f:Nat->It)(k z:Int)(w:World)(hr:aE cB 2 w A n f)(pT:aE cB 2 w A2 n (lf (bS (aG f n))))(se:n<=60)
  (hJ:∀a w',Ag a 270 [(0,.slice A n c),(2,.int .i64 z),(8,.slice A2 n c2)]->Below w.heap.size w w'->J a w'):
  RE tz (ML 16 Dn) J Q 270 [(0,.slice A n c),(1,.int .i64 k),(2,.int .i64 z),(8,.slice A2 n c2)] (ML 14 Dn) w:=by
 have fin:∀{E:Env} {wN:World},Sub E [(0,.slice A n c),(2,.int .i64 z),(8,.slice A2 n c2)]->Below w.heap.size w wN->RE tz (ML 16 Dn) J Q 270 E (ML 16 Dn) wN:=λhE hB=>RE.here λa ha=>hJ a _ (hE.ag ha) hB;refine RE.seq ?_;refine aMn λK hK=>?_;refine aKQ I2 (FQ A n c f w hr BYO) ?_;rintro v w6 ⟨xC,gH⟩;obtain⟨A6,c6,rfl,_⟩:=xC.form;obtain⟨_,_,Fi⟩:=bT.bK oM xC;rw[aF]at Fi⊢;refine Zu ?_;refine aKQ wo (Vx A6 n c6 _ k w6 Fi) ?_;rintro v w7 ⟨lD,sj,Wq,fy⟩;have bl7:=gH.tr lD;by_cases hg:kL n (lf (aG (λi=>(f i).1) n))=0/\¬tL k
 .obtain⟨ov,us,rfl,hR⟩:=fy hg.1 hg.2;clear sj Wq fy;obtain⟨aNX,zS⟩:=hg;obtain⟨rm,rfl⟩:∃r:Nat,k=r:=⟨k.toNat,by unfold tL at zS;omega⟩;have hrm:1<=rm/\rm<=8:=by unfold tL at zS;omega
  rw[aD3]at hR;obtain⟨_,aKx⟩:=vW.1 aNX;have esl:aG (lf (aG (λi=>(f i).1) n)) n=aG (λi=>(f i).1) n:=lM λi hi=>kU _ hi;rw[esl]at hR;obtain⟨_,yC,xZ⟩:=fL.Vv (l:=aG (λi=>(f i).1) n) hrm.1;have Wh:=xZ.length_eq;rw[aF]at Wh;have hlen:=(MF _ λr hr=>(yC r hr).1).1;rw[Wh]at hlen;generalize fL.tX (aG (λi=>(f i).1) n) rm=rows at*;obtain⟨Ao,co,rfl,_⟩:=hR.own.form;obtain⟨hn,_,hrd⟩:=hR.read;rw[hn]at hrd⊢;have eE:∀i,i<rows.length->lf rows i≠[]/\(lf rows i).Pairwise (·<=·):=λi hi=>yC _ (by rw[bU hi];exact aCX _);have hsl:aG (lf rows) rows.length=rows:=dE rows;have hml:∀i,i<rows.length->(lf rows i).length<=60:=λi hi=>by
   have h1:=wX (lf rows) (show i+1<=rows.length from hi);rw[lY,aBh,hsl,Wh]at h1;omega
  have hE:BR rows.length (lf rows)=0:=Qe (by rw[hsl,Wh];exact se) (by
   rw[hsl,aCJ];intro x hx;have:=xZ.mem_iff.1 hx;simp only[aG,aCc,aC5]at this;obtain⟨i,hi,rfl⟩:=this;have:=aKx i hi;rwa[kU _ hi]at this) (λi hi=>(eE i hi).2)
  clear hR hn yC;refine Zu ?_;refine aMI (RE.seq ?_);refine Zu ?_;refine aLO rfl ?_;refine aMn λK hK=>?_;refine aKQ wq (Lu Ao rows.length co (lf us) (lf rows) _ hrd ⟨BYO,λi hi=>by have:=hml i hi;omega⟩) ?_;rintro v w8 ⟨mN,_,Qt⟩;obtain⟨s,out,rfl,ho,hpo,hso⟩:=Qt hE;rw[hsl]at hpo;have WZ:=X2 (hpo.trans xZ) hso;obtain⟨As,cs,rfl,_⟩:=ho.form;have bl8:=bl7.tr mN;have gp:=pT.below bl8;refine aMn λK hK=>?_;refine aKQ I2 (FQ A2 n c2 _ w8 gp BYO) ?_;rintro v w9 ⟨hN9,zV⟩;obtain⟨A9,c9,rfl,_⟩:=hN9.form;obtain⟨_,_,hr9⟩:=bT.bK oM hN9;obtain⟨_,_,WS⟩:=bT.bK oM (ho.below zV);rw[aF]at hr9⊢;have hol:out.length=n:=by rw[WZ,aF]
  refine Zu ?_;refine aKQ wu (X1 As out.length cs _ A9 n c9 _ w9 WS hr9 BYO) ?_;rintro v AA ⟨rfl,oR⟩;rw[decide_eq_true (by rw[dE,WZ,lM λi hi=>kU _ hi])];refine Zu ?_;refine aJh rfl ?_;refine Zu ?_;exact aMI (fin aJA ((bl8.tr zV).tr oR))
 .obtain⟨e,he0,rfl⟩:∃e,e≠0/\v=.tuple #[.slice none 0 0,cI e]:=by
   by_cases h0:kL n (lf (aG (λi=>(f i).1) n))=0
   .refine⟨1,BYD,Wq h0 ?_⟩;exact aD0 λh1=>hg ⟨h0,h1⟩
   .exact⟨_,h0,sj h0⟩
  rw[bO he0];refine Zu ?_;refine aMI (RE.seq ?_);refine Zu ?_;refine aJh rfl ?_;refine Zu ?_;exact aMI (fin aJA bl7)
end Rk
