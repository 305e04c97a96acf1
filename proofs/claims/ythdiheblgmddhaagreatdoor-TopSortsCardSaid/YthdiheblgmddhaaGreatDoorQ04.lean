/- Part of the proof of TopSorts. -/
import Derived.Test.YthdiheblgmddhaaGreatDoorQ03
set_option linter.all false
set_option maxHeartbeats 8000000
namespace Sf
variable{k:Int}{rk wt:Nat}
abbrev It:=Int×Int
inductive T where
 |nil:T
 |node (key:Int) (bV want:Nat) (items:List It) (l r:T):T
namespace T
def isNil:T->Bool
 |nil=>true
 |node .. =>false
def key:T->Int
 |nil=>0
 |node k _ _ _ _ _=>k
def bV:T->Nat
 |nil=>0
 |node _ r _ _ _ _=>r
def want:T->Nat
 |nil=>0
 |node _ _ n _ _ _=>n
def items:T->List It
 |nil=>[]
 |node _ _ _ i _ _=>i
def left:T->T
 |nil=>nil
 |node _ _ _ _ l _=>l
def right:T->T
 |nil=>nil
 |node _ _ _ _ _ r=>r
def leaf(t:T):Bool:=t.left.isNil&&t.right.isNil
def dO:T->List It->T
 |nil,_=>nil
 |node k r n _ x y,i=>node k r n i x y
def all:T->List It
 |nil=>[]
 |node _ _ _ i l r=>i++(l.all++r.all)
def size:T->Nat
 |nil=>0
 |node _ _ _ _ l r=>l.size+r.size+1
def Cd:T->Nat
 |nil=>0
 |node k _ _ i l r=>(i.filter λx=>decide (x.1≠k)).length+(l.Cd+r.Cd)
def HM:T->Nat
 |nil=>0
 |node _ _ _ i l r=>i.length+(l.HM+l.all.length)+(r.HM+r.all.length)
def Vg(t:T):t.isNil=true↔t=nil:=by cases t<;>simp[isNil]
def R7(t:T):t.isNil=false↔t≠nil:=by cases t<;>simp[isNil]
end T
def BI(l r:T):Bool:=l.isNil||(!r.isNil&&decide (r.key<l.key))
def fst(l r:T):T:=if BI l r then r else l
def snd(l r:T):T:=if BI l r then l else r
inductive xI:T->T->Prop
 |stop {k:Int} {rk wt:Nat} {its:List It} {l r:T} (h:¬(its.length<wt/\(l.isNil&&r.isNil)=false)):xI (.node k rk wt its l r) (.node k rk wt its l r)
 |leaf {k:Int} {rk wt:Nat} {its:List It} {l r t:T} (h:its.length<wt) (hn:(l.isNil&&r.isNil)=false) (hl:(fst l r).leaf=true)
   (ht:xI (.node (fst l r).key rk wt (its++(fst l r).items) .nil (snd l r)) t):xI (.node k rk wt its l r) t
 |deep {k:Int} {rk wt:Nat} {its:List It} {l r a t:T} (h:its.length<wt) (hn:(l.isNil&&r.isNil)=false) (hl:(fst l r).leaf=false)
   (ha:xI ((fst l r).dO []) a) (ht:xI (.node (fst l r).key rk wt (its++(fst l r).items) a (snd l r)) t):xI (.node k rk wt its l r) t
def Ok:T->Prop
 | .nil=>True
 | .node k rk wt its l r=>its≠[]/\1<=wt/\(∀x∈its,x.1<=k)/\(l=.nil\/(k<=l.key/\l.bV+1=rk))/\(r=.nil\/(k<=r.key/\r.bV+1=rk))/\Ok l/\Ok r
structure Ok0(k:Int)(rk wt:Nat)(its:List It)(l r:T):Prop where
 want:1<=wt
 own:its≠[]->(∀x∈its,x.1<=k)/\(l=.nil\/k<=l.key)/\(r=.nil\/k<=r.key)
 some_:its≠[]\/(l.isNil&&r.isNil)=false
 rl:l=.nil\/l.bV+1=rk
 rr:r=.nil\/r.bV+1=rk
 left:Ok l
 right:Ok r
def jQ{l r:T}(hn:(l.isNil&&r.isNil)=false):(fst l r≠.nil)/\(snd l r=.nil\/(fst l r).key<=(snd l r).key)/\((fst l r=l/\snd l r=r)\/(fst l r=r/\snd l r=l)):=by
 unfold fst snd BI;cases l with
 |nil=>cases r with
  |nil=>simp[T.isNil]at hn
  |node=>simp[T.isNil]
 |node k1=>
  cases r with
  |nil=>simp[T.isNil]
  |node k2=>
   by_cases h:k2<k1
   .simp[T.isNil,T.key,h];omega
   .simp[T.isNil,T.key,h];omega
def Ok.lH{t:T}(h:Ok t)(hn:t≠.nil):t.items≠[]:=by
 cases t with
 |nil=>exact absurd rfl hn
 |node=>exact h.1
def Ok0.empty{t:T}(h:Ok t)(hl:t.leaf=false):∃k rk wt its l r,t=.node k rk wt its l r/\Ok0 k rk wt [] l r:=by
 cases t with
 |nil=>simp[T.leaf,T.left,T.right,T.isNil]at hl
 |node k rk wt its l r=>
  obtain⟨h1,h2,h3,h4,h5,h6,h7⟩:=h;exact⟨k,rk,wt,its,l,r,rfl,⟨h2,λh=>absurd rfl h,.inr hl,h4.imp id (·.2),h5.imp id (·.2),h6,h7⟩⟩
structure aBZ(t t':T):Prop where
 ok:Ok t'
 ne:t'≠.nil
 bV:t'.bV=t.bV
 want:t'.want=t.want
 perm:t'.all.Perm t.all
 low:∀m:Int,(t.items≠[]->m<=t.key)->(t.left=.nil\/m<=t.left.key)->(t.right=.nil\/m<=t.right.key)->m<=t'.key
 HM:t'.HM<=t.HM
 full:t'.want<=t'.items.length\/t'.leaf=true
def Ok0.next{its:List It}{l r a:T}(h:Ok0 k rk wt its l r)(hn:(l.isNil&&r.isNil)=false)
  (ha:a=.nil\/((fst l r).key<=a.key/\a.bV+1=rk/\Ok a)):Ok0 (fst l r).key rk wt (its++(fst l r).items) a (snd l r):=by
 obtain⟨h1,h2,h3⟩:=jQ hn;have hf:Ok (fst l r)/\Ok (snd l r)/\(snd l r=.nil\/(snd l r).bV+1=rk)/\(its≠[]->∀x∈its,x.1<=(fst l r).key):=by
  rcases h3 with⟨e1,e2⟩|⟨e1,e2⟩
  .refine⟨by rw[e1];exact h.left,by rw[e2];exact h.right,by rw[e2];exact h.rr,λhi x hx=>?_⟩;obtain⟨g1,g2,g3⟩:=h.own hi;rw[e1]at h1⊢;have:=g1 x hx;rcases g2 with g2|g2
   .exact absurd g2 h1
   .omega
  .refine⟨by rw[e1];exact h.right,by rw[e2];exact h.left,by rw[e2];exact h.rl,λhi x hx=>?_⟩;obtain⟨g1,g2,g3⟩:=h.own hi;rw[e1]at h1⊢;have:=g1 x hx;rcases g3 with g3|g3
   .exact absurd g3 h1
   .omega
 obtain⟨zO,HR,Fh,hf4⟩:=hf;have hi:=zO.lH h1;refine⟨h.want,λ_=>⟨λx hx=>?_,ha.imp id (·.1),h2⟩,.inl (by simp[hi]),ha.imp id (·.2.1),Fh,?_,HR⟩
 .rcases aBR.1 hx with hx|hx
  .exact hf4 (List.ne_nil_of_mem hx) x hx
  .revert zO hx;cases fst l r with
   |nil=>intro _ hx;cases hx
   |node=>intro zO hx;exact zO.2.2.1 x hx
 .rcases ha with rfl|ha
  .trivial
  .exact ha.2.2
def oL(t:T)(h:t≠.nil):t.all=t.items++(t.dO []).all:=by
 cases t with
 |nil=>exact absurd rfl h
 |node=>rfl
def Pu(t:T):t.HM=t.items.length+(t.dO []).HM:=by
 cases t with
 |nil=>rfl
 |node k rk wt its l r=>simp[T.HM,T.items,T.dO];omega
def BJ{t:T}(h:t.leaf=true):t.all=t.items:=by
 cases t with
 |nil=>rfl
 |node k rk wt its l r=>
  simp only[T.leaf,T.left,T.right,aBg,T.Vg]at h;obtain⟨rfl,rfl⟩:=h;simp[T.all,T.items]
def oV{k':Int}{its:List It}{l r a:T}(hn:(l.isNil&&r.isNil)=false)(ha:a.all.Perm ((fst l r).dO []).all)(hp:a.HM<=((fst l r).dO []).HM):
  (T.node k' rk wt (its++(fst l r).items) a (snd l r)).all.Perm (T.node k rk wt its l r).all/\(T.node k' rk wt (its++(fst l r).items) a (snd l r)).HM+(fst l r).items.length<=(T.node k rk wt its l r).HM:=by
 obtain⟨h1,h2,h3⟩:=jQ hn;have e:=oL _ h1;have e2:=Pu (fst l r);have hl:=ha.length_eq;constructor
 .simp only[T.all];rw[aCb];refine aDC its ?_;have:((fst l r).items++(a.all++(snd l r).all)).Perm ((fst l r).all++(snd l r).all):=by
   rw[<-aCb];refine aDi _ ?_;rw[e];exact aDC _ ha
  refine this.trans ?_;rcases h3 with⟨e1,e2⟩|⟨e1,e2⟩
  .rw[e1,e2]
  .rw[e1,e2];exact aDB
 .simp only[T.HM,aBh];have e3:(fst l r).all.length=(fst l r).items.length+((fst l r).dO []).all.length:=by rw[e,aBh]
  rcases h3 with⟨e1,e4⟩|⟨e1,e4⟩
  .rw[e4];rw[e1]at hl e2 e3 hp⊢;omega
  .rw[e4];rw[e1]at hl e2 e3 hp⊢;omega
def BK{t t':T}(h:xI t t'):∀{k:Int} {rk wt:Nat} {its:List It} {l r:T},t=.node k rk wt its l r->Ok0 k rk wt its l r->aBZ t t':=by
 induction h with
 | @stop k rk wt its l r h=>
  intro _ _ _ _ _ _ e h0;cases e;have hi:its≠[]:=by
   rcases h0.some_ with h1|h1
   .exact h1
   .intro e;subst e;have:=h0.want;exact h ⟨BYT,h1⟩
  obtain⟨g1,g2,g3⟩:=h0.own hi;refine⟨⟨hi,h0.want,g1,?_,?_,h0.left,h0.right⟩,BYS,rfl,rfl,.refl _,λm hm _ _=>hm hi,aAB _,?_⟩
  .rcases g2 with g2|g2
   .exact .inl g2
   .exact h0.rl.imp id λe=>⟨g2,e⟩
  .rcases g3 with g3|g3
   .exact .inl g3
   .exact h0.rr.imp id λe=>⟨g3,e⟩
  .simp only[T.want,T.items];by_cases h2:its.length<wt
   .right;cases hh:(l.isNil&&r.isNil) with
    |true=>exact hh
    |false=>exact absurd ⟨h2,hh⟩ h
   .left;omega
 | @leaf k rk wt its l r t h hn hl ht ih=>
  intro _ _ _ _ _ _ e h0;cases e;obtain⟨h1,h2,h3⟩:=jQ hn;have F:=ih rfl (h0.next hn (.inl rfl));have hz:((fst l r).dO []).all=[]:=by
   have e1:=BJ hl;have e2:=oL _ h1;rw[e1]at e2;have:=congrArg List.length e2;rw[aBh]at this;exact aCQ BYO
  have P:=oV (k:=k) (k':=(fst l r).key) (rk:=rk) (wt:=wt) (its:=its) (a:=.nil) hn (by rw[hz];exact .refl _) (aBt _);refine⟨F.ok,F.ne,F.bV,F.want,F.perm.trans P.1,λm sj Wq fy=>F.low m (λ_=>?_) (.inl rfl) ?_,aBS F.HM (by have:=P.2;omega),F.full⟩
  .show m<=(fst l r).key;rcases h3 with⟨e1,e2⟩|⟨e1,e2⟩
   .rw[e1]at h1⊢;exact Wq.resolve_left h1
   .rw[e1]at h1⊢;exact fy.resolve_left h1
  .show snd l r=.nil\/m<=(snd l r).key;rcases h3 with⟨e1,e2⟩|⟨e1,e2⟩
   .rw[e2];exact fy
   .rw[e2];exact Wq
 | @deep k rk wt its l r a t h hn hl ha ht iha ih=>
  intro _ _ _ _ _ _ e h0;cases e;obtain⟨h1,h2,h3⟩:=jQ hn;have XJ:Ok (fst l r)/\(fst l r).bV+1=rk:=by
   rcases h3 with⟨e1,e2⟩|⟨e1,e2⟩
   .rw[e1]at h1⊢;exact⟨h0.left,h0.rl.resolve_left h1⟩
   .rw[e1]at h1⊢;exact⟨h0.right,h0.rr.resolve_left h1⟩
  obtain⟨k1,Ms,Wn,GZ,l1,r1,e1,g1⟩:=Ok0.empty XJ.1 hl;have G:=iha (by rw[e1];rfl) g1;have Dy:(fst l r).key<=a.key:=by
   have g:=XJ.1;rw[e1]at g;have:=G.low k1 (by rw[e1];intro h;exact absurd rfl h) (by rw[e1];exact g.2.2.2.1.imp id (·.1)) (by rw[e1];exact g.2.2.2.2.1.imp id (·.1));rw[e1];exact this
  have Ww:a.bV+1=rk:=by
   have:=G.bV;rw[e1]at this;have h9:=XJ.2;rw[e1]at h9;rw[this];exact h9
  have F:=ih rfl (h0.next hn (.inr ⟨Dy,Ww,G.ok⟩));have P:=oV (k:=k) (k':=(fst l r).key) (rk:=rk) (wt:=wt) (its:=its) (a:=a) hn G.perm G.HM;refine⟨F.ok,F.ne,F.bV,F.want,F.perm.trans P.1,λm sj Wq fy=>?_,aBS F.HM (by have:=P.2;omega),F.full⟩;have hmf:m<=(fst l r).key:=by
   rcases h3 with⟨e1,e2⟩|⟨e1,e2⟩
   .rw[e1]at h1⊢;exact Wq.resolve_left h1
   .rw[e1]at h1⊢;exact fy.resolve_left h1
  refine F.low m (λ_=>hmf) (.inr (aDG hmf Dy)) ?_;show snd l r=.nil\/m<=(snd l r).key;rcases h3 with⟨e1,e2⟩|⟨e1,e2⟩
  .rw[e2];exact fy
  .rw[e2];exact Wq
def Pv(n:Nat):∀{k:Int} {rk wt:Nat} {its:List It} {l r:T},(T.node k rk wt its l r).HM<=n->Ok0 k rk wt its l r->∃t',xI (.node k rk wt its l r) t':=by
 induction n with
 |zero=>
  intro k rk wt its l r hp h0;exfalso;simp only[T.HM]at hp;rcases h0.some_ with h1|h1
  .exact h1 (aCQ BYO)
  .obtain⟨g1,g2,g3⟩:=jQ h1;have hz:l.all.length=0/\r.all.length=0:=BYO;have:Ok (fst l r)/\(fst l r).all.length=0:=by
    rcases g3 with⟨e1,e2⟩|⟨e1,e2⟩
    .rw[e1];exact⟨h0.left,hz.1⟩
    .rw[e1];exact⟨h0.right,hz.2⟩
   have h9:=this.1.lH g1;have e:=oL _ g1;have:=this.2;rw[e,aBh]at this;exact h9 (aCQ BYO)
 |succ n ih=>
  intro k rk wt its l r hp h0;by_cases hc:its.length<wt/\(l.isNil&&r.isNil)=false
  .obtain⟨h,hn⟩:=hc;obtain⟨h1,h2,h3⟩:=jQ hn;have XJ:Ok (fst l r)/\(fst l r).bV+1=rk:=by
    rcases h3 with⟨e1,e2⟩|⟨e1,e2⟩
    .rw[e1]at h1⊢;exact⟨h0.left,h0.rl.resolve_left h1⟩
    .rw[e1]at h1⊢;exact⟨h0.right,h0.rr.resolve_left h1⟩
   have hi:0<(fst l r).items.length:=aC8.2 (XJ.1.lH h1);cases hl:(fst l r).leaf with
   |true=>
    have hz:((fst l r).dO []).all=[]:=by
     have e1:=BJ hl;have e2:=oL _ h1;rw[e1]at e2;have:=congrArg List.length e2;rw[aBh]at this;exact aCQ BYO
    have P:=oV (k:=k) (k':=(fst l r).key) (rk:=rk) (wt:=wt) (its:=its) (a:=.nil) hn (by rw[hz];exact .refl _) (aBt _);obtain⟨t,ht⟩:=ih (by have:=P.2;omega) (h0.next hn (.inl rfl));exact⟨t,.leaf h hn hl ht⟩
   |false=>
    obtain⟨k1,Ms,Wn,GZ,l1,r1,e1,g1⟩:=Ok0.empty XJ.1 hl;have nB:((fst l r).dO []).HM<=n:=by
     have e2:=Pu (fst l r);have e3:(fst l r).HM<=(T.node k rk wt its l r).HM:=by
      simp only[T.HM];rcases h3 with⟨e1,e2⟩|⟨e1,e2⟩
      .rw[e1];omega
      .rw[e1];omega
     omega
    obtain⟨a,ha⟩:=ih (k:=k1) (rk:=Ms) (wt:=Wn) (its:=[]) (l:=l1) (r:=r1) (by rw[e1]at nB;exact nB) g1;have uL:xI ((fst l r).dO []) a:=by rw[e1];exact ha
    have G:=BK ha rfl g1;have Dy:(fst l r).key<=a.key:=by
     have g:=XJ.1;rw[e1]at g;have:=G.low k1 (λh=>absurd rfl h) (g.2.2.2.1.imp id (·.1)) (g.2.2.2.2.1.imp id (·.1));rw[e1];exact this
    have Ww:a.bV+1=rk:=by
     have h9:=XJ.2;rw[e1]at h9;rw[G.bV];exact h9
    have P:=oV (k:=k) (k':=(fst l r).key) (rk:=rk) (wt:=wt) (its:=its) (a:=a) hn (by rw[e1];exact G.perm) (by rw[e1];exact G.HM);obtain⟨t,ht⟩:=ih (by have:=P.2;omega) (h0.next hn (.inr ⟨Dy,Ww,G.ok⟩));exact⟨t,.deep h hn hl uL ht⟩
  .exact⟨_,.stop hc⟩
variable{R n:Nat}
def sF(R:Nat):Nat->Nat
 |0=>1
 |k+1=>if k+1<=R then 1 else(3*sF R k+1)/2
def qY(R:Nat)(t:T):Nat:=if R<t.bV+1 then(3*t.want+1)/2 else 1
def one(x:It):T:=.node x.1 0 1 [x] .nil .nil
def pair(R:Nat)(t n:T):T:=.node 0 (t.bV+1) (qY R t) [] t n
inductive Carry(R:Nat):T->List T->List T->Prop
 |stop {n:T} {ts:List T} (h:∀t r,ts=t::r->t.bV≠n.bV):Carry R n ts (n::ts)
 |join {n t n':T} {r out:List T} (h:t.bV=n.bV) (hf:xI (pair R t n) n') (hc:Carry R n' r out):Carry R n (t::r) out
def iP(f:Nat->T):Nat->Nat
 |0=>0
 |i+1=>if(f i).key<(f (iP f i)).key then i else iP f i
def Kx(t t':T):Prop:=if 2*(t.items.drop 1).length<=t.want/\t.leaf=false then xI (t.dO (t.items.drop 1)) t' else t'=t.dO (t.items.drop 1)
def cnt(k:Nat):T->Nat
 | .nil=>0
 | .node _ rk _ _ l r=>(if rk=k then 1 else 0)+(cnt k l+cnt k r)
def Sz(R:Nat):T->Prop
 | .nil=>True
 | .node k rk wt its l r=>wt=sF R rk/\(rk<=R->its.length<=1/\∀x∈its,x.1=k)/\its.length<=3*sF R rk/\Sz R l/\Sz R r
def R8{k:Nat}(h:k<=R):sF R k=1:=by
 cases k with
 |zero=>rfl
 |succ k=>simp[sF,h]
def R9(R k:Nat):1<=sF R k:=by
 induction k with
 |zero=>simp[sF]
 |succ k ih=>simp only[sF];split<;>omega
def aFm(R k:Nat):k+1<=R\/3*sF R k<=2*sF R (k+1):=by
 by_cases h:k+1<=R
 .exact .inl h
 .right;simp only[sF,if_neg h];omega
def Pw{its:List It}{l r a:T}(hn:(l.isNil&&r.isNil)=false)(h:Sz R (.node k rk wt its l r))(hw:its.length<wt)(hl:l=.nil\/l.bV+1=rk)(hr:r=.nil\/r.bV+1=rk)(ha:Sz R a):
  Sz R (.node (fst l r).key rk wt (its++(fst l r).items) a (snd l r)):=by
 obtain⟨h1,h2,h3⟩:=jQ hn;obtain⟨s1,s2,s3,s4,s5⟩:=h;have hf:Sz R (fst l r)/\Sz R (snd l r)/\(fst l r).bV+1=rk:=by
  rcases h3 with⟨e1,e2⟩|⟨e1,e2⟩
  .rw[e1,e2];rw[e1]at h1;exact⟨s4,s5,hl.resolve_left h1⟩
  .rw[e1,e2];rw[e1]at h1;exact⟨s5,s4,hr.resolve_left h1⟩
 obtain⟨f1,f2,f3⟩:=hf;refine⟨s1,λhR=>?_,?_,ha,f2⟩
 .rw[s1,R8 hR]at hw;obtain rfl:=aCQ (by omega:its.length=0);revert f1 f3 h1;cases fst l r with
  |nil=>intro h1 _ _;exact absurd rfl h1
  |node k1 Ms Wn GZ l1 r1=>
   intro _ f1 f3;exact f1.2.1 (by show Ms<=R;have:Ms+1=rk:=f3;omega)
 .rw[aBh];have f4:(fst l r).items.length<=3*sF R (fst l r).bV/\((fst l r).bV<=R->(fst l r).items.length<=1):=by
   revert f1 h1;cases fst l r with
   |nil=>intro h1 _;exact absurd rfl h1
   |node k1 Ms Wn GZ l1 r1=>intro _ f1;exact⟨f1.2.2.1,λh=>(f1.2.1 h).1⟩
  rcases aFm R (fst l r).bV with h|h
  .rw[f3]at h;have:=f4.2 BYO;have:=R9 R rk;omega
  .rw[f3]at h;have:=f4.1;omega
def Sz.set{t:T}(h:Sz R t):Sz R (t.dO []):=by
 cases t with
 |nil=>trivial
 |node=>exact⟨h.1,λ_=>⟨aBt _,λ_ hx=>by cases hx⟩,aBt _,h.2.2.2.1,h.2.2.2.2⟩
def ny(k:Nat)(t:T)(i:List It):cnt k (t.dO i)=cnt k t:=by cases t<;>rfl
def nz{its:List It}{l r:T}(hn:(l.isNil&&r.isNil)=false)(h0:Ok0 k rk wt its l r)(hs:Sz R (.node k rk wt its l r)):Ok (fst l r)/\Sz R (fst l r)/\(fst l r).bV+1=rk:=by
 obtain⟨h1,h2,h3⟩:=jQ hn;rcases h3 with⟨e1,e2⟩|⟨e1,e2⟩
 .rw[e1]at h1⊢;exact⟨h0.left,hs.2.2.2.1,h0.rl.resolve_left h1⟩
 .rw[e1]at h1⊢;exact⟨h0.right,hs.2.2.2.2,h0.rr.resolve_left h1⟩
def Px(k:Nat){l r:T}(hn:(l.isNil&&r.isNil)=false):cnt k (fst l r)+cnt k (snd l r)=cnt k l+cnt k r:=by
 obtain⟨h1,h2,h3⟩:=jQ hn;rcases h3 with⟨e1,e2⟩|⟨e1,e2⟩
 .rw[e1,e2]
 .rw[e1,e2];omega
def Py{t t':T}(h:xI t t'):∀{k:Int} {rk wt:Nat} {its:List It} {l r:T},t=.node k rk wt its l r->Ok0 k rk wt its l r->Sz R t->Sz R t'/\∀j,cnt j t'<=cnt j t:=by
 induction h with
 |stop h=>intro _ _ _ _ _ _ _ _ hs;exact⟨hs,λj=>aAB _⟩
 | @leaf k rk wt its l r t h hn hl ht ih=>
  intro _ _ _ _ _ _ e h0 hs;cases e;obtain⟨g1,g2⟩:=ih rfl (h0.next hn (.inl rfl)) (Pw hn hs h h0.rl h0.rr (by trivial));refine⟨g1,λj=>aBS (g2 j) ?_⟩;have:=Px j hn;simp only[cnt];omega
 | @deep k rk wt its l r a t h hn hl ha ht iha ih=>
  intro _ _ _ _ _ _ e h0 hs;cases e;obtain⟨ho,hz,Ww⟩:=nz hn h0 hs;obtain⟨k1,Ms,Wn,GZ,l1,r1,e1,g1⟩:=Ok0.empty ho hl;obtain⟨a1,a2⟩:=iha (by rw[e1];rfl) g1 hz.set;have G:=BK ha (by rw[e1];rfl) g1;have Dy:(fst l r).key<=a.key:=by
   have g:=ho;rw[e1]at g;have:=G.low k1 (by rw[e1];intro h;exact absurd rfl h) (by rw[e1];exact g.2.2.2.1.imp id (·.1)) (by rw[e1];exact g.2.2.2.2.1.imp id (·.1));rw[e1];exact this
  have aMA:a.bV+1=rk:=by
   have:=G.bV;rw[e1]at this;rw[e1]at Ww;rw[this];exact Ww
  obtain⟨g2,g3⟩:=ih rfl (h0.next hn (.inr ⟨Dy,aMA,G.ok⟩)) (Pw hn hs h h0.rl h0.rr a1);refine⟨g2,λj=>aBS (g3 j) ?_⟩;have:=Px j hn;have:=a2 j;rw[ny]at this;simp only[cnt];omega
def iS(ts:List T):List It:=ts.flatMap T.all
def LF:List T->Nat
 |[]=>0
 |t::r=>t.Cd+LF r
def uE(k:Nat):List T->Nat
 |[]=>0
 |t::r=>cnt k t+uE k r
def rW(k:Nat):List T->Nat
 |[]=>0
 |t::r=>(if t.bV=k then 1 else 0)+rW k r
def Good(R:Nat)(t:T):Prop:=Ok t/\t≠.nil/\Sz R t
def Cap(n:Nat)(ts:List T):Prop:=∃c:Nat->Nat,c 0<=n/\∀k,uE k ts<=c k/\2*c (k+1)+rW k ts<=c k
structure St(R n:Nat)(ts:List T):Prop where
 lR:∀t∈ts,Good R t
 cap:Cap n ts
 many:(iS ts).length<=n
def Good.want{t:T}(h:Good R t):t.want=sF R t.bV:=by
 cases t with
 |nil=>exact absurd rfl h.2.1
 |node=>exact h.2.2.1
def RN{t:T}(h:Good R t):qY R t=sF R (t.bV+1):=by
 unfold qY;rw[h.want];by_cases h1:R<t.bV+1
 .rw[if_pos h1];simp only[sF];rw[if_neg BYO]
 .rw[if_neg h1,R8 BYO]
def LH(R:Nat)(x:It):Good R (one x):=⟨⟨BYS,aAB _,BYS,.inl rfl,.inl rfl,trivial,trivial⟩,by simp[one],rfl,λ_=>⟨BYS,BYS⟩,by simp[sF],trivial,trivial⟩
def VL{t n:T}(ht:Good R t)(hn:Good R n)(h:t.bV=n.bV):Ok0 0 (t.bV+1) (qY R t) [] t n/\Sz R (pair R t n):=by
 have h1:t.isNil=false:=(T.R7 t).2 ht.2.1;refine⟨⟨?_,λh=>absurd rfl h,.inr (by simp[h1]),.inr rfl,.inr BYO,ht.1,hn.1⟩,RN ht,λ_=>⟨aBt _,λ_ hx=>by cases hx⟩,aBt _,ht.2.2,hn.2.2⟩;rw[RN ht];exact R9 _ _
def DW{t n n':T}(ht:Good R t)(hn:Good R n)(h:t.bV=n.bV)(hf:xI (pair R t n) n'):
  Good R n'/\n'.bV=t.bV+1/\n'.all.Perm (t.all++n.all)/\∀j,cnt j n'<=(if t.bV+1=j then 1 else 0)+(cnt j t+cnt j n):=by
 obtain⟨h0,hz⟩:=VL ht hn h;have F:=BK hf rfl h0;obtain⟨z1,z2⟩:=Py hf rfl h0 hz;exact⟨⟨F.ok,F.ne,z1⟩,F.bV,F.perm,z2⟩
def od{t n:T}(ht:Good R t)(hn:Good R n)(h:t.bV=n.bV):∃n',xI (pair R t n) n':=Pv _ (aAB _) (VL ht hn h).1
def S0:∀{ts:List T} {n:T},(∀t∈ts,Good R t)->Good R n->∃out,Carry R n ts out:=by
 intro ts;induction ts with
 |nil=>intro n _ _;exact⟨_,.stop λ_ _ h=>by cases h⟩
 |cons t r ih=>
  intro n zk hn;by_cases h:t.bV=n.bV
  .obtain⟨n',hf⟩:=od (zk t BYS) hn h;obtain⟨out,ho⟩:=ih (λu hu=>zk u (by simp[hu])) (DW (zk t BYS) hn h hf).1;exact⟨out,.join h hf ho⟩
  .exact⟨_,.stop λ_ _ e=>by cases e;exact h⟩
def S3{n:T}{ts out:List T}(h:Carry R n ts out):(∀t∈ts,Good R t)->Good R n->(∀t∈out,Good R t)/\(iS out).Perm (n.all++iS ts)/\
  ∀m,(∃c:Nat->Nat,c 0<=m/\∀k,uE k (n::ts)<=c k/\2*c (k+1)+rW k (n::ts)<=c k)->Cap m out:=by
 induction h with
 |stop h=>
  intro zk hn;refine⟨λt ht=>?_,.refl _,λm hm=>hm⟩;rcases aBI.1 ht with rfl|ht
  .exact hn
  .exact zk t ht
 | @join n t n' r out h hf hc ih=>
  intro zk hn;obtain⟨j1,j2,j3,j4⟩:=DW (zk t BYS) hn h hf;obtain⟨i1,i2,i3⟩:=ih (λu hu=>zk u (by simp[hu])) j1;refine⟨i1,i2.trans ?_,λm hm=>i3 m ?_⟩
  .have:(iS (t::r))=t.all++iS r:=rfl;rw[this];refine(aDi _ j3).trans ?_;rw[<-aCb];exact aDi _ aDB
  .obtain⟨c,c0,ck⟩:=hm;refine⟨λk=>if k=t.bV+1 then c k+1 else c k,by simp only;rw[if_neg BYO];exact c0,λk=>?_⟩;have a:=ck k;have a1:=ck (k+1);have b:=j4 k;simp only[uE,rW]at a a1⊢;rw[j2];rw[<-h]at a a1;by_cases h1:k=t.bV+1
   .subst h1;have e1:¬(t.bV+1+1=t.bV+1):=BYO;have e2:¬(t.bV=t.bV+1):=BYO;simp only[eq_self,if_true,if_neg e1,if_neg e2]at a b⊢;omega
   .have e1:¬(t.bV+1=k):=λe=>h1 e.symm;by_cases h2:k=t.bV
    .subst h2;have e2:¬(t.bV=t.bV+1):=BYO;simp only[eq_self,if_true,if_neg e1,if_neg e2]at a b⊢;omega
    .have e2:¬(t.bV=k):=λe=>h2 e.symm;have e3:¬(k+1=t.bV+1):=BYO;simp only[if_neg h1,if_neg e1,if_neg e2,if_neg e3]at a b⊢;omega
def oe{ts out:List T}{x:It}(h:St R n ts)(hc:Carry R (one x) ts out):St R (n+1) out/\(iS out).Perm (x::iS ts):=by
 obtain⟨h1,h2,h3⟩:=S3 hc h.lR (LH R x);refine⟨⟨h1,h3 _ ?_,?_⟩,h2⟩
 .obtain⟨c,c0,ck⟩:=h.cap;refine⟨λk=>if k=0 then c k+1 else c k,by simp only[if_pos];omega,λk=>?_⟩;have a:=ck k;simp only[uE,rW,one,cnt,T.bV];by_cases h0:k=0
  .subst h0;simp only[aAn]at a⊢;simp;omega
  .have h1:¬(0=k):=λe=>h0 e.symm;simp[h0,h1];omega
 .have:=h2.length_eq;rw[this];have:=h.many;simp[one,T.all]at*;omega
def og{ts:List T}(h:St R n ts)(x:It):∃out,Carry R (one x) ts out:=S0 h.lR (LH R x)
def St.nil(R:Nat):St R 0 []:=⟨λt ht=>(by cases ht),⟨λ_=>0,aAB _,λk=>⟨aAB _,aAB _⟩⟩,aAB _⟩
def Ky{t:T}(h:Good R t)(hl:t.leaf=false):∃k rk wt its l r,t=.node k rk wt its l r/\Ok0 k rk wt (its.drop 1) l r/\Sz R (.node k rk wt (its.drop 1) l r):=by
 obtain⟨h1,h2,h3⟩:=h;cases t with
 |nil=>exact absurd rfl h2
 |node k rk wt its l r=>
  obtain⟨o1,o2,o3,o4,o5,o6,o7⟩:=h1;obtain⟨s1,s2,s3,s4,s5⟩:=h3;refine⟨k,rk,wt,its,l,r,rfl,⟨o2,λ_=>⟨λx hx=>o3 x (aGi hx),o4.imp id (·.1),o5.imp id (·.1)⟩,.inr hl,o4.imp id (·.2),o5.imp id (·.2),o6,o7⟩,s1,λh=>⟨?_,λx hx=>(s2 h).2 x (aGi hx)⟩,?_,s4,s5⟩
  .rw[aC6];have:=(s2 h).1;omega
  .rw[aC6];omega
def om{t:T}(h:Good R t):∃t',Kx t t':=by
 unfold Kx;by_cases hc:2*(t.items.drop 1).length<=t.want/\t.leaf=false
 .simp only[if_pos hc];obtain⟨k,rk,wt,its,l,r,rfl,h0,_⟩:=Ky h hc.2;exact Pv _ (aAB _) h0
 .simp only[if_neg hc];exact⟨_,rfl⟩
def oq{t t':T}(h:Good R t)(hp:Kx t t'):t'.bV=t.bV/\t'≠.nil/\t'.all.Perm (t.all.drop 1)/\(∀j,cnt j t'<=cnt j t)/\(t'.items≠[]->Good R t')/\(t'.items=[]->t'.all=[]/\t'.leaf=true)/\t.all=t.items++t.all.drop t.items.length:=by
 have cQ:t.all.drop 1=t.items.drop 1++(t.dO []).all:=by
  have:=h.1.lH h.2.1;rw[oL t h.2.1];cases hi:t.items with
  |nil=>exact absurd hi this
  |cons x r=>rfl
 have qQ:t.all=t.items++t.all.drop t.items.length:=by
  rw[oL t h.2.1];simp
 unfold Kx at hp;split at hp
 .rename_i hc;obtain⟨k,rk,wt,its,l,r,rfl,h0,hz⟩:=Ky h hc.2;have F:=BK hp rfl h0;obtain⟨z1,z2⟩:=Py hp rfl h0 hz;refine⟨F.bV,F.ne,?_,z2,λ_=>⟨F.ok,F.ne,z1⟩,λe=>absurd e (F.ok.lH F.ne),qQ⟩;rw[cQ];exact F.perm
 .rename_i hc;subst hp;cases t with
  |nil=>exact absurd rfl h.2.1
  |node k rk wt its l r=>
   obtain⟨⟨o1,o2,o3,o4,o5,o6,o7⟩,_,s1,s2,s3,s4,s5⟩:=h;refine⟨rfl,by simp[T.dO],by rw[cQ];exact .refl _,λj=>aAB _,λhi=>⟨⟨hi,o2,λx hx=>o3 x (aGi hx),o4,o5,o6,o7⟩,by simp[T.dO],s1,λh=>⟨?_,λx hx=>(s2 h).2 x (aGi hx)⟩,?_,s4,s5⟩,λhi=>?_,qQ⟩
   .show(its.drop 1).length<=1;rw[aC6];have:=(s2 h).1;omega
   .show(its.drop 1).length<=_;rw[aC6];omega
   .have uK:its.drop 1=[]:=hi;have hlf:(T.node k rk wt its l r).leaf=true:=by
     cases hh:(T.node k rk wt its l r).leaf with
     |true=>rfl
     |false=>exact absurd ⟨by show 2*(its.drop 1).length<=wt;rw[uK];simp,hh⟩ hc
    have CG:(T.node k rk wt (its.drop 1) l r).leaf=true:=hlf;exact⟨by show(T.node k rk wt (its.drop 1) l r).all=[];rw[BJ CG];exact uK,CG⟩
def tW(ts:List T)(at_:Nat)(t':T):List T:=if t'.items.length=0 then ts.eraseIdx at_ else ts.set at_ t'
def aB0{ts:List T}{p:Nat}{t':T}(h:St R n ts)(hp:p<ts.length)(ht:Kx ts[p] t'):St R n (tW ts p t')/\∃x,ts[p].items.head?=some x/\(x::iS (tW ts p t')).Perm (iS ts)/\x.1<=ts[p].key:=by
 have hg:=h.lR ts[p] (aCX _);obtain⟨q1,q2,q3,q4,q5,q6,q7⟩:=oq hg ht;have aHr:ts=ts.take p++ts[p]::ts.drop (p+1):=by rw[List.getElem_cons_drop,aDk]
 obtain⟨x,xs,hx⟩:∃x xs,ts[p].items=x::xs:=by
  cases hh:ts[p].items with
  |nil=>exact absurd hh (hg.1.lH hg.2.1)
  |cons x xs=>exact⟨x,xs,rfl⟩
 have hb:tW ts p t'=ts.take p++((if t'.items.length=0 then [] else [t'])++ts.drop (p+1)):=by
  unfold tW;split
  .rw[aHp,aDF]
  .rw[List.set_eq_take_append_cons_drop,if_pos hp];rfl
 have zu:∀(k:Nat) (a b:List T),uE k (a++b)=uE k a+uE k b:=λk a b=>by
  induction a with
  |nil=>simp[uE]
  |cons u a ih=>simp only[aCq,uE,ih];omega
 have Z4:∀(k:Nat) (a b:List T),rW k (a++b)=rW k a+rW k b:=λk a b=>by
  induction a with
  |nil=>simp[rW]
  |cons u a ih=>simp only[aCq,rW,ih];omega
 have xZ:(x::iS (tW ts p t')).Perm (iS ts):=by
  have e1:iS ts=iS (ts.take p)++(ts[p].all++iS (ts.drop (p+1))):=by
   conv=>lhs;rw[aHr]
   unfold iS;rw[aEZ,aDs]
  have e2:ts[p].all=x::ts[p].all.drop 1:=by
   rw[q7,hx];simp
  have e3:(iS (if t'.items.length=0 then [] else [t'])).Perm (ts[p].all.drop 1):=by
   refine List.Perm.trans ?_ q3;by_cases h0:t'.items.length=0
   .rw[if_pos h0,(q6 (aCQ h0)).1];exact .refl _
   .rw[if_neg h0];simp[iS]
  rw[e1,e2,hb];have e4:iS (ts.take p++((if t'.items.length=0 then [] else [t'])++ts.drop (p+1)))=iS (ts.take p)++(iS (if t'.items.length=0 then [] else [t'])++iS (ts.drop (p+1))):=by simp[iS]
  rw[e4];refine(List.perm_middle.symm).trans (aDC _ ?_);exact List.Perm.cons _ (aDi _ e3)
 refine⟨⟨λt CC=>?_,?_,?_⟩,x,by rw[hx];rfl,xZ,?_⟩
 .rw[hb]at CC;rcases aBR.1 CC with h1|h1
  .exact h.lR t (List.mem_of_mem_take h1)
  .rcases aBR.1 h1 with h1|h1
   .split at h1
    .cases h1
    .rename_i h0;simp at h1;subst h1;exact q5 λe=>h0 (by rw[e];rfl)
   .exact h.lR t (aGi h1)
 .obtain⟨c,c0,ck⟩:=h.cap;refine⟨c,c0,λk=>?_⟩;have a:=ck k;have b:=q4 k;rw[aHr]at a;rw[hb];rw[zu,Z4]at a⊢;rw[zu,Z4];simp only[uE,rW]at a;have e1:uE k (if t'.items.length=0 then [] else [t'])<=cnt k t':=by
   split
   .exact aBt _
   .simp[uE]
  have e2:rW k (if t'.items.length=0 then [] else [t'])<=(if ts[p].bV=k then 1 else 0):=by
   split
   .exact aBt _
   .simp only[rW,q1];omega
  omega
 .have:=xZ.length_eq;have:=h.many;simp at*;omega
 .revert hg hx;cases ts[p] with
  |nil=>intro hg _;exact absurd rfl hg.2.1
  |node k rk wt its l r=>
   intro hg hx;have BW:its=x::xs:=hx;exact hg.1.2.2.1 x (by rw[BW];simp)
variable{m:Nat}
def HN{ts:List T}(h:Cap n ts)(k:Nat):2 ^ k*uE k ts<=n:=by
 obtain⟨c,c0,ck⟩:=h;have:∀k,2 ^ k*c k<=n:=by
  intro k;induction k with
  |zero=>simpa using c0
  |succ k ih=>
   have:=(ck k).2;refine aBS ?_ ih;rw[aDW,Nat.mul_assoc];exact aI2 _ BYO
 exact aBS (aI2 _ (ck k).1) (this k)
def Vh(m:Nat):T->Prop
 | .nil=>True
 | .node _ rk _ _ l r=>rk<=m/\Vh m l/\Vh m r
def ou:∀{t:T},(∀k,m<k->cnt k t=0)->Vh m t:=by
 intro t;induction t with
 |nil=>intro _;trivial
 |node k rk wt its l r hl hr=>
  intro h;refine⟨?_,hl λj hj=>?_,hr λj hj=>?_⟩
  .refine Nat.le_of_not_lt λh1=>?_;have:=h rk h1;simp[cnt]at this
  .have:=h j hj;simp only[cnt]at this;omega
  .have:=h j hj;simp only[cnt]at this;omega
def aB1(k:Nat):∀{ts:List T} {t:T},t∈ts->cnt k t<=uE k ts:=by
 intro ts;induction ts with
 |nil=>intro t ht;cases ht
 |cons u r ih=>
  intro t ht;rcases aBI.1 ht with rfl|ht
  .simp only[uE];omega
  .have:=ih ht;simp only[uE];omega
def St.Ce{ts:List T}(h:St R n ts)(hn:n<2 ^ (m+1)):∀t∈ts,Vh m t:=λt ht=>ou λk hk=>by
 have h1:=HN h.cap k;have h2:=aB1 k ht;have h3:2 ^ (m+1)<=2 ^ k:=aDm BYO BYO;rcases aCl (cnt k t) with h4|h4
 .exact h4
 .have:2 ^ k*1<=2 ^ k*uE k ts:=aI2 _ BYO;omega
def sumTo(f:Nat->Nat):Nat->Nat
 |0=>0
 |k+1=>sumTo f k+f k
def aDY(f g:Nat->Nat)(m:Nat):sumTo (λk=>f k+g k) m=sumTo f m+sumTo g m:=by
 induction m with
 |zero=>rfl
 |succ m ih=>simp only[sumTo,ih];omega
def aKD(a:Nat->Nat)(rk m:Nat):sumTo (λk=>a k*(if rk=k then 1 else 0)) m=if rk<m then a rk else 0:=by
 induction m with
 |zero=>rfl
 |succ m ih=>
  simp only[sumTo,ih];by_cases h:rk=m
  .subst h;simp
  .rw[if_neg h];by_cases h1:rk<m
   .rw[if_pos h1,if_pos BYO];simp
   .rw[if_neg h1,if_neg BYO];simp
def gW(R k:Nat):Nat:=if k<=R then 0 else 3*sF R k
def aGX:∀{t:T},Sz R t->Vh m t->t.Cd<=sumTo (λk=>gW R k*cnt k t) (m+1):=by
 intro t;induction t with
 |nil=>intro _ _;exact aBt _
 |node k rk wt its l r hl hr=>
  intro hs ha;obtain⟨s1,s2,s3,s4,s5⟩:=hs;obtain⟨a1,a2,a3⟩:=ha;have i1:=hl s4 a2;have i2:=hr s5 a3;have e:(λj=>gW R j*cnt j (T.node k rk wt its l r))=λj=>gW R j*(if rk=j then 1 else 0)+(gW R j*cnt j l+gW R j*cnt j r):=by
   funext j;simp only[cnt,Nat.mul_add]
  rw[e,aDY,aDY,aKD,if_pos BYO];have:(its.filter λx=>decide (x.1≠k)).length<=gW R rk:=by
   unfold gW;by_cases h:rk<=R
   .rw[if_pos h];have:(its.filter λx=>decide (x.1≠k))=[]:=List.filter_eq_nil_iff.2 λx hx=>by simp[(s2 h).2 x hx]
    rw[this];exact aAB _
   .rw[if_neg h];exact aBS (List.length_filter_le _ _) s3
  simp only[T.Cd];omega
def aDL:∀{ts:List T},(∀t∈ts,Sz R t/\Vh m t)->LF ts<=sumTo (λk=>gW R k*uE k ts) (m+1):=by
 intro ts;induction ts with
 |nil=>intro _;exact aBt _
 |cons t r ih=>
  intro h;have i1:=ih λu hu=>h u (by simp[hu]);have i2:=aGX (h t BYS).1 (h t BYS).2;have e:(λj=>gW R j*uE j (t::r))=λj=>gW R j*cnt j t+gW R j*uE j r:=by
   funext j;simp only[uE,Nat.mul_add]
  rw[e,aDY];simp only[LF];omega
def few{ts:List T}(h:St R n ts)(hn:n<=400)(h5:5<=R)(h8:R<=8):LF ts*2 ^ (R-5)<=n:=by
 have hr:=h.Ce (m:=8) BYO;have hw:=aDL (R:=R) (m:=8) λt ht=>⟨(h.lR t ht).2.2,hr t ht⟩;have p6:=HN h.cap 6;have p7:=HN h.cap 7;have p8:=HN h.cap 8;have hR:R=5\/R=6\/R=7\/R=8:=BYO;rcases hR with rfl|rfl|rfl|rfl
 all_goals
  simp[sumTo,gW,sF]at hw;omega
def LI:∀{t:T},Ok t->Sz R t->Vh R t->t.Cd=0/\∀x∈t.all,t.key<=x.1:=by
 intro t;induction t with
 |nil=>intro _ _ _;exact⟨rfl,λx hx=>by cases hx⟩
 |node k rk wt its l r hl hr=>
  intro ho hs ha;obtain⟨o1,o2,o3,o4,o5,o6,o7⟩:=ho;obtain⟨s1,s2,s3,s4,s5⟩:=hs;obtain⟨a1,a2,a3⟩:=ha;obtain⟨l1,l2⟩:=hl o6 s4 a2;obtain⟨r1,r2⟩:=hr o7 s5 a3;have hk:=(s2 a1).2;refine⟨?_,λx hx=>?_⟩
  .have:(its.filter λx=>decide (x.1≠k))=[]:=List.filter_eq_nil_iff.2 λx hx=>by simp[hk x hx]
   simp only[T.Cd,this,l1,r1];rfl
  .simp only[T.all]at hx;show k<=x.1;rcases aBR.1 hx with hx|hx
   .rw[hk x hx];exact aC0 _
   .rcases aBR.1 hx with hx|hx
    .rcases o4 with rfl|o4
     .cases hx
     .exact aDG o4.1 (l2 x hx)
    .rcases o5 with rfl|o5
     .cases hx
     .exact aDG o5.1 (r2 x hx)
def Kz{t:T}{x:It}(hg:Good R t)(ha:Vh R t)(hx:t.items.head?=some x):x.1=t.key:=by
 cases t with
 |nil=>exact absurd rfl hg.2.1
 |node k rk wt its l r=>exact(hg.2.2.2.1 ha.1).2 x (List.mem_of_mem_head? hx)
def DX(f:Nat->T)(n:Nat):∀i,i<=n->0<n->iP f i<n:=by
 intro i;induction i with
 |zero=>intro _ h;exact h
 |succ i ih=>
  intro h h0;simp only[iP];split
  .omega
  .exact ih BYO h0
def La(f:Nat->T):∀i j,j<i->(f (iP f i)).key<=(f j).key:=by
 intro i;induction i with
 |zero=>intro j h;omega
 |succ i ih=>
  intro j h;simp only[iP];split
  .rename_i dD;rcases aDg.1 h with h|rfl
   .have:=ih j h;omega
   .exact aC0 _
  .rename_i dD;rcases aDg.1 h with h|rfl
   .exact ih j h
   .omega
def right{ts:List T}(h:St R n ts)(hn:n<2 ^ (R+1)):LF ts=0:=by
 have hr:=h.Ce (m:=R) hn;have:∀(us:List T),(∀u∈us,u∈ts)->LF us=0:=by
  intro us;induction us with
  |nil=>intro _;rfl
  |cons u us ih=>
   intro hu;have hg:=h.lR u (hu u BYS);have:=(LI hg.1 hg.2.2 (hr u (hu u BYS))).1;have:=ih λv hv=>hu v (by simp[hv]);simp only[LF];omega
 exact this ts λu hu=>hu
def Cg{ts:List T}(h:St R n ts)(hn:n<2 ^ (R+1))(f:Nat->T)(hf:∀i (hi:i<ts.length),f i=ts[i]):∀x∈iS ts,(f (iP f ts.length)).key<=x.1:=by
 intro x hx;obtain⟨t,ht,hxt⟩:=aGQ.1 hx;obtain⟨i,hi,rfl⟩:=aI7 ht;have hg:=h.lR _ ht;have:=(LI hg.1 hg.2.2 (h.Ce (m:=R) hn _ ht)).2 x hxt;have h1:=La f ts.length i hi;rw[hf i hi]at h1;omega
end Sf
namespace Rk
open Go Go.RowKit Go.Proofs
abbrev TS:TypeId:=95
abbrev Xh:TypeId:=71
def pV(p:Option Nat):Value:=.pointer (p.map λg=>⟨g,0,none⟩)
abbrev rB(g:Nat):Value:=.pointer (some ⟨g,0,none⟩)
def oz(g:Nat):List Value:=[rB g]
def BL(g:Nat):(oz g).length=1:=rfl
def VM(g:Nat):∀u∈oz g,u.oneCell'=true:=by simp[oz,Value.oneCell']
def LJ:Ty tz 22 false 1 24 (.slice none 0 0):=aLt BYK (λ_=>BYK) rfl
def aFn:tz.underlying 93=some (.pointer (tz.pointee 93)):=BYK
def mY:Ty tz 93 false 1 8 (.pointer none):=aLt BYK (λ_=>BYK) rfl
def Vi:tz.underlying 95=some (.struct (tz.fieldsOf 95)):=BYK
def nM:tz.underlying 69=some (.slice 93):=BYK
def FM:Ty tz 69 false 1 24 (.slice none 0 0):=aLt BYK (λ_=>BYK) rfl
def aB2:tz.underlying 71=some (.struct (tz.fieldsOf 71)):=BYK
def aK4:((tz.fieldsOf 95)[0]?).map (λf=>(f.offset,f.type))=some (0,3):=BYK
def aK5:((tz.fieldsOf 95)[1]?).map (λf=>(f.offset,f.type))=some (1,3):=BYK
def aK6:((tz.fieldsOf 95)[2]?).map (λf=>(f.offset,f.type))=some (2,3):=BYK
def aK7:((tz.fieldsOf 95)[3]?).map (λf=>(f.offset,f.type))=some (3,22):=BYK
def aK8:((tz.fieldsOf 95)[4]?).map (λf=>(f.offset,f.type))=some (4,93):=BYK
def aK9:((tz.fieldsOf 95)[5]?).map (λf=>(f.offset,f.type))=some (5,93):=BYK
def aKa:((tz.fieldsOf 71)[0]?).map (λf=>(f.offset,f.type))=some (0,3):=BYK
def aKb:((tz.fieldsOf 71)[1]?).map (λf=>(f.offset,f.type))=some (1,3):=BYK
def aKc:((tz.fieldsOf 71)[2]?).map (λf=>(f.offset,f.type))=some (2,69):=BYK
section
variable{E:Env}{w:World}{t:TypeId}{x y z u:Operand}{bk o n c j:Nat}
def aOZ(hx:aM E x=some (.pointer (some ⟨bk,o,none⟩)):=by with_unfolding_all exact rfl):aA tz (.fieldAddr 95 x 0) t E w (.pointer (some ⟨bk,o,none⟩)) w:=aA.fieldAddr (off:=0) Vi aK4 aN BYO hx
def aOf(hx:aM E x=some (.pointer (some ⟨bk,o,none⟩)):=by with_unfolding_all exact rfl):aA tz (.fieldAddr 95 x 1) t E w (.pointer (some ⟨bk,o+1,none⟩)) w:=aA.fieldAddr Vi aK5 aN BYO hx
def aOg(hx:aM E x=some (.pointer (some ⟨bk,o,none⟩)):=by with_unfolding_all exact rfl):aA tz (.fieldAddr 95 x 2) t E w (.pointer (some ⟨bk,o+2,none⟩)) w:=aA.fieldAddr Vi aK6 aN BYO hx
def aO0(hx:aM E x=some (.pointer (some ⟨bk,o,none⟩)):=by with_unfolding_all exact rfl):aA tz (.fieldAddr 95 x 3) t E w (.pointer (some ⟨bk,o+3,none⟩)) w:=aA.fieldAddr Vi aK7 LJ BYO hx
def aO1(hx:aM E x=some (.pointer (some ⟨bk,o,none⟩)):=by with_unfolding_all exact rfl):aA tz (.fieldAddr 95 x 4) t E w (.pointer (some ⟨bk,o+4,none⟩)) w:=aA.fieldAddr Vi aK8 mY BYO hx
def aO2(hx:aM E x=some (.pointer (some ⟨bk,o,none⟩)):=by with_unfolding_all exact rfl):aA tz (.fieldAddr 95 x 5) t E w (.pointer (some ⟨bk,o+5,none⟩)) w:=aA.fieldAddr Vi aK9 mY BYO hx
def aRi(hx:aM E x=some (.pointer (some ⟨bk,o,none⟩)):=by with_unfolding_all exact rfl):aA tz (.fieldAddr 71 x 0) t E w (.pointer (some ⟨bk,o,none⟩)) w:=aA.fieldAddr (off:=0) aB2 aKa aN BYO hx
def aRf(hx:aM E x=some (.pointer (some ⟨bk,o,none⟩)):=by with_unfolding_all exact rfl):aA tz (.fieldAddr 71 x 1) t E w (.pointer (some ⟨bk,o+1,none⟩)) w:=aA.fieldAddr aB2 aKb aN BYO hx
def aP1(hx:aM E x=some (.pointer (some ⟨bk,o,none⟩)):=by with_unfolding_all exact rfl):aA tz (.fieldAddr 71 x 2) t E w (.pointer (some ⟨bk,o+2,none⟩)) w:=aA.fieldAddr aB2 aKc FM BYO hx
def aOR{A:Option Addr}(hx:aM E x=some (.slice A n c):=by with_unfolding_all exact rfl){rt:TypeId}:aA tz (.call {callee:=.builtin .len,args:= #[x],argTypes:= #[69]}) rt E w (.int .i64 n) w:=aL3 nM hx
def aNg(hx:aM E x=some (.slice (some ⟨bk,o,none⟩) n c):=by with_unfolding_all exact rfl)(hi:aM E y=some (.int .i64 (j:Int)):=by with_unfolding_all exact rfl)(hn:j<n:=by omega):
  aA tz (.indexAddr 69 x y) t E w (.pointer (some ⟨bk,o+j*1,none⟩)) w:=aA.indexAddr nM mY.size hx hi BYO BYO
section
variable{ops:Array Oper}{K:Env->World->Prop}{N d_:Nat}{rest:List Oper}{pos:String}{after:Array Edge}{C:World->Prop}{R:Env->Prop}
end
end
section
variable{ops:Array Oper}{K:Env->World->Prop}{R:Env->Prop}{C:World->Prop}{N:Nat}{E:Env}{rest:List Oper}{w:World}{x y:Operand}{pos:String}{after:Array Edge}{t yt:TypeId}{p:Option Nat}{d:Nat}
def aSE(hx:aM E x=some (pV p)):aA tz (.binOp .eql 93 x (.const (.pointer none)) yt) t E w (.bool p.isNone) w:=λρ hρ _ _ _ _=>by
 have:=run_eql_pointer_nil w 93 (p.map λg=>(⟨g,0,none⟩:Addr)) aFn;rw[Option.isNone_map]at this;simp[execOp,hρ _ _ hx,hρ (.const (.pointer none)) (.pointer none) rfl,eqGuard,pV,this]
def aSF(hx:aM E x=some (pV p)):aA tz (.binOp .neq 93 x (.const (.pointer none)) yt) t E w (.bool (!p.isNone)) w:=λρ hρ _ _ _ _=>by
 have:=run_neq_pointer_nil w 93 (p.map λg=>(⟨g,0,none⟩:Addr)) aFn;rw[Option.isNone_map]at this;simp[execOp,hρ _ _ hx,hρ (.const (.pointer none)) (.pointer none) rfl,eqGuard,pV,this]
def aRg(h:WL tz ops K N ((d,.bool p.isNone)::E) rest w)(hx:aM E x=some (pV p):=by with_unfolding_all exact rfl)(hd:Nat.blt d N=true:=by with_unfolding_all exact rfl):WL tz ops K N E (⟨some d,.binOp .eql 93 x (.const (.pointer none)) yt,t,pos,after,none⟩::rest) w:=WL.step (aSE hx) hd h
def aSi(h:QL tz ops C R N ((d,.bool p.isNone)::E) rest)(hx:aM E x=some (pV p):=by with_unfolding_all exact rfl)(hd:Nat.blt d N=true:=by with_unfolding_all exact rfl):QL tz ops C R N E (⟨some d,.binOp .eql 93 x (.const (.pointer none)) yt,t,pos,after,none⟩::rest):=QL.step (λ_ _=>aSE hx) hd h
def aRh(h:WL tz ops K N ((d,.bool (!p.isNone))::E) rest w)(hx:aM E x=some (pV p):=by with_unfolding_all exact rfl)(hd:Nat.blt d N=true:=by with_unfolding_all exact rfl):WL tz ops K N E (⟨some d,.binOp .neq 93 x (.const (.pointer none)) yt,t,pos,after,none⟩::rest) w:=WL.step (aSF hx) hd h
def aSk(h:QL tz ops C R N ((d,.bool (!p.isNone))::E) rest)(hx:aM E x=some (pV p):=by with_unfolding_all exact rfl)(hd:Nat.blt d N=true:=by with_unfolding_all exact rfl):QL tz ops C R N E (⟨some d,.binOp .neq 93 x (.const (.pointer none)) yt,t,pos,after,none⟩::rest):=QL.step (λ_ _=>aSF hx) hd h
end
def nC(k:Int)(rk wt:Nat)(v:Value)(pl pr:Option Nat):List Value:=[.int .i64 k,.int .i64 rk,.int .i64 wt,v,pV pl,pV pr]
def RO(R0 n0:Nat)(tv:Value):List Value:=[.int .i64 R0,.int .i64 n0,tv]
section
variable{ops:Array Oper}{K:Env->World->Prop}{R:Env->Prop}{N:Nat}{E:Env}{rest:List Oper}{w:World}{t:TypeId}{pos:String}{after:Array Edge}{d:Nat}{x:Operand}{gg:Nat}{k:Int}{rk wt:Nat}{v:Value}{pl pr:Option Nat}
def aO3(hx:aM E x=some (.pointer (some ⟨gg,0,none⟩)):=by with_unfolding_all exact rfl)(hb:Bk w gg TS (nC k rk wt v pl pr):=by assumption):OpB tz (.load 3 x) t E w (.int .i64 k):=λ_ hw=>aJC aN hx ((hb.bh hw).cell rfl)
end
section
variable{ops:Array Oper}{K:Env->World->Prop}{R:Env->Prop}{N:Nat}{E:Env}{rest:List Oper}{w:World}{t:TypeId}{pos:String}{after:Array Edge}{d:Nat}{x:Operand}{gg:Nat}{k:Int}{rk wt:Nat}{v:Value}{pl pr:Option Nat}
def aOh(hx:aM E x=some (.pointer (some ⟨gg,1,none⟩)):=by with_unfolding_all exact rfl)(hb:Bk w gg TS (nC k rk wt v pl pr):=by assumption):OpB tz (.load 3 x) t E w (.int .i64 (rk:Nat)):=λ_ hw=>aJC aN hx ((hb.bh hw).cell rfl)
end
section
variable{ops:Array Oper}{K:Env->World->Prop}{R:Env->Prop}{N:Nat}{E:Env}{rest:List Oper}{w:World}{t:TypeId}{pos:String}{after:Array Edge}{d:Nat}{x:Operand}{gg:Nat}{k:Int}{rk wt:Nat}{v:Value}{pl pr:Option Nat}
def aOi(hx:aM E x=some (.pointer (some ⟨gg,2,none⟩)):=by with_unfolding_all exact rfl)(hb:Bk w gg TS (nC k rk wt v pl pr):=by assumption):OpB tz (.load 3 x) t E w (.int .i64 (wt:Nat)):=λ_ hw=>aJC aN hx ((hb.bh hw).cell rfl)
end
section
variable{ops:Array Oper}{K:Env->World->Prop}{R:Env->Prop}{N:Nat}{E:Env}{rest:List Oper}{w:World}{t:TypeId}{pos:String}{after:Array Edge}{d:Nat}{x:Operand}{gg:Nat}{k:Int}{rk wt:Nat}{v:Value}{pl pr:Option Nat}
def aOI(hx:aM E x=some (.pointer (some ⟨gg,3,none⟩)):=by with_unfolding_all exact rfl)(hb:Bk w gg TS (nC k rk wt v pl pr):=by assumption):OpB tz (.load 22 x) t E w (v):=λ_ hw=>aJC LJ hx ((hb.bh hw).cell rfl)
end
section
variable{ops:Array Oper}{K:Env->World->Prop}{R:Env->Prop}{N:Nat}{E:Env}{rest:List Oper}{w:World}{t:TypeId}{pos:String}{after:Array Edge}{d:Nat}{x:Operand}{gg:Nat}{k:Int}{rk wt:Nat}{v:Value}{pl pr:Option Nat}
def aOJ(hx:aM E x=some (.pointer (some ⟨gg,4,none⟩)):=by with_unfolding_all exact rfl)(hb:Bk w gg TS (nC k rk wt v pl pr):=by assumption):OpB tz (.load 93 x) t E w (pV pl):=λ_ hw=>aJC mY hx ((hb.bh hw).cell rfl)
end
section
variable{ops:Array Oper}{K:Env->World->Prop}{R:Env->Prop}{N:Nat}{E:Env}{rest:List Oper}{w:World}{t:TypeId}{pos:String}{after:Array Edge}{d:Nat}{x:Operand}{gg:Nat}{k:Int}{rk wt:Nat}{v:Value}{pl pr:Option Nat}
def aO4(hx:aM E x=some (.pointer (some ⟨gg,5,none⟩)):=by with_unfolding_all exact rfl)(hb:Bk w gg TS (nC k rk wt v pl pr):=by assumption):OpB tz (.load 93 x) t E w (pV pr):=λ_ hw=>aJC mY hx ((hb.bh hw).cell rfl)
end
section
variable{ops:Array Oper}{K:Env->World->Prop}{R:Env->Prop}{N:Nat}{E:Env}{rest:List Oper}{w:World}{t:TypeId}{pos:String}{after:Array Edge}{d:Nat}{x:Operand}{gg:Nat}{R0 n0:Nat}{tv:Value}
def aQa(hx:aM E x=some (.pointer (some ⟨gg,0,none⟩)):=by with_unfolding_all exact rfl)(hb:Bk w gg Xh (RO R0 n0 tv):=by assumption):OpB tz (.load 3 x) t E w (.int .i64 (R0:Nat)):=λ_ hw=>aJC aN hx ((hb.bh hw).cell rfl)
end
section
variable{ops:Array Oper}{K:Env->World->Prop}{R:Env->Prop}{N:Nat}{E:Env}{rest:List Oper}{w:World}{t:TypeId}{pos:String}{after:Array Edge}{d:Nat}{x:Operand}{gg:Nat}{R0 n0:Nat}{tv:Value}
def aSM(hx:aM E x=some (.pointer (some ⟨gg,1,none⟩)):=by with_unfolding_all exact rfl)(hb:Bk w gg Xh (RO R0 n0 tv):=by assumption):OpB tz (.load 3 x) t E w (.int .i64 (n0:Nat)):=λ_ hw=>aJC aN hx ((hb.bh hw).cell rfl)
end
section
variable{ops:Array Oper}{K:Env->World->Prop}{R:Env->Prop}{N:Nat}{E:Env}{rest:List Oper}{w:World}{t:TypeId}{pos:String}{after:Array Edge}{d:Nat}{x:Operand}{gg:Nat}{R0 n0:Nat}{tv:Value}
def aNU(hx:aM E x=some (.pointer (some ⟨gg,2,none⟩)):=by with_unfolding_all exact rfl)(hb:Bk w gg Xh (RO R0 n0 tv):=by assumption):OpB tz (.load 69 x) t E w (tv):=λ_ hw=>aJC FM hx ((hb.bh hw).cell rfl)
end
section
variable{ops:Array Oper}{K:Env->World->Prop}{R:Env->Prop}{N:Nat}{E:Env}{rest:List Oper}{w:World}{t:TypeId}{pos:String}{after:Array Edge}{d:Nat}{x:Operand}{b o i n:Nat}{f:Nat->Nat}
def aPb(hx:aM E x=some (.pointer (some ⟨b,o+i*1,none⟩)):=by with_unfolding_all exact rfl)(hr:aE oz 1 w (some ⟨b,o,none⟩) n f:=by first|assumption|exact cO.bK (by assumption))(hi:i<n:=by omega):OpB tz (.load 93 x) t E w (rB (f i)):=λ_ hw=>aJC mY hx ((hr.bh hw).get hi 0 _ rfl)
end
attribute [local irreducible] aA jH OpC WL QL WC WX OL RL TL TM
structure SN(w:World)(g:Nat)(k:Int)(rk wt:Nat)(its:List It)(v:Value)(pl pr:Option Nat)(Fl Fr F:Nat->Prop):Prop where
 blk:Bk w g TS (nC k rk wt v pl pr)
 own:iM cB 2 38 w 0 v its
 lt:∀x,F x->x<w.heap.size
 fg:F g
 fv:∀x,v.ownBlock=some x->F x
 fl:∀x,Fl x->F x
 fr:∀x,Fr x->F x
 gv:v.ownBlock≠some g
 gl:¬Fl g
 gr:¬Fr g
 vl:∀x,v.ownBlock=some x->¬Fl x
 vr:∀x,v.ownBlock=some x->¬Fr x
 lr:∀x,Fl x->¬Fr x
def qZ(w:World):Sf.T->Option Nat->(Nat->Prop)->Prop
 | .nil,p,_=>p=none
 | .node k rk wt its l r,p,F=>∃g v pl pr Fl Fr,p=some g/\SN w g k rk wt its v pl pr Fl Fr F/\qZ w l pl Fl/\qZ w r pr Fr
section
variable{w w':World}{g:Nat}{k k':Int}{rk wt:Nat}{its My:List It}{v v':Value}{pl pr pl' pr' p:Option Nat}{Fl Fr F F':Nat->Prop}{row:Option Nat}
def SN.other(h:SN w g k rk wt its v pl pr Fl Fr F)(hs:w.heap.size<=w'.heap.size)(hb:∀x,F x->w'.heap[x]?=w.heap[x]?):SN w' g k rk wt its v pl pr Fl Fr F:=
 ⟨(hb g h.fg).trans h.blk,h.own.other λx hx=>hb x (h.fv x hx),λx hx=>aAx (h.lt x hx) hs,h.fg,h.fv,h.fl,h.fr,h.gv,h.gl,h.gr,h.vl,h.vr,h.lr⟩
def SN.mono(h:SN w g k rk wt its v pl pr Fl Fr F)(hl:∀x,F' x->x<w.heap.size)(hf:∀x,F x->F' x):SN w g k rk wt its v pl pr Fl Fr F':=
 ⟨h.blk,h.own,hl,hf g h.fg,λx hx=>hf x (h.fv x hx),λx hx=>hf x (h.fl x hx),λx hx=>hf x (h.fr x hx),h.gv,h.gl,h.gr,h.vl,h.vr,h.lr⟩
def qZ.other:∀{t:Sf.T} {p:Option Nat} {F:Nat->Prop},qZ w t p F->w.heap.size<=w'.heap.size->(∀x,F x->w'.heap[x]?=w.heap[x]?)->qZ w' t p F:=by
 intro t;induction t with
 |nil=>intro p F h _ _;exact h
 |node k rk wt its l r hl hr=>
  intro p F h hs hb;obtain⟨g,v,pl,pr,Fl,Fr,e,h1,h2,h3⟩:=h;exact⟨g,v,pl,pr,Fl,Fr,e,h1.other hs hb,hl h2 hs λx hx=>hb x (h1.fl x hx),hr h3 hs λx hx=>hb x (h1.fr x hx)⟩
def qZ.mono{t:Sf.T}(h:qZ w t p F)(hl:∀x,F' x->x<w.heap.size)(hf:∀x,F x->F' x):qZ w t p F':=by
 cases t with
 |nil=>exact h
 |node k rk wt its l r=>
  obtain⟨g,v,pl,pr,Fl,Fr,e,h1,h2,h3⟩:=h;exact⟨g,v,pl,pr,Fl,Fr,e,h1.mono hl hf,h2,h3⟩
def qZ.below{t:Sf.T}(h:qZ w t p F)(hl:∀x,F x->x<w.heap.size)(hb:Below w.heap.size w w'):qZ w' t p F:=h.other hb.size λx hx=>hb.block x (hl x hx)
def qZ.grown{t:Sf.T}(h:qZ w t p F)(hl:∀x,F x->x<w.heap.size)(hg:w.grownBy w' row)(hn:∀x,row=some x->¬F x):qZ w' t p F:=h.other hg.size λx hx=>hg.block x (hl x hx) λe=>hn x e.symm hx
def qZ.dG{t:Sf.T}{G G':Nat->Prop}(h:qZ w t p F)(hl:∀x,F x->x<w.heap.size)(hc:bF w w' G G')(ha:∀x,G x->¬F x):qZ w' t p F:=h.other hc.size λx hx=>hc.block x (hl x hx) λe=>ha x e hx
def SN.below(h:SN w g k rk wt its v pl pr Fl Fr F)(hb:Below w.heap.size w w'):SN w' g k rk wt its v pl pr Fl Fr F:=h.other hb.size λx hx=>hb.block x (h.lt x hx)
def SN.vR(h:SN w g k rk wt its v pl pr Fl Fr F):∀x,Fl x->x<w.heap.size:=λx hx=>h.lt x (h.fl x hx)
def SN.pM(h:SN w g k rk wt its v pl pr Fl Fr F):∀x,Fr x->x<w.heap.size:=λx hx=>h.lt x (h.fr x hx)
def SN.re{k2:Int}{rk2 wt2:Nat}{pl2 pr2:Option Nat}(h:SN w g k rk wt its v pl pr Fl Fr F)(hg:w.grownBy w' (some g))(hb:Bk w' g TS (nC k2 rk2 wt2 v pl2 pr2)):SN w' g k2 rk2 wt2 its v pl2 pr2 Fl Fr F:=
 ⟨hb,h.own.keep hg (.inr h.gv),λx hx=>aAx (h.lt x hx) hg.size,h.fg,h.fv,h.fl,h.fr,h.gv,h.gl,h.gr,h.vl,h.vr,h.lr⟩
def SN.swap(h:SN w g k rk wt its v pl pr Fl Fr F):SN w g k rk wt its v pl pr Fr Fl F:=
 ⟨h.blk,h.own,h.lt,h.fg,h.fv,h.fr,h.fl,h.gv,h.gr,h.gl,h.vr,h.vl,λx h1 h2=>h.lr x h2 h1⟩
end
end Rk
namespace Sf
variable{k:Int}{rk wt n:Nat}
inductive nN:Nat->T->T->Prop
 |stop {k:Int} {rk wt:Nat} {its:List It} {l r:T} (h:¬(its.length<wt/\(l.isNil&&r.isNil)=false)):nN 0 (.node k rk wt its l r) (.node k rk wt its l r)
 |leaf {n:Nat} {k:Int} {rk wt:Nat} {its:List It} {l r t:T} (h:its.length<wt) (hn:(l.isNil&&r.isNil)=false) (hl:(fst l r).leaf=true) (hi:(fst l r).items≠[]) (hb:its.length+(fst l r).items.length<=1000)
   (ht:nN n (.node (fst l r).key rk wt (its++(fst l r).items) .nil (snd l r)) t):nN (n+1) (.node k rk wt its l r) t
 |deep {m n:Nat} {k:Int} {rk wt:Nat} {its:List It} {l r a t:T} (h:its.length<wt) (hn:(l.isNil&&r.isNil)=false) (hl:(fst l r).leaf=false) (hi:(fst l r).items≠[]) (hb:its.length+(fst l r).items.length<=1000)
   (ha:nN m ((fst l r).dO []) a) (ht:nN n (.node (fst l r).key rk wt (its++(fst l r).items) a (snd l r)) t):nN (m+n+1) (.node k rk wt its l r) t
def Pz{its:List It}{l r:T}(hn:(l.isNil&&r.isNil)=false):its.length+(fst l r).all.length<=(T.node k rk wt its l r).all.length/\(fst l r).items.length+((fst l r).dO []).all.length=(fst l r).all.length:=by
 obtain⟨h1,h2,h3⟩:=jQ hn;constructor
 .simp only[T.all,aBh];rcases h3 with⟨e1,e2⟩|⟨e1,e2⟩<;>rw[e1]<;>omega
 .rw[oL _ h1,aBh]
def S4{t:T}(h:t.leaf=true):(t.dO []).all=[]:=by
 cases t with
 |nil=>rfl
 |node k rk wt its l r=>
  have:=BJ (t:=T.node k rk wt [] l r) h;exact this
def Ch{t t':T}(h:xI t t'):∀{k:Int} {rk wt:Nat} {its:List It} {l r:T},t=.node k rk wt its l r->Ok0 k rk wt its l r->t.all.length<=1000->∃n,nN n t t':=by
 induction h with
 |stop h=>intro _ _ _ _ _ _ _ _ _;exact⟨0,.stop h⟩
 | @leaf k rk wt its l r t h hn hl ht ih=>
  intro _ _ _ _ _ _ e h0 hs;cases e;obtain⟨h1,h2,h3⟩:=jQ hn;have XJ:Ok (fst l r):=by
   rcases h3 with⟨e1,e2⟩|⟨e1,e2⟩
   .rw[e1];exact h0.left
   .rw[e1];exact h0.right
  have P:=oV (k:=k) (k':=(fst l r).key) (rk:=rk) (wt:=wt) (its:=its) (a:=.nil) hn (by rw[S4 hl];exact .refl _) (aBt _);obtain⟨n,hn'⟩:=ih rfl (h0.next hn (.inl rfl)) (by rw[P.1.length_eq];exact hs);have A:=Pz (k:=k) (rk:=rk) (wt:=wt) (its:=its) hn;exact⟨n+1,.leaf h hn hl (XJ.lH h1) BYO hn'⟩
 | @deep k rk wt its l r a t h hn hl ha ht iha ih=>
  intro _ _ _ _ _ _ e h0 hs;cases e;obtain⟨h1,h2,h3⟩:=jQ hn;have XJ:Ok (fst l r)/\(fst l r).bV+1=rk:=by
   rcases h3 with⟨e1,e2⟩|⟨e1,e2⟩
   .rw[e1]at h1⊢;exact⟨h0.left,h0.rl.resolve_left h1⟩
   .rw[e1]at h1⊢;exact⟨h0.right,h0.rr.resolve_left h1⟩
  have A:=Pz (k:=k) (rk:=rk) (wt:=wt) (its:=its) hn;obtain⟨k1,Ms,Wn,GZ,l1,r1,e1,g1⟩:=Ok0.empty XJ.1 hl;obtain⟨m,hm⟩:=iha (by rw[e1];rfl) g1 BYO;have G:=BK ha (by rw[e1];rfl) g1;have Dy:(fst l r).key<=a.key:=by
   have g:=XJ.1;rw[e1]at g;have:=G.low k1 (by rw[e1];intro h;exact absurd rfl h) (by rw[e1];exact g.2.2.2.1.imp id (·.1)) (by rw[e1];exact g.2.2.2.2.1.imp id (·.1));rw[e1];exact this
  have Ww:a.bV+1=rk:=by
   have:=G.bV;rw[e1]at this;have h9:=XJ.2;rw[e1]at h9;rw[this];exact h9
  have P:=oV (k:=k) (k':=(fst l r).key) (rk:=rk) (wt:=wt) (its:=its) (a:=a) hn G.perm G.HM;obtain⟨n,hn'⟩:=ih rfl (h0.next hn (.inr ⟨Dy,Ww,G.ok⟩)) (by rw[P.1.length_eq];exact hs);exact⟨m+n+1,.deep h hn hl (XJ.1.lH h1) BYO hm hn'⟩
def nN.node{t t':T}(h:nN n t t'):∃k rk wt its l r,t=.node k rk wt its l r:=by cases h<;>exact⟨_,_,_,_,_,_,rfl⟩
def nN.round{its:List It}{l r t:T}(h:nN n (.node k rk wt its l r) t):
  (¬(its.length<wt/\(l.isNil&&r.isNil)=false)/\t=.node k rk wt its l r)\/(its.length<wt/\(l.isNil&&r.isNil)=false/\fst l r≠.nil/\(fst l r).items≠[]/\its.length+(fst l r).items.length<=1000/\
   (((fst l r).leaf=true/\∃m,m<n/\nN m (.node (fst l r).key rk wt (its++(fst l r).items) .nil (snd l r)) t)\/
    ((fst l r).leaf=false/\∃m1 m2 a,m1<n/\m2<n/\nN m1 ((fst l r).dO []) a/\nN m2 (.node (fst l r).key rk wt (its++(fst l r).items) a (snd l r)) t))):=by
 cases h with
 |stop h=>exact .inl ⟨h,rfl⟩
 |leaf h hn hl hi hb ht=>exact .inr ⟨h,hn,(jQ hn).1,hi,hb,.inl ⟨hl,_,aH3 _,ht⟩⟩
 |deep h hn hl hi hb ha ht=>exact .inr ⟨h,hn,(jQ hn).1,hi,hb,.inr ⟨hl,_,_,_,BYO,BYO,ha,ht⟩⟩
end Sf
namespace Rk
open Go Go.RowKit Go.Proofs
variable{p pl pr row:Option Nat}{g o rk wt:Nat}{te:TypeId}{cs:List Value}{w w1 w':World}{F Fl:Nat->Prop}{k:Int}{v:Value}
section
variable{ops:Array Oper}{K:Env->World->Prop}{N:Nat}{E:Env}{rest:List Oper}{x y:Operand}{pos:String}{after:Array Edge}{t:TypeId}
def aOo(hx:aM E x=some (.pointer (some ⟨g,o,none⟩)))(hy:aM E y=some (pV p))(hb:Bk w g te cs)(hl:o+1<=cs.length)
  (h:∀w',w.grownBy w' (some g)->Bk w' g te (putAt cs o [pV p])->w'.heap.size=w.heap.size->WL tz ops K N E rest w'):WL tz ops K N E (⟨none,.store 93 x y,t,pos,after,none⟩::rest) w:=
 WL.store mY hx hy rfl (by intro u hu;simp[pV,Value.cells]at hu;subst hu;rfl) hb hl h
def aP8{A:Option Addr}{n c:Nat}(hx:aM E x=some (.pointer (some ⟨g,o,none⟩)))(hy:aM E y=some (.slice A n c))(hb:Bk w g te cs)(hl:o+1<=cs.length)
  (h:∀w',w.grownBy w' (some g)->Bk w' g te (putAt cs o [.slice A n c])->w'.heap.size=w.heap.size->WL tz ops K N E rest w'):WL tz ops K N E (⟨none,.store 22 x y,t,pos,after,none⟩::rest) w:=
 WL.store LJ hx hy rfl (by intro u hu;simp[Value.cells]at hu;subst hu;rfl) hb hl h
def aPA{a:Int}(hx:aM E x=some (.pointer (some ⟨g,o,none⟩)))(hy:aM E y=some (.int .i64 a))(hb:Bk w g te cs)(hl:o+1<=cs.length)
  (h:∀w',w.grownBy w' (some g)->Bk w' g te (putAt cs o [.int .i64 a])->w'.heap.size=w.heap.size->WL tz ops K N E rest w'):WL tz ops K N E (⟨none,.store 3 x y,t,pos,after,none⟩::rest) w:=
 WL.store aN hx hy rfl (by intro u hu;simp[Value.cells]at hu;subst hu;rfl) hb hl h
end
attribute [local irreducible] aA jH OpC WL QL WC WX OL RL TL TM
def qZ.isNil{t:Sf.T}(h:qZ w t p F):t.isNil=p.isNone:=by
 cases t with
 |nil=>obtain rfl:p=none:=h;rfl
 |node=>obtain⟨g,v,pl,pr,Fl,Fr,rfl,_⟩:=h;rfl
def BM(w:World)(g:Nat)(k:Int)(rk wt:Nat)(its:List It)(v:Value)(pl pr:Option Nat)(hb:Bk w g TS (nC k rk wt v pl pr)):
  Calls tz 47 #[rB g] w (eT λu w'=>u=.bool (pl.isNone&&pr.isNone)/\w'=w):=by
 refine aI ZN rfl Tryz.ntmps47 rfl ?_;cases pl with
 |none=>
  refine xP ?_;refine aLV rfl rfl ⟨?_,rfl⟩;cases pr<;>rfl
 |some a=>
  refine xP ?_;exact aLV rfl rfl ⟨rfl,rfl⟩
def SN.app{its My:List It}{v':Value}{Fr:Nat->Prop}(h:SN w g k rk wt its v pl pr Fl Fr F)
  (hg:w.grownBy w1 row)(eE:row=none\/row=v.ownBlock)(ho:iM cB 2 38 w1 0 v' My)(cQ:My≠[])(hv:v'.ownBlock=v.ownBlock\/∃x,v'.ownBlock=some x/\w.heap.size<=x)
  (eB:w1.grownBy w' (some g))(hb:Bk w' g TS (nC k rk wt v' pl pr)):
  SN w' g k rk wt My v' pl pr Fl Fr (λx=>F x\/v'.ownBlock=some x)/\bF w w' F (λx=>F x\/v'.ownBlock=some x):=by
 have OU:∀x,row=some x->v.ownBlock=some x:=λx hx=>by
  rcases eE with e|e
  .rw[e]at hx;cases hx
  .rw[<-e];exact hx
 have hlv:∀x,v'.ownBlock=some x->x<w1.heap.size:=λx hx=>(ho.blk cQ x hx).2;have zx:∀x,v'.ownBlock=some x->v.ownBlock=some x\/w.heap.size<=x:=λx hx=>by
  rcases hv with e|⟨y,e,hy⟩
  .exact .inl (e▸hx)
  .rw[e]at hx;injection hx with hx;subst hx;exact .inr hy
 have WB:=h.lt g h.fg;have uP:=hg.size;have GN:=eB.size;refine⟨⟨hb,ho.keep eB (.inr λe=>?_),λx hx=>?_,.inl h.fg,λx hx=>.inr hx,λx hx=>.inl (h.fl x hx),λx hx=>.inl (h.fr x hx),λe=>?_,h.gl,h.gr,λx hx hf=>?_,λx hx hf=>?_,h.lr⟩,eB.os.trans hg.os,eB.tape.trans hg.tape,eB.output.trans hg.output,BYO,λx hx hn=>?_,λx hx=>?_⟩
 .rcases zx g e with h1|h1
  .exact h.gv h1
  .omega
 .rcases hx with hx|hx
  .have:=h.lt x hx;omega
  .have:=hlv x hx;omega
 .rcases zx g e with h1|h1
  .exact h.gv h1
  .omega
 .rcases zx x hx with h1|h1
  .exact h.vl x h1 hf
  .have:=h.vR x hf;omega
 .rcases zx x hx with h1|h1
  .exact h.vr x h1 hf
  .have:=h.pM x hf;omega
 .rw[eB.block x BYO (λe=>hn (by injection e with e;rw[e];exact h.fg)),hg.block x hx (λe=>hn (h.fv x (OU x e.symm)))]
 .rcases hx with hx|hx
  .exact⟨.inl hx,by have:=h.lt x hx;omega⟩
  .refine⟨?_,by have:=hlv x hx;omega⟩;rcases zx x hx with h1|h1
   .exact .inl (h.fv x h1)
   .exact .inr h1
def SN.Vj{its:List It}{Fr:Nat->Prop}(h:SN w g k rk wt its v pl pr Fl Fr F)(hg:w.grownBy w' (some g)):bF w w' F F:=aLi hg h.fg h.lt
def Lb{l r:Sf.T}{Fr:Nat->Prop}(hL:qZ w l pl Fl)(hR:qZ w r pr Fr)(hn:(l.isNil&&r.isNil)=false):
  (pl=none/\(∃b,pr=some b)/\Sf.BI l r=true)\/((∃a,pl=some a)/\pr=none/\Sf.BI l r=false)\/∃a b k1 Ms Wn GZ l1 r1 k2 rk2 wt2 Wz l2 r2,pl=some a/\pr=some b/\l=.node k1 Ms Wn GZ l1 r1/\r=.node k2 rk2 wt2 Wz l2 r2:=by
 cases l with
 |nil=>
  cases r with
  |nil=>simp[Sf.T.isNil]at hn
  |node=>
   obtain rfl:pl=none:=hL;obtain⟨g,_,_,_,_,_,rfl,_⟩:=hR;exact .inl ⟨rfl,⟨g,rfl⟩,rfl⟩
 |node k1 Ms Wn GZ l1 r1=>
  obtain⟨a,_,_,_,_,_,rfl,_⟩:=hL;cases r with
  |nil=>
   obtain rfl:pr=none:=hR;exact .inr (.inl ⟨⟨a,rfl⟩,rfl,rfl⟩)
  |node k2 rk2 wt2 Wz l2 r2=>
   obtain⟨b,_,_,_,_,_,rfl,_⟩:=hR;exact .inr (.inr ⟨a,b,k1,Ms,Wn,GZ,l1,r1,k2,rk2,wt2,Wz,l2,r2,rfl,rfl,rfl,rfl⟩)
structure Kids(w w':World)(g:Nat)(k:Int)(rk wt:Nat)(its:List It)(v:Value)(l r:Sf.T)(pf ps:Option Nat)(Ff Fs F:Nat->Prop):Prop where
 nd:SN w' g k rk wt its v pf ps Ff Fs F
 first:qZ w' (Sf.fst l r) pf Ff
 second:qZ w' (Sf.snd l r) ps Fs
 dG:bF w w' F F
def SN.pg{its:List It}{Fr:Nat->Prop}(h:SN w g k rk wt its v pl pr Fl Fr F)
  (hg:w.grownBy w1 row)(eE:row=none\/row=v.ownBlock)(eB:w1.grownBy w' (some g)):w.heap.size<=w'.heap.size/\(∀x,Fl x->w'.heap[x]?=w.heap[x]?)/\∀x,Fr x->w'.heap[x]?=w.heap[x]?:=by
 have OU:∀x,row=some x->v.ownBlock=some x:=λx hx=>by
  rcases eE with e|e
  .rw[e]at hx;cases hx
  .rw[<-e];exact hx
 have uP:=hg.size;have GN:=eB.size;refine⟨BYO,λx hx=>?_,λx hx=>?_⟩
 .have:=h.vR x hx;rw[eB.block x BYO (λe=>h.gl (by injection e with e;subst e;exact hx)),hg.block x this (λe=>h.vl x (OU x e.symm) hx)]
 .have:=h.pM x hx;rw[eB.block x BYO (λe=>h.gr (by injection e with e;subst e;exact hx)),hg.block x this (λe=>h.vr x (OU x e.symm) hx)]
def SN.far{y:Nat}{its:List It}{Fr:Nat->Prop}(h:SN w g k rk wt its v pl pr Fl Fr F)(hg:w.grownBy w' (some y))(hy:Fl y):SN w' g k rk wt its v pl pr Fl Fr F:=
 ⟨h.blk.keep hg (λe=>h.gl (by injection e with e;subst e;exact hy)),h.own.keep hg (.inr λe=>h.vl y e hy),λx hx=>aAx (h.lt x hx) hg.size,h.fg,h.fv,h.fl,h.fr,h.gv,h.gl,h.gr,h.vl,h.vr,h.lr⟩
def SN.empty{its:List It}{Fr:Nat->Prop}(h:SN w g k rk wt its v pl pr Fl Fr F)(hg:w.grownBy w' (some g))(hb:Bk w' g TS (nC k rk wt (.slice none 0 0) pl pr)):SN w' g k rk wt [] (.slice none 0 0) pl pr Fl Fr F:=
 ⟨hb,iM.nil _ _ _ _ _ _,λx hx=>aAx (h.lt x hx) hg.size,h.fg,λx hx=>(by simp[Value.ownBlock]at hx),h.fl,h.fr,(by simp[Value.ownBlock]),h.gl,h.gr,λx hx=>(by simp[Value.ownBlock]at hx),λx hx=>(by simp[Value.ownBlock]at hx),h.lr⟩
def SN.call{its:List It}{Fr Fl':Nat->Prop}(h:SN w g k rk wt its v pl pr Fl Fr F)(hC:bF w w' Fl Fl'):
  SN w' g k rk wt its v pl pr Fl' Fr (λx=>F x\/Fl' x)/\bF w w' F (λx=>F x\/Fl' x)/\∀t p,qZ w t p Fr->qZ w' t p Fr:=by
 have WB:=h.lt g h.fg;have pX:∀x,Fl' x->x<w.heap.size->Fl x:=λx hx hl=>by
  rcases(hC.next x hx).1 with h1|h1
  .exact h1
  .omega
 refine⟨⟨h.blk.dG hC h.gl,h.own.other λx hx=>hC.block x (h.lt x (h.fv x hx)) (h.vl x hx),λx hx=>?_,.inl h.fg,λx hx=>.inl (h.fv x hx),λx hx=>.inr hx,λx hx=>.inl (h.fr x hx),h.gv,λhx=>h.gl (pX g hx WB),h.gr,λx hx pP=>h.vl x hx (pX x pP (h.lt x (h.fv x hx))),h.vr,λx h1 h2=>h.lr x (pX x h1 (h.pM x h2)) h2⟩,⟨hC.os,hC.tape,hC.output,hC.size,λx hx hn=>hC.block x hx λe=>hn (h.fl x e),λx hx=>?_⟩,λt p ht=>ht.dG h.pM hC λx h1 h2=>h.lr x h1 h2⟩
 .rcases hx with hx|hx
  .exact aAx (h.lt x hx) hC.size
  .exact(hC.next x hx).2
 .rcases hx with hx|hx
  .exact⟨.inl hx,aAx (h.lt x hx) hC.size⟩
  .exact⟨(hC.next x hx).1.imp (h.fl x) id,(hC.next x hx).2⟩
def Ci(n:Nat):∀(t t':Sf.T) (g:Nat) (F:Nat->Prop) (w:World),Sf.nN n t t'->qZ w t (some g) F->(∀x,F x->x<w.heap.size)->
  Calls tz 48 #[rB g] w (eT λ_ w'=>∃F',qZ w' t' (some g) F'/\bF w w' F F'):=by
 induction n using Nat.strongRecOn with
 |ind n ih=>
 intro t t' g F w hf hS dD;refine aI Og rfl Tryz.ntmps48 rfl ?_;refine aB ?_;refine aMK (λ(_:Sf.T) (_:Nat->Prop)=>[(0,rB g)]) (λ(cur:Sf.T) (G:Nat->Prop) m wr=>m<=n/\Sf.nN m cur t'/\qZ wr cur (some g) G/\bF w wr F G) n t F ⟨aAB _,hf,hS,bF.refl dD⟩ aJA ?_;clear hf hS dD t;rintro cur G m wr ⟨hm,hf,hS,hC⟩;obtain⟨k,rk,wt,its,l,r,rfl⟩:=hf.node;have um:=hS;obtain⟨g',v,pl,pr,Fl,Fr,e,hN,hL,hR⟩:=hS;obtain rfl:g=g':=by injection e
 clear e;obtain⟨A,c,rfl,hc⟩:=hN.own.form;have fF:=hN.blk;have yD:=hL.isNil;have Qw:=hR.isNil;rcases hf.round with⟨aGW,rfl⟩|⟨h1,hn,aLH,hfi,hfb,sC⟩
 .
  refine aB ?_;refine aLh mixed BYK ?_;refine uT ?_;by_cases h1:its.length<wt
  .rw[show decide ((its.length:Int)<(wt:Int))=true from decide_eq_true BYO];refine uT ?_;refine QL.call (λ_ _=>aOu ZN BYK rfl rfl) rfl (λw_ FZ=>lO ((BM w_ g k rk wt its _ pl pr (fF.below FZ)).mono λq w' hq=>by
    cases q with
    |returned u=>exact⟨hq.1,by rw[hq.2];exact Below.refl _ _⟩
    |panicked ch=>exact hq
    |outgrown=>exact hq) FZ) ?_
   have hlf:(pl.isNone&&pr.isNone)=true:=by
    rw[<-yD,<-Qw];cases hh:(l.isNil&&r.isNil) with
    |true=>rfl
    |false=>exact absurd ⟨h1,hh⟩ aGW
   rw[hlf];refine uT ?_;refine QL.done λw2 bM=>?_;refine aB ?_;refine aJh rfl ?_;refine aB ?_;exact aMt rfl ⟨G,um.below hN.lt bM,hC.trans (aLX bM hN.lt)⟩
  .rw[show decide ((its.length:Int)<(wt:Int))=false from decide_eq_false BYO];refine uT ?_;refine QL.done λw2 bM=>?_;refine aB ?_;refine aJh rfl ?_;refine aB ?_;exact aMt rfl ⟨G,um.below hN.lt bM,hC.trans (aLX bM hN.lt)⟩
 .
  refine aB ?_;refine aLh mixed BYK ?_;refine uT ?_;rw[show decide ((its.length:Int)<(wt:Int))=true from decide_eq_true BYO];refine uT ?_;refine QL.call (λ_ _=>aOu ZN BYK rfl rfl) rfl (λw_ FZ=>lO ((BM w_ g k rk wt its _ pl pr (fF.below FZ)).mono λq w' hq=>by
   cases q with
   |returned u=>exact⟨hq.1,by rw[hq.2];exact Below.refl _ _⟩
   |panicked ch=>exact hq
   |outgrown=>exact hq) FZ) ?_
  rw[show(pl.isNone&&pr.isNone)=false from by rw[<-yD,<-Qw];exact hn];refine uT ?_;refine QL.done λw1 cA=>?_;have uM:=hN.below cA;have hL1:=hL.below hN.vR cA;have hR1:=hR.below hN.pM cA;have FY:=hC.trans (aLX cA hN.lt);clear hN hL hR fF um cA hC;have tq:=uM.blk;refine aB ?_;refine aLO rfl ?_;refine CO ?_;refine aSZ (λ(pf ps:Option Nat) (Ff Fs:Nat->Prop)=>[(0,rB g)]) (λpf ps Ff Fs w'=>Kids w1 w' g k rk wt its (.slice A its.length c) l r pf ps Ff Fs G) ?_ ?_
  .rcases Lb hL1 hR1 hn with⟨rfl,⟨b,rfl⟩,cw⟩|⟨⟨a,rfl⟩,rfl,cw⟩|⟨a,b,k1,Ms,Wn,GZ,l1,r1,k2,rk2,wt2,Wz,l2,r2,rfl,rfl,rfl,rfl⟩
   .refine aB ?_;refine aLh mixed BYK ?_;refine uT ?_;refine QL.done λw2 bM=>?_;have aCw:=tq.below bM;refine aB ?_;refine aLO rfl ?_;refine aB ?_;refine WC.tm (λw'=>Below w2.heap.size w2 w') [12,15] (.pure 0 (.pure 1 (.pure 2 (.pure 3 (.pure 4 (.pure 6 (.pure 7 (.pure 8 (.read 5 (.read 9 (.pure 10 (.pure 11 (.last 12 (.pure 13 (.pure 14 (.last 15 .fin)))))))))))))))) mixed BYK rfl BYK (λw' rD _=>rD) λK hK w3 dZ OR=>?_;refine Yg ?_;have EO:=(uM.below bM).below dZ;refine TM.last rfl (aOo (p:=some b) rfl rfl EO.blk (by simp[nC]) λw4 kO rE RY=>WL.nil ?_);refine Yg ?_;refine TM.last rfl (aOo (p:=none) rfl rfl rE (by simp[nC,putAt]) λw5 fU pZ zT=>WL.nil ?_);refine TM.fin (hK _ _ ?_);clear hK K;replace pZ:Bk w5 g TS (nC k rk wt (.slice A its.length c) (some b) none):=pZ;have VZ:=aU kO fU;have pY:=EO.re VZ pZ;have sr:=((hL1.below uM.vR bM).below (uM.below bM).vR dZ).grown EO.vR VZ (λx e hx=>EO.gl (by injection e with e;subst e;exact hx));have su:=((hR1.below uM.pM bM).below (uM.below bM).pM dZ).grown EO.pM VZ (λx e hx=>EO.gr (by injection e with e;subst e;exact hx));refine aB ?_;refine aPV _ _ Fr Fl ⟨pY.swap,?_,?_,((aLX bM uM.lt).trans (aLX dZ (uM.below bM).lt)).trans (EO.Vj VZ)⟩ aJA
    .rw[show Sf.fst _ _=_ from by unfold Sf.fst;rw[cw,if_pos rfl]];exact su
    .rw[show Sf.snd _ _=_ from by unfold Sf.snd;rw[cw,if_pos rfl]];exact sr
   .refine aB ?_;refine aLh mixed BYK ?_;refine uT ?_;refine QL.done λw2 bM=>?_;refine aB ?_;refine aJh rfl ?_;refine aB ?_;refine aPV _ _ Fl Fr ⟨uM.below bM,?_,?_,aLX bM uM.lt⟩ aJA
    .rw[show Sf.fst _ _=_ from by unfold Sf.fst;rw[cw,if_neg BYS]];exact hL1.below uM.vR bM
    .rw[show Sf.snd _ _=_ from by unfold Sf.snd;rw[cw,if_neg BYS]];exact hR1.below uM.pM bM
   .have aM7:=hL1;have aNY:=hR1;obtain⟨ga,va,_,_,_,_,ea,hNa,_,_⟩:=aM7;obtain⟨gb,vb,_,_,_,_,eb,hNb,_,_⟩:=aNY;obtain rfl:a=ga:=by injection ea
    obtain rfl:b=gb:=by injection eb
    have hba:=hNa.blk;have HA:=hNb.blk;refine aB ?_;refine aLh mixed BYK ?_;refine uT ?_;refine QL.done λw2 bM=>?_;have aCw:=tq.below bM;refine aB ?_;refine aJ6 rfl (λhk=>?_) (λhk=>?_)
    .have cw:Sf.BI (.node k1 Ms Wn GZ l1 r1) (.node k2 rk2 wt2 Wz l2 r2)=true:=by simp[Sf.BI,Sf.T.isNil,Sf.T.key,hk]
     refine aB ?_;refine WC.tm (λw'=>Below w2.heap.size w2 w') [12,15] (.pure 0 (.pure 1 (.pure 2 (.pure 3 (.pure 4 (.pure 6 (.pure 7 (.pure 8 (.read 5 (.read 9 (.pure 10 (.pure 11 (.last 12 (.pure 13 (.pure 14 (.last 15 .fin)))))))))))))))) mixed BYK rfl BYK (λw' rD _=>rD) λK hK w3 dZ OR=>?_;refine Yg ?_;have EO:=(uM.below bM).below dZ;refine TM.last rfl (aOo (p:=(some b)) rfl rfl EO.blk (by simp[nC]) λw4 kO rE RY=>WL.nil ?_);refine Yg ?_;refine TM.last rfl (aOo (p:=(some a)) rfl rfl rE (by simp[nC,putAt]) λw5 fU pZ zT=>WL.nil ?_);refine TM.fin (hK _ _ ?_);clear hK K;replace pZ:Bk w5 g TS (nC k rk wt (.slice A its.length c) (some b) (some a)):=pZ;have VZ:=aU kO fU;have pY:=EO.re VZ pZ;have sr:=((hL1.below uM.vR bM).below (uM.below bM).vR dZ).grown EO.vR VZ (λx e hx=>EO.gl (by injection e with e;subst e;exact hx));have su:=((hR1.below uM.pM bM).below (uM.below bM).pM dZ).grown EO.pM VZ (λx e hx=>EO.gr (by injection e with e;subst e;exact hx));refine aB ?_;refine aPV _ _ Fr Fl ⟨pY.swap,?_,?_,((aLX bM uM.lt).trans (aLX dZ (uM.below bM).lt)).trans (EO.Vj VZ)⟩ aJA
     .rw[show Sf.fst _ _=_ from by unfold Sf.fst;rw[cw,if_pos rfl]];exact su
     .rw[show Sf.snd _ _=_ from by unfold Sf.snd;rw[cw,if_pos rfl]];exact sr
    .have cw:Sf.BI (.node k1 Ms Wn GZ l1 r1) (.node k2 rk2 wt2 Wz l2 r2)=false:=by unfold Sf.BI;simp only[Sf.T.isNil,Sf.T.key,aGy,Bool.not_false,aHf];exact decide_eq_false hk
     refine aB ?_;refine aPV _ _ Fl Fr ⟨uM.below bM,?_,?_,aLX bM uM.lt⟩ aJA
     .rw[show Sf.fst _ _=_ from by unfold Sf.fst;rw[cw,if_neg BYS]];exact hL1.below uM.vR bM
     .rw[show Sf.snd _ _=_ from by unfold Sf.snd;rw[cw,if_neg BYS]];exact hR1.below uM.pM bM
  clear hL1 hR1 yD Qw tq;rintro pf ps Ff Fs w2 ⟨XC,hF2,ff,zQ⟩;have uN:=FY.trans zQ;clear FY zQ uM;obtain⟨kf,rkf,wtf,itf,lf',rf',hfe⟩:∃kf rkf wtf itf lf' rf',Sf.fst l r=.node kf rkf wtf itf lf' rf':=by
   cases h:Sf.fst l r with
   |nil=>exact absurd h aLH
   |node=>exact⟨_,_,_,_,_,_,rfl⟩
  rw[hfe]at hF2 hfi hfb sC;obtain⟨gf,vf,plf,prf,Flf,Frf,rfl,hNf,hLf,hRf⟩:=hF2;obtain⟨Af,cf,rfl,hcf⟩:=hNf.own.form;have aMG:itf≠[]:=hfi;have aRX:its.length+itf.length<=1000:=hfb;have aCw:=XC.blk;have aL8:=hNf.blk;refine aB ?_;refine WC.tm (λw'=>Below w2.heap.size w2 w') [12,15] (.pure 0 (.pure 1 (.pure 2 (.pure 3 (.pure 5 (.pure 6 (.pure 7 (.read 4 (.act 8 (.pure 9 (.pure 10 (.act 11 (.last 12 (.pure 13 (.pure 14 (.last 15 .fin)))))))))))))))) mixed BYK rfl BYK (λw' rD _=>rD) λK hK w3 dZ OR=>?_;refine Yg ?_;have EO:=XC.below dZ;have Wy:=hNf.below dZ;have dt:=EO.blk;have aLw:=Wy.blk;refine TM.act rfl (aLP aOJ (WL.nil ⟨dZ,?_⟩));refine Yg ?_;refine TM.act rfl (aLP aOI (WL.nil ⟨dZ,?_⟩));refine TM.last rfl (aOy bN cJ BYO aY aL rfl rfl rfl EO.own Wy.own.bK.2.2 BYO (by simp[maxLen];omega) (aBt _) λv' w4 row sB kO CB Mp hv4=>WL.nil ?_);rw[dE]at sB;obtain⟨A',c',rfl,Ee⟩:=sB.form;have fj:row≠some g:=λe=>by
   rcases CB with h|h
   .rw[h]at e;cases e
   .exact EO.gv (h▸e)
  refine Yg ?_;refine TM.last rfl (aP8 rfl rfl (dt.keep kO fj) (by simp[nC]) λw5 fU pZ zT=>WL.nil ?_);refine TM.fin (hK _ _ ?_);clear hK K;obtain⟨pY,xB⟩:=EO.app kO CB sB (by simp[aMG]) hv4 fU pZ;obtain⟨hs5,SF,aI8⟩:=EO.pg kO CB fU;have Wl:=Wy.other hs5 SF;have aHL:=(hLf.below hNf.vR dZ).other hs5 λx hx=>SF x (Wy.fl x hx);have aIP:=(hRf.below hNf.pM dZ).other hs5 λx hx=>SF x (Wy.fr x hx);have FX:=(ff.below XC.pM dZ).other hs5 aI8;have aCZ:=(uN.trans (aLX dZ XC.lt)).trans xB;clear XC EO hNf Wy aCw dt aL8 aLw hLf hRf ff uN xB kO fU pZ SF aI8 hs5 dZ OR zT sB hv4 Mp CB fj;obtain⟨G5,hG5⟩:∃G5:Nat->Prop,G5=λx=>G x\/Value.ownBlock (.slice A' (its++itf).length c')=some x:=⟨_,rfl⟩;rw[<-hG5]at pY aCZ;have aI9:=pY.blk;have aMR:=Wl.blk;refine aTk λK hK=>?_;refine aPA rfl rfl aI9 (by simp[nC]) λw6 gL pU FW=>?_;have xC:=pY.re gL (k2:=kf) (rk2:=rk) (wt2:=wt) (pl2:=some gf) (pr2:=ps) pU;have hn5:∀x,some g=some x->¬Ff x:=λx e hx=>pY.gl (by injection e with e;subst e;exact hx);have aHo:∀x,some g=some x->¬Fs x:=λx e hx=>pY.gr (by injection e with e;subst e;exact hx);have Qv:∀x,Ff x->w6.heap[x]?=w5.heap[x]?:=λx hx=>gL.block x (Wl.lt x hx) λe=>hn5 x e.symm hx;have OQ:=Wl.other gL.size Qv;have aIY:=aHL.other gL.size λx hx=>Qv x (Wl.fl x hx);have aHI:=aIP.other gL.size λx hx=>Qv x (Wl.fr x hx);have zo:=FX.grown pY.pM gL aHo;have WH:=aCZ.trans (pY.Vj gL);have aKy:=xC.blk;have aG7:=OQ.blk;clear pY Wl aI9 aMR aHL aIP FX aCZ pU Qv hn5 aHo;refine aTk λK hK=>?_;refine aP8 (A:=none) (n:=0) (c:=0) rfl rfl aG7 (by simp[nC]) λw7 uO OT hz7=>?_;have aCf:=OQ.empty uO OT;have NO:=xC.far uO OQ.fg;have aI3:=aIY.grown OQ.vR uO (λx e hx=>OQ.gl (by injection e with e;subst e;exact hx));have aGU:=aHI.grown OQ.pM uO (λx e hx=>OQ.gr (by injection e with e;subst e;exact hx));have hS7:=zo.grown xC.pM uO (λx e hx=>xC.lr gf OQ.fg (by injection e with e;subst e;exact hx));have aI1:=WH.trans (aLi uO (xC.fl gf OQ.fg) xC.lt);have aMb:=NO.blk;have aNS:=aCf.blk;clear xC OQ aKy aG7 aIY aHI zo WH OT;refine aTk λK hK=>?_;refine aKQ ZN (BM w7 gf _ _ _ [] _ plf prf aNS) ?_;rintro _ w7 ⟨rfl,rfl⟩;refine aB ?_;rw[show(plf.isNone&&prf.isNone)=(Sf.fst l r).leaf from by rw[hfe,<-aI3.isNil,<-aGU.isNil];rfl];rcases sC with⟨hlf,m1,sj,GL⟩|⟨hlf,m1,m2,a,sj,Wq,hfa,GL⟩
  .rw[show(Sf.fst l r).leaf=true from by rw[hfe];exact hlf];refine aLO rfl ?_;refine aTk λK hK=>?_;refine aOo (p:=none) rfl rfl aMb (by simp[nC]) λw8 SG hb8 b8=>?_;have cz:=NO.re SG (k2:=kf) (rk2:=rk) (wt2:=wt) (pl2:=none) (pr2:=ps) hb8;have Lz:=hS7.grown NO.pM SG (λx e hx=>NO.gr (by injection e with e;subst e;exact hx));refine aB ?_;exact aLm _ G5 m1 BYO ⟨BYO,GL,⟨g,_,none,ps,Ff,Fs,rfl,cz,rfl,Lz⟩,aI1.trans (NO.Vj SG)⟩ aJA
  .rw[show(Sf.fst l r).leaf=false from by rw[hfe];exact hlf];refine aJh rfl ?_;refine aTk λK hK=>?_;refine aKQ Og (ih m1 BYO _ a gf Ff w7 hfa ⟨gf,_,plf,prf,Flf,Frf,rfl,aCf,aI3,aGU⟩ aCf.lt) ?_;rintro _ w8 ⟨Ff',hF8,wA⟩;obtain⟨cz,zN,Lz⟩:=NO.call wA;refine aB ?_;exact aLm _ _ m2 BYO ⟨BYO,GL,⟨g,_,some gf,ps,Ff',Fs,rfl,cz,hF8,Lz _ _ hS7⟩,aI1.trans zN⟩ aJA
end Rk
