/- Part of the proof of TopSorts. -/
import Derived.Deep.DeepAppendRoom
import Derived.Test.YthdiheblgmddhaaGreatDoorQ03
set_option linter.all false
set_option maxHeartbeats 4000000
namespace Rk.Ln
variable{k:Int}{i next:Nat}
inductive T(α:Type) where
 |nil:T α
 |node (x:α) (l r:T α):T α
section
variable{α β:Type}
def T.size:T α->Nat
 | .nil=>0
 | .node _ l r=>l.size+r.size+1
def T.span:T α->Nat
 | .nil=>0
 | .node _ _ r=>r.span+1
def T.items:T α->List α
 | .nil=>[]
 | .node x l r=>x::(l.items++r.items)
def T.map(f:α->β):T α->T β
 | .nil=>.nil
 | .node x l r=>.node (f x) (l.map f) (r.map f)
def T.isNil:T α->Bool
 | .nil=>true
 | .node .. =>false
def aOT(t:T α):t.items.length=t.size:=by
 induction t with
 |nil=>rfl
 |node x l r hl hr=>simp[T.items,T.size,hl,hr]
def aMr(f:α->β)(t:T α):(t.map f).size=t.size:=by
 induction t with
 |nil=>rfl
 |node x l r hl hr=>simp[T.map,T.size,hl,hr]
def aOz(f:α->β)(t:T α):(t.map f).span=t.span:=by
 induction t with
 |nil=>rfl
 |node x l r hl hr=>simp[T.map,T.span,hr]
def T.map_nil(f:α->β)(t:T α):(t.map f).isNil=t.isNil:=by cases t<;>rfl
def T.Pc(t:T α):t.span<=t.size:=by
 induction t with
 |nil=>exact aAB _
 |node x l r hl hr=>simp only[T.span,T.size];omega
def mk(x:α)(l r:T α):T α:=if l.span<r.span then .node x r l else .node x l r
def gZ(key:α->Int):T α->T α->T α
 | .nil,b=>b
 | .node x l r,.nil=>.node x l r
 | .node x l r,.node y l' r'=>if key y<key x then mk y l' (gZ key (.node x l r) r') else mk x l (gZ key r (.node y l' r'))
termination_by a b=>a.size+b.size
decreasing_by all_goals simp only[T.size];omega
def hY(key:α->Int)(b:T α):gZ key .nil b=b:=by unfold gZ;rfl
def iN(key:α->Int)(a:T α):gZ key a .nil=a:=by cases a<;>(unfold gZ;rfl)
def iO(key:α->Int)(x y:α)(l r l' r':T α):gZ key (.node x l r) (.node y l' r')=if key y<key x then mk y l' (gZ key (.node x l r) r') else mk x l (gZ key r (.node y l' r')):=by rw[gZ]
def O3(f:α->β)(x:α)(l r:T α):(mk x l r).map f=mk (f x) (l.map f) (r.map f):=by
 unfold mk;rw[aOz,aOz];split<;>rfl
def KV(x:α)(l r:T α):(mk x l r).items.Perm (x::(l.items++r.items)):=by
 unfold mk;split
 .exact List.Perm.cons _ aDB
 .exact aBx _
def KW(key:α->Int){P:T α->T α->Prop}(h1:∀b,P .nil b)(h2:∀x l r,P (.node x l r) .nil)
  (h3:∀x l r y l' r',key y<key x->P (.node x l r) r'->P (.node x l r) (.node y l' r'))(h4:∀x l r y l' r',¬key y<key x->P r (.node y l' r')->P (.node x l r) (.node y l' r'))(a b:T α):P a b:=by
 suffices h:∀n a b,T.size a+T.size b<=n->P a b from h _ a b (aAB _)
 intro n;induction n with
 |zero=>
  intro a b hs;cases a with
  |nil=>exact h1 b
  |node x l r=>simp only[T.size]at hs;omega
 |succ n ih=>
  intro a b hs;cases a with
  |nil=>exact h1 b
  |node x l r=>
   cases b with
   |nil=>exact h2 x l r
   |node y l' r'=>
    by_cases hk:key y<key x
    .exact h3 x l r y l' r' hk (ih _ _ (by simp only[T.size]at hs⊢;omega))
    .exact h4 x l r y l' r' hk (ih _ _ (by simp only[T.size]at hs⊢;omega))
def Bi(key:α->Int)(aCS:β->Int)(f:α->β)(hf:∀x,aCS (f x)=key x)(a b:T α):(gZ key a b).map f=gZ aCS (a.map f) (b.map f):=by
 refine KW key (P:=λa b=>(gZ key a b).map f=gZ aCS (a.map f) (b.map f)) ?_ ?_ ?_ ?_ a b
 .intro b;rw[hY];exact(hY _ _).symm
 .intro x l r;rw[iN];exact(iN _ _).symm
 .intro x l r y l' r' hk ih;simp only[T.map]at ih⊢;rw[iO,if_pos hk,iO,if_pos (by rw[hf,hf];exact hk),O3,ih]
 .intro x l r y l' r' hk ih;simp only[T.map]at ih⊢;rw[iO,if_neg hk,iO,if_neg (by rw[hf,hf];exact hk),O3,ih]
def mX(key:α->Int)(a b:T α):(gZ key a b).items.Perm (a.items++b.items):=by
 refine KW key (P:=λa b=>(gZ key a b).items.Perm (a.items++b.items)) ?_ ?_ ?_ ?_ a b
 .intro b;rw[hY];exact aBx _
 .intro x l r;rw[iN];simp[T.items]
 .intro x l r y l' r' hk ih;rw[iO,if_pos hk];refine(KV _ _ _).trans ?_;rw[show T.items (T.node y l' r')=y::(l'.items++r'.items) from rfl];refine List.Perm.trans ?_ List.perm_middle.symm;refine List.Perm.cons _ ((aDC _ ih).trans ?_);rw[<-aCb,<-aCb];exact aDi _ aDB
 .intro x l r y l' r' hk ih;rw[iO,if_neg hk];refine(KV _ _ _).trans ?_;rw[show T.items (T.node x l r)=x::(l.items++r.items) from rfl,aCq];refine List.Perm.cons _ ((aDC _ ih).trans ?_);rw[aCb]
def rS(key:α->Int)(a b:T α):(gZ key a b).size=a.size+b.size:=by
 rw[<-aOT,<-aOT,<-aOT,<-aBh];exact(mX key a b).length_eq
def Ge(key:α->Int)(k:Int):T α->Prop
 | .nil=>True
 | .node x _ _=>k<=key x
def O4(key:α->Int):T α->Prop
 | .nil=>True
 | .node x l r=>Ge key (key x) l/\Ge key (key x) r/\O4 key l/\O4 key r
def aTP:T α->Prop
 | .nil=>True
 | .node _ l r=>r.span<=l.span/\aTP l/\aTP r
def Good(key:α->Int)(t:T α):Prop:=O4 key t/\aTP t
def Good.left{key:α->Int}{x:α}{l r:T α}(h:Good key (.node x l r)):Good key l:=⟨h.1.2.2.1,h.2.2.1⟩
def Good.right{key:α->Int}{x:α}{l r:T α}(h:Good key (.node x l r)):Good key r:=⟨h.1.2.2.2,h.2.2.2⟩
def BD(key:α->Int):Good key (.nil:T α):=⟨trivial,trivial⟩
def Pd{key:α->Int}{x:α}{l r:T α}(hl:Good key l)(hr:Good key r)(h1:Ge key (key x) l)(h2:Ge key (key x) r):Good key (mk x l r):=by
 unfold mk;split
 .exact⟨⟨h2,h1,hr.1,hl.1⟩,⟨BYO,hr.2,hl.2⟩⟩
 .exact⟨⟨h1,h2,hl.1,hr.1⟩,⟨BYO,hl.2,hr.2⟩⟩
def Ge.mono{key:α->Int}{k':Int}{t:T α}(h:Ge key k t)(hk:k'<=k):Ge key k' t:=by
 cases t with
 |nil=>trivial
 |node x l r=>exact aDG hk h
def yb{key:α->Int}{x:α}{l r:T α}(h:k<=key x):Ge key k (mk x l r):=by unfold mk;split<;>exact h
def Pe{key:α->Int}{a b:T α}(ha:Ge key k a)(hb:Ge key k b):Ge key k (gZ key a b):=by
 cases a with
 |nil=>rw[hY];exact hb
 |node x l r=>
  cases b with
  |nil=>rw[iN];exact ha
  |node y l' r'=>
   rw[iO];split
   .exact yb hb
   .exact yb ha
def QV(key:α->Int)(a b:T α):Good key a->Good key b->Good key (gZ key a b):=by
 refine KW key (P:=λa b=>Good key a->Good key b->Good key (gZ key a b)) ?_ ?_ ?_ ?_ a b
 .intro b _ hb;rw[hY];exact hb
 .intro x l r ha _;rw[iN];exact ha
 .intro x l r y l' r' hk ih ha hb;rw[iO,if_pos hk];exact Pd hb.left (ih ha hb.right) hb.1.1 (Pe (by show key y<=key x;omega) hb.1.2.1)
 .intro x l r y l' r' hk ih ha hb;rw[iO,if_neg hk];exact Pd ha.left (ih ha.right hb) ha.1.1 (Pe ha.1.2.1 (by show key x<=key y;omega))
def aBM{key:α->Int}{t:T α}(h:O4 key t)(hk:Ge key k t):∀y∈t.items,k<=key y:=by
 induction t generalizing k with
 |nil=>intro y hy;cases hy
 |node x l r hl hr=>
  intro y hy;rcases aBI.1 hy with rfl|hy
  .exact hk
  .rcases aBR.1 hy with hy|hy
   .exact aDG hk (hl h.2.2.1 h.1 y hy)
   .exact aDG hk (hr h.2.2.2 h.2.1 y hy)
def least{key:α->Int}{x:α}{l r:T α}(h:O4 key (.node x l r)):∀y∈(T.node x l r).items,key x<=key y:=aBM h (aC0 _)
def aF5{t:T α}(h:aTP t):2 ^ t.span<=t.size+1:=by
 suffices hh:∀n (t:T α),t.size<=n->aTP t->2 ^ t.span<=t.size+1 from hh _ t (aAB _) h
 intro n;induction n with
 |zero=>
  intro t ht _;cases t with
  |nil=>simp[T.span,T.size]
  |node x l r=>simp only[T.size]at ht;omega
 |succ n ih=>
  intro t ht hl;cases t with
  |nil=>simp[T.span,T.size]
  |node x l r=>
   simp only[T.size]at ht;have h1:=ih l BYO hl.2.1;have h2:=ih r BYO hl.2.2;have h3:2 ^ r.span<=2 ^ l.span:=aDm BYO hl.1;simp only[T.span,T.size,aDW];omega
end
abbrev It:=Int×Int
abbrev Nd:=Int×Int×Int×Int
def yc:Nd:=(0,0,0,0)
def ep(x:Nd):It:=(x.1,x.2.1)
def xG:T It->Nat->List Nd
 | .nil,_=>[]
 | .node x l r,a=>(x.1,x.2,(if l.isNil then-1 else((a+1:Nat):Int)),(if r.isNil then-1 else((a+1+l.size:Nat):Int)))::(xG l (a+1)++xG r (a+1+l.size))
def jP(t:T It)(a:Nat):(xG t a).length=t.size:=by
 induction t generalizing a with
 |nil=>rfl
 |node x l r hl hr=>simp[xG,T.size,hl,hr]
def QW(t:T It)(a:Nat):(xG t a).map ep=t.items:=by
 induction t generalizing a with
 |nil=>rfl
 |node x l r hl hr=>simp[xG,T.items,hl,hr,ep]
def side(b:Nat->Option (T It))(n:Nat)(k:Int)(p:Int)(next:Nat):Option (T It):=
 if p= -1 then some .nil
 else if p≠next\/n<=next then none
 else match b next with
  |some (.node y l r)=>if y.1<k then none else some (.node y l r)
  |_=>none
def vO(L:List Nd):Nat->Nat->Option (T It)
 |0,_=>none
 |f+1,i=>
  let x:=L.getD i yc
  match side (vO L f) L.length x.1 x.2.2.1 (i+1) with
  |none=>none
  |some l=>
   match side (vO L f) L.length x.1 x.2.2.2 (i+1+l.size) with
   |none=>none
   |some r=>if l.span<r.span then none else some (.node (x.1,x.2.1) l r)
abbrev kI:It->Int:=λx=>x.1
def O5{L:List Nd}{f:Nat}{t:T It}(h:vO L f i=some t):∃x l r,t=.node x l r:=by
 cases f with
 |zero=>cases h
 |succ f=>
  simp only[vO]at h;split at h
  .cases h
  .split at h
   .cases h
   .split at h
    .cases h
    .injection h with h;exact⟨_,_,_,h.symm⟩
def At(L:List Nd)(i:Nat)(t:T It):Prop:=i+t.size<=L.length/\∀k,k<t.size->L[i+k]?=(xG t i)[k]?
def at_nil(L:List Nd)(h:i<=L.length):At L i .nil:=⟨by simpa[T.size] using h,λk hk=>by simp[T.size]at hk⟩
def At.node{L:List Nd}{x:It}{l r:T It}(h:At L i (.node x l r)):i<L.length/\
  L.getD i yc=(x.1,x.2,(if l.isNil then-1 else((i+1:Nat):Int)),(if r.isNil then-1 else((i+1+l.size:Nat):Int)))/\At L (i+1) l/\At L (i+1+l.size) r:=by
 obtain⟨h1,h2⟩:=h;simp only[T.size]at h1 h2;refine⟨BYO,?_,⟨BYO,λk hk=>?_⟩,⟨BYO,λk hk=>?_⟩⟩
 .have:=h2 0 BYO;rw[aDV]at this;rw[List.getD,this];rfl
 .have:=h2 (k+1) BYO;rw[show i+1+k=i+(k+1) from BYO,this];simp only[xG,aCg];rw[aDe (by rw[jP];exact hk)]
 .have:=h2 (l.size+k+1) BYO;rw[show i+1+l.size+k=i+(l.size+k+1) from BYO,this];simp only[xG,aCg];rw[aDt (by rw[jP];omega),jP,aID]
def At.mk{L:List Nd}{i:Nat}{x:It}{l r:T It}(h0:i<L.length)
  (h1:L.getD i yc=(x.1,x.2,(if l.isNil then-1 else((i+1:Nat):Int)),(if r.isNil then-1 else((i+1+l.size:Nat):Int))))(h2:At L (i+1) l)(h3:At L (i+1+l.size) r):At L i (.node x l r):=by
 refine⟨by simp only[T.size];have:=h3.1;omega,λk hk=>?_⟩;simp only[T.size]at hk;cases k with
 |zero=>
  rw[aDV,aDZ h0];rw[List.getD,aDZ h0]at h1;simp only[xG,aCu];rw[<-h1];rfl
 |succ k=>
  simp only[xG,aCg];rcases aCD k l.size with HU|HU
  .rw[aDe (by rw[jP];exact HU),<-h2.2 k HU,show i+(k+1)=i+1+k from by omega]
  .rw[aDt (by rw[jP];exact HU),jP,<-h3.2 (k-l.size) BYO,show i+(k+1)=i+1+l.size+(k-l.size) from by omega]
def Un{L:List Nd}{b:Nat->Option (T It)}{p:Int}{t:T It}(hb:∀t,b next=some t->At L next t/\Good kI t)(hn:next<=L.length)(h:side b L.length k p next=some t):
  At L next t/\Good kI t/\Ge kI k t/\p=(if t.isNil then-1 else(next:Int)):=by
 unfold side at h;split at h
 .rename_i hp;injection h with h;subst h;exact⟨at_nil L hn,BD _,trivial,by simp[T.isNil,hp]⟩
 .split at h
  .cases h
  .rename_i h1 h2;split at h
   .rename_i y l r he;split at h
    .cases h
    .rename_i h3;injection h with h;subst h;obtain⟨ha,hg⟩:=hb _ he;refine⟨ha,hg,by show k<=y.1;omega,?_⟩;show p=if(false:Bool)=true then(-1:Int) else(next:Int);simp only[aHU,if_false];omega
   .cases h
def Bj{L:List Nd}:∀(f i:Nat),i<L.length->∀t,vO L f i=some t->At L i t/\Good kI t:=by
 intro f;induction f with
 |zero=>intro i _ t h;cases h
 |succ f ih=>
  intro i hi t h;simp only[vO]at h;have hs:∀(k p:Int) (next:Nat) (t:T It),next<=L.length->side (vO L f) L.length k p next=some t->At L next t/\Good kI t/\Ge kI k t/\p=(if t.isNil then-1 else(next:Int)):=by
   intro k p next t hn hh
   rcases aCD next L.length with h1|h1
   .exact Un (λt ht=>ih next h1 t ht) hn hh
   .unfold side at hh;split at hh
    .rename_i hp;injection hh with hh;subst hh;exact⟨at_nil L hn,BD _,trivial,by simp[T.isNil,hp]⟩
    .rw[if_pos (.inr h1)]at hh;cases hh
  split at h
  .cases h
  .rename_i l hl;obtain⟨a1,g1,k1,p1⟩:=hs _ _ _ _ BYO hl;split at h
   .cases h
   .rename_i r hr;obtain⟨a2,g2,k2,p2⟩:=hs _ _ _ _ a1.1 hr;split at h
    .cases h
    .rename_i hsp;injection h with h;subst h;refine⟨At.mk hi ?_ a1 a2,⟨k1,k2,g1.1,g2.1⟩,⟨BYO,g1.2,g2.2⟩⟩;rw[<-p1,<-p2]
def Pf{b:Nat->Option (T It)}{n:Nat}{t:T It}(hb:t.isNil=false->b next=some t)(hn:t.isNil=false->next<n)(hk:Ge kI k t):
  side b n k (if t.isNil then-1 else(next:Int)) next=some t:=by
 unfold side;cases t with
 |nil=>simp[T.isNil]
 |node y l r=>
  have h1:=hb rfl;have h2:=hn rfl;simp only[T.isNil,aHU,if_false];rw[if_neg BYO,if_neg BYO,h1];have h3:¬y.1<k:=by have:k<=y.1:=hk;omega
  simp only[if_neg h3]
def aBN{L:List Nd}(t:T It):∀(f i:Nat),t.size<=f->t.isNil=false->At L i t->Good kI t->vO L f i=some t:=by
 induction t with
 |nil=>intro f i _ h;simp[T.isNil]at h
 |node x l r hl hr=>
  intro f i hf _ ha hg;obtain⟨h0,h1,h2,h3⟩:=ha.node;simp only[T.size]at hf;obtain⟨f,rfl⟩:∃g,f=g+1:=⟨f-1,BYO⟩;have dD:∀{t:T It} {j:Nat},At L j t->t.isNil=false->j<L.length:=by
   intro t j hh hn;cases t with
   |nil=>simp[T.isNil]at hn
   |node=>exact hh.node.1
  have e1:=Pf (b:=vO L f) (n:=L.length) (next:=i+1) (k:=x.1) (t:=l) (λhn=>hl f (i+1) BYO hn h2 hg.left) (dD h2) hg.1.1;have e2:=Pf (b:=vO L f) (n:=L.length) (next:=i+1+l.size) (k:=x.1) (t:=r) (λhn=>hr f _ BYO hn h3 hg.right) (dD h3) hg.1.2.1;simp only[vO,h1,e1,e2];rw[if_neg (by have:=hg.2.1;omega)]
def aBO(t:T It):At (xG t 0) 0 t:=⟨by rw[jP];omega,λk _=>by rw[aAn]⟩
def Fe(L:List Nd):Option (T It):=if L=[] then some .nil else match vO L L.length 0 with
 |some t=>if t.size=L.length then some t else none
 |none=>none
def KX{L:List Nd}{t:T It}(h:Fe L=some t):L=xG t 0/\Good kI t:=by
 unfold Fe at h;split at h
 .rename_i h0;injection h with h;subst h;exact⟨h0,BD _⟩
 .rename_i h0;split at h
  .rename_i t' ht;split at h
   .rename_i hs;injection h with h;subst h;have nA:0<L.length:=aC8.2 h0;obtain⟨ha,hg⟩:=Bj _ _ nA _ ht;refine⟨List.ext_getElem? λk=>?_,hg⟩;rcases aCD k t'.size with hk|hk
    .have:=ha.2 k hk;rwa[aAn]at this
    .rw[aCU BYO,aCU (by rw[jP];exact hk)]
   .cases h
  .cases h
def nj{t:T It}(h:Good kI t):Fe (xG t 0)=some t:=by
 cases t with
 |nil=>rfl
 |node x l r=>
  unfold Fe;have hl:=jP (T.node x l r) 0;rw[if_neg (by intro e;rw[e]at hl;simp[T.size]at hl),aBN (T.node x l r) _ 0 (by rw[hl];exact aAB _) rfl (aBO _) h];simp only[hl,if_true]
end Rk.Ln
namespace Rk
open Go Go.RowKit
end Rk
namespace Rk
open Go Go.RowKit Go.Proofs
variable{P:Program}{E:Env}{w:World}{t xt yt:TypeId}{x:Operand}{p:Option Addr}{F F':Nat->Prop}
def aOa(ht:P.underlying xt=some (.pointer (P.pointee xt)))(hx:aM E x=some (.pointer p)):
  aA P (.binOp .eql xt x (.const (.pointer none)) yt) t E w (.bool p.isNone) w:=λρ hρ _ _ _ _=>by
 simp[execOp,hρ _ _ hx,hρ (.const (.pointer none)) (.pointer none) rfl,eqGuard,run_eql_pointer_nil w xt p ht]
def aPk(ht:P.underlying xt=some (.pointer (P.pointee xt)))(hx:aM E x=some (.pointer p)):
  aA P (.binOp .neq xt x (.const (.pointer none)) yt) t E w (.bool (!p.isNone)) w:=λρ hρ _ _ _ _=>by
 simp[execOp,hρ _ _ hx,hρ (.const (.pointer none)) (.pointer none) rfl,eqGuard,run_neq_pointer_nil w xt p ht]
abbrev TN:TypeId:=101
def KY:tz.underlying 97=some (.pointer (tz.pointee 97)):=BYK
def GV:Ty tz 97 false 1 8 (.pointer none):=aLt BYK (λ_=>BYK) rfl
def nm:tz.underlying 101=some (.struct (tz.fieldsOf 101)):=BYK
def n0:((tz.fieldsOf 101)[0]?).map (λf=>(f.offset,f.type))=some (0,38):=BYK
def n1:((tz.fieldsOf 101)[1]?).map (λf=>(f.offset,f.type))=some (2,97):=BYK
def n2:((tz.fieldsOf 101)[2]?).map (λf=>(f.offset,f.type))=some (3,97):=BYK
def n3:((tz.fieldsOf 101)[3]?).map (λf=>(f.offset,f.type))=some (4,3):=BYK
def Bl:tz.underlying 31=some (.slice 85):=BYK
def nn:tz.underlying 85=some (.struct (tz.fieldsOf 85)):=BYK
def Kj:Ty tz 85 true 4 32 (.agg #[.int .i64 0,.int .i64 0,.int .i64 0,.int .i64 0]):=aLt BYK (λ_=>BYK) rfl
def d0:((tz.fieldsOf 85)[0]?).map (λf=>(f.offset,f.type))=some (0,3):=BYK
def d1:((tz.fieldsOf 85)[1]?).map (λf=>(f.offset,f.type))=some (1,3):=BYK
def d2:((tz.fieldsOf 85)[2]?).map (λf=>(f.offset,f.type))=some (2,3):=BYK
def d3:((tz.fieldsOf 85)[3]?).map (λf=>(f.offset,f.type))=some (3,3):=BYK
abbrev Nd:=Ln.Nd
def yZ(x:Nd):List Value:=[.int .i64 x.1,.int .i64 x.2.1,.int .i64 x.2.2.1,.int .i64 x.2.2.2]
def nF(x:Nd):(yZ x).length=4:=rfl
def VB(x:Nd):∀u∈yZ x,u.oneCell'=true:=by simp[yZ,Value.oneCell']
abbrev ndV(x:Nd):Value:=.agg (yZ x).toArray
section
variable{y z u:Operand}{bk o n c j:Nat}{a b d e:Int}
def aPO(hx:aM E x=some (.pointer (some ⟨bk,o,none⟩)):=by with_unfolding_all exact rfl):aA tz (.fieldAddr 101 x 0) t E w (.pointer (some ⟨bk,o,none⟩)) w:=aA.fieldAddr (off:=0) nm n0 aL BYO hx
def aPp(hx:aM E x=some (.pointer (some ⟨bk,o,none⟩)):=by with_unfolding_all exact rfl):aA tz (.fieldAddr 101 x 1) t E w (.pointer (some ⟨bk,o+2,none⟩)) w:=aA.fieldAddr nm n1 GV BYO hx
def aPP(hx:aM E x=some (.pointer (some ⟨bk,o,none⟩)):=by with_unfolding_all exact rfl):aA tz (.fieldAddr 101 x 2) t E w (.pointer (some ⟨bk,o+3,none⟩)) w:=aA.fieldAddr nm n2 GV BYO hx
def aQb(hx:aM E x=some (.pointer (some ⟨bk,o,none⟩)):=by with_unfolding_all exact rfl):aA tz (.fieldAddr 101 x 3) t E w (.pointer (some ⟨bk,o+4,none⟩)) w:=aA.fieldAddr nm n3 aN BYO hx
def aPs(hx:aM E x=some (.pointer (some ⟨bk,o,none⟩)):=by with_unfolding_all exact rfl):aA tz (.fieldAddr 85 x 0) t E w (.pointer (some ⟨bk,o,none⟩)) w:=aA.fieldAddr (off:=0) nn d0 aN BYO hx
def aQc(hx:aM E x=some (.pointer (some ⟨bk,o,none⟩)):=by with_unfolding_all exact rfl):aA tz (.fieldAddr 85 x 1) t E w (.pointer (some ⟨bk,o+1,none⟩)) w:=aA.fieldAddr nn d1 aN BYO hx
def aPq(hx:aM E x=some (.pointer (some ⟨bk,o,none⟩)):=by with_unfolding_all exact rfl):aA tz (.fieldAddr 85 x 2) t E w (.pointer (some ⟨bk,o+2,none⟩)) w:=aA.fieldAddr nn d2 aN BYO hx
def aPr(hx:aM E x=some (.pointer (some ⟨bk,o,none⟩)):=by with_unfolding_all exact rfl):aA tz (.fieldAddr 85 x 3) t E w (.pointer (some ⟨bk,o+3,none⟩)) w:=aA.fieldAddr nn d3 aN BYO hx
def aRj(hx:aM E x=some (.pointer none):=by with_unfolding_all exact rfl):aA tz (.binOp .eql 97 x (.const (.pointer none)) yt) t E w (.bool true) w:=aOa KY hx
def aPI{A:Option Addr}(hx:aM E x=some (.slice A n c):=by with_unfolding_all exact rfl){rt:TypeId}:aA tz (.call {callee:=.builtin .len,args:= #[x],argTypes:= #[31]}) rt E w (.int .i64 n) w:=aL3 Bl hx
def aOc(hx:aM E x=some (.slice (some ⟨bk,o,none⟩) n c):=by with_unfolding_all exact rfl)(hi:aM E y=some (.int .i64 (j:Int)):=by with_unfolding_all exact rfl)(hn:j<n:=by omega):
  aA tz (.indexAddr 31 x y) t E w (.pointer (some ⟨bk,o+j*4,none⟩)) w:=aA.indexAddr Bl Kj.size hx hi BYO BYO
def aSD(hx:aM E x=some (.int .i64 a))(hy:aM E y=some (.int .i64 b))(hz:aM E z=some (.int .i64 d))(hu:aM E u=some (.int .i64 e)):
  aA tz (.build 85 #[(0,x),(1,y),(2,z),(3,u)]) t E w (ndV (a,b,d,e)) w:=
 aA.build (parts:=[(0,x),(1,y),(2,z),(3,u)]) (ps:=[(0,.int .i64 a),(1,.int .i64 b),(2,.int .i64 d),(3,.int .i64 e)]) (by simp[OA,hx,hy,hz,hu]) BYK
def aSN(hx:aM E x=some (.agg (cB (a,b)).toArray):=by with_unfolding_all exact rfl):
  aA tz (.build 101 #[(0,x)]) t E w (.agg #[.int .i64 a,.int .i64 b,.pointer none,.pointer none,.int .i64 0]) w:=
 aA.build (parts:=[(0,x)]) (ps:=[(0,.agg (cB (a,b)).toArray)]) (by simp[OA,hx]) BYK
section
variable{ops:Array Oper}{K:Env->World->Prop}{N d_:Nat}{rest:List Oper}{pos:String}{after:Array Edge}{C:World->Prop}{R:Env->Prop}
end
end
section
variable{ops:Array Oper}{K:Env->World->Prop}{R:Env->Prop}{N:Nat}{rest:List Oper}{pos:String}{after:Array Edge}{d:Nat}{g j:Nat}{te:TypeId}{cs:List Value}{u:Value}
end
attribute [local irreducible] aA jH OpC WL QL WC WX OL RL TL TM
abbrev PN:=Nat×Ln.It
def kP:PN->Int:=λx=>x.2.1
def ptr:Ln.T PN->Value
 | .nil=>.pointer none
 | .node x _ _=>.pointer (some ⟨x.1,0,none⟩)
def eO(x:PN)(l r:Ln.T PN)(s:Int):List Value:=[.int .i64 x.2.1,.int .i64 x.2.2,ptr l,ptr r,.int .i64 s]
def In(w:World):Ln.T PN->Prop
 | .nil=>True
 | .node x l r=>Bk w x.1 TN (eO x l r ((r.span+1:Nat):Int))/\In w l/\In w r
def eP(t:Ln.T PN):List Nat:=t.items.map (·.1)
def FnS(t:Ln.T PN):Nat->Prop:=λg=>g∈eP t
def eG(x:PN)(l r:Ln.T PN):eP (.node x l r)=x.1::(eP l++eP r):=by simp[eP,Ln.T.items]
def np(t:Ln.T PN):(ptr t).oneCell'=true:=by cases t<;>rfl
def DN(t:Ln.T PN):(ptr t).cells= #[ptr t]:=by cases t<;>rfl
section
variable{w':World}
def In.keep:∀{t:Ln.T PN},In w t->(∀g,g∈eP t->w'.heap[g]?=w.heap[g]?)->In w' t:=by
 intro t;induction t with
 |nil=>intro _ _;trivial
 |node x l r hl hr=>
  intro h hk;rw[eG]at hk;exact⟨(hk x.1 BYS).trans h.1,hl h.2.1 λg hg=>hk g (by simp[hg]),hr h.2.2 λg hg=>hk g (by simp[hg])⟩
def In.lt:∀{t:Ln.T PN},In w t->∀g,g∈eP t->g<w.heap.size:=by
 intro t;induction t with
 |nil=>intro _ g hg;cases hg
 |node x l r hl hr=>
  intro h g hg;rw[eG]at hg;rcases aBI.1 hg with rfl|hg
  .exact h.1.lt
  .rcases aBR.1 hg with hg|hg
   .exact hl h.2.1 g hg
   .exact hr h.2.2 g hg
def In.below{t:Ln.T PN}(h:In w t)(hb:Below w.heap.size w w'):In w' t:=h.keep λg hg=>hb.block g (h.lt g hg)
def In.dG{t:Ln.T PN}(h:In w t)(hc:bF w w' F F')(ha:∀g,g∈eP t->¬F g):In w' t:=h.keep λg hg=>hc.block g (h.lt g hg) (ha g hg)
def In.one{t:Ln.T PN}{g:Nat}(h:In w t)(hg:w.grownBy w' (some g))(hn:g∉eP t):In w' t:=h.keep λk hk=>hg.block k (h.lt k hk) (λe=>hn (by injection e with e;subst e;exact hk))
end
def bF.wid{w':World}{S S':Nat->Prop}(hc:bF w w' F F')(h1:∀g,F g->S g)(h2:∀g,S' g->F' g\/S g)(hl:∀g,S g->g<w.heap.size):bF w w' S S':=
 ⟨hc.os,hc.tape,hc.output,hc.size,λk hk hn=>hc.block k hk (λhf=>hn (h1 k hf)),λg hg=>by
  rcases h2 g hg with h|h
  .exact⟨(hc.next g h).1.imp (h1 g) id,(hc.next g h).2⟩
  .exact⟨.inl h,aAx (hl g h) hc.size⟩⟩
def rT(t:Ln.T PN)(w:World)(h:In w t):Calls tz 74 #[ptr t] w (eT λv w'=>v=.int .i64 (t.span:Nat)/\w'=w):=by
 refine aI JR rfl Tryz.ntmps74 rfl ?_;cases t with
 |nil=>
  refine Yo ?_;refine aLO rfl ?_;refine aB ?_;exact aLV rfl rfl ⟨rfl,rfl⟩
 |node x l r=>
  obtain⟨hb,_,_⟩:=h;refine aZ λK hK=>?_;refine WL.step (aOa KY (p:=some ⟨x.1,0,none⟩) rfl) rfl ?_;refine aB ?_;refine aJh rfl ?_;refine aTy λK hK=>?_;refine aLP (aLN aN (u:=.int .i64 ((r.span+1:Nat):Int))) ?_;refine aB ?_;exact aLV rfl rfl ⟨rfl,rfl⟩
end Rk
namespace Rk
open Go Go.RowKit
section
variable{P:Program}{ops:Array Oper}{K:Env->World->Prop}{N:Nat}{E:Env}{rest:List Oper}{w w':World}{t:TypeId}{pos:String}{after:Array Edge}
 {x y:Operand}{v z:Value}{e e1:TypeId}{k bytes:Nat}{α:Type}{enc:α->List Value}{f:Nat->α}{B g n cap:Nat}
def aQv(hk:∀x,(enc x).length=k)(ty:Ty P e1 false 1 bytes z){p i j:Nat}(hx:aM E x=some (.pointer (some ⟨g,p,none⟩)))(hp:p=i*k+j)
  (hy:aM E y=some v)(hv:v.cells= #[v])(WQ:v.oneCell'=true)(ho:cO enc k e w B g n cap f)(hi:i<n)(hj:j<k){a:α}(ha:∀q,(enc a)[q]?=if q=j then some v else(enc (f i))[q]?)
  (h:∀w',w.grownBy w' (some g)->cO enc k e w' B g n cap (λq=>if q=i then a else f q)->w'.heap.size=w.heap.size->WL P ops K N E rest w'):
  WL P ops K N E (⟨none,.store e1 x y,t,pos,after,none⟩::rest) w:=by
 subst hp;obtain⟨cur,hb,hl,hc⟩:=ho.blk;have aCs:i*k+k<=cap*k:=by
  have:=aC1 k (show i+1<=cap from by have:=ho.le;omega);rw[aCL,aDH]at this;exact this
 refine WL.store ty hx hy (by rw[hv];rfl) (by rw[hv];intro u hu;simp at hu;subst hu;exact WQ) hb BYO λw' hg rD hz=>h w' hg ?_ hz;rw[hv]at rD;refine⟨ho.base,ho.le,ho.max,_,rD,by rw[sS,hl],λi' uK j' u hu=>?_⟩;rw[DJ _ _ _ _ (by show i*k+j+1<=_;omega)];have hj':j'<k:=by
  rcases aCD j' k with hj|hj
  .exact hj
  .rw[aCU (by rw[hk];exact hj)]at hu;cases hu
 by_cases e:i'=i
 .subst e;rw[if_pos rfl,ha]at hu;by_cases e2:j'=j
  .subst e2;rw[if_pos rfl]at hu;rw[if_pos (by show _/\_<i'*k+j'+1;omega),Nat.sub_self];exact hu
  .rw[if_neg e2]at hu;rw[if_neg (by show¬(_/\_<i'*k+j+1);omega),hc i' uK j' u hu]
 .rw[if_neg e]at hu;rw[if_neg,hc i' uK j' u hu];show¬(_/\_<i*k+j+1);rcases Nat.lt_or_gt_of_ne e with dD|MX
  .have:=aC1 k (show i'+1<=i from dD);rw[aCL,aDH]at this;omega
  .have:=aC1 k (show i+1<=i' from MX);rw[aCL,aDH]at this;omega
end
end Rk
namespace Rk
open Go Go.RowKit Go.Proofs
variable{α:Type}{w:World}
attribute [local irreducible] aA jH OpC WL QL WC WX OL RL TL TM
def Pg [Inhabited α](l:List α)(i:Nat)(a:α):aG (λq=>if q=i then a else lf l q) l.length=l.set i a:=by
 refine aHa (by rw[aF,List.length_set]) λq h1 h2=>?_;rw[aF]at h1;rw[lF,List.getElem_set];by_cases h:q=i
 .subst h;simp
 .rw[if_neg h,if_neg (λe=>h e.symm),bU h1]
def O7 [Inhabited α](L S:List α)(y:α):lf (L++y::S) L.length=y:=by simp[lf,List.getD]
def Ph(L S:List α)(y a:α):(L++y::S).set L.length a=L++a::S:=BYS
def O8(x:Nd)(v:Int):∀q,(yZ (x.1,x.2.1,v,x.2.2.2))[q]?=if q=2 then some (.int .i64 v) else(yZ x)[q]?:=λq=>by
 rcases q with _|_|_|_|q<;>simp[yZ]
def O9(x:Nd)(v:Int):∀q,(yZ (x.1,x.2.1,x.2.2.1,v))[q]?=if q=3 then some (.int .i64 v) else(yZ x)[q]?:=λq=>by
 rcases q with _|_|_|_|q<;>simp[yZ]
abbrev Bp(w:World)(B:Nat)(v:Value)(L:List Nd):Prop:=bT yZ 4 85 w B v L
structure yd(w w':World)(B:Nat)(v v':Value)(L:List Nd):Prop where
 own:Bp w' B v' L
 dG:bF w w' (pK v) (pK v')
def yd.ne{w':World}{B:Nat}{v v':Value}{L:List Nd}{t:Ln.T PN}(h:yd w w' B v v' L)(ht:In w t)(hv:∀g,v.ownBlock=some g->g∉eP t):∀g,v'.ownBlock=some g->g∉eP t/\g<w'.heap.size:=λg hg=>by
 obtain⟨h1,h2⟩:=h.dG.next g hg;refine⟨λhm=>?_,h2⟩;rcases h1 with h1|h1
 .exact hv g h1 hm
 .have:=ht.lt g hm;omega
def QX(t:Ln.T PN):∀(v:Value) (L:List Nd) (w:World) (B:Nat),In w t->Bp w B v L->(∀g,v.ownBlock=some g->g∉eP t/\g<w.heap.size)->B<=w.heap.size->L.length+t.size<=1000->
  Calls tz 40 #[ptr t,v] w (eT λv' w'=>yd w w' B v v' (L++Ln.xG (t.map (·.2)) L.length)):=by
 induction t with
 |nil=>
  intro v L w B _ ho hv hB hlen;refine aI QJ rfl Tryz.ntmps40 rfl ?_;refine Yo ?_;refine aLO rfl ?_;refine aB ?_;exact aLV rfl rfl ⟨by simpa[Ln.T.map,Ln.xG] using ho,bF.refl λg hg=>(hv g hg).2⟩
 |node x l r ihl ihr=>
  intro v L w B hI ho hv hB hlen;simp only[Ln.T.size]at hlen;have hIl:∀g,g∈eP l->g∈eP (.node x l r):=λg hg=>by rw[eG];simp[hg]
  have hIr:∀g,g∈eP r->g∈eP (.node x l r):=λg hg=>by rw[eG];simp[hg]
  have Ea:x.1∈eP (.node x l r):=by rw[eG];simp
  have WQ:=λg hg=>(hv g hg).1;have wQ:=hI.1;refine aI QJ rfl Tryz.ntmps40 rfl ?_;obtain⟨A0,c0,hve,hlc⟩:=ho.form;subst hve;refine aZ λK hK=>?_;refine WL.step (aOa KY (p:=some ⟨x.1,0,none⟩) rfl) rfl ?_;refine aB ?_;refine aJh rfl ?_;refine p9 ?_;refine WC.tm (λw'=>Bk w' x.1 TN (eO x l r ((r.span+1:Nat):Int))) [] (.pure 0 (.pure 1 (.pure 2 (.pure 3 (.pure 4 (.pure 6 (.pure 7 (.pure 8 (.pure 9 (.read 5 (.read 10 (.pure 11 (.act 12 (.act 13 (.pure 14 .fin))))))))))))))) mixed BYK rfl BYK (λw' hb _=>wQ.below hb) λK hK w1 cA fo=>?_;have uc:=wQ.below cA;refine r6 ?_;refine RL.step (λw' dY=>aJC aN rfl (dY.cell (u:=.int .i64 x.2.1) rfl)) rfl ?_;refine r6 ?_;refine RL.step (λw' dY=>aJC aN rfl (dY.cell (u:=.int .i64 x.2.2) rfl)) rfl ?_;refine uU ?_;refine RL.step (λw' dY=>aSD (a:=x.2.1) (b:=x.2.2) (d:= -1) (e:= -1) rfl rfl rfl rfl) rfl ?_;refine TM.act rfl (WL.lit (xs:=[.tmp 22]) (vs:=[ndV (x.2.1,x.2.2,-1,-1)]) Bl Kj rfl rfl (by simp[yZ,Value.cells]) rfl rfl BYO λw2 eB iW qO=>WL.nil ?_);have bM:=aC eB;refine⟨uc.below bM,?_⟩;have pT:aE yZ 4 w2 (some ⟨w1.heap.size,0,none⟩) 1 (λ_=>((x.2.1,x.2.2,-1,-1):Nd)):=iW.bK (enc:=yZ) (k:=4) (f:=λ_=>((x.2.1,x.2.2,-1,-1):Nd)) 0 λi hi j u hu=>by
   obtain rfl:i=0:=BYO;simpa[yZ,Value.cells] using hu
  have tM:=cA.tr bM;refine TM.act rfl (WL.append nF VB BYO Bl Kj rfl rfl rfl (ho.below tM) pT BYO (by simp[maxLen];omega) (by have:=tM.size;omega) λv3 w3 row yA iE Y0 XA hv3=>WL.nil ?_);have GC:yd w w3 B (.slice A0 L.length c0) v3 (L++[(x.2.1,x.2.2,-1,-1)]):=by
   refine⟨by simpa[aG] using yA,?_⟩;have WG:bF w w2 (pK (.slice A0 L.length c0)) (pK (.slice A0 L.length c0)):=aLX tM λg hg=>(hv g hg).2;refine WG.trans (bF.grown iE Y0 λg hg=>?_);have dD:=(bT.rO yA (by simp[aG,aGV])) g hg;rcases hv3 with e|e
   .exact⟨.inl (e▸hg),dD.1⟩
   .rw[e]at hg;injection hg with hg;exact⟨.inr BYO,dD.1⟩
  have ao:Bk w3 x.1 TN (eO x l r ((r.span+1:Nat):Int)):=wQ.dG GC.dG (λhf=>WQ _ hf Ea);refine⟨ao,?_⟩;refine uU ?_;refine TM.fin (hK _ _ ?_);clear hK K;have Ec:(L++[((x.2.1,x.2.2,-1,-1):Nd)]).length=L.length+1:=BYS;obtain⟨g3,aC2,rfl,hO3⟩:=GC.own.toS nF BYS;rw[Ec]at GC hO3⊢;refine CO ?_;refine aOF (λ(v':Value)=>[(0,ptr (.node x l r)),(1,v'),(5,.int .i64 (L.length:Nat))]) (λv' w'=>yd w w' B (.slice A0 L.length c0) v' (L++((x.2.1,x.2.2,(if l.isNil then-1 else((L.length+1:Nat):Int)),-1):Nd)::Ln.xG (l.map (·.2)) (L.length+1))) ?_ ?_
  .refine aTl λK hK=>?_;refine aLP (aLN GV (u:=ptr l)) ?_;refine aB ?_;cases l with
   |nil=>
    refine WL.step (aPk KY (p:=none) rfl) rfl ?_;refine aB ?_;refine aJh rfl ?_;refine aB ?_;exact aMV _ ⟨by simpa[Ln.T.isNil,Ln.T.map,Ln.xG] using GC.own,GC.dG⟩ aJA
   |node y l1 l2=>
    refine WL.step (aPk KY (p:=some ⟨y.1,0,none⟩) rfl) rfl ?_;refine aB ?_;refine aLO rfl ?_;refine aTz λK hK=>?_;refine aQv nF aN (i:=L.length) (j:=2) rfl BYO rfl rfl rfl hO3 BYO BYO (a:=_) (O8 _ _) λw4 kO hO4 RY=>?_;have sB:=hO4.toL nF;rw[<-Ec,Pg,O7,Ph,Ec]at sB;refine aTl λK hK=>?_;have tZ:=GC.dG.trans (bF.grown (v:=.slice (some ⟨g3,0,none⟩) (L.length+1) aC2) (v':=.slice (some ⟨g3,0,none⟩) (L.length+1) aC2) kO (.inr rfl) λg hg=>⟨.inl hg,by have:=(GC.dG.next g hg).2;omega⟩);have xO:yd w w4 B (.slice A0 L.length c0) (.slice (some ⟨g3,0,none⟩) (L.length+1) aC2) _:=⟨sB,tZ⟩;have OJ:Bk w4 x.1 TN (eO x (.node y l1 l2) r ((r.span+1:Nat):Int)):=wQ.dG tZ (λhf=>WQ _ hf Ea);have hI4:In w4 (.node y l1 l2):=hI.2.1.dG tZ (λg hg hf=>WQ g hf (hIl g hg));have aHQ:=xO.ne hI WQ;refine aLP (aLN GV (u:=ptr (.node y l1 l2))) ?_;refine aB ?_;refine aKQ QJ (ihl _ _ w4 B hI4 sB (λg hg=>⟨λh=>(aHQ g hg).1 (hIl g h),(aHQ g hg).2⟩) (by have:=tZ.size;omega) (by simp only[aBh,aBJ,aBv];omega)) ?_;intro v5 w5 FX;refine aB ?_;refine aMV v5 ⟨?_,tZ.trans FX.dG⟩ aJA;have:=FX.own;simpa[Ln.T.isNil] using this
  .intro v4 w4 xO;have CG:(L++((x.2.1,x.2.2,(if l.isNil then-1 else((L.length+1:Nat):Int)),-1):Nd)::Ln.xG (l.map (·.2)) (L.length+1)).length=L.length+1+l.size:=by
    rw[aBh,aBJ,Ln.jP,Ln.aMr];omega
   obtain⟨g4,aC3,rfl,hO4⟩:=xO.own.toS nF BYS;rw[CG]at xO hO4⊢;have OJ:Bk w4 x.1 TN (eO x l r ((r.span+1:Nat):Int)):=wQ.dG xO.dG (λhf=>WQ _ hf Ea);refine CO ?_;refine aOF (λ(v':Value)=>[(1,v')]) (λv' w'=>yd w w' B (.slice A0 L.length c0) v' (L++Ln.xG ((Ln.T.node x l r).map (·.2)) L.length)) ?_ ?_
   .refine aT4 λK hK=>?_;refine aLP (aLN GV (u:=ptr r)) ?_;refine aB ?_;cases r with
    |nil=>
     refine WL.step (aPk KY (p:=none) rfl) rfl ?_;refine aB ?_;refine aJh rfl ?_;refine aB ?_;have e:Ln.xG ((Ln.T.node x l .nil).map (·.2)) L.length=((x.2.1,x.2.2,(if l.isNil then-1 else((L.length+1:Nat):Int)),-1):Nd)::(Ln.xG (l.map (·.2)) (L.length+1)++[]):=by
      rw[show(Ln.T.node x l .nil).map (·.2)=Ln.T.node x.2 (l.map (·.2)) .nil from rfl,Ln.xG,Ln.T.map_nil];rfl
     exact aMV _ ⟨by rw[e,aDD];exact xO.own,xO.dG⟩ aJA
    |node y l1 l2=>
     refine WL.step (aPk KY (p:=some ⟨y.1,0,none⟩) rfl) rfl ?_;refine aB ?_;refine aLO rfl ?_;refine aUA λK hK=>?_;refine aQv nF aN (i:=L.length) (j:=3) rfl BYO rfl rfl rfl hO4 BYO BYO (a:=_) (O9 _ _) λw5 fU hO5 zT=>?_;have rC:=hO5.toL nF;rw[<-CG,Pg,O7,Ph,CG]at rC;refine aT4 λK hK=>?_;have xB:=xO.dG.trans (bF.grown (v:=.slice (some ⟨g4,0,none⟩) (L.length+1+l.size) aC3) (v':=.slice (some ⟨g4,0,none⟩) (L.length+1+l.size) aC3) fU (.inr rfl) λg hg=>⟨.inl hg,by have:=(xO.dG.next g hg).2;omega⟩);have FX:yd w w5 B (.slice A0 L.length c0) (.slice (some ⟨g4,0,none⟩) (L.length+1+l.size) aC3) _:=⟨rC,xB⟩;have aCe:Bk w5 x.1 TN (eO x l (.node y l1 l2) (((Ln.T.node y l1 l2).span+1:Nat):Int)):=wQ.dG xB (λhf=>WQ _ hf Ea);have hI5:In w5 (.node y l1 l2):=hI.2.2.dG xB (λg hg hf=>WQ g hf (hIr g hg));have aG1:=FX.ne hI WQ;refine aLP (aLN GV (u:=ptr (.node y l1 l2))) ?_;refine aB ?_;refine aKQ QJ (ihr _ _ w5 B hI5 rC (λg hg=>⟨λh=>(aG1 g hg).1 (hIr g h),(aG1 g hg).2⟩) (by have:=xB.size;omega) (by rw[aBh,aBJ,Ln.jP,Ln.aMr];omega)) ?_;intro v6 w6 zo;refine aB ?_;refine aMV v6 ⟨?_,xB.trans zo.dG⟩ aJA;have h6:=zo.own;have Xi:(L++((x.2.1,x.2.2,(if l.isNil then-1 else((L.length+1:Nat):Int)),((L.length+1+l.size:Nat):Int)):Nd)::Ln.xG (l.map (·.2)) (L.length+1)).length=L.length+1+l.size:=by
      rw[aBh,aBJ,Ln.jP,Ln.aMr];omega
     rw[Xi]at h6;have e:Ln.xG ((Ln.T.node x l (Ln.T.node y l1 l2)).map (·.2)) L.length=((x.2.1,x.2.2,(if l.isNil then-1 else((L.length+1:Nat):Int)),((L.length+1+l.size:Nat):Int)):Nd)::(Ln.xG (l.map (·.2)) (L.length+1)++Ln.xG ((Ln.T.node y l1 l2).map (·.2)) (L.length+1+l.size)):=by
      rw[show(Ln.T.node x l (Ln.T.node y l1 l2)).map (·.2)=Ln.T.node x.2 (l.map (·.2)) ((Ln.T.node y l1 l2).map (·.2)) from rfl,Ln.xG,Ln.T.map_nil,Ln.T.map_nil,Ln.aMr];rfl
     rw[e];rw[aCb,aCq]at h6;exact h6
   .intro v5 w5 FX;refine aB ?_;exact aLV rfl rfl FX
end Rk
namespace Rk
open Go Go.RowKit Go.Proofs
section
variable{ops:Array Oper}{K:Env->World->Prop}{N:Nat}{E:Env}{rest:List Oper}{w:World}{x y:Operand}{pos:String}{after:Array Edge}{t:TypeId}
def aO5{T:Ln.T PN}{g o:Nat}{te:TypeId}{cs:List Value}(hx:aM E x=some (.pointer (some ⟨g,o,none⟩)))(hy:aM E y=some (ptr T))(hb:Bk w g te cs)(hl:o+1<=cs.length)
  (h:∀w',w.grownBy w' (some g)->Bk w' g te (putAt cs o [ptr T])->w'.heap.size=w.heap.size->WL tz ops K N E rest w'):WL tz ops K N E (⟨none,.store 97 x y,t,pos,after,none⟩::rest) w:=
 WL.store GV hx hy (by rw[DN];rfl) (by rw[DN];intro u hu;simp at hu;subst hu;exact np _) hb hl λw' a b c=>h w' a (by rw[DN]at b;exact b) c
end
attribute [local irreducible] aA jH OpC WL QL WC WX OL RL TL TM
abbrev zA(a b:Ln.T PN):Nat->Prop:=λg=>FnS a g\/FnS b g
def nq(x:PN)(l r:Ln.T PN):(eP (Ln.mk x l r)).Perm (x.1::(eP l++eP r)):=by
 have:=(Ln.KV x l r).map (·.1);simpa[eP] using this
def wR(a b:Ln.T PN):(eP (Ln.gZ kP a b)).Perm (eP a++eP b):=by
 have:=(Ln.mX kP a b).map (·.1);simpa[eP] using this
structure MSt(w w':World)(a b:Ln.T PN)(x:PN)(l M:Ln.T PN):Prop where
 blk:∃s,Bk w' x.1 TN (eO x l M s)
 left:In w' l
 right:In w' M
 nodup:(x.1::(eP l++eP M)).Nodup
 is:Ln.mk x l M=Ln.gZ kP a b
 dG:bF w w' (zA a b) (zA a b)
def Bq(n:Nat):∀(a b:Ln.T PN) (w:World),a.size+b.size<=n->In w a->In w b->(eP a++eP b).Nodup->a.size+b.size<=1000->
  Calls tz 41 #[ptr a,ptr b] w (eT λv w'=>v=ptr (Ln.gZ kP a b)/\In w' (Ln.gZ kP a b)/\bF w w' (zA a b) (zA a b)):=by
 induction n with
 |zero=>
  intro a b w hn ha hb hd SB;have h0:a=.nil:=by cases a with
   |nil=>rfl
   |node=>simp only[Ln.T.size]at hn;omega
  subst h0;refine aI QK rfl Tryz.ntmps41 rfl ?_;refine Yo ?_;refine aLO rfl ?_;refine aB ?_;have dD:∀g,zA .nil b g->g<w.heap.size:=λg hg=>by
   rcases hg with hg|hg
   .cases hg
   .exact hb.lt g hg
  refine aLV rfl rfl ?_;rw[Ln.hY];exact⟨rfl,hb,bF.refl dD⟩
 |succ n ih=>
  intro a b w hn ha hb hd SB;have dD:∀g,zA a b g->g<w.heap.size:=λg hg=>by
   rcases hg with hg|hg
   .exact ha.lt g hg
   .exact hb.lt g hg
  refine aI QK rfl Tryz.ntmps41 rfl ?_;cases a with
  |nil=>
   refine Yo ?_;refine aLO rfl ?_;refine aB ?_;refine aLV rfl rfl ?_;rw[Ln.hY];exact⟨rfl,hb,bF.refl dD⟩
  |node x l r=>
   cases b with
   |nil=>
    refine aZ λK hK=>?_;refine WL.step (aOa KY (p:=some ⟨x.1,0,none⟩) rfl) rfl ?_;refine aB ?_;refine aJh rfl ?_;refine Yo ?_;refine aLO rfl ?_;refine aB ?_;refine aLV rfl rfl ?_;rw[Ln.iN];exact⟨rfl,ha,bF.refl dD⟩
   |node y l' r'=>
    obtain⟨wQ,hl,hr⟩:=ha;obtain⟨hby,WI,sD⟩:=hb;simp only[Ln.T.size]at hn SB;rw[eG,eG]at hd;refine IJ ?_;refine aSY (λ(z:PN) (c M:Ln.T PN)=>[(0,.pointer (some ⟨z.1,0,none⟩))]) (λz c M w'=>MSt w w' (.node x l r) (.node y l' r') z c M) ?_ ?_
    .refine aZ λK hK=>?_;refine WL.step (aOa KY (p:=some ⟨x.1,0,none⟩) rfl) rfl ?_;refine aB ?_;refine aJh rfl ?_;refine aZ λK hK=>?_;refine WL.step (aOa KY (p:=some ⟨y.1,0,none⟩) rfl) rfl ?_;refine aB ?_;refine aJh rfl ?_;refine aB ?_;refine aLh mixed BYK ?_;refine Ys ?_;refine aMC (aLN aN (g:=y.1) (j:=0) (u:=.int .i64 y.2.1)) ?_;refine Ys ?_;refine aMC (aLN aN (g:=x.1) (j:=0) (u:=.int .i64 x.2.1)) ?_;refine oD ?_;refine QL.done λw1 cA=>?_;have uc:=wQ.below cA;have aIT:=hby.below cA;refine aB ?_;refine aJ6 rfl (λhk=>?_) (λhk=>?_)
     .refine aT4 λK hK=>?_;refine aLP (aLN GV (u:=ptr r')) ?_;refine aB ?_;have hp:(y.1::(eP l'++(eP (.node x l r)++eP r'))).Nodup:=by
       refine(aF2 ?_).1 hd;rw[aHD];intro q;simp only[eG,aIh,List.count_cons];omega
      obtain⟨nB,HS⟩:=aD9.1 hp;rw[aH0]at HS;have XK:∀g,zA (.node x l r) r' g->g≠y.1:=λg hg e=>nB (by subst e;exact aBR.2 (.inr (aBR.2 hg)));have zd:∀g,g∈eP l'->¬zA (.node x l r) r' g:=λg h1 h2=>HS.2.2 g h1 g (aBR.2 h2) rfl;refine aKQ QK (ih (.node x l r) r' w1 (by simp only[Ln.T.size];omega) ⟨uc,hl.below cA,hr.below cA⟩ (sD.below cA) HS.2.1 (by simp only[Ln.T.size];omega)) ?_;rintro v w2 ⟨rfl,hM,hC⟩;have hpM:=wR (.node x l r) r';have NG:=aIT.dG hC (λh=>XK _ h rfl);have Xr:=(WI.below cA).dG hC zd;refine Gn ?_;refine aO5 (T:=Ln.gZ kP (.node x l r) r') rfl rfl NG (by simp[eO]) λw3 iE mM EL=>?_;refine aB ?_;have hSx:∀g,zA (.node x l r) r' g->zA (.node x l r) (.node y l' r') g:=λg hg=>by
       simp only[zA,FnS,eG,aBI,aBR]at hg⊢;rcases hg with hg|hg
       .exact .inl hg
       .exact .inr (.inr (.inr hg))
      have hSz:zA (.node x l r) (.node y l' r') y.1:=by simp[zA,FnS,eG]
      have FY:bF w w1 (zA (.node x l r) (.node y l' r')) (zA (.node x l r) (.node y l' r')):=aLX cA dD;have WT:=λg hg=>aAx (dD g hg) cA.size;have uN:=FY.trans (hC.wid hSx (λg hg=>.inr hg) WT);have EM:=uN.trans (aLi iE hSz λg hg=>(uN.next g hg).2);refine aQr y l' (Ln.gZ kP (.node x l r) r') ⟨⟨_,mM⟩,Xr.one iE (λh=>nB (aBR.2 (.inl h))),hM.one iE (λh=>XK _ (aBR.1 (hpM.mem_iff.1 h)) rfl),?_,?_,EM⟩ aJA
      .exact(aF2 (List.Perm.cons _ (aDC _ hpM))).2 hp
      .rw[Ln.iO];exact(if_pos hk).symm
     .refine aT4 λK hK=>?_;refine aLP (aLN GV (u:=ptr r)) ?_;refine aB ?_;have hp:(x.1::(eP l++(eP r++eP (.node y l' r')))).Nodup:=by
       refine(aF2 ?_).1 hd;rw[aHD];intro q;simp only[eG,aIh,List.count_cons];omega
      obtain⟨nB,HS⟩:=aD9.1 hp;rw[aH0]at HS;have XK:∀g,zA r (.node y l' r') g->g≠x.1:=λg hg e=>nB (by subst e;exact aBR.2 (.inr (aBR.2 hg)));have zd:∀g,g∈eP l->¬zA r (.node y l' r') g:=λg h1 h2=>HS.2.2 g h1 g (aBR.2 h2) rfl;refine aKQ QK (ih r (.node y l' r') w1 (by simp only[Ln.T.size];omega) (hr.below cA) ⟨aIT,WI.below cA,sD.below cA⟩ HS.2.1 (by simp only[Ln.T.size];omega)) ?_;rintro v w2 ⟨rfl,hM,hC⟩;have hpM:=wR r (.node y l' r');have NG:=uc.dG hC (λh=>XK _ h rfl);have Xr:=(hl.below cA).dG hC zd;refine Gn ?_;refine aO5 (T:=Ln.gZ kP r (.node y l' r')) rfl rfl NG (by simp[eO]) λw3 iE mM EL=>?_;refine aB ?_;have hSx:∀g,zA r (.node y l' r') g->zA (.node x l r) (.node y l' r') g:=λg hg=>by
       simp only[zA,FnS,eG,aBI,aBR]at hg⊢;rcases hg with hg|hg
       .exact .inl (.inr (.inr hg))
       .exact .inr hg
      have hSz:zA (.node x l r) (.node y l' r') x.1:=by simp[zA,FnS,eG]
      have FY:bF w w1 (zA (.node x l r) (.node y l' r')) (zA (.node x l r) (.node y l' r')):=aLX cA dD;have WT:=λg hg=>aAx (dD g hg) cA.size;have uN:=FY.trans (hC.wid hSx (λg hg=>.inr hg) WT);have EM:=uN.trans (aLi iE hSz λg hg=>(uN.next g hg).2);refine aQr x l (Ln.gZ kP r (.node y l' r')) ⟨⟨_,mM⟩,Xr.one iE (λh=>nB (aBR.2 (.inl h))),hM.one iE (λh=>XK _ (aBR.1 (hpM.mem_iff.1 h)) rfl),?_,?_,EM⟩ aJA
      .exact(aF2 (List.Perm.cons _ (aDC _ hpM))).2 hp
      .rw[Ln.iO];exact(if_neg hk).symm
    .intro z c M w1 hS;obtain⟨⟨s,hbz⟩,hc,hM,XL,XF,hC⟩:=hS;refine CO ?_;refine aPx (λ(c' M':Ln.T PN)=>[(0,.pointer (some ⟨z.1,0,none⟩))]) (λc' M' w'=>Bk w' z.1 TN (eO z c' M' s)/\In w' c'/\In w' M'/\(z.1::(eP c'++eP M')).Nodup/\Ln.T.node z c' M'=Ln.mk z c M/\bF w w' (zA (.node x l r) (.node y l' r')) (zA (.node x l r) (.node y l' r'))) ?_ ?_
     .refine aB ?_;refine WC.tm (λw'=>Bk w' z.1 TN (eO z c M s)) [] (.pure 0 (.pure 1 (.pure 2 (.pure 5 (.pure 6 (.pure 7 (.read 3 (.read 8 (.act 4 (.act 9 (.pure 10 .fin))))))))))) mixed BYK rfl BYK (λw' hb _=>hbz.below hb) λK hK w2 bM hh2=>?_;have NG:=hbz.below bM;refine Yt ?_;refine RL.step (λw' dY=>aJC GV rfl (dY.cell (u:=ptr c) rfl)) rfl ?_;refine Yt ?_;refine RL.step (λw' dY=>aJC GV rfl (dY.cell (u:=ptr M) rfl)) rfl ?_;refine TM.act rfl (aKQ JR (rT c _ (hc.below bM)) ?_);rintro v w3 ⟨rfl,rfl⟩;refine WL.nil ⟨NG,?_⟩;refine TM.act rfl (aKQ JR (rT M _ (hM.below bM)) ?_);rintro v w3 ⟨rfl,rfl⟩;refine WL.nil ⟨NG,?_⟩;refine uU ?_;refine TM.fin (hK _ _ ?_);clear hK K;have uN:bF w w3 (zA (.node x l r) (.node y l' r')) (zA (.node x l r) (.node y l' r')):=hC.more bM;refine aB ?_;refine aJ6 rfl (λh=>?_) (λh=>?_)
      .refine aB ?_;refine WC.tm (λw'=>Bk w' z.1 TN (eO z c M s)) [12,15] (.pure 0 (.pure 1 (.pure 2 (.pure 3 (.pure 4 (.pure 6 (.pure 7 (.pure 8 (.read 5 (.read 9 (.pure 10 (.pure 11 (.last 12 (.pure 13 (.pure 14 (.last 15 .fin)))))))))))))))) mixed BYK rfl BYK (λw' hb _=>NG.below hb) λK hK w4 jR hh4=>?_;have aKr:=NG.below jR;refine Yt ?_;refine RL.step (λw' dY=>aJC GV rfl (dY.cell (u:=ptr M) rfl)) rfl ?_;refine Yt ?_;refine RL.step (λw' dY=>aJC GV rfl (dY.cell (u:=ptr c) rfl)) rfl ?_;refine Yt ?_;refine TM.last rfl (aO5 (T:=M) rfl rfl aKr (by simp[eO]) λw5 fU pZ zT=>WL.nil ?_);refine Yt ?_;refine TM.last rfl (aO5 (T:=c) rfl rfl pZ (by simp[eO,putAt]) λw6 gL pU FW=>WL.nil ?_);refine TM.fin (hK _ _ ?_);clear hK K;refine aB ?_;have hn:=aD9.1 XL;have hz:zA (.node x l r) (.node y l' r') z.1:=by
        have h1:=nq z c M;rw[XF]at h1;exact aBR.1 ((wR _ _).mem_iff.1 (h1.mem_iff.2 (aBw)))
       have hcz:z.1∉eP c:=λh=>hn.1 (aBR.2 (.inl h));have hMz:z.1∉eP M:=λh=>hn.1 (aBR.2 (.inr h));have tZ:=uN.more jR;have xB:=tZ.trans (aLi fU hz λg hg=>(tZ.next g hg).2);have wZ:=xB.trans (aLi gL hz λg hg=>(xB.next g hg).2);refine aOn M c ⟨pU,((hM.below (bM.tr jR)).one fU hMz).one gL hMz,((hc.below (bM.tr jR)).one fU hcz).one gL hcz,?_,?_,wZ⟩ aJA
       .exact(aF2 (List.Perm.cons _ aDB)).1 XL
       .unfold Ln.mk;rw[if_pos BYO]
      .refine aB ?_;refine aOn c M ⟨NG,hc.below bM,hM.below bM,XL,?_,uN⟩ aJA;unfold Ln.mk;rw[if_neg BYO]
     .intro c' M' w2 hS;obtain⟨NG,Xr,Xs,aKu,aMk,uN⟩:=hS;have fM:Ln.T.node z c' M'=Ln.gZ kP (.node x l r) (.node y l' r'):=aMk.trans XF;have oC:=congrArg Ln.T.size fM;rw[Ln.rS]at oC;simp only[Ln.T.size]at oC;have hsp:=M'.Pc;refine aT4 λK hK=>?_;refine aLP (aLN GV (u:=ptr M')) ?_;refine aKQ JR (rT M' _ Xs) ?_;rintro v w3 ⟨rfl,rfl⟩;refine p5 ?_;refine WL.store aN rfl rfl rfl (by simp[Value.cells,Value.oneCell']) NG (by simp[eO]) λw4 kO rE RY=>?_;refine aB ?_;have hn:=aD9.1 aKu;have hz:zA (.node x l r) (.node y l' r') z.1:=by
       have h1:=congrArg eP fM;rw[eG]at h1;exact aBR.1 ((wR _ _).mem_iff.1 (h1▸aBw))
      refine aLV rfl rfl ?_;rw[<-fM];exact⟨rfl,⟨rE,Xr.one kO (λh=>hn.1 (aBR.2 (.inl h))),Xs.one kO (λh=>hn.1 (aBR.2 (.inr h)))⟩,uN.trans (aLi kO hz λg hg=>(uN.next g hg).2)⟩
end Rk
namespace Rk
open Go Go.RowKit Go.Proofs
variable{i n next k:Nat}{p:Int}
def aF6:tz.underlying 183=some (.array 2 3):=BYK
section
variable{E:Env}{w:World}{t:TypeId}{x y:Operand}{a b:Int}
def aRk(hx:aM E x=some (.int .i64 a):=by with_unfolding_all exact rfl)(hy:aM E y=some (.int .i64 b):=by with_unfolding_all exact rfl):aA tz (.build 183 #[(0,x),(1,y)]) t E w (.agg #[.int .i64 a,.int .i64 b]) w:=
 aA.build (parts:=[(0,x),(1,y)]) (ps:=[(0,.int .i64 a),(1,.int .i64 b)]) (by simp[OA,hx,hy]) BYK
def aRV(hx:aM E x=some (.agg #[.int .i64 a,.int .i64 b]):=by with_unfolding_all exact rfl)(hy:aM E y=some (.int .i64 (k:Int)):=by with_unfolding_all exact rfl)(hk:k<2:=by omega):aA tz (.index 183 x y) t E w (.int .i64 (if k=0 then a else b)) w:=λρ hρ _ _ _ _=>by
 rcases(show k=0\/k=1 by omega) with rfl|rfl
 .simp[execOp,hρ _ _ hx,hρ _ _ hy,go_sem,Instr.index,run_underlying aF6,asIntOf,aN.size,aN.UC]
 .simp[execOp,hρ _ _ hx,hρ _ _ hy,go_sem,Instr.index,run_underlying aF6,asIntOf,aN.size,aN.UC]
section
variable{ops:Array Oper}{K:Env->World->Prop}{N d_:Nat}{rest:List Oper}{pos:String}{after:Array Edge}{C:World->Prop}{R:Env->Prop}
end
end
section
variable{ops:Array Oper}{K:Env->World->Prop}{R:Env->Prop}{N:Nat}{E:Env}{rest:List Oper}{w:World}{t:TypeId}{pos:String}{after:Array Edge}{d:Nat}{x:Operand}{b o:Nat}{f:Nat->Nd}
def aSl(hx:aM E x=some (.pointer (some ⟨b,o+i*4,none⟩)):=by with_unfolding_all exact rfl)(hr:aE yZ 4 w (some ⟨b,o,none⟩) n f:=by first|assumption|exact cO.bK (by assumption))(hi:i<n:=by omega):OpB tz (.load 85 x) t E w (.agg (yZ (f i)).toArray):=λ_ hw=>aL5 (cs:=yZ (f i)) Kj hx (nF _) ((hr.bh hw).get hi)
end
attribute [local irreducible] aA jH OpC WL QL WC WX OL RL TL TM
def P3{L:List Nd}{f:Nat}{x:Nd}(hx:L.getD i Ln.yc=x)(h:Ln.side (Ln.vO L f) L.length x.1 x.2.2.1 (i+1)=none):Ln.vO L (f+1) i=none:=by
 simp only[Ln.vO,hx,h]
def Uo{L:List Nd}{f:Nat}{x:Nd}{l:Ln.T Ln.It}(hx:L.getD i Ln.yc=x)(h:Ln.side (Ln.vO L f) L.length x.1 x.2.2.1 (i+1)=some l)(h2:Ln.side (Ln.vO L f) L.length x.1 x.2.2.2 (i+1+l.size)=none):Ln.vO L (f+1) i=none:=by
 simp only[Ln.vO,hx,h,h2]
def P4{L:List Nd}{f:Nat}{x:Nd}{l r:Ln.T Ln.It}(hx:L.getD i Ln.yc=x)(h:Ln.side (Ln.vO L f) L.length x.1 x.2.2.1 (i+1)=some l)(h2:Ln.side (Ln.vO L f) L.length x.1 x.2.2.2 (i+1+l.size)=some r):
  Ln.vO L (f+1) i=if l.span<r.span then none else some (.node (x.1,x.2.1) l r):=by
 simp only[Ln.vO,hx,h,h2]
def Br{b:Nat->Option (Ln.T Ln.It)}{k:Int}(h1:p≠-1)(h2:p≠next\/n<=next):Ln.side b n k p next=none:=by
 unfold Ln.side;rw[if_neg h1,if_pos h2]
def P5{b:Nat->Option (Ln.T Ln.It)}{k:Int}(h1:p= -1):Ln.side b n k p next=some .nil:=by
 unfold Ln.side;rw[if_pos h1]
def Up{b:Nat->Option (Ln.T Ln.It)}{k:Int}(h3:next<n)(h4:b next=none):Ln.side b n k (next:Int) next=none:=by
 unfold Ln.side;rw[if_neg BYO,if_neg BYO,h4]
def Uq{b:Nat->Option (Ln.T Ln.It)}{k:Int}{y:Ln.It}{l r:Ln.T Ln.It}(h3:next<n)(h4:b next=some (.node y l r)):Ln.side b n k (next:Int) next=if y.1<k then none else some (.node y l r):=by
 unfold Ln.side;rw[if_neg BYO,if_neg BYO,h4]
def P6(L:List Nd)(f i:Nat)(w:World)(v:Value)(w':World):Prop:=Below w.heap.size w w'/\
 ((Ln.vO L f i=none/\v=.tuple #[.pointer none,.int .i64 0,.bool false])\/
  ∃pt:Ln.T PN,Ln.vO L f i=some (pt.map (·.2))/\In w' pt/\(∀g,g∈eP pt->w.heap.size<=g)/\(eP pt).Nodup/\v=.tuple #[ptr pt,.int .i64 ((i+pt.size:Nat):Int),.bool true])
structure BSt(w w':World)(gX gT:Nat)(x:Nd)(pl pr:Ln.T PN):Prop where
 bx:Bk w' gX 85 (yZ x)
 bt:Bk w' gT TN (eO (gT,x.1,x.2.1) pl pr 0)
 il:In w' pl
 ir:In w' pr
 nd:(gT::(eP pl++eP pr)).Nodup
 ge:∀g,g∈gT::(eP pl++eP pr)->w.heap.size<=g
 below:Below w.heap.size w w'
def et(L:List Nd)(f i:Nat)(x:Nd)(k next:Nat)(pl pr:Ln.T PN):Prop:=
 (k=0/\pl=.nil/\pr=.nil/\next=i+1)\/
 (k=1/\Ln.side (Ln.vO L f) L.length x.1 x.2.2.1 (i+1)=some (pl.map (·.2))/\pr=.nil/\next=i+1+pl.size)\/
 (k=2/\Ln.side (Ln.vO L f) L.length x.1 x.2.2.1 (i+1)=some (pl.map (·.2))/\Ln.side (Ln.vO L f) L.length x.1 x.2.2.2 (i+1+pl.size)=some (pr.map (·.2))/\next=i+1+pl.size+pr.size)
def et.bad{L:List Nd}{f:Nat}{x:Nd}{pl pr:Ln.T PN}(h:et L f i x k next pl pr)(hx:L.getD i Ln.yc=x)(hk:k<2)(hs:Ln.side (Ln.vO L f) L.length x.1 (if k=0 then x.2.2.1 else x.2.2.2) next=none):Ln.vO L (f+1) i=none:=by
 rcases h with⟨rfl,rfl,rfl,rfl⟩|⟨rfl,h1,rfl,rfl⟩|⟨rfl,_⟩
 .exact P3 hx hs
 .exact Uo hx h1 (by rw[Ln.aMr];exact hs)
 .omega
def et.skip{L:List Nd}{f:Nat}{x:Nd}{pl pr:Ln.T PN}(h:et L f i x k next pl pr)(hk:k<2)(hs:Ln.side (Ln.vO L f) L.length x.1 (if k=0 then x.2.2.1 else x.2.2.2) next=some .nil):et L f i x (k+1) next pl pr:=by
 rcases h with⟨rfl,rfl,rfl,rfl⟩|⟨rfl,h1,rfl,rfl⟩|⟨rfl,_⟩
 .exact .inr (.inl ⟨rfl,hs,rfl,rfl⟩)
 .exact .inr (.inr ⟨rfl,h1,hs,rfl⟩)
 .omega
def et.take{L:List Nd}{f:Nat}{x:Nd}{pl pr:Ln.T PN}(h:et L f i x k next pl pr)(hk:k<2)(pt:Ln.T PN)(hs:Ln.side (Ln.vO L f) L.length x.1 (if k=0 then x.2.2.1 else x.2.2.2) next=some (pt.map (·.2))):
  (k=0/\pl=.nil/\pr=.nil/\et L f i x 1 (next+pt.size) pt .nil)\/(k=1/\pr=.nil/\et L f i x 2 (next+pt.size) pl pt):=by
 rcases h with⟨rfl,rfl,rfl,rfl⟩|⟨rfl,h1,rfl,rfl⟩|⟨rfl,_⟩
 .exact .inl ⟨rfl,rfl,rfl,.inr (.inl ⟨rfl,hs,rfl,rfl⟩)⟩
 .exact .inr ⟨rfl,rfl,.inr (.inr ⟨rfl,h1,hs,rfl⟩)⟩
 .omega
def Ur(L:List Nd)(hn:L.length<=60)(c:Nat)(A:Option Addr)(f:Nat):∀(i:Nat) (w:World),aE yZ 4 w A L.length (lf L)->i<L.length->L.length<=i+f->
  Calls tz 73 #[.slice A L.length c,.int .i64 i] w (eT (P6 L f i w)):=by
 induction f with
 |zero=>intro i w _ h1 h2;omega
 |succ f ih=>
  intro i w hr hi hf;obtain⟨b,o,rfl,_⟩:=hr.ne BYO;obtain⟨x,Ea⟩:∃x,x=lf L i:=⟨_,rfl⟩;have hx:L.getD i Ln.yc=x:=by rw[Ea,bU hi];simp[List.getD,hi]
  have mL:Ln.vO L (f+1) i=none->∀w',Below w.heap.size w w'->P6 L (f+1) i w (.tuple #[.pointer none,.int .i64 0,.bool false]) w':=λh w' hB=>⟨hB,.inl ⟨h,rfl⟩⟩;refine aI J2 rfl Tryz.ntmps73 rfl ?_;refine aTp λK hK=>?_;rw[<-Ea];refine WL.box Kj rfl rfl rfl (by intro u hu;exact VB x u hu) λw1 fQ dM mP=>?_;have cA:=aC fQ;replace dM:Bk w1 w.heap.size 85 (yZ x):=dM;refine s0 λK hK=>?_;refine aLP (aLN aN (g:=w.heap.size) (j:=0) (u:=.int .i64 x.1)) ?_;refine aTn ?_;refine aLP (aLN aN (g:=w.heap.size) (j:=1) (u:=.int .i64 x.2.1)) ?_;refine mA ?_;refine aM3 rfl rfl λw2 eB iW qO=>?_;have bM:=aC eB;have aOA:=dM.below bM;replace iW:Bk w2 w1.heap.size TN (eO (w1.heap.size,x.1,x.2.1) .nil .nil 0):=iW;refine aUB λK hK=>?_;refine aLP (aLN aN (g:=w.heap.size) (j:=2) (u:=.int .i64 x.2.2.1)) ?_;refine Yv ?_;refine aLP (aLN aN (g:=w.heap.size) (j:=3) (u:=.int .i64 x.2.2.2)) ?_;refine s7 ?_;have cQ:w.heap.size≠w1.heap.size:=BYO;refine aPU (λ(k:Nat) (next:Nat) (pl pr:Ln.T PN)=>[(0,.slice (some ⟨b,o,none⟩) L.length c),(7,.pointer (some ⟨w.heap.size,0,none⟩)),(8,.pointer (some ⟨w1.heap.size,0,none⟩)),(9,.int .i64 next),(32,.agg #[.int .i64 x.2.2.1,.int .i64 x.2.2.2]),(33,.int .i64 k)])
   (λk next pl pr q wr=>k<=2/\q=2-k/\next<=L.length/\et L f i x k next pl pr/\BSt w wr w.heap.size w1.heap.size x pl pr) 2 0 (i+1) .nil .nil
   ⟨BYO,rfl,BYO,.inl ⟨rfl,rfl,rfl,rfl⟩,⟨aOA,iW,trivial,trivial,by simp[eP,Ln.T.items],by simp[eP,Ln.T.items];omega,cA.tr bM⟩⟩ aJA ?_
  rintro k next pl pr q wr ⟨hk,rfl,Rf,bm,hS⟩
  have GI:=hr.below hS.below;refine aB ?_;refine aJ6 rfl (λh=>?_) (λh=>?_)
  .have uQ:k<2:=BYO;refine aTx ?_;have MM:=λhs=>mL (bm.bad hx uQ hs);have zj:=bm.skip uQ;have zb:=λpt hs=>bm.take uQ pt hs;generalize (if k=0 then x.2.2.1 else x.2.2.2)=p at MM zj zb⊢;refine aJ6 rfl (λhp=>?_) (λhp=>?_)
   .refine aB ?_;exact aMz (k+1) next pl pr (2-(k+1)) BYO ⟨BYO,rfl,Rf,zj (P5 hp),hS⟩ aJA
   .refine aZ λK hK=>?_;refine WL.guard rfl rfl (λh0=>?_) (λh0=>?_)
    .have Ds:=of_decide_eq_true h0;refine aB ?_;refine aLO rfl ?_;refine aB ?_;exact aPX rfl rfl rfl rfl (MM (Br hp (.inl Ds)) _ hS.below)
    .have Ds:p=(next:Int):=by have:=of_decide_eq_false h0;omega
     subst Ds;refine p9 ?_;refine aJ6 rfl (λh1=>?_) (λh1=>?_)
     .refine aB ?_;exact aPX rfl rfl rfl rfl (MM (Br hp (.inr BYO)) _ hS.below)
     .have yD:next<L.length:=BYO
      refine aZ λK hK=>?_;refine aKQ J2 (ih next _ GI yD (by rcases bm with⟨_,_,_,e⟩|⟨_,_,_,e⟩|⟨_,_,_,e⟩<;>omega)) ?_
      rintro v w3 ⟨dZ,hv⟩;have ao:=hS.bx.below dZ;have Z7:=hS.bt.below dZ;have iT:=hS.below.tr dZ;rcases hv with⟨CK,rfl⟩|⟨pt,Qi,hI,CL,XL,rfl⟩
      .refine aB ?_;refine aLh mixed BYK ?_;refine oD ?_;refine QL.done λw4 jR=>?_;refine aB ?_;refine aLO rfl ?_;refine aB ?_;exact aPX rfl rfl rfl rfl (MM (Up yD CK) _ (iT.tr jR))
      .obtain⟨y,l1,r1,he⟩:=Ln.O5 Qi;cases pt with
       |nil=>cases he
       |node z l2 r2=>
        have yz:=Uq (k:=x.1) yD Qi;have hz:=hI.1;have dD:=hS.bt.lt;have hgz:∀g,g∈eP (.node z l2 r2)->g≠w1.heap.size:=λg hg e=>by have:=CL g hg;omega
        refine aB ?_;refine aLh mixed BYK ?_;refine aTo ?_;refine aMC (aLN aN (g:=z.1) (j:=0) (u:=.int .i64 z.2.1)) ?_;refine aTo ?_;refine aMC (aLN aN (g:=w.heap.size) (j:=0) (u:=.int .i64 x.1)) ?_;refine oD ?_;refine QL.done λw4 jR=>?_;have kN:=iT.tr jR;have aLx:=dZ.tr jR;refine aB ?_;refine aJ6 rfl (λh2=>?_) (λh2=>?_)
        .refine aB ?_;exact aPX rfl rfl rfl rfl (MM (by rw[yz,if_pos h2]) _ kN)
        .rw[if_neg h2]at yz;have aG8:=Z7.below jR;have OJ:=ao.below jR;have hI4:=hI.below jR;have oC:=(Ln.Bj f next yD _ Qi).1.1;rw[Ln.aMr]at oC;refine aB ?_;rcases zb (.node z l2 r2) yz with⟨rfl,rfl,rfl,Z3⟩|⟨rfl,rfl,Z3⟩
         .refine aJ6 rfl (λh3=>?_) (λh3=>absurd rfl h3);refine aTl λK hK=>?_;refine aO5 (T:=.node z l2 r2) rfl rfl aG8 (by simp[eO]) λw5 fU pZ zT=>?_;refine aB ?_;exact aMz 1 _ (.node z l2 r2) .nil 1 BYO ⟨BYO,rfl,oC,Z3,⟨OJ.keep fU BYT,pZ,hI4.one fU (λh=>hgz _ h rfl),trivial,by
           rw[show eP (Ln.T.nil:Ln.T PN)=[] from rfl,aDD];exact aD9.2 ⟨λh=>hgz _ h rfl,XL⟩,λg hg=>by
           rw[show eP (Ln.T.nil:Ln.T PN)=[] from rfl,aDD]at hg;rcases aBI.1 hg with rfl|hg
           .omega
           .have:=CL g hg;have:=hS.below.size;omega,kN.rM fU (by intro b hb;cases hb;omega)⟩⟩ aJA
         .refine aJ6 rfl (λh3=>absurd h3 BYS) (λh3=>?_);refine aT4 λK hK=>?_;refine aO5 (T:=.node z l2 r2) rfl rfl aG8 (by simp[eO]) λw5 fU pZ zT=>?_;refine aB ?_;have aIg:=hS.nd;rw[show eP (Ln.T.nil:Ln.T PN)=[] from rfl,aDD]at aIg;have aBp:=aD9.1 aIg;exact aMz 2 _ pl (.node z l2 r2) 0 BYO ⟨BYO,rfl,oC,Z3,⟨OJ.keep fU BYT,pZ,(hS.il.below aLx).one fU aBp.1,hI4.one fU (λh=>hgz _ h rfl),by
           refine aD9.2 ⟨λh=>?_,aH0.2 ⟨aBp.2,XL,λg h4 g' h5 e=>?_⟩⟩
           .rcases aBR.1 h with h|h
            .exact aBp.1 h
            .exact hgz _ h rfl
           .subst e;have:=hS.il.lt g h4;have:=CL g h5;omega,λg hg=>by
           rcases aBI.1 hg with rfl|hg
           .omega
           .rcases aBR.1 hg with hg|hg
            .exact hS.ge g (by simp[hg])
            .have:=CL g hg;have:=hS.below.size;omega,kN.rM fU (by intro b hb;cases hb;omega)⟩⟩ aJA
  .obtain rfl:k=2:=BYO;have aCP:Ln.side (Ln.vO L f) L.length x.1 x.2.2.1 (i+1)=some (pl.map (·.2))/\Ln.side (Ln.vO L f) L.length x.1 x.2.2.2 (i+1+pl.size)=some (pr.map (·.2))/\next=i+1+pl.size+pr.size:=by
    rcases bm with⟨h,_⟩|⟨h,_⟩|⟨_,h⟩
    .omega
    .omega
    .exact h
   obtain⟨uP,GN,rfl⟩:=aCP;have hb:=P4 hx uP (by rw[Ln.aMr];exact GN);rw[Ln.aOz,Ln.aOz]at hb;have XG:=hS.bt;refine aB ?_;refine WC.tm (λw'=>Bk w' w1.heap.size TN (eO (w1.heap.size,x.1,x.2.1) pl pr 0)) [] (.pure 0 (.pure 1 (.pure 2 (.pure 5 (.pure 6 (.pure 7 (.read 3 (.read 8 (.act 4 (.act 9 (.pure 10 .fin))))))))))) mixed BYK rfl BYK (λw' hb _=>XG.below hb) λK hK w3 dZ OR=>?_;have Z7:=XG.below dZ;refine Yt ?_;refine RL.step (λw' dY=>aJC GV rfl (dY.cell (u:=ptr pl) rfl)) rfl ?_;refine Yt ?_;refine RL.step (λw' dY=>aJC GV rfl (dY.cell (u:=ptr pr) rfl)) rfl ?_;refine TM.act rfl (aKQ JR (rT pl _ (hS.il.below dZ)) ?_);rintro v w4 ⟨rfl,rfl⟩;refine WL.nil ⟨Z7,?_⟩;refine TM.act rfl (aKQ JR (rT pr _ (hS.ir.below dZ)) ?_);rintro v w4 ⟨rfl,rfl⟩;refine WL.nil ⟨Z7,?_⟩;refine uU ?_;refine TM.fin (hK _ _ ?_);clear hK K;have kN:=hS.below.tr dZ;refine aB ?_;refine aJ6 rfl (λh3=>?_) (λh3=>?_)
   .refine aB ?_;exact aPX rfl rfl rfl rfl (mL (by rw[hb,if_pos BYO]) _ kN)
   .rw[if_neg BYO]at hb;have hsp:=pr.Pc;refine aT4 λK hK=>?_;refine aLP (aLN GV (u:=ptr pr)) ?_;refine aB ?_;refine aKQ JR (rT pr _ (hS.ir.below dZ)) ?_;rintro v w5 ⟨rfl,rfl⟩;refine p5 ?_;refine WL.store aN rfl rfl rfl (by simp[Value.cells,Value.oneCell']) Z7 (by simp[eO]) λw6 gL pU FW=>?_;refine aB ?_;have XL:=aD9.1 hS.nd;refine aPX rfl rfl rfl rfl ⟨kN.rM gL (by intro b hb;cases hb;omega),.inr ⟨.node (w1.heap.size,x.1,x.2.1) pl pr,hb,⟨pU,(hS.il.below dZ).one gL (λh=>XL.1 (aBR.2 (.inl h))),(hS.ir.below dZ).one gL (λh=>XL.1 (aBR.2 (.inr h)))⟩,?_,?_,?_⟩⟩
    .rw[eG];exact hS.ge
    .rw[eG];exact hS.nd
    .rw[show i+(Ln.T.node ((w1.heap.size,x.1,x.2.1):PN) pl pr).size=i+1+pl.size+pr.size from by simp only[Ln.T.size];omega];rfl
end Rk
namespace Rk
open Go Go.RowKit Go.Proofs
variable{w:World}
attribute [local irreducible] aA jH OpC WL QL WC WX OL RL TL TM
def Bt(x:Nd):Bool:=iR (Ln.ep x)
def gS(L:List Nd):Nat:=if 60<L.length then 4 else if L.all Bt=true then(if(Ln.Fe L).isSome=true then 0 else 3) else 1
def yf(L:List Nd)(w:World)(v:Value)(w':World):Prop:=Below w.heap.size w w'/\(gS L≠0->v=.tuple #[.pointer none,cI (gS L)])/\
 (gS L=0->∃pt:Ln.T PN,Ln.Fe L=some (pt.map (·.2))/\In w' pt/\(∀g,g∈eP pt->w.heap.size<=g)/\(eP pt).Nodup/\v=.tuple #[ptr pt,.nilIface])
def wS{L:List Nd}{w':World}{e:Nat}(h:gS L=e)(he:e≠0)(hB:Below w.heap.size w w'):yf L w (.tuple #[.pointer none,.iface 68 (.int .i64 e)]) w':=
 ⟨hB,λ_=>by rw[h,bO he],λh0=>absurd (h.symm.trans h0) he⟩
def aBP{L:List Nd}(h:∀j,j<L.length->Bt (lf L j)=true):L.all Bt=true:=by
 rw[aCJ];intro x hx;obtain⟨j,hj,rfl⟩:=aI7 hx;have:=h j hj;rwa[bU hj]at this
def KZ(L:List Nd)(c:Nat)(A:Option Addr)(w:World)(hr:aE yZ 4 w A L.length (lf L))(hm:L.length<=maxLen):
  Calls tz 39 #[.slice A L.length c] w (eT (yf L w)):=by
 refine aI Oe rfl Tryz.ntmps39 rfl ?_;refine p9 ?_;refine aJ6 rfl (λSB=>?_) (λSB=>?_)
 .refine aB ?_;exact aLe rfl rfl rfl (wS (e:=4) (by unfold gS;rw[if_pos BYO]) BYO (Below.refl _ _))
 .have hn:L.length<=60:=BYO;refine p9 ?_;refine aMP (λ(k:Nat)=>[(0,.slice A L.length c),(14,.slice A L.length c),(15,.int .i64 (L.length:Nat)),(16,.int .i64 k)])
   (λk q wr=>k<=L.length/\q=L.length-k/\(∀j,j<k->Bt (lf L j)=true)/\Below w.heap.size w wr) L.length 0 ⟨BYO,rfl,λj hj=>BYO,Below.refl _ _⟩ aJA ?_
  rintro k q wr ⟨hk,rfl,bY,hB⟩;refine aB ?_;refine aJ6 rfl (λh=>?_) (λh=>?_)
  .have xA:k<L.length:=BYO;have GI:=hr.below hB;obtain⟨b,o,rfl,_⟩:=GI.ne BYO;refine aTp λK hK=>?_;obtain⟨x,Ea⟩:∃x,x=lf L k:=⟨_,rfl⟩;rw[<-Ea];refine WL.box Kj rfl rfl rfl (by intro u hu;exact VB x u hu) λw1 fQ dM mP=>?_;have cA:=hB.tr (aC fQ);replace dM:Bk w1 wr.heap.size 85 (yZ x):=dM;refine s0 λK hK=>?_;refine aLP (aLN aN (g:=wr.heap.size) (j:=0) (u:=.int .i64 x.1)) ?_;refine aTn ?_;refine aLP (aLN aN (g:=wr.heap.size) (j:=1) (u:=.int .i64 x.2.1)) ?_;refine aB ?_;refine WL.lit (xs:=[.tmp 24]) (vs:=[.agg (cB (x.1,x.2.1)).toArray]) aY aL rfl rfl (by simp[cB,Value.cells]) rfl rfl BYO λw2 eB iW qO=>?_;have bM:=cA.tr (aC eB);have pT:aE cB 2 w2 (some ⟨w1.heap.size,0,none⟩) 1 (λ_=>(x.1,x.2.1)):=iW.bK (enc:=cB) (k:=2) (f:=λ_=>(x.1,x.2.1)) 0 λi hi j u hu=>by
    obtain rfl:i=0:=BYO;simpa[cB,Value.cells] using hu
   refine aKQ xT (jJ _ 1 1 _ _ pT) ?_;rintro v w3 ⟨rfl,dZ⟩;have iT:=bM.tr dZ;have he:aH 1 (λ_=>(x.1,x.2.1))=if Bt x=true then 0 else 1:=by
    have e:(aG (λ_=>((x.1,x.2.1):Int×Int)) 1).all iR=iR (Ln.ep x):=by simp[aG,aGV,Ln.ep]
    unfold aH Bt;rw[if_neg BYO,e]
   rw[he];refine aZ λK hK=>?_;by_cases hxo:Bt x=true
   .rw[if_pos hxo,eN];refine aB ?_;refine aJh rfl ?_;refine aB ?_;exact aMF (k+1) (L.length-(k+1)) BYO ⟨BYO,rfl,λj hj=>by
     rcases aDg.1 hj with h1|h1
     .exact bY j h1
     .rw[h1,<-Ea];exact hxo,iT⟩ aJA
   .rw[if_neg hxo,bO BYO];refine aB ?_;refine aLO rfl ?_;refine aB ?_;refine aLe rfl rfl rfl (wS (e:=1) ?_ BYO iT);unfold gS;rw[if_neg BYO,if_neg];intro fM;rw[aCJ]at fM;exact hxo (by rw[Ea,bU xA];exact fM _ (aCX _))
  .obtain rfl:k=L.length:=BYO;have fM:=aBP bY;refine p9 ?_;refine aJ6 rfl (λh0=>?_) (λh0=>?_)
   .have Ml:L=[]:=aCQ BYO;subst Ml;refine aB ?_;exact aLe rfl rfl rfl ⟨hB,λh=>absurd rfl h,λ_=>⟨.nil,rfl,trivial,λg hg=>(by cases hg),List.nodup_nil,rfl⟩⟩
   .have cQ:L≠[]:=λe=>h0 (by rw[e];rfl);have nA:0<L.length:=aC8.2 cQ;have mL:Ln.Fe L=none->gS L=3:=λh=>by
     unfold gS;rw[if_neg BYO,if_pos fM,h];rfl
    refine aZ λK hK=>?_;refine aKQ J2 (Ur L hn c A L.length 0 _ (hr.below hB) nA BYO) ?_;rintro v w3 ⟨dZ,hv⟩;have iT:=hB.tr dZ;rcases hv with⟨CK,rfl⟩|⟨pt,Qi,hI,CL,XL,rfl⟩
    .refine aB ?_;refine aLO rfl ?_;refine aB ?_;exact aLe rfl rfl rfl (wS (e:=3) (mL (by unfold Ln.Fe;rw[if_neg cQ,CK])) BYO iT)
    .refine p9 ?_;refine aJ6 rfl (λh1=>?_) (λh1=>?_)
     .refine aB ?_;exact aLe rfl rfl rfl (wS (e:=3) (mL (by unfold Ln.Fe;rw[if_neg cQ,Qi];simp only[Ln.aMr];rw[if_neg BYO])) BYO iT)
     .refine aB ?_;have hs:Ln.Fe L=some (pt.map (·.2)):=by unfold Ln.Fe;rw[if_neg cQ,Qi];simp only[Ln.aMr];rw[if_pos BYO]
      exact aLe rfl rfl rfl ⟨iT,λh=>absurd (by unfold gS;rw[if_neg BYO,if_pos fM,hs];rfl) h,λ_=>⟨pt,hs,hI,λg hg=>aBS hB.size (CL g hg),XL,rfl⟩⟩
def Xg(L:List Nd):Ln.T Ln.It:=(Ln.Fe L).getD .nil
def tU(a b:List Nd):Nat:=if gS a≠0 then gS a else if gS b≠0 then gS b else if 60<a.length+b.length then 4 else 0
def Pj(a b:List Nd):List Nd:=Ln.xG (Ln.gZ Ln.kI (Xg a) (Xg b)) 0
def alone(x:Ln.It):List Nd:=[(x.1,x.2,-1,-1)]
def Us(L:List Nd):List Nd:=match Xg L with
 | .nil=>[]
 | .node _ l r=>Ln.xG (Ln.gZ Ln.kI l r) 0
def Bu{L:List Nd}{t:Ln.T Ln.It}(h:Ln.Fe L=some t):Xg L=t:=by unfold Xg;rw[h];rfl
def VC{L:List Nd}{t:Ln.T Ln.It}(h:Ln.Fe L=some t):t.size=L.length:=by
 have:=(Ln.KX h).1;rw[this,Ln.jP]
def BE{L:List Nd}(h:gS L=0):L.length<=60:=by
 unfold gS at h;split at h
 .omega
 .omega
def P7(a b:List Nd)(w:World)(v:Value)(w':World):Prop:=Below w.heap.size w w'/\(tU a b≠0->v=.tuple #[.slice none 0 0,cI (tU a b)])/\
 (tU a b=0->∃v',v=.tuple #[v',.nilIface]/\Bp w' w.heap.size v' (Pj a b))
def wT{a b:List Nd}{w':World}{e:Nat}(h:tU a b=e)(he:e≠0)(hB:Below w.heap.size w w'):P7 a b w (.tuple #[.slice none 0 0,cI e]) w':=
 ⟨hB,λ_=>by rw[h],λh0=>absurd (h.symm.trans h0) he⟩
def Ut(a b:List Nd)(ca cb:Nat)(A B:Option Addr)(w:World)(ha:aE yZ 4 w A a.length (lf a))(hb:aE yZ 4 w B b.length (lf b))(hma:a.length<=maxLen)(zp:b.length<=maxLen):
  Calls tz 31 #[.slice A a.length ca,.slice B b.length cb] w (eT (P7 a b w)):=by
 refine aI wy rfl Tryz.ntmps31 rfl ?_;refine aZ λK hK=>?_;refine aKQ Oe (KZ a ca A w ha hma) ?_;rintro v w1 ⟨cA,aIL,Eb⟩;by_cases Fy:gS a=0
 .obtain⟨pa,fb,hIa,hga,hna,rfl⟩:=Eb Fy;refine aB ?_;refine aJh rfl ?_;refine aZ λK hK=>?_;refine aKQ Oe (KZ b cb B w1 (hb.below cA) zp) ?_;rintro v w2 ⟨bM,MM,aNi⟩;have gF:=cA.tr bM;by_cases Fq:gS b=0
  .obtain⟨pb,xK,hIb,Wp,hnb,rfl⟩:=aNi Fq;have hla:=VC fb;have Wu:=VC xK;rw[Ln.aMr]at hla Wu;have aNE:=BE Fy;have aNZ:=BE Fq;refine aB ?_;refine aJh rfl ?_;refine p9 ?_;refine aJ6 rfl (λh=>?_) (λh=>?_)
   .refine aB ?_;exact aLe rfl rfl rfl (wT (e:=4) (by unfold tU;rw[if_neg BYO,if_neg BYO,if_pos BYO]) BYO gF)
   .have hm0:tU a b=0:=by unfold tU;rw[if_neg BYO,if_neg BYO,if_neg BYO]
    have XL:(eP pa++eP pb).Nodup:=aH0.2 ⟨hna,hnb,λg h1 g' h2 e=>by
     subst e;have:=hIa.lt g h1;have:=Wp g h2;omega⟩
    refine aZ λK hK=>?_;refine aKQ QK (Bq _ pa pb _ (aAB _) (hIa.below bM) hIb XL BYO) ?_;rintro v w3 ⟨rfl,hI3,EM⟩;have iT:=EM.below gF (λg hg=>by
     rcases hg with hg|hg
     .exact hga g hg
     .exact aBS cA.size (Wp g hg))
    refine aB ?_;refine aKQ QJ (QX (Ln.gZ kP pa pb) (.slice none 0 0) [] w3 w.heap.size hI3 (bT.nil _ _ _ _ _ _) (λg hg=>by cases hg) iT.size (by rw[Ln.rS];simp;omega)) ?_;intro v w4 hS;have kN:=hS.dG.below iT (λg hg=>by cases hg);refine aB ?_;refine aLe rfl rfl rfl ⟨kN,λh=>absurd hm0 h,λ_=>⟨v,rfl,?_⟩⟩;have:=hS.own;unfold Pj;rw[Bu fb,Bu xK,<-Ln.Bi kP Ln.kI (·.2) (λ_=>rfl)];simpa using this
  .rw[MM Fq];refine aZ λK hK=>?_;rw[bO Fq];refine aB ?_;refine aLO rfl ?_;refine aB ?_;rw[<-bO Fq];exact aLe rfl rfl rfl (wT (e:=gS b) (by unfold tU;rw[if_neg BYO,if_pos Fq]) Fq gF)
 .rw[aIL Fy];refine aZ λK hK=>?_;rw[bO Fy];refine aB ?_;refine aLO rfl ?_;refine aB ?_;rw[<-bO Fy];exact aLe rfl rfl rfl (wT (e:=gS a) (by unfold tU;rw[if_pos Fy]) Fy cA)
def Uu(L:List Nd)(x:Ln.It)(c:Nat)(A:Option Addr)(w:World)(ha:aE yZ 4 w A L.length (lf L))(hm:L.length<=maxLen):
  Calls tz 9 #[.slice A L.length c,mV x] w (eT (P7 L (alone x) w)):=by
 refine aI aEv rfl Tryz.ntmps9 rfl ?_;refine aZ λK hK=>?_;refine aM3 rfl rfl λw1 fQ dM mP=>?_;have cA:Below w.heap.size w w1:=aC fQ;replace dM:Bk w1 w.heap.size 38 (cB x):=dM;refine aZ λK hK=>?_;refine aLP (aLN aN (g:=w.heap.size) (j:=0) (u:=.int .i64 x.1)) ?_;refine aB ?_;refine aLP (aLN aN (g:=w.heap.size) (j:=1) (u:=.int .i64 x.2)) ?_;refine aB ?_;refine WL.step (aSD (a:=x.1) (b:=x.2) (d:= -1) (e:= -1) rfl rfl rfl rfl) rfl ?_;refine WL.lit (xs:=[.tmp 11]) (vs:=[ndV (x.1,x.2,-1,-1)]) Bl Kj rfl rfl (by simp[yZ,Value.cells]) rfl rfl BYO λw2 eB iW qO=>?_;have bM:=cA.tr (aC eB);have pT:aE yZ 4 w2 (some ⟨w1.heap.size,0,none⟩) 1 (lf (alone x)):=iW.bK (enc:=yZ) (k:=4) (f:=lf (alone x)) 0 λi hi j u hu=>by
  obtain rfl:i=0:=BYO;rw[show lf (alone x) 0=((x.1,x.2,-1,-1):Nd) from rfl]at hu;simpa[yZ,Value.cells] using hu
 refine aKQ wy (Ut L (alone x) c 1 A _ w2 (ha.below bM) pT hm (by simp[alone,maxLen])) ?_;rintro v w3 ⟨dZ,mL,bY⟩;have iT:=bM.tr dZ;by_cases he:tU L (alone x)=0
 .obtain⟨v',rfl,ho⟩:=bY he;refine aB ?_;exact aLe rfl rfl rfl ⟨iT,λh=>absurd he h,λ_=>⟨v',rfl,ho.lower bM.size⟩⟩
 .rw[mL he];refine aB ?_;exact aLe rfl rfl rfl (wT rfl he iT)
def aKW(L:List Nd)(w:World)(v:Value)(w':World):Prop:=Below w.heap.size w w'/\(gS L≠0->v=.tuple #[mV (0,0),.slice none 0 0,cI (gS L)])/\
 (gS L=0->L=[]->v=.tuple #[mV (0,0),.slice none 0 0,cI 5])/\(gS L=0->L≠[]->∃v',v=.tuple #[mV (Ln.ep (lf L 0)),v',.nilIface]/\Bp w' w.heap.size v' (Us L))
def ns{x:PN}{l r:Ln.T PN}{s:Int}(hb:Bk w x.1 TN (eO x l r s)):∀j u,(cB x.2)[j]?=some u->w.cell? ⟨x.1,0+j,none⟩=some u:=λj u hu=>by
 rw[aAn];rcases j with _|_|j
 .exact hb.cell hu
 .exact hb.cell hu
 .simp[cB]at hu
def P8(L:List Nd)(c:Nat)(A:Option Addr)(w:World)(hr:aE yZ 4 w A L.length (lf L))(hm:L.length<=maxLen):
  Calls tz 14 #[.slice A L.length c] w (eT (aKW L w)):=by
 refine aI we rfl Tryz.ntmps14 rfl ?_;refine aZ λK hK=>?_;refine WL.alloc aL rfl λw1 fQ dM mP=>?_;have cA:Below w.heap.size w w1:=aC fQ;replace dM:Bk w1 w.heap.size 38 (cB (0,0)):=dM;refine aZ λK hK=>?_;refine aKQ Oe (KZ L c A w1 (hr.below cA) hm) ?_;rintro v w2 ⟨bM,mL,bY⟩;have gF:=cA.tr bM;have iW:=dM.below bM;by_cases he:gS L=0
 .obtain⟨pt,Qi,hI,CL,XL,rfl⟩:=bY he;have hlen:=VC Qi;rw[Ln.aMr]at hlen;have SB:=BE he;refine aB ?_;refine aJh rfl ?_;refine aZ λK hK=>?_;cases pt with
  |nil=>
   have Ml:L=[]:=aCQ (by simp only[Ln.T.size]at hlen;omega);refine Yo ?_;refine aLO rfl ?_;refine aZ λK hK=>?_;refine WL.store (v:=mV (0,0)) aL rfl rfl rfl (cJ _) iW (aAB 2) λw3 iE mM EL=>?_;refine aB ?_;exact aNa aL rfl rfl rfl rfl mM rfl ⟨gF.rM iE (by intro b hb;cases hb;exact aAB _),λh=>absurd he h,λ_ _=>rfl,λ_ h=>absurd Ml h⟩
  |node x l r=>
   have cQ:L≠[]:=λe=>by rw[e]at hlen;simp only[Ln.T.size,aBv]at hlen;omega
   have aGc:Ln.ep (lf L 0)=x.2:=by
    have h1:=(Ln.KX Qi).1;rw[h1];rfl
   have MZ:Us L=Ln.xG ((Ln.gZ kP l r).map (·.2)) 0:=by
    unfold Us;rw[Bu Qi,Ln.Bi kP Ln.kI (·.2) (λ_=>rfl)];rfl
   obtain⟨wQ,hl,GI⟩:=hI;rw[eG]at XL CL;have aGq:=aD9.1 XL;simp only[Ln.T.size]at hlen;refine WL.step (aOa KY (p:=some ⟨x.1,0,none⟩) rfl) rfl ?_;refine aB ?_;refine aJh rfl ?_;refine aB ?_;refine WC.tm (λw'=>Bk w' x.1 TN (eO x l r ((r.span+1:Nat):Int))) [] (.pure 0 (.pure 1 (.pure 2 (.pure 4 (.pure 5 (.pure 6 (.pure 8 (.pure 9 (.pure 10 (.read 3 (.read 7 (.read 11 (.act 12 (.act 13 (.act 14 (.pure 15 (.pure 16 .fin))))))))))))))))) mixed BYK rfl BYK (λw' hb _=>wQ.below hb) λK hK w3 dZ OR=>?_;have ao:=wQ.below dZ;refine s9 ?_;refine RL.step (λw' dY=>aL5 (cs:=cB x.2) aL rfl (bN _) (ns dY)) rfl ?_;refine s9 ?_;refine RL.step (λw' dY=>aJC GV rfl (dY.cell (u:=ptr l) rfl)) rfl ?_;refine s9 ?_;refine RL.step (λw' dY=>aJC GV rfl (dY.cell (u:=ptr r) rfl)) rfl ?_;refine TM.act rfl (aKQ QK (Bq _ l r _ (aAB _) (hl.below dZ) (GI.below dZ) aGq.2 BYO) ?_);rintro v w4 ⟨rfl,hI4,tZ⟩;have iT:=gF.tr dZ;have wC:∀g,zA l r g->w1.heap.size<=g:=λg hg=>CL g (aBm _ (aBR.2 hg));have kN:=tZ.below iT (λg hg=>by have:=wC g hg;omega);have OJ:=ao.dG tZ (λh=>aGq.1 (aBR.2 h));have rE:=(iW.below dZ).dG tZ (λh=>by have:=wC _ h;omega);refine WL.nil ⟨OJ,?_⟩;refine TM.act rfl (aKQ QJ (QX (Ln.gZ kP l r) (.slice none 0 0) [] w4 w.heap.size hI4 (bT.nil _ _ _ _ _ _) (λg hg=>by cases hg) kN.size (by rw[Ln.rS];simp;omega)) ?_);intro v w5 hS;have XD:=hS.dG.below kN (λg hg=>by cases hg);have aCe:=OJ.dG hS.dG (λh=>by cases h);have pZ:=rE.dG hS.dG (λh=>by cases h);refine WL.nil ⟨aCe,?_⟩;have rC:=hS.own;have hvb:v.ownBlock≠some w.heap.size:=λe=>by
    rcases(hS.dG.next _ (show pK v w.heap.size from e)).1 with h|h
    .cases h
    .have:=kN.size;have:=rE.lt;omega
   refine TM.act rfl (WL.store (v:=mV x.2) aL rfl rfl rfl (cJ _) pZ (aAB 2) λw6 gL pU FW=>WL.nil ?_);have aN4:=aCe.keep gL (by have:=CL x.1 aBw;simp;omega);refine⟨aN4,?_⟩;refine uU ?_;refine TM.fin (hK _ _ ?_);clear hK K;refine aB ?_;refine aNa aL rfl rfl rfl rfl pU rfl ⟨XD.rM gL (by intro b hb;cases hb;exact aAB _),λh=>absurd he h,λ_ h=>absurd h cQ,λ_ _=>⟨v,by rw[aGc];rfl,?_⟩⟩;rw[MZ];have h6:=rC.keep gL (.inr hvb);simpa using h6
 .rw[mL he];refine aZ λK hK=>?_;rw[bO he];refine aB ?_;refine aLO rfl ?_;refine aZ λK hK=>?_;refine WL.store (v:=mV (0,0)) aL rfl rfl rfl (cJ _) iW (aAB 2) λw3 iE mM EL=>?_;refine aB ?_;rw[<-bO he];exact aNa aL rfl rfl rfl rfl mM rfl ⟨gF.rM iE (by intro b hb;cases hb;exact aAB _),λ_=>rfl,λh=>absurd h he,λh=>absurd h he⟩
end Rk
