/- Part of the proof of TopSorts. -/
import Derived.Laws.StructEq
import Derived.Laws.OwnMore
import Derived.ArgAppend
import Derived.Test.YthdiheblgmddhaaGreatDoorQ02
set_option linter.all false
set_option maxHeartbeats 4000000
namespace Rk
open Go Go.RowKit Go.Proofs
section
variable{E:Env}{w:World}{t:TypeId}{x y:Operand}{a:Int}
def xr:tz.underlying 3=some (.int .i64):=BYK
def L6:tz.underlying 167=some (.int .u64):=BYK
def aRw(hx:aM E x=some (.int .i64 a):=by with_unfolding_all exact rfl)(h:0<=a/\a<=1000000:=by omega):aA tz (.convert 3 167 x) t E w (.int .u64 a) w:=aA.conv ⟨_,xr⟩ L6 hx (by rw[IntKind.wrap_u64];omega)
def aRS(hx:aM E x=some (.int .u64 a):=by with_unfolding_all exact rfl):aA tz (.binOp .shr 167 x (.const (.int .u64 1)) 167) t E w (.int .u64 (a/2)) w:=aA.shr (b:=1) hx rfl BYO BYD
def aRx(hx:aM E x=some (.int .u64 a):=by with_unfolding_all exact rfl)(h:0<=a/\a<=1000000:=by omega):aA tz (.convert 167 3 x) t E w (.int .i64 a) w:=aA.conv ⟨_,L6⟩ xr hx (wrap_i64 BYO)
section
variable{ops:Array Oper}{K:Env->World->Prop}{N d_:Nat}{rest:List Oper}{pos:String}{after:Array Edge}{C:World->Prop}{R:Env->Prop}
end
end
attribute [local irreducible] aA jH OpC WL QL WC WX OL RL TL
def qW(g n cap B a b m:Nat)(f:Nat->It)(w:World)(ho:fP w B g n cap f)(WU:a+m<=b)(hb:b+m<=n)(hn:n<=1000):
  Calls tz 118 #[.slice (some ⟨g,0,none⟩) n cap,.int .i64 a,.int .i64 b,.int .i64 m,dF] w
   (eT λ_ w'=>fP w' B g n cap (lW f a b m)/\w.grownBy w' (some g)):=by
 refine aI UA rfl Tryz.ntmps118 rfl ?_;refine aB ?_;refine aMP (λk:Nat=>[(0,.slice (some ⟨g,0,none⟩) n cap),(1,.int .i64 a),(2,.int .i64 b),(3,.int .i64 m),(4,dF),(10,.int .i64 k)])
  (λk j wr=>k<=m/\j=m-k/\fP wr B g n cap (lW f a b k)/\w.grownBy wr (some g)) m 0 ⟨BYO,BYO,by rw[Jb];exact ho,World.grownBy.refl _ _⟩ aJA ?_
 rintro k j wr ⟨hk,rfl,ho,hg⟩;refine aB ?_;refine aJ6 rfl (λh=>?_) (λh=>?_)
 .refine aB ?_;refine WC.ord [21,23] [(0,0),(1,0),(2,0),(3,0),(4,0),(5,0),(6,0),(7,0),(8,0),(9,0),(10,0),(11,0),(12,0),(14,0),(15,0),(16,0),(17,0),(18,0),(13,1),(19,1),(20,0),(21,2),(22,0),(23,2)] mixed BYK rfl BYK λK hK w1 cA fo=>?_;replace ho:=ho.heap fo;rw[show(λw':World=>w'.heap=wr.heap)=(λw'=>w'.heap=w1.heap) from by rw[fo]];refine PO ?_;refine OL.act rfl (aML bN cJ aL (i:=a+k) (a:=lW f a b k (b+k)) rfl BYS rfl rfl ho BYO λw2 eB kT qO=>WL.nil ?_);refine PO ?_;refine OL.act rfl (aML bN cJ aL (i:=b+k) (a:=lW f a b k (a+k)) rfl BYS rfl rfl kT BYO λw3 iE yA EL=>WL.nil ?_);refine OL.nil (hK _ _ ?_);clear hK K;have sB:fP w3 B g n cap (lW f a b (k+1)):=yA.congr λj _=>by
   rw[<-Jc f BYO,<-wO (lW f a b k) (a+k) (b+k) BYO]
  refine aB ?_;exact aMF (k+1) (m-(k+1)) BYO ⟨BYO,rfl,sB,aU (aU (aU hg (cP cA _)) eB) iE⟩ aJA
 .obtain rfl:k=m:=BYO;refine aB ?_;exact aMt rfl ⟨ho,hg⟩
def Jg(g n cap B a m b:Nat)(f:Nat->It)(w:World)(ho:fP w B g n cap f)(WU:a<m)(zp:m<b)(hb:b<=n)(hn:n<=1000):
  Calls tz 110 #[.slice (some ⟨g,0,none⟩) n cap,.int .i64 a,.int .i64 m,.int .i64 b,dF] w
   (eT λ_ w'=>∃f',dN f f' a m b/\fP w' B g n cap f'/\w.grownBy w' (some g)):=by
 refine aI J7 rfl Tryz.ntmps110 rfl ?_;refine aB ?_;refine aPT (λ(i j:Nat) (_:Nat->It)=>[(0,.slice (some ⟨g,0,none⟩) n cap),(2,.int .i64 m),(4,dF),(10,.int .i64 i),(11,.int .i64 j)])
  (λi j f2 k wr=>1<=i/\1<=j/\i<=m/\m+j<=b/\k=i+j/\(∀g,dN f2 g (m-i) m (m+j)->dN f g a m b)/\fP wr B g n cap f2/\w.grownBy wr (some g)) (b-a) (m-a) (b-m) f
  ⟨BYO,BYO,BYO,BYO,BYO,λg h=>by rw[show m-(m-a)=a from BYO,show m+(b-m)=b from by omega]at h;exact h,ho,World.grownBy.refl _ _⟩ aJA ?_
 rintro i j f2 k wr ⟨hi,hj,CM,ie,rfl,xM,ho,hg⟩;refine aB ?_;refine aJ6 rfl (λh=>?_) (λh=>?_)
 .refine aB ?_;refine aJ6 rfl (λh2=>?_) (λh2=>?_)
  .refine aZ λK hK=>?_;refine aKQ UA (qW g n cap B (m-i) m j f2 _ ho BYO BYO hn) ?_;rintro _ w2 ⟨kT,eB⟩;refine aB ?_;exact aMq (i-j) j _ (i-j+j) BYO ⟨BYO,hj,BYO,ie,rfl,λg h=>xM g (aAp BYO CM h),kT,aU hg eB⟩ aJA
  .refine aZ λK hK=>?_;refine aKQ UA (qW g n cap B (m-i) (m+j-i) i f2 _ ho BYO BYO hn) ?_;rintro _ w2 ⟨kT,eB⟩;refine aB ?_;exact aMq i (j-i) _ (i+(j-i)) BYO ⟨hi,BYO,CM,BYO,rfl,λg h=>xM g (aAq BYO CM h),kT,aU hg eB⟩ aJA
 .obtain rfl:i=j:=BYO;refine aZ λK hK=>?_;refine aKQ UA (qW g n cap B (m-i) m i f2 _ ho BYO BYO hn) ?_;rintro _ w2 ⟨kT,eB⟩;refine aB ?_;exact aMt rfl ⟨_,xM _ (aAr f2 CM),kT,aU hg eB⟩
end Rk
namespace Rk
open Go Go.RowKit Go.Proofs
attribute [local irreducible] aA jH OpC WL QL WC WX OL RL TL
def AV(k:Nat):∀(g n cap B a m b:Nat) (f:Nat->It) (w:World),b-a<=k->fP w B g n cap f->a<m->m<b->b<=n->n<=1000->aJ f a m->aJ f m b->
  Calls tz 99 #[.slice (some ⟨g,0,none⟩) n cap,.int .i64 a,.int .i64 m,.int .i64 b,dF] w
   (eT λ_ w'=>∃f',aJ f' a b/\bP f f' a b/\fP w' B g n cap f'/\w.grownBy w' (some g)):=by
 induction k with
 |zero=>intro g n cap B a m b f w hk ho ham zp;omega
 |succ k ih=>
 intro g n cap B a m b f w hk ho ham zp hbn hn uP GN;refine aI ZQ rfl Tryz.ntmps99 rfl ?_;refine aB ?_;refine aJ6 rfl (λh=>?_) (λh=>?_)
 .obtain rfl:m=a+1:=BYO;refine IJ ?_;refine aOF (λi:Nat=>[(0,.slice (some ⟨g,0,none⟩) n cap),(1,.int .i64 a),(4,dF),(10,.int .i64 i)])
   (λi wr=>a+1<=i/\i<=b/\(a+1<i->(f (i-1)).1<(f a).1)/\(i<b->(f a).1<=(f i).1)/\fP wr B g n cap f/\w.grownBy wr (some g)) ?_ ?_
  .refine aB ?_;refine aMK (λi j:Nat=>[(0,.slice (some ⟨g,0,none⟩) n cap),(1,.int .i64 a),(4,dF),(10,.int .i64 i),(11,.int .i64 j)])
    (λi j q wr=>a+1<=i/\i<=j/\j<=b/\q=j-i/\(a+1<i->(f (i-1)).1<(f a).1)/\(j<b->(f a).1<=(f j).1)/\fP wr B g n cap f/\w.grownBy wr (some g)) (b-(a+1)) (a+1) b
    ⟨BYO,BYO,BYO,rfl,λh=>BYO,λh=>BYO,ho,World.grownBy.refl _ _⟩ aJA ?_
   rintro i j q wr ⟨hi,XH,ie,rfl,oP,ud,ho,hg⟩;refine aB ?_;refine aJ6 rfl (λh2=>?_) (λh2=>?_)
   .refine aB ?_;rw[show((i:Int)+j)/2=(((i+j)/2:Nat):Int) from by omega];generalize hh:(i+j)/2=h at*;refine aLh mixed BYK ?_;refine oD ?_;refine QL.call (λ_ _=>aOQ QI BYK rfl rfl rfl) rfl (λ_ hw=>lO (rP _ _ _) hw) ?_;refine oD ?_;refine QL.done λw2 bM=>?_;refine aB ?_;have kT:=ho.below bM;have eB:w.grownBy w2 (some g):=aU hg (cP bM _);refine aJ6 rfl (λh3=>?_) (λh3=>?_)
    .have h3:=nL.1 h3;refine aB ?_;exact aLm (h+1) j (j-(h+1)) BYO ⟨BYO,BYO,ie,rfl,λ_=>h3,ud,kT,eB⟩ aJA
    .have h3:¬(f h).1<(f a).1:=λhh=>h3 (nL.2 hh);refine aB ?_;exact aLm i h (h-i) BYO ⟨hi,BYO,BYO,rfl,oP,λ_=>BYO,kT,eB⟩ aJA
   .obtain rfl:i=j:=BYO;refine aB ?_;exact aMV i ⟨hi,ie,oP,ud,ho,hg⟩ aJA
  .rintro i wr ⟨hi,th,oP,ud,ho,hg⟩;refine aB ?_;refine aMK (λ(k:Nat) (_:Nat->It)=>[(0,.slice (some ⟨g,0,none⟩) n cap),(10,.int .i64 i),(13,.int .i64 k)])
    (λk f2 q wr=>a<=k/\k+1<=i/\q=i-1-k/\dN f f2 a (a+1) (k+1)/\fP wr B g n cap f2/\w.grownBy wr (some g)) (i-1-a) a f
    ⟨BYO,BYO,rfl,mb f a,ho,hg⟩ aJA ?_
   rintro k f2 q wr ⟨HT,uQ,rfl,xM,ho,hg⟩;refine aB ?_;refine aJ6 rfl (λh2=>?_) (λh2=>?_)
   .refine aB ?_;refine WC.ord [15,17] [(0,0),(1,0),(2,0),(3,0),(4,0),(5,0),(6,0),(7,0),(8,0),(10,0),(11,0),(12,0),(9,1),(13,1),(14,0),(15,2),(16,0),(17,2)] mixed BYK rfl BYK λK hK w1 cA fo=>?_;replace ho:=ho.heap fo;rw[show(λw':World=>w'.heap=wr.heap)=(λw'=>w'.heap=w1.heap) from by rw[fo]];refine PO ?_;refine OL.act rfl (aML bN cJ aL (i:=k) (a:=f2 (k+1)) rfl BYS rfl rfl ho BYO λw2 eB kT qO=>WL.nil ?_);refine PO ?_;refine OL.act rfl (aML bN cJ aL (i:=k+1) (a:=f2 k) rfl BYS rfl rfl kT BYO λw3 iE yA EL=>WL.nil ?_);refine OL.nil (hK _ _ ?_);clear hK K;have sB:fP w3 B g n cap (aP f2 k (k+1)):=yA.congr λj _=>by rw[<-wO f2 k (k+1) BYO]
    refine aB ?_;exact aLm (k+1) _ (i-1-(k+1)) BYO ⟨BYO,BYO,rfl,Tt xM HT,sB,aU (aU (aU hg (cP cA _)) eB) iE⟩ aJA
   .obtain rfl:i=k+1:=BYO;refine aB ?_;obtain⟨p1,p2⟩:=Tq (f:=f) (g:=f2) BYO th GN oP ud xM;exact aPe rfl ⟨f2,p1,p2,ho,hg⟩
 .refine aB ?_;refine aJ6 rfl (λh'=>?_) (λh'=>?_)
  .obtain rfl:b=m+1:=BYO;refine IJ ?_;refine aOF (λi:Nat=>[(0,.slice (some ⟨g,0,none⟩) n cap),(2,.int .i64 m),(4,dF),(14,.int .i64 i)])
    (λi wr=>a<=i/\i<=m/\(a<i->(f (i-1)).1<=(f m).1)/\(i<m->(f m).1<(f i).1)/\fP wr B g n cap f/\w.grownBy wr (some g)) ?_ ?_
   .refine aB ?_;refine aMK (λi j:Nat=>[(0,.slice (some ⟨g,0,none⟩) n cap),(2,.int .i64 m),(4,dF),(14,.int .i64 i),(15,.int .i64 j)])
     (λi j q wr=>a<=i/\i<=j/\j<=m/\q=j-i/\(a<i->(f (i-1)).1<=(f m).1)/\(j<m->(f m).1<(f j).1)/\fP wr B g n cap f/\w.grownBy wr (some g)) (m-a) a m
     ⟨BYO,BYO,BYO,rfl,λh=>BYO,λh=>BYO,ho,World.grownBy.refl _ _⟩ aJA ?_
    rintro i j q wr ⟨hi,XH,ie,rfl,oP,ud,ho,hg⟩;refine aB ?_;refine aJ6 rfl (λh2=>?_) (λh2=>?_)
    .refine aB ?_;rw[show((i:Int)+j)/2=(((i+j)/2:Nat):Int) from by omega];generalize hh:(i+j)/2=h at*;refine aLh mixed BYK ?_;refine oD ?_;refine QL.call (λ_ _=>aOQ QI BYK rfl rfl rfl) rfl (λ_ hw=>lO (rP _ _ _) hw) ?_;refine oD ?_;refine QL.done λw2 bM=>?_;refine aB ?_;have kT:=ho.below bM;have eB:w.grownBy w2 (some g):=aU hg (cP bM _);refine aPf rfl (λh3=>?_) (λh3=>?_)
     .have h3:¬(f m).1<(f h).1:=λhh=>h3 (nL.2 hh);refine aB ?_;exact aLm (h+1) j (j-(h+1)) BYO ⟨BYO,BYO,ie,rfl,λ_=>by rw[aHH];omega,ud,kT,eB⟩ aJA
     .have h3:=nL.1 h3;refine aB ?_;exact aLm i h (h-i) BYO ⟨hi,BYO,BYO,rfl,oP,λ_=>h3,kT,eB⟩ aJA
    .obtain rfl:i=j:=BYO;refine aB ?_;exact aMV i ⟨hi,ie,oP,ud,ho,hg⟩ aJA
   .rintro i wr ⟨hi,CM,oP,ud,ho,hg⟩;refine aB ?_;refine aMK (λ(k:Nat) (_:Nat->It)=>[(0,.slice (some ⟨g,0,none⟩) n cap),(14,.int .i64 i),(17,.int .i64 k)])
     (λk f2 q wr=>i<=k/\k<=m/\q=k-i/\dN f f2 k m (m+1)/\fP wr B g n cap f2/\w.grownBy wr (some g)) (m-i) m f
     ⟨BYO,BYO,rfl,Ou f m,ho,hg⟩ aJA ?_
    rintro k f2 q wr ⟨HT,uQ,rfl,xM,ho,hg⟩;refine aB ?_;refine aJ6 rfl (λh2=>?_) (λh2=>?_)
    .refine aB ?_;refine WC.ord [15,17] [(0,0),(1,0),(2,0),(3,0),(4,0),(5,0),(6,0),(7,0),(8,0),(10,0),(11,0),(12,0),(9,1),(13,1),(14,0),(15,2),(16,0),(17,2)] mixed BYK rfl BYK λK hK w1 cA fo=>?_;replace ho:=ho.heap fo;rw[show(λw':World=>w'.heap=wr.heap)=(λw'=>w'.heap=w1.heap) from by rw[fo]];refine PO ?_;refine OL.act rfl (aML bN cJ aL (i:=k) (a:=f2 (k-1)) rfl BYS rfl rfl ho BYO λw2 eB kT qO=>WL.nil ?_);refine PO ?_;refine OL.act rfl (aML bN cJ aL (i:=k-1) (a:=f2 k) rfl BYS rfl rfl kT BYO λw3 iE yA EL=>WL.nil ?_);refine OL.nil (hK _ _ ?_);clear hK K;have sB:fP w3 B g n cap (aP f2 k (k-1)):=yA.congr λj _=>by rw[<-wO f2 k (k-1) BYO]
     refine aB ?_;exact aLm (k-1) _ (k-1-i) BYO ⟨BYO,BYO,rfl,ZY xM BYO uQ,sB,aU (aU (aU hg (cP cA _)) eB) iE⟩ aJA
    .obtain rfl:i=k:=BYO;refine aB ?_;obtain⟨p1,p2⟩:=ZX (f:=f) (g:=f2) hi CM uP oP ud xM;exact aPe rfl ⟨f2,p1,p2,ho,hg⟩
  .refine aB ?_;rw[show((a:Int)+b)/2=(((a+b)/2:Nat):Int) from by omega];generalize rv:(a+b)/2=mid at*;have aGl:∃lo hi:Nat,(mid<m->lo=mid+m-b/\hi=mid)/\(¬mid<m->lo=a/\hi=m):=by
    by_cases h:mid<m
    .exact⟨_,_,λ_=>⟨rfl,rfl⟩,λh'=>absurd h h'⟩
    .exact⟨_,_,λh'=>absurd h' h,λ_=>⟨rfl,rfl⟩⟩
   obtain⟨lo,hi,WG,Xr⟩:=aGl;have hlh:a<=lo/\lo<=hi/\hi<=m/\hi<=mid/\mid+m<=b+lo/\m+hi<=mid+m:=by
    by_cases h:mid<m
    .obtain⟨rfl,rfl⟩:=WG h;omega
    .obtain⟨rfl,rfl⟩:=Xr h;omega
   refine IJ ?_;refine aOm ([(0,.slice (some ⟨g,0,none⟩) n cap),(1,.int .i64 a),(2,.int .i64 m),(3,.int .i64 b),(4,dF),(18,.int .i64 mid),(19,.int .i64 ((mid+m:Nat):Int)),(20,.int .i64 lo),(21,.int .i64 hi)]) (λwr=>wr=w) ?_ ?_
   .refine aB ?_;refine aJ6 rfl (λh2=>?_) (λh2=>?_)
    .obtain⟨e1,e2⟩:=WG BYO;refine aB ?_;exact aNf rfl aJA
    .obtain⟨e1,e2⟩:=Xr BYO;subst e1 e2;refine aB ?_;exact aNf rfl aJA
   .rintro w rfl;refine IJ ?_;refine aOF (λs:Nat=>[(0,.slice (some ⟨g,0,none⟩) n cap),(1,.int .i64 a),(2,.int .i64 m),(3,.int .i64 b),(4,dF),(18,.int .i64 mid),(19,.int .i64 ((mid+m:Nat):Int)),(20,.int .i64 s)])
     (λs wr=>lo<=s/\s<=hi/\(lo<s->(f (s-1)).1<=(f (mid+m-s)).1)/\(s<hi->(f (mid+m-1-s)).1<(f s).1)/\fP wr B g n cap f/\w.grownBy wr (some g)) ?_ ?_
    .refine aB ?_;refine aMK (λi j:Nat=>[(0,.slice (some ⟨g,0,none⟩) n cap),(1,.int .i64 a),(2,.int .i64 m),(3,.int .i64 b),(4,dF),(18,.int .i64 mid),(19,.int .i64 ((mid+m:Nat):Int)),(20,.int .i64 i),(21,.int .i64 j),(22,.int .i64 ((mid+m-1:Nat):Int))])
      (λi j q wr=>lo<=i/\i<=j/\j<=hi/\q=j-i/\(lo<i->(f (i-1)).1<=(f (mid+m-i)).1)/\(j<hi->(f (mid+m-1-j)).1<(f j).1)/\fP wr B g n cap f/\w.grownBy wr (some g)) (hi-lo) lo hi
      ⟨BYO,BYO,BYO,rfl,λh=>BYO,λh=>BYO,ho,World.grownBy.refl _ _⟩ aJA ?_
     rintro i j q wr ⟨Qz,XH,ie,rfl,hL,hH,ho,hg⟩;refine aB ?_;refine aJ6 rfl (λh2=>?_) (λh2=>?_)
     .refine aB ?_;rw[show((i:Int)+j)/2=(((i+j)/2:Nat):Int) from by omega];generalize hh:(i+j)/2=h at*;refine aLh mixed BYK ?_;refine oD ?_;refine QL.call (λ_ _=>aOQ QI BYK rfl rfl rfl) rfl (λ_ hw=>lO (rP _ _ _) hw) ?_;refine oD ?_;refine QL.done λw2 bM=>?_;refine aB ?_;have kT:=ho.below bM;have eB:w.grownBy w2 (some g):=aU hg (cP bM _);refine aPf rfl (λh3=>?_) (λh3=>?_)
      .have h3:¬(f (mid+m-1-h)).1<(f h).1:=λhh=>h3 (nL.2 hh);refine aB ?_;exact aLm (h+1) j (j-(h+1)) BYO ⟨BYO,BYO,ie,rfl,λ_=>by rw[aHH,show mid+m-(h+1)=mid+m-1-h from by omega];omega,hH,kT,eB⟩ aJA
      .have h3:=nL.1 h3;refine aB ?_;exact aLm i h (h-i) BYO ⟨Qz,BYO,BYO,rfl,hL,λ_=>h3,kT,eB⟩ aJA
     .obtain rfl:i=j:=BYO;refine aB ?_;exact aMV i ⟨Qz,ie,hL,hH,ho,hg⟩ aJA
    .rintro s wr ⟨hs3,hs4,hL,hH,ho,hg⟩;refine WC.seq ?_;refine aED ?_;refine WC.seq ?_;obtain⟨e,he⟩:∃e,e=mid+m-s:=⟨_,rfl⟩;have hse:mid+m=s+e:=BYO;have Qx:s<=m:=BYO;have hme:m<=e:=by
      by_cases h:mid<m
      .obtain⟨e1,e2⟩:=WG h;omega
      .obtain⟨e1,e2⟩:=Xr h;omega
     have heb:e<=b:=BYO;have c1:a<s->e<b->(f (s-1)).1<=(f e).1:=λh1 h2=>by
      rw[he];refine hL ?_;by_cases h:mid<m
      .obtain⟨e1,e2⟩:=WG h;omega
      .obtain⟨e1,e2⟩:=Xr h;omega
     have c2:s<m->m<e->(f (e-1)).1<(f s).1:=λh1 h2=>by
      have:=hH (by
       by_cases h:mid<m
       .obtain⟨e1,e2⟩:=WG h;omega
       .obtain⟨e1,e2⟩:=Xr h;omega)
      rw[show mid+m-1-s=e-1 from by omega]at this;exact this
     clear hL hH;refine aOF (λ_:Nat->It=>[(0,.slice (some ⟨g,0,none⟩) n cap),(1,.int .i64 a),(2,.int .i64 m),(3,.int .i64 b),(4,dF),(18,.int .i64 mid),(20,.int .i64 s),(24,.int .i64 e)])
      (λf2 wr=>dN f f2 s m e/\fP wr B g n cap f2/\w.grownBy wr (some g)) ?_ ?_
     .refine aZ λK hK=>?_;rw[<-he];by_cases hq:s<m/\m<e
      .rw[show decide ((s:Int)<(m:Int))=true from decide_eq_true BYO];refine aB ?_;refine aP4 rfl BYT ?_;refine aZ λK hK=>?_;refine aKQ J7 (Jg g n cap B s m e f _ ho hq.1 hq.2 BYO hn) ?_;rintro _ w2 ⟨f2,pT,kT,eB⟩;refine aB ?_;exact aMV f2 ⟨pT,kT,aU hg eB⟩ aJA
      .have xM:dN f f s m e:=by
        by_cases h:s=m
        .subst h;exact Jd _ _ _
        .obtain rfl:m=e:=BYO;exact Je _ _ _
       refine WL.guard rfl rfl (λh=>?_) (λh=>?_)
       all_goals
        refine aB ?_;refine aOU rfl (by first|rfl|(simp at h⊢;omega)) ?_;refine aB ?_;exact aMV f ⟨xM,ho,hg⟩ aJA
     .rintro f2 w2 ⟨pT,kT,eB⟩;obtain⟨q1,q2,q3,q4⟩:=Jf hse BYO Qx hme heb uP GN pT;have zz:∀{f3 f4:Nat->It},aJ f3 a mid->bP f2 f3 a mid->aJ f4 mid b->bP f3 f4 mid b->aJ f4 a b/\bP f f4 a b:=
       λp1 p2 p3 p4=>KB BYO Qx hme heb hse uP GN c1 c2 pT p2 p1 p4 p3
      refine WC.seq ?_;refine aOF (λ_:Nat->It=>[(0,.slice (some ⟨g,0,none⟩) n cap),(3,.int .i64 b),(4,dF),(18,.int .i64 mid),(24,.int .i64 e)])
       (λf3 wr=>aJ f3 a mid/\bP f2 f3 a mid/\fP wr B g n cap f3/\w.grownBy wr (some g)) ?_ ?_
      .refine aZ λK hK=>?_;by_cases hq:a<s/\s<mid
       .rw[show decide ((a:Int)<(s:Int))=true from decide_eq_true BYO];refine aB ?_;refine aP4 rfl BYT ?_;refine aZ λK hK=>?_;refine aKQ ZQ (ih g n cap B a s mid f2 _ BYO kT hq.1 hq.2 BYO hn q1 q2) ?_;rintro _ w3 ⟨f3,p1,p2,yA,iE⟩;refine aB ?_;exact aMV f3 ⟨p1,p2,yA,aU eB iE⟩ aJA
       .have hs3:aJ f2 a mid:=by
         by_cases h:a=s
         .subst h;exact q2
         .obtain rfl:s=mid:=BYO;exact q1
        refine WL.guard rfl rfl (λh=>?_) (λh=>?_)
        all_goals
         refine aB ?_;refine aOU rfl (by first|rfl|(simp at h⊢;omega)) ?_;refine aB ?_;exact aMV f2 ⟨hs3,bP.refl _ _ _,kT,eB⟩ aJA
      .rintro f3 w3 ⟨p1,p2,yA,iE⟩;refine aZ λK hK=>?_;by_cases hq:mid<e/\e<b
       .rw[show decide ((mid:Int)<(e:Int))=true from decide_eq_true BYO];refine aB ?_;refine aP4 rfl BYT ?_;refine aZ λK hK=>?_;refine aKQ ZQ (ih g n cap B mid e b f3 _ BYO yA hq.1 hq.2 hbn hn (q3.congr λi hi _=>p2.2 i (Or.inr hi)) (q4.congr λi hi _=>p2.2 i (Or.inr BYO))) ?_;rintro _ w4 ⟨f4,p3,p4,sB,kO⟩;refine aB ?_;obtain⟨z1,z2⟩:=zz p1 p2 p3 p4;exact aMt rfl ⟨f4,z1,z2,sB,aU iE kO⟩
       .obtain⟨z1,z2⟩:=zz (f4:=f3) p1 p2 (by
         by_cases h:mid=e
         .subst h;exact q4.congr λi hi _=>p2.2 i (Or.inr hi)
         .obtain rfl:e=b:=BYO;exact q3.congr λi hi _=>p2.2 i (Or.inr hi)) (bP.refl _ _ _)
        refine WL.guard rfl rfl (λh=>?_) (λh=>?_)
        all_goals
         refine aB ?_;refine aOU rfl (by first|rfl|(simp at h⊢;omega)) ?_;refine aB ?_;exact aMt rfl ⟨f3,z1,z2,yA,iE⟩
end Rk
namespace Rk
variable{f f':Nat->It}{bs n a:Nat}
def Blk(f:Nat->It)(bs n:Nat):Prop:=∀t,aJ f (t*bs) (min (t*bs+bs) n)
def xu(f:Nat->It)(bs n a:Nat):Prop:=∃T,a=T*(2*bs)/\(∀t,t<T->aJ f (t*(2*bs)) (t*(2*bs)+2*bs))/\∀t,2*T<=t->aJ f (t*bs) (min (t*bs+bs) n)
def Tu(h:Blk f bs n):xu f bs n 0:=⟨0,BYS,λt ht=>BYO,λt _=>h t⟩
def AW(T bs:Nat):T*(2*bs)=2*T*bs:=by rw[aDX 2 T,Nat.mul_assoc]
def succ_le{t T:Nat}(bs:Nat)(h:t<T):t*bs+bs<=T*bs:=by
 have:=aC1 bs (show t+1<=T from h);rw[aCL,aDH]at this;exact this
def mc(h:xu f bs n a)(hn:a+2*bs<=n):aJ f a (a+bs)/\aJ f (a+bs) (a+2*bs):=by
 obtain⟨T,rfl,_,h2⟩:=h;have e:=AW T bs;have q1:=h2 (2*T) BYO;have q2:=h2 (2*T+1) BYO;rw[aCL,aDH]at q2;rw[<-e]at q1 q2;exact⟨q1.sub (aAB _) BYO,q2.sub (aAB _) BYO⟩
def L8(h:xu f bs n a)(hs:aJ f' a (a+2*bs))(ho:∀i,(i<a\/a+2*bs<=i)->f' i=f i):xu f' bs n (a+2*bs):=by
 obtain⟨T,rfl,h1,h2⟩:=h;have e:=AW T bs;refine⟨T+1,by rw[aCL,aDH],λt ht=>?_,λt ht=>?_⟩
 .by_cases c:t=T
  .subst c;exact hs
  .have:=succ_le (2*bs) (show t<T by omega);exact(h1 t BYO).congr λi _ hi=>ho i (Or.inl BYO)
 .have:=aC1 bs ht;rw[show 2*(T+1)*bs=2*T*bs+2*bs from by rw[Nat.mul_add,aCL]]at this;exact(h2 t BYO).congr λi hi _=>ho i (Or.inr BYO)
def me(h:xu f bs n a)(hn:n<a+2*bs)(hm:a+bs<n):aJ f a (a+bs)/\aJ f (a+bs) n:=by
 obtain⟨T,rfl,_,h2⟩:=h;have e:=AW T bs;have q1:=h2 (2*T) BYO;have q2:=h2 (2*T+1) BYO;rw[aCL,aDH]at q2;rw[<-e]at q1 q2;exact⟨q1.sub (aAB _) BYO,q2.sub (aAB _) BYO⟩
def L9(h:xu f bs n a)(hm:n<=a+bs):aJ f a n:=by
 obtain⟨T,rfl,_,h2⟩:=h;have e:=AW T bs;have q1:=h2 (2*T) BYO;rw[<-e]at q1;exact q1.sub (aAB _) BYO
def Ov(h:xu f bs n a)(hn:n<a+2*bs)(ha:a<=n)(hs:aJ f' a n)(ho:∀i,i<a->f' i=f i):Blk f' (2*bs) n:=by
 obtain⟨T,rfl,h1,h2⟩:=h;intro t;rcases aFS t T with c|c|c
 .have:=succ_le (2*bs) c;exact((h1 t c).congr λi _ hi=>ho i BYO).sub (aAB _) BYO
 .subst c;exact hs.sub (aAB _) BYO
 .have:=succ_le (2*bs) c;intro i j hi XH hj;omega
def mf(h:Blk f bs n)(hn:n<=bs):aJ f 0 n:=by
 have:=h 0;rw[Nat.zero_mul]at this;exact this.sub (aAB _) BYO
def ZZ(f:Nat->It)(a:Nat):Prop:=∃T,a=T*20/\∀t,t<T->aJ f (t*20) (t*20+20)
def Ae(f:Nat->It):ZZ f 0:=⟨0,rfl,λt ht=>BYO⟩
def Jh(h:ZZ f a)(hs:aJ f' a (a+20))(ho:∀i,i<a->f' i=f i):ZZ f' (a+20):=by
 obtain⟨T,rfl,h1⟩:=h;refine⟨T+1,BYO,λt ht=>?_⟩;by_cases c:t=T
 .subst c;exact hs
 .exact(h1 t BYO).congr λi _ hi=>ho i BYO
def Tv(h:ZZ f a)(hn:n<a+20)(ha:a<=n)(hs:aJ f' a n)(ho:∀i,i<a->f' i=f i):Blk f' 20 n:=by
 obtain⟨T,rfl,h1⟩:=h;intro t;rcases aFS t T with c|c|c
 .exact((h1 t c).congr λi _ hi=>ho i BYO).sub (aAB _) BYO
 .subst c;exact hs.sub (aAB _) BYO
 .intro i j hi XH hj;omega
end Rk
namespace Rk
open Go Go.RowKit Go.Proofs
variable{n e:Nat}{f:Nat->It}
attribute [local irreducible] aA jH OpC WL QL WC WX OL RL
def wP(A:Option Addr)(n c:Nat)(f:Nat->It)(w:World)(hr:aE cB 2 w A n f)(hn:n<=1000):
  Calls tz 25 #[.slice A n c] w (eT λv w'=>mU w' w.heap.size v (aG f n)/\Below w.heap.size w w'):=by
 refine aI JQ rfl Tryz.ntmps25 rfl ?_;refine bB ?_;refine WC.cond rfl (λh=>?_) (λh=>?_)
 .have h0:n=0:=by
   rcases aCl n with h0|h0
   .exact h0
   .obtain⟨b,o,hA,_⟩:=hr h0;rw[hA]at h;cases h
  subst h0;refine bB ?_;exact aLV rfl rfl ⟨bT.nil _ _ _ _ _ _,Below.refl _ _⟩
 .refine lA λK hK=>?_;refine WL.lit (xs:=[]) (vs:=[]) aY aL rfl rfl BYS rfl rfl BYO λw1 fQ dM mP=>?_;refine bB ?_;have cA:=aC fQ;refine WL.append bN cJ BYO aY aL rfl rfl rfl (B:=w.heap.size) (bT.nil _ _ _ _ _ _) (hr.below cA) BYT (by simp[maxLen];omega) cA.size λv w2 row ho eB _ eE Mo=>?_;refine bB ?_;exact aLV rfl rfl ⟨by simpa using ho,cA.rM eB eE⟩
def gR(h:aH n f=0):n<=60:=by
 unfold aH at h;split at h
 .cases h
 .omega
def sY(h:aH n f=0):∀i,i<n->iR (f i)=true:=by
 unfold aH at h;split at h
 .cases h
 .split at h
  .rename_i h2;exact vM.1 h2
  .cases h
def eN:cI 0=.nilIface:=rfl
def bO(h:e≠0):cI e=.iface 68 (.int .i64 e):=by simp[cI,h]
end Rk
namespace Rk
open Go Go.RowKit Go.Proofs
attribute [local irreducible] aA jH OpC WL QL WC WX OL RL TL
def Ji(g n cap B:Nat)(f:Nat->It)(w:World)(ho:fP w B g n cap f)(hn:n<=1000):
  Calls tz 67 #[.slice (some ⟨g,0,none⟩) n cap,.int .i64 n,dF] w
   (eT λ_ w'=>∃f',aJ f' 0 n/\bP f f' 0 n/\fP w' B g n cap f'/\w.grownBy w' (some g)):=by
 refine aI ZO rfl Tryz.ntmps67 rfl ?_;refine aB ?_;refine aMK (λ(a:Nat) (_:Nat->It)=>[(0,.slice (some ⟨g,0,none⟩) n cap),(1,.int .i64 n),(2,dF),(6,.int .i64 ((20:Nat):Int)),(7,.int .i64 a),(8,.int .i64 ((a+20:Nat):Int))])
  (λa f2 q wr=>a<=n/\q=n-a/\ZZ f2 a/\bP f f2 0 n/\fP wr B g n cap f2/\w.grownBy wr (some g)) n 0 f ⟨BYO,rfl,Ae f,bP.refl _ _ _,ho,World.grownBy.refl _ _⟩ aJA ?_
 rintro a f2 q wr ⟨han,rfl,hF,hW,ho,hg⟩;refine aB ?_;refine aJ6 rfl (λh=>?_) (λh=>?_)
 .refine aZ λK hK=>?_;refine aKQ ZP (xV g n cap B a (a+20) f2 _ ho BYO BYO hn) ?_;rintro _ w2 ⟨f3,p1,p2,kT,eB⟩;refine aB ?_;exact aLm (a+20) f3 (n-(a+20)) BYO ⟨BYO,rfl,Jh hF p1 λi hi=>p2.2 i (Or.inl hi),hW.trans (p2.tT BYO BYO BYO),kT,aU hg eB⟩ aJA
 .refine aZ λK hK=>?_;refine aKQ ZP (xV g n cap B a n f2 _ ho BYO BYO hn) ?_;rintro _ w2 ⟨f3,p1,p2,kT,eB⟩;have aIB:=Tv hF BYO han p1 λi hi=>p2.2 i (Or.inl hi);have tl:=hW.trans (p2.tT BYO BYO BYO);have iE:=aU hg eB;clear hF hW hg eB p1 p2 ho h;refine aB ?_;refine aMK (λ(bs:Nat) (_:Nat->It)=>[(0,.slice (some ⟨g,0,none⟩) n cap),(1,.int .i64 n),(2,dF),(6,.int .i64 bs)])
   (λbs f2 q wr=>20<=bs/\bs<=2000/\q=n-bs/\Blk f2 bs n/\bP f f2 0 n/\fP wr B g n cap f2/\w.grownBy wr (some g)) (n-20) 20 f3 ⟨BYO,BYO,rfl,aIB,tl,kT,iE⟩ aJA ?_
  clear aIB tl iE kT f2 f3;rintro bs f2 q wr ⟨dM,iW,rfl,hF,hW,ho,hg⟩;refine aB ?_;refine aJ6 rfl (λh=>?_) (λh=>?_)
  .refine aB ?_;refine aMK (λ(a:Nat) (_:Nat->It)=>[(0,.slice (some ⟨g,0,none⟩) n cap),(1,.int .i64 n),(2,dF),(6,.int .i64 bs),(7,.int .i64 a),(8,.int .i64 ((a+2*bs:Nat):Int))])
    (λa f2 q wr=>a<=n/\q=n-a/\xu f2 bs n a/\bP f f2 0 n/\fP wr B g n cap f2/\w.grownBy wr (some g)) n 0 f2 ⟨BYO,rfl,Tu hF,hW,ho,hg⟩ aJA ?_
   clear hF hW ho hg f2;rintro a f2 q wr ⟨han,rfl,hM,hW,ho,hg⟩;refine aB ?_;refine aJ6 rfl (λh2=>?_) (λh2=>?_)
   .obtain⟨q1,q2⟩:=mc hM BYO;refine aZ λK hK=>?_;refine aKQ ZQ (AV _ g n cap B a (a+bs) (a+2*bs) f2 _ (aAB _) ho BYO BYO BYO hn q1 q2) ?_;rintro _ w2 ⟨f3,p1,p2,kT,eB⟩;refine aB ?_;exact aLm (a+2*bs) f3 (n-(a+2*bs)) BYO ⟨BYO,rfl,L8 hM p1 p2.2,hW.trans (p2.tT BYO BYO BYO),kT,aU hg eB⟩ aJA
   .refine aB ?_;refine aJ6 rfl (λh3=>?_) (λh3=>?_)
    .obtain⟨q1,q2⟩:=me hM BYO BYO;refine aZ λK hK=>?_;refine aKQ ZQ (AV _ g n cap B a (a+bs) n f2 _ (aAB _) ho BYO BYO BYO hn q1 q2) ?_;rintro _ w2 ⟨f3,p1,p2,kT,eB⟩;refine aB ?_;exact aLm (2*bs) f3 (n-2*bs) BYO ⟨BYO,BYO,rfl,Ov hM BYO han p1 λi hi=>p2.2 i (Or.inl hi),hW.trans (p2.tT BYO BYO BYO),kT,aU hg eB⟩ aJA
    .refine aB ?_;exact aLm (2*bs) f2 (n-2*bs) BYO ⟨BYO,BYO,rfl,Ov hM BYO han (L9 hM BYO) λi hi=>rfl,hW,ho,hg⟩ aJA
  .refine aB ?_;exact aMt rfl ⟨f2,mf hF BYO,hW,ho,hg⟩
end Rk
namespace Rk
open Go Go.RowKit Go.Proofs
attribute [local irreducible] jH OpC WL QL WC WX OL RL
def Jj(w:World)(a b:It):(binOp .eql 38 (.agg (cB a).toArray) (.agg (cB b).toArray)).run tz w=.ok (.bool (decide (a=b))) w:=by
 have hf:(tz.fieldsOf 38).toList.map (λf=>(f.name,f.type,f.offset))=[("Key",3,0),("Id",3,1)]:=BYK;have dI:tz.stoodInHeld 38=false:=BYK;rw[run_eql_struct,run_equalIn_agg _ _ _ _ _ Is dI];generalize (tz.fieldsOf 38).toList=l at hf⊢;rcases l with _|⟨f0,_|⟨f1,_|⟨f2,l⟩⟩⟩
 .cases hf
 .simp at hf
 .simp only[aC9,aG3,List.cons.injEq,aIq,and_true]at hf;obtain⟨⟨n0,t0,o0⟩,n1,t1,o1⟩:=hf;have hz:∀w,(Go.sizeOf 3).run tz w=.ok 1 w:=aN.size;have hi:tz.underlying 3=some (.int .i64):=BYK;obtain⟨a0,a1⟩:=a;obtain⟨b0,b1⟩:=b;by_cases h0:a0=b0<;>by_cases h1:a1=b1<;>
   simp[Op.eqFields,n0,n1,t0,t1,o0,o1,part,hz,cB,run_equalIn_int,hi,h0,h1,go_sem,aN.UC]
 .simp at hf
section
variable{E:Env}{w:World}{t:TypeId}{x y:Operand}
def aPG{a b:It}(hx:aM E x=some (.agg (cB a).toArray):=by with_unfolding_all exact rfl)(hy:aM E y=some (.agg (cB b).toArray):=by with_unfolding_all exact rfl):
  aA tz (.binOp .neq 38 x y 38) t E w (.bool (decide (a≠b))) w:=λρ hρ _ _ _ _=>by
 have hg:tz.eqGuardType tz.depth 38=false:=BYK;have h1:=Jj w a b;simp only[binOp]at h1;simp only[execOp,hρ _ _ hx,hρ _ _ hy];simp[run_eqGuard_agg _ _ _ _ _ _ _ hg];simp only[binOp];simp[go_sem]at h1⊢;generalize Sem.run tz (Op.equal _ _ _) w=r at h1⊢;cases r with
 |ok b' w'=>simp at h1;simp[h1]
 |halt x w'=>simp at h1
section
variable{ops:Array Oper}{K:Env->World->Prop}{N d_:Nat}{rest:List Oper}{pos:String}{after:Array Edge}{C:World->Prop}{R:Env->Prop}
end
end
end Rk
namespace Rk
open Go Go.RowKit Go.Proofs
attribute [local irreducible] aA jH OpC WL QL WC WX OL RL TL
def Ow(f:Nat->It)(n:Nat):iU f 0 n=aG f n:=by simp[iU,aG,aGz]
def KE(A:Option Addr)(c:Nat)(w:World):
  Calls tz 98 #[.slice A 0 c,.int .i64 0,.int .i64 0,dF] w (eT λ_ w'=>w'=w):=by
 refine aI ZP rfl Tryz.ntmps98 rfl ?_;refine aB ?_;refine aMP (λ_:Unit=>[(2,.int .i64 0),(8,.int .i64 ((1:Nat):Int))]) (λ_ _ wr=>wr=w) 0 () rfl aJA ?_;rintro _ q wr rfl;refine aB ?_;refine aOU rfl BYD ?_;refine aB ?_;exact aMt rfl rfl
def FH(A:Option Addr)(c:Nat)(w:World):
  Calls tz 67 #[.slice A 0 c,.int .i64 0,dF] w (eT λ_ w'=>w'=w):=by
 refine aI ZO rfl Tryz.ntmps67 rfl ?_;refine aB ?_;refine aMP (λ_:Unit=>[(0,.slice A 0 c),(1,.int .i64 0),(2,dF),(6,.int .i64 20),(7,.int .i64 0),(8,.int .i64 20)]) (λ_ _ wr=>wr=w) 0 () rfl aJA ?_;rintro _ q wr rfl;refine aB ?_;refine aOU rfl BYD ?_;refine aZ λK hK=>?_;refine aKQ ZP (KE A c _) ?_;rintro _ w2 rfl;refine aB ?_;refine aMP (λ_:Unit=>[(1,.int .i64 0),(6,.int .i64 20)]) (λ_ _ wr=>wr=w2) 0 () rfl aJA ?_;rintro _ q wr rfl;refine aB ?_;refine aOU rfl BYD ?_;refine aB ?_;exact aMt rfl rfl
def KF(v:Value)(l:List It)(B:Nat)(w:World)(ho:mU w B v l)(hl:l.length<=1000):
  Calls tz 26 #[v,dF] w (eT λ_ w'=>mU w' B v (bS l)/\∃row,w.grownBy w' row/\∀g,row=some g->B<=g):=by
 by_cases hl0:l=[]
 .subst hl0;obtain⟨A,c,rfl,_⟩:=ho.form;refine aI ZM rfl Tryz.ntmps26 rfl ?_;refine aZ λK hK=>?_;refine aKQ ZO (FH A c _) ?_;rintro _ w2 rfl;refine aB ?_;exact aMt rfl ⟨ho,none,World.grownBy.refl _ _,λg h=>by cases h⟩
 .obtain⟨g,cap,rfl,hS⟩:=ho.toS bN hl0;refine aI ZM rfl Tryz.ntmps26 rfl ?_;refine aZ λK hK=>?_;refine aKQ ZO (Ji g l.length cap B (lf l) _ hS hl) ?_;rintro _ w2 ⟨f',p1,p2,kT,eB⟩;refine aB ?_;refine aMt rfl ⟨?_,_,eB,λk hk=>by cases hk;exact hS.base⟩;have e:aG f' l.length=bS l:=by
   rw[<-Ow];refine vL (ZW.2 p1) ?_;have:=p2.1;rw[Ow,Ow,dE]at this;rw[Ow];exact this
  rw[<-e];have:=kT.toL bN;exact this
def KG(A:Option Addr)(n c:Nat)(f:Nat->It)(w:World)(hr:aE cB 2 w A n f):
  Calls tz 5 #[.slice A n c] w (eT λv w'=>Below w.heap.size w w'/\(aH n f≠0->v=.tuple #[.slice none 0 0,cI (aH n f)])/\
   (aH n f=0->∃v',v=.tuple #[v',.nilIface]/\mU w' w.heap.size v' (bS (aG f n)))):=by
 refine aI ld rfl Tryz.ntmps5 rfl ?_;refine aZ λK hK=>?_;refine aKQ xT (jJ A n c f _ hr) ?_;rintro v w1 ⟨rfl,cA⟩;by_cases he:aH n f=0
 .rw[he,eN];refine aB ?_;refine aJh rfl ?_;refine aZ λK hK=>?_;have hn:=gR he;refine aKQ JQ (wP A n c f _ (hr.below cA) BYO) ?_;rintro v w2 ⟨kT,bM⟩;refine aZ λK hK=>?_;refine aKQ ZM (KF v _ _ _ kT (by rw[aF];omega)) ?_;rintro _ w3 ⟨yA,row,iE,eE⟩;refine aB ?_;refine aLe rfl rfl rfl ⟨?_,λh=>absurd he h,λ_=>⟨v,rfl,yA.lower cA.size⟩⟩;exact(cA.tr bM).rM iE λk hk=>aBS cA.size (eE k hk)
 .rw[bO he];refine aB ?_;refine aLO rfl ?_;refine aB ?_;exact aLe rfl rfl rfl ⟨cA,λ_=>by rw[bO he],λh=>absurd h he⟩
end Rk
namespace Rk
open Go Go.RowKit Go.Proofs
variable{c:Nat}
section
variable{E:Env}{w:World}{t:TypeId}{s x:Operand}
def aR3{A A':Option Addr}(hs:aM E s=some (.slice A' 0 0))(hx:aM E x=some (.slice A 0 c)):aA tz (.call {callee:=.builtin .append,args:= #[s,x],argTypes:= #[22,22]}) t E w (.slice A' 0 0) w:=λρ hρ _ _ _ _=>by
 have h:=tQ (w:=w) aY aL A' c A t;simp[execOp,resolve,hρ _ _ hs,hρ _ _ hx,invoke,builtin,h]
end
attribute [local irreducible] aA jH OpC WL QL WC WX OL RL TL
def aAs(e:TypeId)(w:World)(B:Nat)(v:Value):Prop:=v=.slice none 0 0\/∃g,v=.slice (some ⟨g,0,none⟩) 0 0/\B<=g/\∃cs fz,w.heap[g]?=some (.cells cs e fz)
abbrev M0:=aAs 38
def Jk(A:Option Addr)(c:Nat)(w:World):
  Calls tz 25 #[.slice A 0 c] w (eT λv w'=>M0 w' w.heap.size v/\Below w.heap.size w w'):=by
 refine aI JQ rfl Tryz.ntmps25 rfl ?_;refine aB ?_;refine WC.cond rfl (λh=>?_) (λh=>?_)
 .refine aB ?_;exact aLV rfl rfl ⟨.inl rfl,Below.refl _ _⟩
 .refine aZ λK hK=>?_;refine WL.lit (xs:=[]) (vs:=[]) aY aL rfl rfl BYS rfl rfl BYO λw1 fQ dM mP=>?_;refine aB ?_;have cA:=aC fQ;refine WL.step (aR3 rfl rfl) rfl ?_;refine aB ?_;exact aLV rfl rfl ⟨.inr ⟨_,rfl,aAB _,_,_,dM⟩,cA⟩
def GR(A:Option Addr)(c:Nat)(w:World):
  Calls tz 26 #[.slice A 0 c,dF] w (eT λ_ w'=>w'=w):=by
 refine aI ZM rfl Tryz.ntmps26 rfl ?_;refine aZ λK hK=>?_;refine aKQ ZO (FH A c _) ?_;rintro _ w2 rfl;refine aB ?_;exact aMt rfl rfl
def KH(A:Option Addr)(c:Nat)(f:Nat->It)(w:World):
  Calls tz 5 #[.slice A 0 c] w (eT λv w'=>(∃v',v=.tuple #[v',.nilIface]/\M0 w' w.heap.size v')/\Below w.heap.size w w'):=by
 refine aI ld rfl Tryz.ntmps5 rfl ?_;refine aZ λK hK=>?_;refine aKQ xT (jJ A 0 c f _ (aE.zero _ _ _ _ _)) ?_;rintro v w1 ⟨rfl,cA⟩;rw[show aH 0 f=0 from rfl,eN];refine aB ?_;refine aJh rfl ?_;refine aZ λK hK=>?_;refine aKQ JQ (Jk A c _) ?_;rintro v w2 ⟨he,bM⟩;obtain⟨A2,rfl,he⟩:∃A2,v=.slice A2 0 0/\M0 w2 w.heap.size v:=by
  rcases he with rfl|⟨g,rfl,h1,h2⟩
  .exact⟨_,rfl,.inl rfl⟩
  .exact⟨_,rfl,.inr ⟨g,rfl,aBS cA.size h1,h2⟩⟩
 refine aZ λK hK=>?_;refine aKQ ZM (GR A2 0 _) ?_;rintro _ w3 rfl;refine aB ?_;exact aLe rfl rfl rfl ⟨⟨_,rfl,he⟩,cA.tr bM⟩
def Tw(A:Option Addr)(c:Nat)(f:Nat->It)(w:World):
  Calls tz 5 #[.slice A 0 c] w (eT λv w'=>∃v',v=.tuple #[v',.nilIface]/\M0 w' w.heap.size v'):=(KH A c f w).mono λe w' h=>by
 cases e<;>first|exact h.elim|exact h.1
end Rk
namespace Rk
open Go Go.RowKit
variable{c:Nat}
section
variable{P:Program}{ops:Array Oper}{K:Env->World->Prop}{N d:Nat}{E:Env}{w:World}{rest:List Oper}{st e:TypeId}{agg:Bool}{k bytes:Nat}{z:Value}{t:TypeId}{pos:String}{after:Array Edge}{lo ca:Operand}
def aR4{α:Type}(enc:α->List Value){kl kc:IntKind}(ht:P.underlying st=some (.slice e))(ty:Ty P e agg k bytes z)(hd:Nat.blt d N=true)(hl:aM E lo=some (.int kl 0))(hc:aM E ca=some (.int kc (c:Int)))
  (hb:bytes*c<=281474976710656)(hm:c<=maxLen)
  (h:∀w',bT enc k e w' w.heap.size (.slice (some ⟨w.heap.size,0,none⟩) 0 c) []->w.grownBy w' none->WL P ops K N ((d,.slice (some ⟨w.heap.size,0,none⟩) 0 c)::E) rest w'):
  WL P ops K N E (⟨some d,.makeSlice st lo ca,t,pos,after,none⟩::rest) w:=by
 obtain⟨i,hi,hz,oC,HA⟩:=ty.info;obtain⟨w',r1,r2,r3⟩:=run_make_own (P:=P) w w.heap.size st e i z k ht hi hz oC kl kc c (by rw[HA];exact hb) hm (aAB _);refine WL.step (w':=w') (v:=.slice (some ⟨w.heap.size,0,none⟩) 0 c) (λρ hρ _ _ _ _=>?_) hd (h w' ?_ r3)
 .simp[execOp,hρ _ _ hl,hρ _ _ hc,r1]
 .exact aOv r2
end
variable{g n:Nat}
structure bF(w w':World)(F F':Nat->Prop):Prop where
 os:w'.os=w.os
 tape:w'.tape=w.tape
 output:w'.output=w.output
 size:w.heap.size<=w'.heap.size
 block:∀k,k<w.heap.size->¬F k->w'.heap[k]?=w.heap[k]?
 next:∀g,F' g->(F g\/w.heap.size<=g)/\g<w'.heap.size
def Apart(F G:Nat->Prop):Prop:=∀g,F g->G g->False
def one(g:Nat):Nat->Prop:=λk=>k=g
def pK(v:Value):Nat->Prop:=λk=>v.ownBlock=some k
section
variable{w w' j0 w0:World}{F F' F'' G:Nat->Prop}
def Apart.symm(h:Apart F G):Apart G F:=λg a b=>h g b a
def bF.trans(h:bF w w' F F')(k:bF w' j0 F' F''):bF w j0 F F'':=
 ⟨k.os.trans h.os,k.tape.trans h.tape,k.output.trans h.output,aBS h.size k.size,
  λg hg hf=>(k.block g (aAx hg h.size) (λei=>by rcases(h.next g ei).1 with h1|h1;exact hf h1;omega)).trans (h.block g hg hf),
  λg hg=>⟨by rcases(k.next g hg).1 with h1|h1;exact(h.next g h1).1;exact .inr (aBS h.size h1),(k.next g hg).2⟩⟩
def bF.refl(hF:∀g,F g->g<w.heap.size):bF w w F F:=⟨rfl,rfl,rfl,aAB _,λ_ _ _=>rfl,λg hg=>⟨.inl hg,hF g hg⟩⟩
def aLX(h:Below w.heap.size w w')(hF:∀g,F g->g<w.heap.size):bF w w' F F:=⟨h.os,h.tape,h.output,h.size,λk hk _=>h.block k hk,λg hg=>⟨.inl hg,aAx (hF g hg) h.size⟩⟩
def bF.below(h:bF w w' F F')(hb:Below w0.heap.size w0 w)(hF:∀g,F g->w0.heap.size<=g):Below w0.heap.size w0 w':=
 ⟨h.os.trans hb.os,h.tape.trans hb.tape,h.output.trans hb.output,aBS hb.size h.size,λk hk=>(h.block k (aAx hk hb.size) (λhf=>by have:=hF k hf;omega)).trans (hb.block k hk)⟩
def bF.apart(h:bF w w' F F')(ha:Apart F G)(hG:∀g,G g->g<w.heap.size):Apart F' G:=λg hf hg=>by
 rcases(h.next g hf).1 with h1|h1
 .exact ha g h1 hg
 .have:=hG g hg;omega
def bF.lt(h:bF w w' F F')(hG:∀g,G g->g<w.heap.size):∀g,G g->g<w'.heap.size:=λg hg=>aAx (hG g hg) h.size
def bF.other(h:bF w w' F F')(ha:Apart F G)(hG:∀g,G g->g<w.heap.size):∀k,G k->w'.heap[k]?=w.heap[k]?:=λk hk=>h.block k (hG k hk) (λhf=>ha k hf hk)
def bF.grown{row:Option Nat}{v v':Value}(hg:w.grownBy w' row)(eE:row=none\/row=v.ownBlock)(XO:∀g,v'.ownBlock=some g->(v.ownBlock=some g\/w.heap.size<=g)/\g<w'.heap.size):bF w w' (pK v) (pK v'):=
 ⟨hg.os,hg.tape,hg.output,hg.size,λk hk hn=>hg.block k hk (by
  rcases eE with e|e
  .rw[e];simp
  .rw[e];exactλe2=>hn e2.symm),λg hf=>XO g hf⟩
def bF.one(hg:w.grownBy w' (some g))(hl:g<w.heap.size):bF w w' (Rk.one g) (Rk.one g):=
 ⟨hg.os,hg.tape,hg.output,hg.size,λk hk hn=>hg.block k hk (λe=>hn (by injection e)),λk hk=>by
  have:k=g:=hk;subst this;exact⟨.inl rfl,aAx hl hg.size⟩⟩
end
section
variable{α:Type}{enc:α->List Value}{k:Nat}{e:TypeId}{w w':World}{B:Nat}{v:Value}{l:List α}{F F':Nat->Prop}
def bT.other(h:bT enc k e w B v l)(hb:∀g,v.ownBlock=some g->w'.heap[g]?=w.heap[g]?):bT enc k e w' B v l:=by
 refine⟨h.1,?_⟩;rcases h.2 with hn|⟨g,cap,cur,rfl,hB,OY,rest⟩
 .exact .inl hn
 .exact .inr ⟨g,cap,cur,rfl,hB,by rw[hb g (by simp[Value.ownBlock])];exact OY,rest⟩
def bT.dG(h:bT enc k e w B v l)(hc:bF w w' F F')(ha:Apart F (pK v))(hG:∀g,v.ownBlock=some g->g<w.heap.size):bT enc k e w' B v l:=h.other (hc.other ha hG)
def Bk.dG{t:TypeId}{cs:List Value}(h:Bk w g t cs)(hc:bF w w' F F')(ha:¬F g):Bk w' g t cs:=(hc.block g h.lt ha).trans h
def aE.dG{A:Option Addr}{f:Nat->α}(h:aE enc k w A n f)(hc:bF w w' F F')(ha:∀p,A=some p->¬F p.block):aE enc k w' A n f:=λhn=>by
 obtain⟨b,o,h1,h2,h3⟩:=h hn;exact⟨b,o,h1,aAx h2 hc.size,λi hi j u hu=>by rw[fB (hc.block b h2 (ha _ h1))];exact h3 i hi j u hu⟩
end
inductive Tm|fin|pure(i:Nat)(t:Tm)|read(i:Nat)(t:Tm)|act(i:Nat)(t:Tm)|last(i:Nat)(t:Tm)|fork(i:Nat)(t:Tm)(j:Nat)(u:Tm)
def Tm.depth:Tm->Nat
 | .fin=>0
 | .pure _ t=>t.depth+1
 | .read _ t=>t.depth+1
 | .act _ t=>t.depth+1
 | .last _ t=>t.depth+1
 | .fork _ t _ _=>t.depth+1
def BB(md:Region.Mode)(ops:Array Oper)(xs:List Nat):Tm->Array Bool->Bool
 | .fin,L=>(Region.ready md ops L).isEmpty
 | .pure i t,L=>Region.free md ops L i&&(Region.ready md ops L).contains i&& !xs.contains i&&BB md ops xs t (L.setIfInBounds i true)
 | .read i t,L=>Region.free md ops L i&&(Region.ready md ops L).contains i&& !xs.contains i&&(xs.all λx=>UB md ops x i&& !L.getD x false)&&BB md ops xs t (L.setIfInBounds i true)
 | .act i t,L=>(Region.ready md ops L==[i])&&BB md ops xs t (L.setIfInBounds i true)
 | .last i t,L=>(Region.ready md ops L==[i])&&xs.contains i&&decide (i<L.size)&&BB md ops xs t (L.setIfInBounds i true)
 | .fork i t j u,L=>(Region.ready md ops L==[i,j])&&(t.depth==u.depth)&&BB md ops xs t (L.setIfInBounds i true)&&BB md ops xs u (L.setIfInBounds j true)
def Bh(P:Program)(ops:Array Oper)(H:World->Prop)(Q:Exit->Act->World->Prop):Tm->Act->World->Prop
 | .fin,a,w=>Q .normal a w
 | .pure i t,a,w=>∃o v,ops[i]?=some o/\YieldsIf P ops (λ_=>True) o v a/\Bh P ops H Q t (a.put o.dst v) w
 | .read i t,a,w=>∃o v,ops[i]?=some o/\H w/\YieldsIf P ops H o v a/\Bh P ops H Q t (a.put o.dst v) w
 | .act i t,a,w=>wpOp P ops Q i (λa w=>H w/\Bh P ops H Q t a w) a w
 | .last i t,a,w=>wpOp P ops Q i (λa w=>Bh P ops H Q t a w) a w
 | .fork i t j u,a,w=>wpOp P ops Q i (λa w=>H w/\Bh P ops H Q t a w) a w/\wpOp P ops Q j (λa w=>H w/\Bh P ops H Q u a w) a w
section
variable{P:Program}{ops:Array Oper}{Q:Exit->Act->World->Prop}{md:Region.Mode}{H:World->Prop}{xs:List Nat}
def VA(hs:Region.noSelect ops=true)(hQ:∀c a b w,Q (.panic c) a w->Q (.panic c) b w):∀(t:Tm) (L:Array Bool) (a:Act) (w:World),BB md ops xs t L=true->(pB xs L\/H w)->
  Bh P ops H Q t a w->wpAnyS P md ops Q xs H t.depth L a w:=by
 intro t;induction t with
 |fin=>
  intro L a w bY _ h;simp only[BB,aH6]at bY;exact⟨bY,h⟩
 |pure i t ih=>
  intro L a w bY hS h;simp only[BB,aBg]at bY;obtain⟨o,v,ho,hy,hr⟩:=h;have af:i∉xs:=by simpa using bY.1.2
  exact FE ho (Region.noSelect_spec hs) (λc a w h=>hQ c _ _ w h) af _ L a w (Region.free_spec ho bY.1.1.1) (by simpa using bY.1.1.2) hy hS
   (ih _ _ w bY.2 (hS.imp (λ⟨x,hx,hl⟩=>⟨x,hx,getD_set_true hl⟩) id) hr)
 |read i t ih=>
  intro L a w bY hS h;simp only[BB,aBg]at bY;obtain⟨o,v,ho,hH,hy,hr⟩:=h;have af:i∉xs:=by simpa using bY.1.1.2
  have fM:=aCJ.1 bY.1.2;have hna:¬pB xs L:=by
   rintro⟨x,hx,hl⟩;have:=fM x hx;simp only[aBg,aDj]at this;rw[this.2]at hl;cases hl
  refine vJ ho (Region.noSelect_spec hs) (λc a w h=>hQ c _ _ w h) af (λx hx ox td=>?_) _ L a w (Region.free_spec ho bY.1.1.1.1) (by simpa using bY.1.1.1.2) hy hna hH
   (ih _ _ w bY.2 (.inr hH) hr)
  have:=fM x hx;simp only[aBg]at this;have hw:=this.1;simp only[UB,td]at hw;obtain⟨e,he,hb⟩:=Array.any_eq_true'.1 hw;simp only[aBg,beq_iff_eq]at hb;exact⟨e,he,hb.1,hb.2⟩
 |act i t ih=>
  intro L a w bY hH h;simp only[BB,aBg,beq_iff_eq]at bY;refine⟨λh0=>absurd (bY.1.symm.trans h0) BYS,λj hj=>?_⟩;rw[bY.1]at hj;obtain rfl:=aCj.1 hj;exact wpOp_mono (λa' w' h3=>⟨.inr h3.1,ih _ a' w' bY.2 (.inr h3.1) h3.2⟩) h
 |last i t ih=>
  intro L a w bY hH h;simp only[BB,aBg,beq_iff_eq,decide_eq_true_eq]at bY;refine⟨λh0=>absurd (bY.1.1.1.symm.trans h0) BYS,λj hj=>?_⟩;rw[bY.1.1.1]at hj;obtain rfl:=aCj.1 hj;have hx:j∈xs:=by simpa using bY.1.1.2
  have az:pB xs (L.setIfInBounds j true):=⟨j,hx,by simp[bY.1.2]⟩;exact wpOp_mono (λa' w' h3=>⟨.inl az,ih _ a' w' bY.2 (.inl az) h3⟩) h
 |fork i t j u iht ihu=>
  intro L a w bY hH h;simp only[BB,aBg,beq_iff_eq]at bY;refine⟨λh0=>absurd (bY.1.1.1.symm.trans h0) BYS,λk hk=>?_⟩;rw[bY.1.1.1]at hk;simp only[aBI,aDU,or_false]at hk;rcases hk with rfl|rfl
  .exact wpOp_mono (λa' w' h3=>⟨.inr h3.1,iht _ a' w' bY.1.2 (.inr h3.1) h3.2⟩) h.1
  .exact wpOp_mono (λa' w' h3=>⟨.inr h3.1,by have:=ihu _ a' w' bY.2 (.inr h3.1) h3.2;rw[<-bY.1.1.2]at this;exact this⟩) h.2
end
def TM(P:Program)(ops:Array Oper)(H:World->Prop)(K:Env->World->Prop)(N:Nat)(E:Env)(t:Tm)(w:World):Prop:=∀a,Ag a N E->Bh P ops H (Fin K N) t a w
section
variable{P:Program}{l:List Oper}{K:Env->World->Prop}{H:World->Prop}{N:Nat}{E:Env}{w:World}{t u:Tm}{i j:Nat}{o o1:Oper}
def TM.fin(h:K E w):TM P l.toArray H K N E .fin w:=λ_ ha=>⟨rfl,E,ha,h⟩
def TM.pure(lJ:pC l i=some o)(h:RL P l.toArray (λ_=>True) (λE'=>TM P l.toArray H K N E' t w) N E o):TM P l.toArray H K N E (.pure i t) w:=by
 have ho:=pD lJ;intro a ha;obtain⟨v,hy,E',uL,hr⟩:=h a ha;exact⟨o,v,ho,hy,hr _ uL⟩
def TM.read(hH:H w)(lJ:pC l i=some o)(h:RL P l.toArray H (λE'=>TM P l.toArray H K N E' t w) N E o):TM P l.toArray H K N E (.read i t) w:=by
 have ho:=pD lJ;intro a ha;obtain⟨v,hy,E',uL,hr⟩:=h a ha;exact⟨o,v,ho,hH,hy,hr _ uL⟩
def TM.act(ho:pC l i=some o)(h:WL P l.toArray (λE' w'=>H w'/\TM P l.toArray H K N E' t w') N E [o] w):TM P l.toArray H K N E (.act i t) w:=
 jZ ho (λ_ _ _ ha h=>⟨h.1,h.2 _ ha⟩) h
def TM.last(ho:pC l i=some o)(h:WL P l.toArray (λE' w'=>TM P l.toArray H K N E' t w') N E [o] w):TM P l.toArray H K N E (.last i t) w:=
 jZ ho (λ_ _ _ ha h=>h _ ha) h
def TM.fork(ho:pC l i=some o)(Xp:pC l j=some o1)(h:WL P l.toArray (λE' w'=>H w'/\TM P l.toArray H K N E' t w') N E [o] w)
  (h1:WL P l.toArray (λE' w'=>H w'/\TM P l.toArray H K N E' u w') N E [o1] w):TM P l.toArray H K N E (.fork i t j u) w:=
 λa ha=>⟨jZ ho (λ_ _ _ ha h=>⟨h.1,h.2 _ ha⟩) h a ha,jZ Xp (λ_ _ _ ha h=>⟨h.1,h.2 _ ha⟩) h1 a ha⟩
def aLo(h:RL P l.toArray (λ_=>True) (λE'=>TM P l.toArray H K N E' t w) N E o)(lJ:pC l i=some o:=by with_unfolding_all exact rfl):TM P l.toArray H K N E (.pure i t) w:=TM.pure lJ h
def aLq(h:RL P l.toArray H (λE'=>TM P l.toArray H K N E' t w) N E o)(hH:H w:=by first|assumption|rfl)(lJ:pC l i=some o:=by with_unfolding_all exact rfl):TM P l.toArray H K N E (.read i t) w:=TM.read hH lJ h
def WC.tm{id:Nat}{l:List Oper}{Q:Exit->Act->World->Prop}(H:World->Prop)(xs:List Nat)(t:Tm)(hm:P.follows .mixedOrders=true)(hs:Region.noSelect l.toArray=true)(hlen:t.depth=l.toArray.size)
  (bY:BB .any l.toArray xs t (Array.replicate l.toArray.size false)=true)(hH:∀w',Below w.heap.size w w'->w'.heap=w.heap->H w')
  (h:∀K:Env->World->Prop,(∀E w,WX Q .normal N E w->K E w)->∀w',Below w.heap.size w w'->w'.heap=w.heap->TM P l.toArray H K N E t w'):WC P Q N E (.region id l.toArray true) w:=by
 intro a ha;have hB:Below w.heap.size w {w with drawn:=w.drawn+1}:=⟨rfl,rfl,rfl,aAB _,λ_ _=>rfl⟩;have h1:=h (λE w=>WX Q .normal N E w) (λ_ _ h=>h) {w with drawn:=w.drawn+1} hB rfl a ha;have h2:=VA (H:=H) (Q:=Fin (λE w=>WX Q .normal N E w) N) hs (λc a b w h=>absurd h.1 BYS) t _ a {w with drawn:=w.drawn+1} bY (.inr (hH _ hB rfl)) h1;rw[hlen]at h2;refine wp_mono (wp_region_any (id:=id) (Q:=Fin (λE w=>WX Q .normal N E w) N) hm (sQ _ _ _ _ h2)) ?_;rintro e a' w' ⟨rfl,E',uL,hK⟩;exact hK a' uL
end
open Go.Proofs
variable{k bytes:Nat}{F':Nat->Prop}{z:Value}{te:TypeId}{cs:List Value}
section
variable{E:Env}{w:World}{t:TypeId}{x y:Operand}{p:Addr}
def aLz(hx:aM E x=some (.pointer (some p)):=by with_unfolding_all exact rfl):aA tz (.nilCheck x) t E w (.pointer (some p)) w:=aQ6 hx
section
variable{ops:Array Oper}{K:Env->World->Prop}{N d_:Nat}{rest:List Oper}{pos:String}{after:Array Edge}{C:World->Prop}{R:Env->Prop}
end
end
section
variable{ops:Array Oper}{K:Env->World->Prop}{R:Env->Prop}{N:Nat}{E:Env}{rest:List Oper}{w:World}{t:TypeId}{pos:String}{after:Array Edge}{d:Nat}{x:Operand}{j:Nat}{u:Value}
end
def hF(hp:Nat)(v:Value):Nat->Prop:=λk=>k=hp\/v.ownBlock=some k
section
variable{w w':World}{hp:Nat}{v v':Value}{F:Nat->Prop}{row:Option Nat}
def aLi(hg:w.grownBy w' (some g))(hF:F g)(hl:∀k,F k->k<w.heap.size):bF w w' F F:=
 ⟨hg.os,hg.tape,hg.output,hg.size,λk hk hn=>hg.block k hk (λe=>hn (by injection e with e;subst e;exact hF)),λk hk=>⟨.inl hk,aAx (hl k hk) hg.size⟩⟩
def bF.app(hg:w.grownBy w' row)(eE:row=none\/row=v.ownBlock)(XO:v'.ownBlock=v.ownBlock\/v'.ownBlock=some w.heap.size)(hl:hp<w.heap.size)(dD:∀g,v'.ownBlock=some g->g<w'.heap.size):bF w w' (hF hp v) (hF hp v'):=
 ⟨hg.os,hg.tape,hg.output,hg.size,λk hk hn=>hg.block k hk (by
  rcases eE with e|e
  .rw[e];simp
  .rw[e];exactλe2=>hn (.inr e2.symm)),λg hf=>by
  rcases hf with rfl|hf
  .exact⟨.inl (.inl rfl),aAx hl hg.size⟩
  .refine⟨?_,dD g hf⟩;rcases XO with e|e
   .exact .inl (.inr (e▸hf))
   .rw[e]at hf;injection hf with hf;exact .inr BYO⟩
def bF.fresh{w0:World}{r:Nat}(h:bF w0 w F F')(hg:w.grownBy w' (some r))(hr:w0.heap.size<=r):bF w0 w' F F':=
 ⟨hg.os.trans h.os,hg.tape.trans h.tape,hg.output.trans h.output,aBS h.size hg.size,λk hk hn=>(hg.block k (aAx hk h.size) BYT).trans (h.block k hk hn),λg hf=>⟨(h.next g hf).1,aAx (h.next g hf).2 hg.size⟩⟩
def bF.more{w0:World}(h:bF w0 w F F')(hb:Below w.heap.size w w'):bF w0 w' F F':=h.trans (aLX hb λk hk=>(h.next k hk).2)
def bF.stay(hc:bF w w' F F')(ha:¬F g)(hg:g<w.heap.size):¬F' g:=λhf=>by
 rcases(hc.next g hf).1 with h1|h1
 .exact ha h1
 .omega
end
section
variable{P:Program}{fn:Func}{S:Value->World->Prop}{N:Nat}{E:Env}{w:World}
def Pa{T:TypeId}(ty:Ty P T true k bytes z)(hb:Bk w g te cs)(hl:cs.length=k):
  (loadVar T ⟨g,0,none⟩).run P w=.ok (.agg cs.toArray) w:=by
 have h:=run_loadCells_list (P:=P) (w:=w) ⟨g,0,none⟩ cs (λj u hj=>by
  have:=hb.cell hj;unfold Addr.add;split
  .rename_i h0;subst h0;simpa using this
  .simpa using this)
 rw[hl]at h;simp only[loadCells]at h;simp[go_sem,loadVar,ty.UC,ty.size,h]
def aPg{s1:Nat}{T:TypeId}(ty:Ty P T true k bytes z)(hr:fn.results= #[.cell s1 T])(h1:look E s1=some (.pointer (some ⟨g,0,none⟩)))
  (hb:Bk w g te cs)(hl:cs.length=k)(h:S (.agg cs.toArray) w):WX (bodyPost P fn (eT S)) .ret N E w:=by
 intro a ha;have e:(results fn a.tmps).run P w=.ok (.agg cs.toArray) w:=by simp[results,hr,ha.at_ _ _ h1,asAddr,Pa ty hb hl]
 exact bodyPost_ret e ha.defers h
end
variable{j:Nat}
def iM{α:Type}(enc:α->List Value)(k:Nat)(e:TypeId)(w:World)(B:Nat)(v:Value)(l:List α):Prop:=
 (l=[]/\∃A,v=.slice A 0 0)\/∃g off cap cur,v=.slice (some ⟨g,off,none⟩) l.length cap/\B<=g/\Bk w g e cur/\off+cap*k<=cur.length/\l.length<=cap/\cap<=maxLen/\
  ∀i (h:i<l.length) j u,(enc l[i])[j]?=some u->cur[off+i*k+j]?=some u
section
variable{α:Type}{enc:α->List Value}{e:TypeId}{w w':World}{B:Nat}{v:Value}{l:List α}{row:Option Nat}{A:Option Addr}{F:Nat->Prop}
def iM.nil(enc:α->List Value)(k:Nat)(e:TypeId)(w:World)(B:Nat)(A:Option Addr):iM enc k e w B (.slice A 0 0) []:=.inl ⟨rfl,A,rfl⟩
def bT.toO(hk:∀x,(enc x).length=k)(h:bT enc k e w B v l):iM enc k e w B v l:=by
 rcases h.2 with⟨A,h1,h2⟩|⟨g,cap,cur,h1,h2,h3,h4,h5,h6,h7⟩
 .have hl:=aCQ h2;subst hl;exact .inl ⟨rfl,A,h1⟩
 .refine .inr ⟨g,0,cap,cur.toList,h1,h2,by simpa[Bk] using h3,by simpa using Nat.le_of_eq h6.symm,h4,h5,λi hi j u hu=>?_⟩;have hj:j<k:=by
   rcases aCD j k with hj|hj
   .exact hj
   .rw[aCU (by rw[hk];exact hj)]at hu;cases hu
  rw[<-pE hk l i j hi hj,<-h7,aGr]at hu;rw[aAn];split at hu
  .exact hu
  .cases hu
def iM.form(h:iM enc k e w B v l):∃A c,v=.slice A l.length c/\l.length<=c:=by
 rcases h with⟨rfl,A,rfl⟩|⟨g,off,cap,cur,rfl,_,_,_,hc,_⟩
 .exact⟨A,0,rfl,aAB _⟩
 .exact⟨_,_,rfl,hc⟩
def iM.other(h:iM enc k e w B v l)(hb:∀g,v.ownBlock=some g->w'.heap[g]?=w.heap[g]?):iM enc k e w' B v l:=by
 rcases h with hn|⟨g,off,cap,cur,rfl,hB,OY,rest⟩
 .exact .inl hn
 .exact .inr ⟨g,off,cap,cur,rfl,hB,(hb g (by simp[Value.ownBlock])).trans OY,rest⟩
def iM.blk(h:iM enc k e w B v l)(hl:l≠[]):∀g,v.ownBlock=some g->B<=g/\g<w.heap.size:=by
 intro g hg;rcases h with⟨rfl,_⟩|⟨g',off,cap,cur,rfl,hB,OY,_⟩
 .exact absurd rfl hl
 .simp[Value.ownBlock]at hg;subst hg;exact⟨hB,OY.lt⟩
def iM.below(h:iM enc k e w B v l)(hb:Below w.heap.size w w'):iM enc k e w' B v l:=by
 rcases h with hn|⟨g,off,cap,cur,rfl,hB,OY,rest⟩
 .exact .inl hn
 .exact .inr ⟨g,off,cap,cur,rfl,hB,OY.below hb,rest⟩
def iM.keep(h:iM enc k e w B v l)(hg:w.grownBy w' row)(cQ:v.ownBlock=none\/v.ownBlock≠row):iM enc k e w' B v l:=by
 rcases h with hn|⟨g,off,cap,cur,rfl,hB,OY,rest⟩
 .exact .inl hn
 .exact .inr ⟨g,off,cap,cur,rfl,hB,OY.keep hg (by simpa[Value.ownBlock,eq_comm] using cQ),rest⟩
def iM.bK [Inhabited α](h:iM enc k e w B (.slice A n c) l):n=l.length/\n<=c/\aE enc k w A n (lf l):=by
 rcases h with⟨rfl,A',h1⟩|⟨g,off,cap,cur,h1,h2,h3,h4,h5,h6,h7⟩
 .injection h1 with _ h1 h2;exact⟨h1,BYO,λhn=>BYO⟩
 .injection h1 with h1 hn hc;subst h1 hn hc;refine⟨rfl,h5,λhn=>⟨g,off,rfl,h3.lt,λi hi j u hu=>?_⟩⟩;rw[bU hi]at hu;exact h3.cell (h7 i hi j u hu)
def iM.from_(h:iM enc k e w B (.slice A n c) l)(hj:j<=n):iM enc k e w B (.slice (if c=j then A else A.map (·.add (j*k))) (n-j) (c-j)) (l.drop j):=by
 rcases h with⟨rfl,A',h1⟩|⟨g,off,cap,cur,h1,h2,h3,h4,h5,h6,h7⟩
 .injection h1 with h0 h1 h2;subst h1 h2;exact .inl ⟨BYS,A,by
   obtain rfl:j=0:=BYO;simp⟩
 .injection h1 with h1 hn hc;subst h1 hn hc;by_cases e:c=j
  .subst e;have:l.length=c:=BYO;exact .inl ⟨by simp[this],some ⟨g,off,none⟩,by rw[if_pos rfl,this];simp⟩
  .rw[if_neg e];refine .inr ⟨g,off+j*k,c-j,cur,?_,h2,h3,?_,BYT,BYO,λi hi j' u hu=>?_⟩
   .have:((⟨g,off,none⟩:Addr).add (j*k))=⟨g,off+j*k,none⟩:=by
     unfold Addr.add;split
     .rename_i e;rw[e];rfl
     .rfl
    simp[this]
   .have hle:j*k<=c*k:=aC1 _ BYO;have:(c-j)*k=c*k-j*k:=Nat.sub_mul _ _ _;omega
   .simp only[aC6]at hi;rw[List.getElem_drop]at hu;have:=h7 (j+i) BYO j' u hu;rw[aCL]at this;rw[<-this];congr 1;omega
def iM.to_(h:iM enc k e w B (.slice A n c) l)(hj:j<=n):iM enc k e w B (.slice A j c) (l.take j):=by
 rcases h with⟨rfl,A',h1⟩|⟨g,off,cap,cur,h1,h2,h3,h4,h5,h6,h7⟩
 .injection h1 with h0 h1 h2;subst h1 h2;exact .inl ⟨BYS,A,by
   obtain rfl:j=0:=BYO;rfl⟩
 .injection h1 with h1 hn hc;subst h1 hn hc;have e:(l.take j).length=j:=by rw[aDn];omega
  refine .inr ⟨g,off,c,cur,by rw[e],h2,h3,h4,by rw[e];omega,h6,λi hi j' u hu=>?_⟩;rw[List.getElem_take]at hu;exact h7 i BYO j' u hu
end
section
variable{P:Program}{ops:Array Oper}{K:Env->World->Prop}{N:Nat}{E:Env}{rest:List Oper}{w w':World}{op:Op}{t:TypeId}{pos:String}{after:Array Edge}{d d2:Nat}
 {dz:String}{MV:Array Edge}{t2:TypeId}{x y s:Operand}{v u z av:Value}{e st xt:TypeId}{agg:Bool}{k bytes:Nat}
 {α:Type}{enc:α->List Value}{l:List α}{f:Nat->α}{m c B:Nat}{A:Option Addr}{a:α}
def aOy(hk:∀x,(enc x).length=k)(h1:∀x,∀u∈enc x,u.oneCell'=true)(OW:0<k)(ht:P.underlying st=some (.slice e))(ty:Ty P e agg k bytes z)(hd:Nat.blt d N=true)
  (hs:aM E s=some v)(hx:aM E x=some (.slice A m c))(ho:iM enc k e w B v l)(hr:aE enc k w A m f)(hb:(l.length+m)*bytes<=140737488355328)(hlen:l.length+m<=maxLen)(hB:B<=w.heap.size)
  (h:∀v' w' row,iM enc k e w' B v' (l++aG f m)->w.grownBy w' row->(row=none\/row=v.ownBlock)->(∀g,row=some g->B<=g)->(v'.ownBlock=v.ownBlock\/∃g,v'.ownBlock=some g/\w.heap.size<=g)->WL P ops K N ((d,v')::E) rest w'):
  WL P ops K N E (⟨some d,.call {callee:=.builtin .append,args:= #[s,x],argTypes:= #[st,st]},t,pos,after,none⟩::rest) w:=by
 rcases ho with⟨rfl,A',rfl⟩|⟨g,off,cap,cur,rfl,NL,fF,rz,hlc,hcm,hc⟩
 .exact WL.append hk h1 OW ht ty hd hs hx (bT.nil enc k e w B A') hr hb hlen hB λv' w' row lJ hg eE GA hv=>h v' w' row (lJ.toO hk) hg eE GA (hv.imp id λe=>⟨_,e,aAB _⟩)
 .have lV:∃v' w' row,(Builtin.append_ #[st,st] t #[.slice (some ⟨g,off,none⟩) l.length cap,.slice A m c]).run P w=.ok v' w'/\iM enc k e w' B v' (l++aG f m)/\w.grownBy w' row/\(row=none\/row=some g)/\(∀g,row=some g->B<=g)/\
    (v'.ownBlock=some g\/∃g,v'.ownBlock=some g/\w.heap.size<=g):=by
   obtain⟨i,hi,hz,oC,HA⟩:=ty.info;rcases aCl m with h0|h0
   .subst h0;have hl0:l++aG f 0=l:=by simp[aG]
    rw[hl0];refine⟨_,w,none,?_,.inr ⟨g,off,cap,cur,rfl,NL,fF,rz,hlc,hcm,hc⟩,World.grownBy.refl w _,.inl rfl,λ_ h=>(by cases h),.inl rfl⟩;cases A<;>simp[Builtin.append_,run_underlying ht,Go.sizeOf,typeInfo,hi,Builtin.lenOf,Builtin.firstCells,loadCells,loadCellsFrom,storeCells,hlc]
   .obtain⟨b,o,rfl,hbl,FV⟩:=hr h0;have GG:=aQZ hk FV;have XK:∀u∈(aG f m).flatMap enc,u.oneCell'=true:=by
     intro u hu;obtain⟨x,_,hx⟩:=aGQ.1 hu;exact h1 x u hx
    have Xu:((aG f m).flatMap enc).length=m*k:=by rw[jY hk,aF]
    by_cases bj:l.length+m<=cap
    .have aCs:(l.length+m)*k<=cap*k:=aC1 _ bj;rw[aCL]at aCs;obtain⟨w',a1,a2,a3,a4⟩:=qH (P:=P) ((aG f m).flatMap enc) 0 (off+l.length*k) cur w fF XK (by rw[Xu];omega);have hfc:=run_firstCells_some (P:=P) w k m ⟨b,o,none⟩ m c _ Xu GG;rw[aDV]at a3;refine⟨.slice (some ⟨g,off,none⟩) (l.length+m) cap,w',some g,?_,.inr ⟨g,off,cap,_,by rw[aBh,aF],NL,a3,by rw[sS];exact rz,by rw[aBh,aF];exact bj,hcm,λi' uK j u hu=>?_⟩,a2,.inr rfl,λg' uA=>by injection uA with uA;omega,.inl rfl⟩
     .have EN:(⟨g,off,none⟩:Addr).add (l.length*k)=⟨g,off+l.length*k,none⟩:=by
       unfold Addr.add;split
       .rename_i e;rw[e];rfl
       .rfl
      simp[Builtin.append_,run_underlying ht,Go.sizeOf,typeInfo,hi,Builtin.lenOf,bj,oC,hfc,EN,a1]
     .have hj:j<k:=by
       rcases aCD j k with hj|hj
       .exact hj
       .rw[aCU (by rw[hk];exact hj)]at hu;cases hu
      rw[aBh,aF]at uK;rw[DJ _ _ _ _ (by rw[Xu];omega),Xu];by_cases dD:i'<l.length
      .have hle:(i'+1)*k<=l.length*k:=aC1 _ dD;rw[aCL,aDH]at hle;rw[if_neg BYO];rw[List.getElem_append_left dD]at hu;exact hc i' dD j u hu
      .have hle:l.length*k<=i'*k:=aC1 _ BYO;have OO:(i'+1)*k<=(l.length+m)*k:=aC1 _ BYO;rw[aCL,aDH,aCL]at OO;rw[if_pos BYO];have GH:(l++aG f m).length=l.length+m:=by simp[aG]
       rw[List.getElem_append_right BYO]at hu;have:=pE hk (aG f m) (i'-l.length) j (by rw[aF];omega) hj;rw[<-this]at hu;rw[<-hu]
       congr 1
       have:(i'-l.length)*k=i'*k-l.length*k:=Nat.sub_mul _ _ _;omega
    .have holds:∀j u,(l.flatMap enc)[j]?=some u->w.cell? ((⟨g,off,none⟩:Addr).add j)=some u:=by
      intro j u hu;have GH:=jY hk l;have hj:j<l.length*k:=by
       rcases aCD j (l.length*k) with hj|hj
       .exact hj
       .rw[aCU (by rw[GH];exact hj)]at hu;cases hu
      have hdiv:j/k<l.length:=by rw[aIV OW];exact hj
      have OK:=Nat.mod_lt j OW;have he:j=(j/k)*k+j % k:=by have:=Nat.div_add_mod j k;rw[aDX]at this;omega
      have Fg:(l.flatMap enc)[(j/k)*k+j % k]?=some u:=by rw[<-he];exact hu
      rw[pE hk l (j/k) (j % k) hdiv OK]at Fg;have:=fF.cell (hc _ hdiv _ u Fg);rw[show off+j/k*k+j % k=off+j from by omega]at this;unfold Addr.add;split
      .rename_i e;rw[e]at this;simpa using this
      .exact this
     obtain⟨v',w',r1,r2,r3⟩:=run_append_arg_grows (P:=P) w st t e i z k bytes ht hi hz oC HA ty.zsz OW ⟨g,off,none⟩ l.length cap (l.flatMap enc) (jY hk l) holds ⟨b,o,none⟩ m c _ Xu GG BYO hlen hb;have hO:bT enc k e w' w.heap.size v' (l++aG f m):=by
      have:=aOv r2;unfold bT;rw[aEZ,aBh,aF];exact this
     have cQ:l++aG f m≠[]:=λe=>by have:=congrArg List.length e;rw[aBh,aF]at this;simp at this;omega
     refine⟨v',w',none,r1,(hO.lower hB).toO hk,r3,.inl rfl,λ_ h=>(by cases h),.inr ?_⟩;rcases r2.2 with⟨_,h00⟩|⟨g',aRB,aQj,hv,uA,_⟩
     .omega
     .exact⟨g',by rw[hv];rfl,uA⟩
  obtain⟨v',w',row,r1,r2,r3,r3a,r3b,r4⟩:=lV;refine WL.step (w':=w') (v:=v') (λρ hρ _ _ _ _=>?_) hd (h v' w' row r2 r3 r3a r3b r4);simp[execOp,resolve,hρ _ _ hs,hρ _ _ hx,invoke,builtin,r1]
end
end Rk
namespace Rk
open Go Go.RowKit
variable{P:Program}{k bytes g:Nat}{z:Value}{te:TypeId}{cs:List Value}{w:World}
attribute [local irreducible] aA jH OpC WL QL WC WX OL RL TL
def Kk{T:TypeId}(ty:Ty P T true k bytes z)(hb:Bk w g te cs)(hl:cs.length=k):
  (loadVar T ⟨g,0,none⟩).run P w=.ok (.agg cs.toArray) w:=by
 have h:=run_loadCells_list (P:=P) (w:=w) ⟨g,0,none⟩ cs (λj u hj=>by
  have:=hb.cell hj;unfold Addr.add;split
  .rename_i h0;subst h0;simpa using this
  .simpa using this)
 rw[hl]at h;simp only[loadCells]at h;simp[go_sem,loadVar,ty.UC,ty.size,h]
def aNa{fn:Func}{S:Value->World->Prop}{N:Nat}{E:Env}{s1 s2 s3:Nat}{T:TypeId}{v2 v3:Value}(ty:Ty P T true k bytes z)
  (hr:fn.results= #[.cell s1 T,.tmp s2,.tmp s3])(h1:look E s1=some (.pointer (some ⟨g,0,none⟩)))(h2:look E s2=some v2)(h3:look E s3=some v3)
  (hb:Bk w g te cs)(hl:cs.length=k)(h:S (.tuple #[.agg cs.toArray,v2,v3]) w):WX (bodyPost P fn (eT S)) .ret N E w:=aTF hr h1 h2 h3 (Kk ty hb hl) h
end Rk
namespace Rk
open Go Go.RowKit
variable{j:Nat}
section
variable{P:Program}{E:Env}{w:World}{t:TypeId}{x y:Operand}{xt yt:TypeId}
def aPN{k:IntKind}(hx:aM E x=some (.int .i64 1))(hy:aM E y=some (.int k (j:Int)))(h:j<=62):aA P (.binOp .shl xt x y yt) t E w (.int .i64 ((2 ^ j:Nat):Int)) w:=λρ hρ _ _ _ _=>by
 have h1:IntKind.i64.wrap ((2:Int) ^ j)=((2 ^ j:Nat):Int):=by
  have h2:(2:Nat) ^ j<=2 ^ 62:=aDm BYO h;rw[show((2:Int) ^ j)=((2 ^ j:Nat):Int) from by simp];have h3:(2:Nat) ^ 62=4611686018427387904:=BYD;generalize (2:Nat) ^ j=q at*;exact wrap_i64 BYO
 simp[execOp,hρ _ _ hx,hρ _ _ hy,go_sem,eqGuard,shift_shl .i64 k 1 j BYO (by simp[IntKind.bits];omega),h1]
end
end Rk
