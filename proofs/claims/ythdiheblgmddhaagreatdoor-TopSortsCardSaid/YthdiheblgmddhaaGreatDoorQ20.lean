/- Part of the proof of TopSorts. -/
import Derived.Conc.TokenWalk
import Derived.Conc.WgGenN3
import Derived.Test.YthdiheblgmddhaaGreatDoorQ19
set_option linter.all false
set_option maxHeartbeats 8000000
set_option maxRecDepth 100000
namespace Rk
open Go Go.RowKit Go.Proofs
variable{w:World}{k c n:Nat}{A:Option Addr}{l:List It}{f:Nat->It}
def aS1{P:Program}{ops:Array Oper}{K:Env->World->Prop}{N d:Nat}{E:Env}{rest:List Oper}{st e:TypeId}{agg:Bool}{bytes:Nat}{z:Value}{t:TypeId}{pos:String}{after:Array Edge}{lo ca:Operand}{kl kc:IntKind}
  (ht:P.underlying st=some (.slice e))(ty:Ty P e agg k bytes z)(hd:Nat.blt d N=true)(hl:aM E lo=some (.int kl 0))(hc:aM E ca=some (.int kc 0))
  (h:∀w',aAs e w' w.heap.size (.slice (some ⟨w.heap.size,0,none⟩) 0 0)->WL P ops K N ((d,.slice (some ⟨w.heap.size,0,none⟩) 0 0)::E) rest w'):WL P ops K N E (⟨some d,.makeSlice st lo ca,t,pos,after,none⟩::rest) w:=by
 obtain⟨i,hi,hz,oC,HA⟩:=ty.info;obtain⟨w',r1,r2,r3⟩:=run_make_own (P:=P) w w.heap.size st e i z k ht hi hz oC kl kc 0 BYS (by simp[maxLen]) (aAB _);refine WL.step (w':=w') (v:=.slice (some ⟨w.heap.size,0,none⟩) 0 0) (λρ hρ _ _ _ _=>?_) hd (h w' ?_)
 .have:=hρ _ _ hc;simp only[Int.ofNat_zero,Int.natCast_zero]at r1;simp[execOp,hρ _ _ hl,this,r1]
 .rcases r2.2 with⟨h1,_⟩|⟨g,cap,cur,hv,_,hg,_⟩
  .cases h1
  .cases hv;exact .inr ⟨_,rfl,aAB _,_,_,hg⟩
attribute [local irreducible] aA jH OpC WL QL WC WX OL RL TL
abbrev uC(w:World)(A:Option Addr)(l:List It):Prop:=aE cB 2 w A l.length (lf l)
def UP(x:It)(l:List It)(i:Nat):lf (x::l) (1+i)=lf l i:=by simp[lf,aG2 1 i]
def uC.tail{x:It}(h:uC w A (x::l))(hc:(x::l).length<=c):uC w (if c=1 then A else A.map (·.add (1*2))) l:=
 (aE.cut (l:=1) (m:=l.length) h BYT hc).congr λi _=>(UP x l i).symm
def uC.of(h:aE cB 2 w A n f):uC w A (aG f n):=by
 unfold uC;rw[aF];exact h.congr λi hi=>kU f hi
def mg(l:List It)(k i:Nat):lf (l.drop k) i=lf l (k+i):=by simp[lf,List.getElem?_drop]
def uC.drop(h:uC w A l)(hk:k<=l.length)(hc:l.length<=c):uC w (if c=k then A else A.map (·.add (k*2))) (l.drop k):=by
 unfold uC;rw[aC6];exact(aE.cut (l:=k) (m:=l.length-k) h BYO hc).congr λi _=>mg l k i
def dP(n:Nat)(f:Nat->It):Nat:=if aH n f≠0 then aH n f else if(aG f n).Pairwise (λa b=>a.1<=b.1) then 0 else 3
def iK:dP n f=0↔aH n f=0/\cW (aG f n):=by
 unfold dP cW;by_cases h:aH n f=0
 .rw[if_neg (by simp[h])];by_cases h2:(aG f n).Pairwise (λa b=>a.1<=b.1)
  .simp[h,h2]
  .simp[h2]
 .rw[if_pos h];simp[h]
def eC(n:Nat)(f:Nat->It)(m:Nat)(g:Nat->It):Nat:=if dP n f≠0 then dP n f else if dP m g≠0 then dP m g else if 60<n+m then 4 else 0
def kY:List It->List It->List It
 |[],b=>b
 |x::a,[]=>x::a
 |x::a,y::b=>if x.1<=y.1 then x::kY a (y::b) else y::kY (x::a) b
def iL(b:List It):kY [] b=b:=by rw[kY]
def mG(a:List It):kY a []=a:=by cases a<;>simp[kY]
def sZ(x y:It)(a b:List It):kY (x::a) (y::b)=if x.1<=y.1 then x::kY a (y::b) else y::kY (x::a) b:=by rw[kY]
def Jn:∀(k:Nat) (a b:List It),a.length+b.length<=k->kY a b=lQ a b:=by
 intro k;induction k with
 |zero=>
  intro a b h;obtain rfl:=aCQ (show a.length=0 by omega);rw[iL,eQ]
 |succ k ih=>
  intro a b h;cases a with
  |nil=>rw[iL,eQ]
  |cons x a=>
   cases b with
   |nil=>rw[mG,kX]
   |cons y b=>
    simp only[aBJ]at h;rw[sZ,qJ];by_cases c:x.1<=y.1
    .rw[if_pos c,if_neg BYO,ih a (y::b) BYT]
    .rw[if_neg c,if_pos BYO,ih (x::a) b BYT]
def Jo{a b:List It}(ha:cW a)(hb:cW b):[]++kY a b=bS (a++b):=by
 rw[aDF,Jn _ a b (aAB _),Tz ha hb]
def qK:Ty tz 22 false 1 24 (.slice none 0 0):=aLt BYK (λ_=>BYK) rfl
def tA:tz.underlying 125=some (.slice 22):=BYK
def Ua(A:Option Addr)(n c:Nat)(f:Nat->It)(A':Option Addr)(m c':Nat)(g:Nat->It)(w:World)(hr:aE cB 2 w A n f)(sD:aE cB 2 w A' m g)(hc:n<=c)(Ee:m<=c'):
  Calls tz 97 #[.slice A n c,.slice A' m c'] w (eT λv w'=>Below w.heap.size w w'/\(eC n f m g≠0->v=.tuple #[.slice none 0 0,cI (eC n f m g)])/\
   (eC n f m g=0->∃v',v=.tuple #[v',.nilIface]/\mU w' w.heap.size v' (bS (aG f n++aG g m)))):=by
 refine aI xq rfl Tryz.ntmps97 rfl ?_;refine aZ λK hK=>?_;refine WL.lit (xs:=[.tmp 11,.tmp 12]) (vs:=[.slice A n c,.slice A' m c']) tA qK rfl rfl (by simp[Value.cells]) rfl rfl BYO λw1 fQ dM mP=>?_;have cA:=aC fQ;replace dM:Bk w1 w.heap.size _ [.slice A n c,.slice A' m c']:=dM;refine WL.step (aL3 tA rfl) rfl ?_;refine IJ ?_;refine aOm [(0,.slice A n c),(1,.slice A' m c')] (λw2=>Below w1.heap.size w1 w2/\dP n f=0/\dP m g=0) ?_ ?_
 .refine aB ?_;refine aMP (λi:Nat=>[(0,.slice A n c),(1,.slice A' m c'),(13,.slice (some ⟨w.heap.size,0,none⟩) 2 2),(14,.int .i64 ((2:Nat):Int)),(15,.int .i64 i)])
   (λi q w2=>i<=2/\q=2-i/\(0<i->dP n f=0)/\(1<i->dP m g=0)/\Below w1.heap.size w1 w2) 2 0 ⟨BYO,rfl,λh=>BYO,λh=>BYO,Below.refl _ _⟩ aJA ?_
  rintro i q w2 ⟨hi,rfl,h1,h2,bM⟩;refine aB ?_;refine aJ6 rfl (λh=>?_) (λh=>?_)
  .have iW:=dM.below bM;have gF:=cA.tr bM;by_cases hi0:i=0
   .obtain rfl:i=0:=BYO;refine aZ λK hK=>?_;refine WL.step (aA.indexAddr (o:=0) (n:=2) tA qK.size rfl rfl BYO BYO) rfl ?_;refine WL.step (aJC qK rfl (iW.cell (i:=0) rfl)) rfl ?_;refine aZ λK hK=>?_;refine aKQ TZ (yU A n c f _ (hr.below gF)) ?_;rintro v w3 ⟨⟨b,rfl,hb⟩,dZ⟩;have iT:=gF.tr dZ;refine aZ λK hK=>?_;by_cases he:aH n f=0
    .rw[he,eN];refine aB ?_;refine aJh rfl ?_;refine aB ?_;cases b with
     |true=>
      have hz:dP n f=0:=iK.2 (hb.1 rfl);refine aOU rfl rfl ?_;refine aB ?_;exact aMF (0+1) (2-(0+1)) BYO ⟨BYO,rfl,λ_=>hz,λh=>BYO,bM.tr dZ⟩ aJA
     |false=>
      have hz:dP n f=3:=by
       unfold dP;rw[if_neg (by simp[he]),if_neg (λhs=>by have:=hb.2 ⟨he,hs⟩;cases this)]
      have hm:eC n f m g=3:=by unfold eC;rw[if_pos (by rw[hz];first|exact he|decide),hz]
      refine aP4 rfl rfl ?_;refine aB ?_;exact aLe rfl rfl rfl ⟨iT,λ_=>by rw[hm];rfl,λh=>by rw[hm]at h;cases h⟩
    .have hz:dP n f=aH n f:=if_pos he;have hm:eC n f m g=aH n f:=by unfold eC;rw[if_pos (by rw[hz];first|exact he|decide),hz]
     rw[bO he];refine aB ?_;refine aLO rfl ?_;refine aB ?_;exact aLe rfl rfl rfl ⟨iT,λ_=>by rw[hm,bO he];rfl,λh=>absurd (hm.symm.trans h) he⟩
   .obtain rfl:i=1:=BYO;refine aZ λK hK=>?_;refine WL.step (aA.indexAddr (o:=0) (n:=2) tA qK.size rfl rfl BYO BYO) rfl ?_;refine WL.step (aJC qK rfl (iW.cell (i:=1) rfl)) rfl ?_;refine aZ λK hK=>?_;refine aKQ TZ (yU A' m c' g _ (sD.below gF)) ?_;rintro v w3 ⟨⟨b,rfl,hb⟩,dZ⟩;have iT:=gF.tr dZ;refine aZ λK hK=>?_;by_cases he:aH m g=0
    .rw[he,eN];refine aB ?_;refine aJh rfl ?_;refine aB ?_;cases b with
     |true=>
      have hz:dP m g=0:=iK.2 (hb.1 rfl);refine aOU rfl rfl ?_;refine aB ?_;exact aMF (1+1) (2-(1+1)) BYO ⟨BYO,rfl,λ_=>h1 BYO,λ_=>hz,bM.tr dZ⟩ aJA
     |false=>
      have hz:dP m g=3:=by
       unfold dP;rw[if_neg (by simp[he]),if_neg (λhs=>by have:=hb.2 ⟨he,hs⟩;cases this)]
      have hm:eC n f m g=3:=by unfold eC;rw[if_neg (by simp[h1 BYO]),if_pos (by rw[hz];first|exact he|decide),hz]
      refine aP4 rfl rfl ?_;refine aB ?_;exact aLe rfl rfl rfl ⟨iT,λ_=>by rw[hm];rfl,λh=>by rw[hm]at h;cases h⟩
    .have hz:dP m g=aH m g:=if_pos he;have hm:eC n f m g=aH m g:=by unfold eC;rw[if_neg (by simp[h1 BYO]),if_pos (by rw[hz];first|exact he|decide),hz]
     rw[bO he];refine aB ?_;refine aLO rfl ?_;refine aB ?_;exact aLe rfl rfl rfl ⟨iT,λ_=>by rw[hm,bO he];rfl,λh=>absurd (hm.symm.trans h) he⟩
  .obtain rfl:i=2:=BYO;refine aB ?_;exact aNf ⟨bM,h1 BYO,h2 BYO⟩ aJA
 .rintro w2 ⟨bM,mP,qO⟩;have gF:=cA.tr bM;obtain⟨Fy,uP⟩:=iK.1 mP;obtain⟨Fq,GN⟩:=iK.1 qO;have XK:=gR Fy;have zd:=gR Fq;replace hr:=hr.below gF;replace sD:=sD.below gF;have hmm:eC n f m g=if 60<n+m then 4 else 0:=by unfold eC;rw[if_neg (by simp[mP]),if_neg (by simp[qO])]
  clear dM fQ mP qO;refine aB ?_;refine aJ6 rfl (λh=>?_) (λh=>?_)
  .rw[if_pos BYO]at hmm;refine aB ?_;exact aLe rfl rfl rfl ⟨gF,λ_=>by rw[hmm];rfl,λh=>by rw[hmm]at h;cases h⟩
  .rw[if_neg BYO]at hmm;refine aZ λK hK=>?_;refine aR4 (c:=n+m) cB aY aL rfl rfl rfl BYO (by simp[maxLen];omega) λw3 yA iE=>?_;have dZ:=aC iE;refine aB ?_;refine aPw (λ(la lb:List It) (Aa Ab:Option Addr) (s:Nat×Nat×Value×List It)=>[(0,.slice Aa la.length s.1),(1,.slice Ab lb.length s.2.1),(10,s.2.2.1)])
    (λla lb Aa Ab s q wr=>la.length<=s.1/\lb.length<=s.2.1/\cW la/\cW lb/\s.2.2.2++kY la lb=bS (aG f n++aG g m)/\s.2.2.2.length+la.length+lb.length=n+m/\uC w2 Aa la/\uC w2 Ab lb/\
     mU wr w2.heap.size s.2.2.1 s.2.2.2/\Below w2.heap.size w2 wr/\q=la.length+lb.length) (n+m) (aG f n) (aG g m) A A' (c,c',.slice (some ⟨w2.heap.size,0,none⟩) 0 (n+m),[])
    ⟨by rw[aF];exact hc,by rw[aF];exact Ee,uP,GN,Jo uP GN,by simp[aF],uC.of hr,uC.of sD,yA,dZ,by rw[aF,aF]⟩ (by rw[aF,aF];exact aJA) ?_
   rintro la lb Aa Ab ⟨ca,cb,v,lo⟩ q wr ⟨ON,Qq,hsa,hsb,NB,hlen,WS,zS,ho,hB,rfl⟩;dsimp only at ON Qq NB hlen ho;refine aB ?_;refine aJ6 rfl (λh2=>?_) (λh2=>?_)
   .refine CO ?_;rcases lb with _|⟨y,lb⟩
    .rcases la with _|⟨x,la⟩
     .simp at h2
     rw[mG]at NB;refine aB ?_;refine aLh mixed BYK ?_;refine oD ?_;refine QL.done λw4 Ex=>?_;have jR:=hB.tr Ex;have sB:=ho.below Ex;obtain⟨b1,o1,rfl,_⟩:=aE.ne WS BYS;refine aB ?_;refine aP4 rfl rfl ?_;refine aB ?_;have q1:0<(x::la).length:=BYS;refine aPS (λw'=>Below w2.heap.size w2 w') (.read 0 (.read 1 (.read 2 (.read 3 (.read 6 (.read 7 (.act 4 (.act 5 (.read 8 (.read 9 .fin)))))))))) mixed BYK rfl BYK (λw' hb _=>jR.tr hb) λK hK w5 ER de=>?_;have gO:=jR.tr ER;have rC:=sB.below ER;refine Gy ?_;refine TL.act rfl (WL.lit (xs:=[.tmp 72]) (vs:=[.agg (cB x).toArray]) aY aL rfl rfl (by simp[cB,Value.cells]) rfl rfl BYO λw6 gL pU FW=>WL.nil ⟨gO.tr (aC gL),?_⟩);have gH:=gO.tr (aC gL);refine TL.act rfl (WL.append bN cJ BYO aY aL rfl rfl rfl (rC.below (aC gL)) (pU.bK (enc:=cB) (k:=2) (f:=λ_=>x) 0 λi hi j u hu=>by obtain rfl:i=0:=BYO;simpa[cB,Value.cells] using hu)
      (by simp at hlen;omega) (by simp[maxLen];simp at hlen;omega) gH.size λv7 w7 row BZ uO _ eE _=>WL.nil ⟨gH.rM uO eE,?_⟩)
     have lD:=gH.rM uO eE;refine Gy ?_;refine TL.fin (hK _ _ ?_);clear hK K;refine aB ?_;exact aN6 la [] _ _ (ca-1,cb,v7,lo++[x]) (la.length+0) BYS ⟨by simp at ON;show la.length<=ca-1;omega,Qq,(aCG.1 hsa).2,hsb,by rw[mG,aCb];exact NB,by simp at hlen⊢;omega,uC.tail WS ON,zS,BZ,lD,rfl⟩ aJA
    .rcases la with _|⟨x,la⟩
     .refine aB ?_;refine aLh mixed BYK ?_;refine oD ?_;rw[show decide (((y::lb).length:Int)=0)=false from decide_eq_false (by simp only[aBJ];omega)];refine oD ?_;refine QL.done λw4 Ex=>?_;have jR:=hB.tr Ex;have sB:=ho.below Ex;rw[iL]at NB;obtain⟨b2,o2,rfl,_⟩:=aE.ne zS BYS;refine aB ?_;refine aOU rfl rfl ?_;refine aB ?_;have q2:0<(y::lb).length:=BYS;refine aPS (λw'=>Below w2.heap.size w2 w') (.read 0 (.read 1 (.read 2 (.read 3 (.read 6 (.read 7 (.act 4 (.act 5 (.read 8 (.read 9 .fin)))))))))) mixed BYK rfl BYK (λw' hb _=>jR.tr hb) λK hK w5 ER de=>?_;have gO:=jR.tr ER;have rC:=sB.below ER;refine Gy ?_;refine TL.act rfl (WL.lit (xs:=[.tmp 80]) (vs:=[.agg (cB y).toArray]) aY aL rfl rfl (by simp[cB,Value.cells]) rfl rfl BYO λw6 gL pU FW=>WL.nil ⟨gO.tr (aC gL),?_⟩);have gH:=gO.tr (aC gL);refine TL.act rfl (WL.append bN cJ BYO aY aL rfl rfl rfl (rC.below (aC gL)) (pU.bK (enc:=cB) (k:=2) (f:=λ_=>y) 0 λi hi j u hu=>by obtain rfl:i=0:=BYO;simpa[cB,Value.cells] using hu)
       (by simp at hlen;omega) (by simp[maxLen];simp at hlen;omega) gH.size λv7 w7 row BZ uO _ eE _=>WL.nil ⟨gH.rM uO eE,?_⟩)
      have lD:=gH.rM uO eE;refine Gy ?_;refine TL.fin (hK _ _ ?_);clear hK K;refine aB ?_;exact aN6 [] lb _ _ (ca,cb-1,v7,lo++[y]) (0+lb.length) BYS ⟨ON,by simp at Qq;show lb.length<=cb-1;omega,hsa,(aCG.1 hsb).2,by rw[iL,aCb];exact NB,by simp at hlen⊢;omega,WS,uC.tail zS Qq,BZ,lD,rfl⟩ aJA
     .have aRQ:=aE.below WS hB;have aSj:=aE.below zS hB;obtain⟨b1,o1,rfl,_⟩:=aE.ne WS BYS;obtain⟨b2,o2,rfl,_⟩:=aE.ne zS BYS;have q1:0<(x::la).length:=BYS;have q2:0<(y::lb).length:=BYS;refine aB ?_;refine aLh mixed BYK ?_;refine oD ?_;rw[show decide (((y::lb).length:Int)=0)=false from decide_eq_false (by simp only[aBJ];omega)];refine oD ?_;rw[show decide ((0:Int)<((x::la).length:Int))=true from decide_eq_true BYO];refine oD ?_;refine QL.done λw4 Ex=>?_;have jR:=hB.tr Ex;have sB:=ho.below Ex;refine aB ?_;refine aJ6 rfl (λh3=>?_) (λh3=>?_)
      .replace h3:x.1<=y.1:=h3;rw[sZ,if_pos h3]at NB;refine aB ?_;refine aPS (λw'=>Below w2.heap.size w2 w') (.read 0 (.read 1 (.read 2 (.read 3 (.read 6 (.read 7 (.act 4 (.act 5 (.read 8 (.read 9 .fin)))))))))) mixed BYK rfl BYK (λw' hb _=>jR.tr hb) λK hK w5 ER de=>?_;have gO:=jR.tr ER;have rC:=sB.below ER;refine Gy ?_;refine TL.act rfl (WL.lit (xs:=[.tmp 72]) (vs:=[.agg (cB x).toArray]) aY aL rfl rfl (by simp[cB,Value.cells]) rfl rfl BYO λw6 gL pU FW=>WL.nil ⟨gO.tr (aC gL),?_⟩);have gH:=gO.tr (aC gL);refine TL.act rfl (WL.append bN cJ BYO aY aL rfl rfl rfl (rC.below (aC gL)) (pU.bK (enc:=cB) (k:=2) (f:=λ_=>x) 0 λi hi j u hu=>by obtain rfl:i=0:=BYO;simpa[cB,Value.cells] using hu)
        (by simp at hlen;omega) (by simp[maxLen];simp at hlen;omega) gH.size λv7 w7 row BZ uO _ eE _=>WL.nil ⟨gH.rM uO eE,?_⟩)
       have lD:=gH.rM uO eE;refine Gy ?_;refine TL.fin (hK _ _ ?_);clear hK K;refine aB ?_;exact aN6 la (y::lb) _ _ (ca-1,cb,v7,lo++[x]) (la.length+(y::lb).length) BYS ⟨by simp at ON;show la.length<=ca-1;omega,Qq,(aCG.1 hsa).2,hsb,by rw[aCb];exact NB,by simp at hlen⊢;omega,uC.tail WS ON,zS,BZ,lD,rfl⟩ aJA
      .replace h3:¬x.1<=y.1:=h3;rw[sZ,if_neg h3]at NB;refine aB ?_;refine aPS (λw'=>Below w2.heap.size w2 w') (.read 0 (.read 1 (.read 2 (.read 3 (.read 6 (.read 7 (.act 4 (.act 5 (.read 8 (.read 9 .fin)))))))))) mixed BYK rfl BYK (λw' hb _=>jR.tr hb) λK hK w5 ER de=>?_;have gO:=jR.tr ER;have rC:=sB.below ER;refine Gy ?_;refine TL.act rfl (WL.lit (xs:=[.tmp 80]) (vs:=[.agg (cB y).toArray]) aY aL rfl rfl (by simp[cB,Value.cells]) rfl rfl BYO λw6 gL pU FW=>WL.nil ⟨gO.tr (aC gL),?_⟩);have gH:=gO.tr (aC gL);refine TL.act rfl (WL.append bN cJ BYO aY aL rfl rfl rfl (rC.below (aC gL)) (pU.bK (enc:=cB) (k:=2) (f:=λ_=>y) 0 λi hi j u hu=>by obtain rfl:i=0:=BYO;simpa[cB,Value.cells] using hu)
        (by simp at hlen;omega) (by simp[maxLen];simp at hlen;omega) gH.size λv7 w7 row BZ uO _ eE _=>WL.nil ⟨gH.rM uO eE,?_⟩)
       have lD:=gH.rM uO eE;refine Gy ?_;refine TL.fin (hK _ _ ?_);clear hK K;refine aB ?_;exact aN6 (x::la) lb _ _ (ca,cb-1,v7,lo++[y]) ((x::la).length+lb.length) BYS ⟨ON,by simp at Qq;show lb.length<=cb-1;omega,hsa,(aCG.1 hsb).2,by rw[aCb];exact NB,by simp at hlen⊢;omega,WS,uC.tail zS Qq,BZ,lD,rfl⟩ aJA
   .have e1:la=[]:=aCQ BYO;have e2:lb=[]:=aCQ BYO;subst e1 e2;rw[iL,aDD]at NB;refine aB ?_;exact aLe rfl rfl rfl ⟨gF.tr hB,λh=>absurd hmm h,λ_=>⟨v,rfl,by rw[<-NB];exact ho.lower gF.size⟩⟩
def Jp(A:Option Addr)(c:Nat)(A':Option Addr)(c':Nat)(w:World):
  Calls tz 97 #[.slice A 0 c,.slice A' 0 c'] w (eT λv w'=>∃v',v=.tuple #[v',.nilIface]/\M0 w' w.heap.size v'):=by
 refine aI xq rfl Tryz.ntmps97 rfl ?_;refine aZ λK hK=>?_;refine WL.lit (xs:=[.tmp 11,.tmp 12]) (vs:=[.slice A 0 c,.slice A' 0 c']) tA qK rfl rfl (by simp[Value.cells]) rfl rfl BYO λw1 fQ dM mP=>?_;have cA:=aC fQ;replace dM:Bk w1 w.heap.size _ [.slice A 0 c,.slice A' 0 c']:=dM;refine WL.step (aL3 tA rfl) rfl ?_;refine IJ ?_;refine aOm [(0,.slice A 0 c),(1,.slice A' 0 c')] (λw2=>Below w1.heap.size w1 w2) ?_ ?_
 .refine aB ?_;refine aMP (λi:Nat=>[(0,.slice A 0 c),(1,.slice A' 0 c'),(13,.slice (some ⟨w.heap.size,0,none⟩) 2 2),(14,.int .i64 ((2:Nat):Int)),(15,.int .i64 i)])
   (λi q w2=>i<=2/\q=2-i/\Below w1.heap.size w1 w2) 2 0 ⟨BYO,rfl,Below.refl _ _⟩ aJA ?_
  rintro i q w2 ⟨hi,rfl,bM⟩;refine aB ?_;refine aJ6 rfl (λh=>?_) (λh=>?_)
  .have iW:=dM.below bM;have gF:=cA.tr bM;obtain⟨Ai,ci,hci⟩:∃Ai ci,[Value.slice A 0 c,.slice A' 0 c'][i]?=some (.slice Ai 0 ci):=by
    have:i=0\/i=1:=BYO;rcases this with rfl|rfl<;>exact⟨_,_,rfl⟩
   refine aZ λK hK=>?_;refine WL.step (aA.indexAddr (o:=0) (n:=2) tA qK.size rfl rfl BYO BYO) rfl ?_;refine WL.step (aJC qK rfl (by simpa using iW.cell hci)) rfl ?_;refine aZ λK hK=>?_;refine aKQ TZ (yU Ai 0 ci (λ_=>default) _ (aE.zero _ _ _ _ _)) ?_;rintro v w3 ⟨⟨b,rfl,hb⟩,dZ⟩;rw[show aH 0 (λ_=>(default:It))=0 from rfl,eN];obtain rfl:b=true:=hb.2 ⟨rfl,by simp[aG,cW]⟩;refine aB ?_;refine aJh rfl ?_;refine aB ?_;refine aOU rfl rfl ?_;refine aB ?_;exact aMF (i+1) (2-(i+1)) BYO ⟨BYO,rfl,bM.tr dZ⟩ aJA
  .obtain rfl:i=2:=BYO;refine aB ?_;exact aNf bM aJA
 .rintro w2 bM;have gF:=cA.tr bM;refine aB ?_;refine aJ6 rfl (λh=>absurd h BYD) (λh=>?_);refine aZ λK hK=>?_;refine aS1 aY aL rfl rfl rfl λw3 he3=>?_;refine aB ?_;refine aMP (λ_:Unit=>[(0,.slice A 0 c),(1,.slice A' 0 c'),(10,.slice (some ⟨w2.heap.size,0,none⟩) 0 0)]) (λ_ _ wr=>wr=w3) 0 () rfl aJA ?_;rintro _ q wr rfl;refine aB ?_;refine aOU rfl BYD ?_;refine aB ?_;refine aLe rfl rfl rfl ⟨_,rfl,?_⟩;rcases he3 with he3|⟨g,e1,h1,h2⟩
  .cases he3
  .cases e1;exact .inr ⟨_,rfl,gF.size,h2⟩
end Rk
namespace Rk.Cw
open Go Go.Conc Go.RowKit Go.Proofs Rk.fD
section
variable{main:Bool}{R:PS}{Q:World->Prop}{J:PS->Goroutine->World->Prop}(hJ:pF Tryz.prog main R Q J){S:PS}{cf:Frame}{cs:List Frame}{w:World}
include hJ
def Jq{A A':Option Addr}{n c m c':Nat}{f g:Nat->It}(hr:aE cB 2 w A n f)(hA:Seen w (S.or R) A)(sD:aE cB 2 w A' m g)(WN:Seen w (S.or R) A')(hc:n<=c)(Ee:m<=c')(hV:mQ w.heap.size (S.or R))(hg:GB<=w.heap.size)(he:eC n f m g=0)
  (hn:∀(O:Nat->Prop) (w':World) (v:Value),(∀b,O b->w.heap.size<=b)->bZ (S.or R) w w'->Cut w' (λb x=>x=none/\O b) v (bS (aG f n++aG g m))->J (S.or λb x=>x=none/\O b) (G (cf.finish (.tuple #[v,.nilIface])) cs) w'):
  J S (G (Frame.enter Tryz.prog 97 #[.slice A n c,.slice A' m c'] .normal) (cf::cs)) w:=by
 obtain⟨B,CE⟩:∃B:Nat->Prop,B=λb=>lB A b\/lB A' b:=⟨_,rfl⟩;have lI:Shown B w:=λb hb=>by
  rw[CE]at hb;exact hb.elim (hA.shown b) (WN.shown b)
 have Mf:∀a b,Xe B a b->a<(ghost B w).heap.size:=λa b ⟨_,hb,_⟩=>by
  obtain⟨_,c,T,fz,hc⟩:=lI a hb;rw[sU];exact(aCH.1 hc).1
 have b1:∀p,A=some p->B p.block:=λp hp=>by rw[CE];exact .inl ⟨p,hp,rfl⟩
 have b2:∀p,A'=some p->B p.block:=λp hp=>by rw[CE];exact .inr ⟨p,hp,rfl⟩
 have args:eY (Xe B) #[.slice A n c,.slice A' m c'] #[.slice A n c,.slice A' m c']:=aQH (hA.vr b1 n c) (WN.vr b2 m c');have hR:∀b,B b->(S.or R) b none:=λb hb=>by
  rw[CE]at hb;rcases hb with⟨p,hp,e⟩|⟨p,hp,e⟩
  .exact e▸(hA p hp).2.1
  .exact e▸(WN p hp).2.1
 have Qy:97∈wl:=by simp[wl]
 by_cases h0:n=0/\m=0
 .obtain⟨rfl,rfl⟩:=h0;refine lP hJ (Post:=λv H=>∃W1 v1,W1.heap=H/\v=.tuple #[v1,.nilIface]/\M0 W1 (ghost B w).heap.size v1) Qy B lI hR hV hg args
   (λT=>(Jp A c A' c' ((ghost B w).on T)).mono λe W' h=>?_) λτ W' v v' O w' oP wD ⟨W1,v1,e1,e2,h1⟩ h2 h3=>?_
  .cases e<;>first|exact h.elim|skip
   obtain⟨v1,rfl,h1⟩:=h;exact⟨_,rfl,W',v1,rfl,rfl,h1⟩
  .subst e2;obtain⟨u,rfl,hu⟩:=UN h2;have:bS (aG f 0++aG g 0)=[]:=rfl;exact hn O w' u oP wD (this▸KJ (Ak e1 h1) hu h3 Mf)
 .refine lP hJ (Post:=λv H=>∃W1 v1,W1.heap=H/\v=.tuple #[v1,.nilIface]/\mU W1 (ghost B w).heap.size v1 (bS (aG f n++aG g m))) Qy B lI hR hV hg args
   (λT=>(Ua A n c f A' m c' g ((ghost B w).on T) (oU hr b1 T) (oU sD b2 T) hc Ee).mono λe W' h=>?_) λτ W' v v' O w' oP wD ⟨W1,v1,e1,e2,h1⟩ h2 h3=>?_
  .cases e<;>first|exact h.elim|skip
   obtain⟨_,_,h1⟩:=h;obtain⟨v1,e1,h1⟩:=h1 he;exact⟨_,rfl,W',v1,rfl,e1,h1⟩
  .subst e2;obtain⟨u,rfl,hu⟩:=UN h2;refine hn O w' u oP wD (JZ (Aj e1 h1) (λe=>?_) hu h3 Mf);have:=congrArg List.length e;rw[kW,aBh,aF,aF]at this;simp at this;omega
end
variable{v:Value}{ops:Array Oper}{n:Nat}{listed:Array Bool}{o:Oper}
def kB(ops:Array Oper)(j:Nat):Option Nat:=(ops[j]?).bind (·.dst)
def KM(ops:Array Oper)(i:Nat):List Nat:=match ops[i]? with
 |some o=>(o.after.toList.filter λe=>Region.binds .any e).map (·.on)
 |none=>[]
def xW(ops:Array Oper)(vs:List (Option Value)):List Nat->Env
 |[]=>[]
 |j::r=>match kB ops j,vs.getD j none with
  |some d,some v=>(d,v)::xW ops vs r
  |_,_=>xW ops vs r
def Jr(ops:Array Oper)(vs:List (Option Value))(E0:Env)(i:Nat):Env:=xW ops vs (KM ops i)++E0
def mh(ops:Array Oper)(E0:Env)(N:Nat):Bool:=(List.range ops.size).all λi=>match ops[i]? with
 |some o=>o.guard.isNone&&((match o.dst with
  |none=>true
  |some d=>Nat.blt d N&&(look E0 d).isNone&&(List.range ops.size).all λj=>j==i|| !(kB ops j==some d))&&o.after.toList.all λe=> !Region.binds .any e||Nat.blt e.on i)
 |none=>false
def M1{E F:Env}{k:Nat}(h:look (E++F) k=some v):(k,v)∈E\/look F k=some v:=by
 induction E with
 |nil=>exact .inr h
 |cons x r ih=>
  obtain⟨d,u⟩:=x;simp only[aCq,look]at h;cases e:Nat.beq d k with
  |true=>rw[e]at h;simp at h;subst h;rw[aD6 e];exact .inl (aBw ..)
  |false=>rw[e]at h;exact(ih h).imp (aBm _) id
def Ub{vs:List (Option Value)}{js:List Nat}{d:Nat}(h:(d,v)∈xW ops vs js):∃j∈js,kB ops j=some d/\vs.getD j none=some v:=by
 induction js with
 |nil=>simp[xW]at h
 |cons j r ih=>
  simp only[xW]at h;split at h
  .rename_i d' v' h1 h2;rcases aBI.1 h with h|h
   .injection h with h3 h4;subst h3;subst h4;exact⟨j,aBw ..,h1,h2⟩
   .obtain⟨j,a,b⟩:=ih h;exact⟨j,aBm _ a,b⟩
  .obtain⟨j,a,b⟩:=ih h;exact⟨j,aBm _ a,b⟩
structure Gd(ops:Array Oper)(vs:List (Option Value))(N:Nat)(ds:List Deferred)(E0:Env)(listed:Array Bool)(a:Act):Prop where
 ad:Ad a N ds E0
 size:listed.size=ops.size
 val:∀j d,listed[j]?=some true->kB ops j=some d->∃v,vs.getD j none=some v/\a.tmps[d]?=some v
 KN:∀j,listed[j]?=some true->∀p∈KM ops j,listed[p]?=some true
def un(n:Nat)(listed:Array Bool):Nat:=(List.range n).countP λi=> !listed.getD i true
def aAv{i:Nat}(hs:listed.size=n)(hi:i<n)(hl:listed.getD i true=false):un n (listed.setIfInBounds i true)<un n listed:=by
 obtain⟨s,t,h⟩:=List.append_of_mem (aC5.2 hi);have le:∀l:List Nat,l.countP (λj=> !(listed.setIfInBounds i true).getD j true)<=l.countP λj=> !listed.getD j true:=λl=>List.countP_mono_left λj _ hj=>by
  simp only[aCd,aIn]at hj⊢;split at hj
  .split at hj<;>simp at hj
  .exact hj
 have e1:(i::t).countP (λj=> !(listed.setIfInBounds i true).getD j true)=t.countP λj=> !(listed.setIfInBounds i true).getD j true:=List.countP_cons_of_neg (by
  simp only[aCd];rw[aCr BYO];simp)
 have e2:(i::t).countP (λj=> !listed.getD j true)=t.countP (λj=> !listed.getD j true)+1:=List.countP_cons_of_pos (by rw[hl];rfl);unfold un;rw[h,aHK,aHK,e1,e2];have:=le s;have:=le t;omega
def mj(hs:listed.size=n)(h:un n listed=0)(j:Nat)(hj:j<n):listed[j]?=some true:=by
 have:=List.countP_eq_zero.1 h j (aC5.2 hj);simp only[aCd]at this;rw[aGe BYO]at this⊢;simpa using this
section
variable{vs:List (Option Value)}{N:Nat}{ds:List Deferred}{E0:Env}{a:Act}{i:Nat}
def UQ(h:mh ops E0 N=true)(ho:ops[i]?=some o):o.guard=none/\(∀d,o.dst=some d->Nat.blt d N=true/\look E0 d=none/\∀j,kB ops j=some d->j=i)/\∀e∈o.after.toList,Region.binds .any e=true->e.on<i:=by
 have hi:i<ops.size:=(aCH.1 ho).1;have h1:=aCJ.1 h i (aC5.2 hi);rw[ho]at h1;simp only[aBg]at h1;refine⟨by simpa using h1.1,λd hd=>?_,λe he hb=>?_⟩
 .have h2:=h1.2.1;rw[hd]at h2;simp only[aBg]at h2;refine⟨h2.1.1,by simpa using h2.1.2,λj hj=>?_⟩;have yv:j<ops.size:=by
   unfold kB at hj;cases h3:ops[j]? with
   |none=>rw[h3]at hj;simp at hj
   |some o=>exact(aCH.1 h3).1
  have h3:=aCJ.1 h2.2 j (aC5.2 yv);rw[hj]at h3;simpa using h3
 .have h2:=aCJ.1 h1.2.2 e he;rw[hb]at h2;simpa using h2
def mem_ready:i∈Region.ready .any ops listed↔i<ops.size/\listed.getD i true=false/\∃o,ops[i]?=some o/\∀e∈o.after.toList,Region.binds .any e=true->listed.getD e.on false=true:=by
 simp only[Region.ready,List.mem_filter,aC5];cases h:ops[i]? with
 |none=>simp
 |some o=>
  simp only[aDo,aFV,aBg,aDj,aDu,exists_eq_left'];refine and_congr_right λ_=>and_congr_right λ_=>?_;rw[<-Array.all_toList,aCJ];refine forall_congr' λe=>forall_congr' λ_=>?_;cases Region.binds .any e<;>simp
def ready_nil(bY:mh ops E0 N=true)(hs:listed.size=ops.size)(h:Region.ready .any ops listed=[]):∀j,j<ops.size->listed[j]?=some true:=by
 intro j;induction j using Nat.strongRecOn with
 |_ j ih=>
  intro hj;have e1:listed[j]?=some (listed[j]'BYO):=aGe BYO;cases e:listed[j]'BYO with
  |true=>rw[e1,e]
  |false=>
   have:j∈Region.ready .any ops listed:=mem_ready.2 ⟨hj,by rw[aCd,e1,e];rfl,_,aGe hj,λx hx hb=>by
    have dD:=(UQ bY (aGe hj)).2.2 x hx hb;rw[aCd,ih _ dD BYO];rfl⟩
   rw[h]at this;simp at this
def Gd.env(h:Gd ops vs N ds E0 listed a)(js:List Nat)(hj:∀j∈js,listed[j]?=some true):Ad a N ds (xW ops vs js++E0):=⟨h.ad.size,h.ad.defers,λk v hk=>by
 rcases M1 hk with hm|hm
 .obtain⟨j,h1,h2,h3⟩:=Ub hm;obtain⟨u,h4,h5⟩:=h.val j k (hj j h1) h2;rw[h3]at h4;cases h4;exact h5
 .exact h.ad.at_ k v hm⟩
def Gd.ready(h:Gd ops vs N ds E0 listed a)(hi:i∈Region.ready .any ops listed):Ad a N ds (Jr ops vs E0 i):=h.env _ λj hj=>by
 obtain⟨_,_,o,ho,h1⟩:=mem_ready.1 hi;unfold KM at hj;rw[ho]at hj;simp only[aCc,List.mem_filter]at hj;obtain⟨e,⟨he,hb⟩,rfl⟩:=hj;have:=h1 e he hb;rw[aCd]at this;cases h2:listed[e.on]? with
 |none=>rw[h2]at this;simp at this
 |some b=>rw[h2]at this;simp at this;rw[this]
def Gd.ahead(h:Gd ops vs N ds E0 listed a)(hi:i∈Region.ready .any ops listed){j:Nat}(hj:j∈KM ops i):listed[j]?=some true/\(vs.getD j none=none->kB ops j=none):=by
 obtain⟨_,_,o,ho,h1⟩:=mem_ready.1 hi;unfold KM at hj;rw[ho]at hj;simp only[aCc,List.mem_filter]at hj;obtain⟨e,⟨he,hb⟩,rfl⟩:=hj;have h2:=h1 e he hb;rw[aCd]at h2;have h3:listed[e.on]?=some true:=by
  cases h3:listed[e.on]? with
  |none=>rw[h3]at h2;simp at h2
  |some b=>rw[h3]at h2;simp at h2;rw[h2]
 refine⟨h3,λhv=>?_⟩;cases hd:kB ops e.on with
 |none=>rfl
 |some d=>obtain⟨v,h4,_⟩:=h.val _ d h3 hd;rw[hv]at h4;cases h4
def Gd.done{fp:List (Option Value)}{a':Act}(bY:mh ops E0 N=true)(h:Gd ops vs N ds E0 listed a)(ho:ops[i]?=some o)(WV:∀p∈KM ops i,listed[p]?=some true)(hv:∀j v,vs.getD j none=some v->fp.getD j none=some v)
  (hd:∀d,o.dst=some d->∃v,fp.getD i none=some v/\a'=a.put (some d) v)(hn:o.dst=none->∃v,a'=a.put none v):Gd ops fp N ds E0 (listed.setIfInBounds i true) a':=by
 obtain⟨_,h1,_⟩:=UQ bY ho;have set:∀{p:Nat},listed[p]?=some true->(listed.setIfInBounds i true)[p]?=some true:=λ{p} hp=>by
  rw[aIn];split
  .rename_i e;subst e;rw[if_pos (aCH.1 hp).1]
  .exact hp
 have rz:∀j,(listed.setIfInBounds i true)[j]?=some true->∀p∈KM ops j,(listed.setIfInBounds i true)[p]?=some true:=λj hj p hp=>by
  by_cases e:j=i
  .subst e;exact set (WV p hp)
  .rw[aCM (Ne.symm e)]at hj;exact set (h.KN j hj p hp)
 cases e:o.dst with
 |none=>
  obtain⟨v,rfl⟩:=hn e;refine⟨h.ad.none v,by simp[h.size],λj d hj BS=>?_,rz⟩;have cQ:j≠i:=λe'=>by subst e';unfold kB at BS;rw[ho]at BS;simp[e]at BS
  rw[aCM (Ne.symm cQ)]at hj;obtain⟨u,h2,h3⟩:=h.val j d hj BS;exact⟨u,hv _ _ h2,h3⟩
 |some d0=>
  obtain⟨v,h2,rfl⟩:=hd d0 e;obtain⟨h3,h4,h5⟩:=h1 d0 e;have dD:d0<a.tmps.size:=by rw[h.ad.size];exact aHt h3
  refine⟨(h.ad.put v h3).sub λk u hk=>?_,by simp[h.size],λj d hj BS=>?_,rz⟩
  .simp only[look];cases e':Nat.beq d0 k with
   |true=>rw[aD6 e']at h4;rw[h4]at hk;cases hk
   |false=>exact hk
  .by_cases cQ:j=i
   .subst cQ;unfold kB at BS;rw[ho]at BS;simp only[aDv]at BS;rw[e]at BS;cases BS;exact⟨v,h2,by simp[Act.put,dD]⟩
   .rw[aCM (Ne.symm cQ)]at hj;obtain⟨u,h6,h7⟩:=h.val j d hj BS;have hdd:d0≠d:=λe'=>cQ (h5 j (e'▸BS));exact⟨u,hv _ _ h6,by simp only[Act.put];rw[aCM hdd];exact h7⟩
end
def ml(h:∀j,j<ops.size->listed[j]?=some true)(fuel tt:Nat):Region.linearise.go .any ops fuel tt listed []=[]:=by
 cases fuel with
 |zero=>rfl
 |succ fuel=>
  have hr:Region.ready .any ops listed=[]:=by
   rw[aHz];intro i hi;obtain⟨h1,h2,_⟩:=mem_ready.1 hi;rw[aCd,h i h1]at h2;cases h2
  simp only[Region.linearise.go];change (match (Region.ready .any ops listed)[tt % (Region.ready .any ops listed).length]? with
   |some i=>Region.linearise.go .any ops fuel (tt/(Region.ready .any ops listed).length) (listed.setIfInBounds i true) [i]
   |none=>[].reverse)=[]
  rw[hr];rfl
section
variable{P:Program}{main:Bool}{R:PS}{Q:World->Prop}{J:PS->Goroutine->World->Prop}(hJ:pF P main R Q J){b:Frame}{cs:List Frame}{N:Nat}{ds:List Deferred}{S:PS}{E0:Env}{k:List Item}{w:World}{ops:Array Oper}
include hJ
def CJ.any(hk:b.kind≠.early)(bY:mh ops E0 N=true)(vs:List (Option Value))(dn ul:List Nat)(hul:∀j∈ul,j<ops.size/\(kB ops j=none\/vs.getD j none=none))
  (hp:∀i o d v,i∉dn->ops[i]?=some o->o.dst=some d->vs.getD i none=some v->∀w1,bZ (S.or R) w w1->Q w1->kQ P o.op o.type (Jr ops vs E0 i) w1 v (S.or R))
  (hs:∀i o fuel tt listed a,i∉dn->(∀j∈ul,listed[j]?≠some true)->ops[i]?=some o->(o.dst=none\/vs.getD i none=none)->i∈Region.ready .any ops listed->un ops.size (listed.setIfInBounds i true)<=fuel->Gd ops vs N ds E0 listed a->
   J S (G (b.at a (.inRegion ops (i::Region.linearise.go .any ops fuel tt (listed.setIfInBounds i true) [])::k)) cs) w)
  (hn:ul=[]->CJ J b cs N ds S (xW ops vs (List.range ops.size)++E0) k w):
  ∀fuel tt listed a,(∀j∈dn,listed[j]?=some true)->(∀j∈ul,listed[j]?≠some true)->un ops.size listed<=fuel->Gd ops vs N ds E0 listed a->J S (G (b.at a (.inRegion ops (Region.linearise.go .any ops fuel tt listed [])::k)) cs) w:=by
 have fin:∀(listed:Array Bool) (a:Act),(∀j,j<ops.size->listed[j]?=some true)->(∀j∈ul,listed[j]?≠some true)->Gd ops vs N ds E0 listed a->J S (G (b.at a (.inRegion ops []::k)) cs) w:=λlisted a hl yD hg=>
  hJ.ctl rfl (λ_=>stepG_region_end) (hn (by
   cases ul with
   |nil=>rfl
   |cons j r=>exact absurd (hl j (hul j (aBw ..)).1) (yD j (aBw ..))) a (hg.env _ λj hj=>hl j (aC5.1 hj)))
 intro fuel;induction fuel with
 |zero=>intro tt listed a _ yD hu hg;exact fin listed a (mj hg.size BYO) yD hg
 |succ fuel ih=>
  intro tt listed a OP yD hu hg;simp only[Region.linearise.go];change J S (G (b.at a (.inRegion ops (match (Region.ready .any ops listed)[tt % (Region.ready .any ops listed).length]? with
   |some i=>Region.linearise.go .any ops fuel (tt/(Region.ready .any ops listed).length) (listed.setIfInBounds i true) [i]
   |none=>[].reverse)::k)) cs) w
  cases hi:(Region.ready .any ops listed)[tt % (Region.ready .any ops listed).length]? with
  |none=>
   have Ml:Region.ready .any ops listed=[]:=by
    cases hr:Region.ready .any ops listed with
    |nil=>rfl
    |cons x xs=>
     rw[hr]at hi;have dD:tt % (x::xs).length<(x::xs).length:=Nat.mod_lt _ BYS;simp at hi;simp at dD;omega
   exact fin listed a (ready_nil bY hg.size Ml) yD hg
  |some i=>
   simp only[];rw[linearise_go_acc,List.reverse_singleton,aD1];have hm:=List.mem_of_getElem? hi;obtain⟨h1,h2,o,h3,_⟩:=mem_ready.1 hm;have Fg:un ops.size (listed.setIfInBounds i true)<=fuel:=by have:=aAv hg.size h1 h2;omega
   have HW:i∉dn:=λiD=>by rw[aCd,OP i iD]at h2;cases h2
   have aM1:∀j∈dn,(listed.setIfInBounds i true)[j]?=some true:=λj hj=>by
    have cQ:i≠j:=λe=>HW (by rw[e];exact hj);rw[aCM cQ];exact OP j hj
   by_cases hc:o.dst=none\/vs.getD i none=none
   .exact hs i o _ _ listed a HW yD h3 hc hm Fg hg
   .have aN7:∀j∈ul,(listed.setIfInBounds i true)[j]?≠some true:=λj hj=>by
     have cQ:i≠j:=λe=>hc (by
      have h6:=(hul j hj).2;rw[<-e]at h6;unfold kB at h6;rw[h3]at h6;exact h6)
     rw[aCM cQ];exact yD j hj
    obtain⟨d,hd⟩:=Option.ne_none_iff_exists'.1 λe=>hc (.inl e);obtain⟨v,hv⟩:=Option.ne_none_iff_exists'.1 λe=>hc (.inr e);refine hJ.step _ _ _ rfl λw1 ha hq=>?_;obtain⟨h5,h6⟩:=hp i o d v HW h3 hd hv w1 ha hq;have hf:=(hg.ready hm).fits;refine⟨S,_,w1,_,stepG_value (v:=v) h3 (by simp[Region.wanted,(UQ bY h3).1]) hk (h5 _ hf _ _ _ _),(Gu.refl S R w1).ev λe he=>(h6 _ hf _ _ _ _ e (mem_listed he)).imp id λ⟨x,y,z⟩=>⟨x,(fZ.1 y).imp id λy=>⟨y,z⟩⟩,hJ.rely _ _ _ _ (ih _ _ _ aM1 aN7 Fg (hg.done bY h3 (λp hp=>(hg.ahead hm hp).1) (λ_ _ x=>x) (λd' BS=>?_) λe=>?_)) ha⟩
    .rw[hd]at BS;cases BS;exact⟨v,hv,by rw[hd]⟩
    .rw[hd]at e;cases e
def CJ.draw{id:Nat}(hm:P.follows .mixedOrders=true)(h:∀tt a,Gd ops [] N ds E0 (Array.replicate ops.size false) a->J S (G (b.at a (.inRegion ops (Region.linearise.go .any ops ops.size tt (Array.replicate ops.size false) [])::k)) cs) w):
  CJ J b cs N ds S E0 (.code (.region id ops true)::k) w:=λa ha=>by
 have e:∀t,Region.schedule (P.follows .mixedOrders) ops t=Region.linearise.go .any ops ops.size t (Array.replicate ops.size false) []:=λt=>by simp[Region.schedule,hm,Region.linearise]
 refine hJ.step _ _ _ rfl λw1 h1 _=>⟨S,G (b.at a (.inRegion ops (Region.linearise.go .any ops ops.size (w1.tape w1.drawn (.order b.fn id)) (Array.replicate ops.size false) [])::k)) cs,{w1 with drawn:=w1.drawn+1},#[],by rw[stepG_region_draw,e],?_,hJ.rely _ _ _ _ (h _ a ⟨ha,BYS,λj d hj=>?_,λj hj=>?_⟩) (h1.trans (bZ.at _ _ _))⟩
 .exact⟨λ_ _ h=>h,λ_ _ h=>.inl h,aAB _,λ_ _ _=>.inl rfl,rfl,rfl,rfl,λe he=>by simp at he⟩
 .simp[aGf]at hj
 .simp[aGf]at hj
end
section
variable{P:Program}{main:Bool}{R:PS}{Q:World->Prop}{J:PS->Goroutine->World->Prop}{b:Frame}{a:Act}{cs:List Frame}{N:Nat}{ds:List Deferred}{S S':PS}{E:Env}{k:List Item}{w:World}{i:Nat}{rest:List Nat}
def UR{d:Deferred}(ho:ops[i]?=some o)(hw:Region.wanted o (yielded ops a.tmps)=true)(hk:b.kind≠.early)(hr:(execOp a.eval o).run P w=.ok (.defer d) w)(he:(execOp a.eval o).events P w #[]= #[]):
  stepG P main (G (b.at a (.inRegion ops (i::rest)::k)) cs) w=.go (G (b.at (Act.put ⟨a.tmps,d::a.defers⟩ o.dst undef) (.inRegion ops rest::k)) cs) w #[]:=by
 have oA:(b.at ⟨a.tmps,d::a.defers⟩ (.inRegion ops (i::rest)::k)).finish undef=b.at (Act.put ⟨a.tmps,d::a.defers⟩ o.dst undef) (.inRegion ops rest::k):=by rw[Frame.finish_at,ho];rfl
 have HU:(b.kind==CallKind.early)=false:=by simpa using hk
 rw[stepG_oper ho hw,<-oA];simp[stepG.apply,hr,he,G,Frame.at,HU,GStep.after,seen_none]
def aS2(hJ:pF P main R Q J){d:Deferred}(ho:ops[i]?=some o)(hw:o.guard=none)(hk:b.kind≠.early)(hd:o.dst=none)
  (hr:∀ρ,Fits E ρ->∀w,(execOp ρ o).run P w=.ok (.defer d) w/\(execOp ρ o).events P w #[]= #[])(h:CJ J b cs N (d::ds) S E (.inRegion ops rest::k) w):CJ J b cs N ds S E (.inRegion ops (i::rest)::k) w:=λa ha=>by
 refine hJ.ctl rfl (λw1=>UR ho (by simp[Region.wanted,hw]) hk (hr _ ha.fits w1).1 (hr _ ha.fits w1).2) (h _ ⟨?_,?_,?_⟩)
 .rw[hd];exact ha.size
 .rw[hd];exact congrArg _ ha.defers
 .rw[hd];exact ha.at_
def yV{todo:List Item}{sG:Array TypeId}{T:TypeId}{sc:Array Bool}{r cap s rc:Nat}{buf:Array Value}{tm:Bool}(hd:a.defers={target:=.builtin .close sG T sc,args:= #[.chan (some r)]}::ds)
  (hc:w.heap[r]?=some (.chan cap buf false s rc tm))(hq:(P.funcs[b.fn]?).any (·.norace)=false):
  stepG P main (G {b.at a todo with mode:=.returning} cs) w=.go (G {b.at ⟨a.tmps,ds⟩ todo with mode:=.returning} cs) (w.setChan r cap buf true s rc tm) (closeEvents r):=by
 have hr:(invoke (.builtin .close sG T sc) #[.chan (some r)]).run P w=.ok (.value (.tuple #[])) (w.setChan r cap buf true s rc tm):=by
  simp[invoke,builtin,run_close_open _ _ hc,World.setChan]
 have he:(invoke (.builtin .close sG T sc) #[.chan (some r)]).events P w #[]=closeEvents r:=by
  simp[go_sem,invoke,builtin,run_close_open _ _ hc,events_close_open _ _ hc,closeEvents]
 have hl:seen P b.fn ((invoke (.builtin .close sG T sc) #[.chan (some r)]).events P w #[])=closeEvents r:=by
  rw[he,seen_eq hq (by intro e he f;simp only[closeEvents,aD8,aBI,aDU,or_false]at he;rcases he with rfl|rfl<;>simp)]
 simp[G,stepG,unwind,callDeferred,Frame.at,hd,hr,GStep.after]at hl⊢;exact hl
end
open Go.ConcR (DC0)
variable{K:World->Prop}
section
variable{P:Program}{lo:Nat}{ty:TypeId}{Post:Value->World->Prop}{ms:MS}{S R:PS}{g:Goroutine}{w:World}{I:KI}{st:KS}
def lE.mono{K K':KS->PS->Goroutine->World->Prop}(hm:∀st S g w,K st S g w->K' st S g w)(h:lE P ty I K st S R g w):lE P ty I K' st S R g w:=by
 cases h with
 |own h1 h2 h3=>exact .own h1 h2 (hm _ _ _ _ h3)
 |rel h1 h2 h3 h4=>exact .rel h1 h2 h3 (hm _ _ _ _ h4)
 |idle h1 h2 h3=>exact .idle h1 h2 (hm _ _ _ _ h3)
 |AJ h1 h2=>exact .AJ h1 (hm _ _ _ _ h2)
 |add h1 h0 h2 h3 h4=>exact .add h1 h0 h2 h3 (hm _ _ _ _ h4)
 |d4 h1 h2 h3=>exact .d4 h1 h2 (hm _ _ _ _ h3)
 |d3 h1 h2 h3=>exact .d3 h1 h2 (hm _ _ _ _ h3)
 |d2 h1 h2 h3 h4=>exact .d2 h1 h2 h3 (hm _ _ _ _ h4)
 |send h1 h2 h3 h4=>exact .send h1 h2 h3 (hm _ _ _ _ h4)
 |close h1 h2 h3 h4 h5=>exact .close h1 h2 h3 h4 (hm _ _ _ _ h5)
def fO.mono{K K':Option (World×Value)->MS->PS->PS->Goroutine->World->Prop}(hm:∀o ms S R g w,K o ms S R g w->K' o ms S R g w)(h:fO P lo ty Post K ms S R g w):fO P lo ty Post K' ms S R g w:=by
 cases h with
 |own h1 h2 h3=>exact .own h1 h2 (hm _ _ _ _ _ _ h3)
 |ends h1 h2=>exact .ends h1 h2
 |FC h1 h2 h3 h0 h4=>exact .FC h1 h2 h3 h0 (hm _ _ _ _ _ _ h4)
 |AJ h1 h2 h3=>exact .AJ h1 h2 (hm _ _ _ _ _ _ h3)
 |add h1 h2 h3 h4=>exact .add h1 h2 h3 (hm _ _ _ _ _ _ h4)
 |H6 h1 h2 h3 h4=>exact .H6 h1 h2 h3 (hm _ _ _ _ _ _ h4)
 |said h1 h2 h3=>exact .said h1 h2 (hm _ _ _ _ _ _ h3)
 |go h1 h2 h3 h4 h5 h6=>exact .go h1 h2 h3 h4 h5 (hm _ _ _ _ _ _ h6)
 |load h1 h2 h3 h4 h5=>exact .load h1 h2 h3 (hm _ _ _ _ _ _ h4) h5
 |vv h1 h2 h3 h4 h5=>exact .vv h1 h2 h3 h4 (hm _ _ _ _ _ _ h5)
 |ZG h1 h2=>exact .ZG h1 h2
 |ZH h1 h2 h3 h4=>exact .ZH h1 h2 h3 (hm _ _ _ _ _ _ h4)
 |FD h1 h2 h3=>exact .FD h1 h2 (hm _ _ _ _ _ _ h3)
 |acq h1 h2 h3=>exact .acq h1 h2 λx=>hm _ _ _ _ _ _ (h3 x)
 |xS h1 h2 h3 h4 h0 h5=>exact .xS h1 h2 h3 h4 h0 (hm _ _ _ _ _ _ h5)
 |ZI h1 h2 h3 h4 h5=>exact .ZI h1 h2 h3 h4 (hm _ _ _ _ _ _ h5)
 |recv h1 h2 h3=>exact .recv h1 h2 λv w2 x y=>hm _ _ _ _ _ _ (h3 v w2 x y)
 |shut h1 h2 h3 h4=>exact .shut h1 h2 (λx=>hm _ _ _ _ _ _ (h3 x)) λx y=>hm _ _ _ _ _ _ (h4 x y)
def KT.pre(hs:g.status=.running)(hq:∀d,st≠.quit d)(h:∀w1,bZ (S.or R) w w1->NX ty I st w1->KT P ty I st S R g w1):KT P ty I st S R g w:=
 KT.step hs hq λw1 h1 h2=>by
  obtain⟨ρ,h3⟩:=h w1 h1 h2;obtain⟨f,rfl,_,h4⟩:=h3.move hq;exact(h4 w1 (bZ.refl _ _) h2).mono λ_ _ _ _ x=>⟨_,x⟩
def MT.pre(hs:g.status=.running)(h:∀w1,bZ (S.or R) w w1->ZF ty ms w1->MT P lo ty Post ms S R g w1):MT P lo ty Post ms S R g w:=
 MT.step hs λw1 h1 h2=>by
  obtain⟨ρ,h3⟩:=h w1 h1 h2;cases ρ with
  |z=>exact h3.elim
  |mk f=>exact(h3.2 w1 (bZ.refl _ _) h2).mono λ_ _ _ _ _ _ x=>⟨_,x⟩
abbrev RA(V:PS)(K:World->Prop)(w w1:World):Prop:=bZ V w w1/\K w1
def MT.goes(hK:∀w,ZF ty ms w->K w):∀{n:Nat} {g:Goroutine} {w:World},Goes P true (RA (S.or R) K) DC0 (λg w=>MT P lo ty Post ms S R g w) n g w->K w->MT P lo ty Post ms S R g w:=by
 intro n;induction n with
 |zero=>intro g w h h0;exact h w ⟨bZ.refl _ _,h0⟩
 |succ n ih=>
  intro g w h h0;rcases h with h|⟨hs,h⟩
  .exact h w ⟨bZ.refl _ _,h0⟩
  .refine MT.own.step S g w hs λw1 h1 h2=>?_;obtain⟨g',w',es,h3,⟨rfl,rfl⟩,h5⟩:=goes_elim (h w1 ⟨h1,hK w1 h2⟩);exact⟨S,g',w',#[],h3,Gu.refl S R w',ih h5 (hK _ h2)⟩
def KT.goes(hq:∀d,st≠.quit d)(hK:∀w,NX ty I st w->K w):∀{n:Nat} {g:Goroutine} {w:World},Goes P false (RA (S.or R) K) DC0 (λg w=>KT P ty I st S R g w) n g w->K w->KT P ty I st S R g w:=by
 intro n;induction n with
 |zero=>intro g w h h0;exact h w ⟨bZ.refl _ _,h0⟩
 |succ n ih=>
  intro g w h h0;rcases h with h|⟨hs,h⟩
  .exact h w ⟨bZ.refl _ _,h0⟩
  .refine KT.step hs hq λw1 h1 h2=>?_;obtain⟨g',w',es,h3,⟨rfl,rfl⟩,h5⟩:=goes_elim (h w1 ⟨h1,hK w1 h2⟩);exact .idle hq h3 (ih h5 (hK _ h2))
end
open Go.Conc.Lib Go.ConcR.Gen Go.ConcN.Gen
open Go.ConcR (KK wgBlock WgAt stA smA rd wr mk DC0)
open Go.ConcN (st_flag st_waiters)
variable{ty:TypeId}{Wg:Nat}{w:World}
variable{lo:Nat}{L:WgLink}
def aOw(h:WgLive ty Wg w):∃v,w.cell? ⟨Wg,0,none⟩=some v:=let ⟨_,_,x⟩:=h;⟨_,x.cellSt⟩
def aPh(h:WgLive ty Wg w):∃v,w.cell? ⟨Wg,1,none⟩=some v:=let ⟨_,_,x⟩:=h;⟨_,x.cellSm⟩
def nV{V:PS}{b o:Nat}(h:∀x,¬V b x):bZ V w (w.setCell ⟨b,o,none⟩ v):=by
 have ne:∀k x,V k x->(w.setCell ⟨b,o,none⟩ v).heap[k]?=w.heap[k]?:=λk x hx=>Rk.fD.eZ λe=>h x (e▸hx);exact⟨λk hk=>ne k _ hk,λk o' hk c T fz hc=>⟨c,(ne k _ hk).trans hc,rfl,rfl⟩,by rw[Rk.fD.cL];exact aAB _,rfl,rfl,rfl⟩
section
variable{P:Program}{Post:Value->World->Prop}{S R:PS}{qs:List (World->Prop)}{g0:Goroutine}{ms:MS}
abbrev Fa(P:Program)(Post:Value->World->Prop)(lo:Nat)(ty:TypeId)(Wg:Nat)(ms:MS)(S R:PS)(g0:Goroutine)(w:World):Prop:=WgLive ty Wg w/\MT P lo ty Post ms S R g0 w
def fa{lo:Nat}{w1:World}(h:Fa P Post lo ty Wg ms S R g0 w)(r:RA (S.or R) (WgLive ty Wg) w w1):Fa P Post lo ty Wg ms S R g0 w1:=⟨r.2,h.2.rely r.1⟩
def add_pos(H:WgLib P L)(Ey:∀x,¬(S.or R) Wg x)(hq:qs.length<1000){b₀:Frame}{a₀:Act}{qB:Array Oper}{i₀:Nat}{oI:List Nat}{k₀:List Item}{cs:List Frame}
  (hT:MT P lo L.tWg Post (.wg Wg qs .pe) S R (G (b₀.at (a₀.put ((qB[i₀]?).bind (·.dst)) (.tuple #[])) (.inRegion qB oI::k₀)) cs) w):
  MT P lo L.tWg Post (.wg Wg qs .op) S R (G ((base L.add).at ⟨#[.pointer (some ⟨Wg,0,none⟩),.int .i64 1,undef,undef,undef,undef,undef,undef,undef,undef,undef,undef,undef,undef,undef,undef,undef,undef,undef,undef,undef,undef,undef,undef,undef,undef,undef,undef,undef,undef,undef,undef,undef,undef,undef,undef,undef,undef,undef,undef,undef,undef,undef,undef,undef,undef,undef,undef,undef,undef,undef,undef,undef,undef,undef,undef,undef,undef,undef,undef,undef,undef,undef,undef,undef,undef,undef,undef,undef,undef,undef,undef,undef,undef,undef,undef,undef,undef,undef,undef,undef,undef,undef,undef,undef,undef,undef,undef,undef,undef,undef,undef,undef,undef,undef,undef,undef,undef,undef,undef,undef,undef,undef,undef,undef,undef,undef,undef,undef,undef,undef,undef,undef,undef,undef,undef,undef],[]⟩ [.code (body_add L)]) (b₀.at a₀ (.inRegion qB (i₀::oI)::k₀)::cs)) w:=by
 refine MT.pre rfl λw1 ha hp=>?_;have hF:Fa P Post lo L.tWg Wg (.wg Wg qs .pe) S R _ w1:=⟨hp.1,hT.rely ha⟩;clear hp ha hT
 lib_facts
 refine MT.goes (ms:=.wg Wg qs .op) (K:=WgLive L.tWg Wg) (n:=400) (λ_ h=>h.1) ?_ hF.1;simp only[body_add,addFn,aFV];u_c stepG_seq fa hF;u_cond true fa hF;u_c stepG_seq fa hF;u_c stepG_seq fa hF;u_reg fa hF;u_op fa hF;u_op fa hF;u_c stepG_region_end fa hF;u_cond false fa hF;u_c stepG_skip fa hF;u_c stepG_seq fa hF;u_reg fa hF;refine Goes.stop (λw1 h1=>?_);replace hF:=fa hF h1;clear h1;refine MT.step rfl λw2 h2 hp=>?_;replace hF:=fa hF ⟨h2,hp.1⟩;clear h2 hp;refine .AJ (stepG_mark0 .disable BYS rfl rfl (by k_ne) rfl H.f_disable (x_disable_n L) (x_disable_b L) (x_disable_x L) (x_disable_f L)) rfl ?_;refine MT.goes (ms:=.wg Wg qs (.df qs.length)) (K:=WgLive L.tWg Wg) (n:=400) (λ_ h=>h.1) ?_ hF.1
 walk_nrm
 u_c stepG_region_end fa hF;u_reg fa hF;u_defer fa hF;u_c stepG_region_end fa hF;u_c stepG_seq fa hF;u_reg fa hF;u_op fa hF;u_c stepG_region_end fa hF;u_c stepG_seq fa hF;u_c stepG_seq fa hF;u_reg fa hF;u_bub fa hF;u_c stepG_region_end fa hF;u_cond false fa hF;u_c stepG_skip fa hF;u_c stepG_seq fa hF;u_reg fa hF;u_op fa hF;u_op fa hF;u_op fa hF;u_op fa hF;u_op fa hF;u_op fa hF;u_call H.f_uAdd (nm_uAdd L) uAddFn fa hF;u_c stepG_seq fa hF;u_reg fa hF;u_op fa hF;u_c stepG_region_end fa hF;u_c stepG_seq fa hF;u_reg fa hF;u_op fa hF;u_op fa hF;u_op fa hF;u_op fa hF;refine Goes.stop (λw1 h1=>?_);replace hF:=fa hF h1;clear h1;refine MT.step rfl λw2 h2 hp=>?_;replace hF:=fa hF ⟨h2,hp.1⟩;obtain⟨_,v,hv,hw⟩:=hp;clear h2;rcases aCl v with rfl|hvp
 .have Ev:WgAt L.tWg Wg w2 0 0:=by simpa using hw
  have e0:IntKind.u64.wrap (0+4294967296)=KK:=BYD;refine .add (v:=0) hw ((stepG_add_atomic rfl rfl (by k_ne) rfl H.f_addU64 (x_addU64_n L) (x_addU64_b L) (x_addU64_x L) .u64 (x_addU64_f L) rfl rfl Ev.cellSt (Ev.thaw 0)).trans (by rw[e0];rfl)) rfl ?_;have z:(((0+1:Nat):Int))*KK=KK:=BYS;rw[z];replace hF:Fa P Post lo L.tWg Wg (.wg Wg qs .pe) S R _ (w2.setCell (stA Wg) (.int .u64 KK)):=⟨⟨_,_,Ev.setSt KK⟩,hF.2.rely (nV Ey)⟩;refine MT.goes (ms:=.wg Wg qs .pend) (K:=WgLive L.tWg Wg) (n:=400) (λ_ h=>h.1) ?_ hF.1;clear Ev hw e0 z;simp only[KK]at hF⊢
  walk_nrm
  u_op fa hF;u_c stepG_region_end fa hF;u_c stepG_ret' fa hF;u_leave1 H.f_uAdd fa hF;u_op fa hF;u_c stepG_region_end fa hF;u_c stepG_seq fa hF;u_c stepG_seq fa hF;u_reg fa hF;u_op fa hF;u_op fa hF;u_op fa hF;u_op fa hF;u_skip fa hF;u_skip fa hF;u_op fa hF;u_c stepG_region_end fa hF;u_cond false fa hF;u_c stepG_skip fa hF;u_c stepG_seq fa hF;u_reg fa hF;u_op fa hF;u_op fa hF;u_op fa hF;u_op fa hF;u_c stepG_region_end fa hF;u_c stepG_seq fa hF;u_reg fa hF;u_op fa hF;u_op fa hF;u_op fa hF;u_op fa hF;u_c stepG_region_end fa hF;u_c stepG_seq fa hF;u_c stepG_seq fa hF;u_reg fa hF;u_op fa hF;u_op fa hF;u_op fa hF;u_op fa hF;u_op fa hF;u_op fa hF;u_op fa hF;u_op fa hF;u_op fa hF;u_op fa hF;u_c stepG_region_end fa hF;u_cond true fa hF;u_reg fa hF;u_op fa hF;u_op fa hF;u_op fa hF;u_conv H.underlying_tPU32 H.room_tU32 (aPh hF.1).choose_spec fa hF;refine Goes.stop (λw1 h1=>?_);replace hF:=fa hF h1;clear h1;refine MT.step rfl λw2 h2 hp=>?_;replace hF:=fa hF ⟨h2,hp.1⟩;clear h2 hp;refine .said (.inl rfl) (stepG_markAt .read BYS rfl rfl (by k_ne) rfl H.f_raceRead (x_raceRead_n L) (x_raceRead_b L) (x_raceRead_x L) (x_raceRead_f L) (by simp[Act.eval,smA])) ?_;refine MT.goes (ms:=.wg Wg qs .pend) (K:=WgLive L.tWg Wg) (n:=400) (λ_ h=>h.1) ?_ hF.1
  walk_nrm
  u_c stepG_region_end fa hF;u_c stepG_seq fa hF;u_c stepG_seq fa hF;u_reg fa hF;u_op fa hF;u_op fa hF;u_c stepG_region_end fa hF;u_cond false fa hF;u_c stepG_skip fa hF;u_c stepG_seq fa hF;u_c stepG_seq fa hF;u_reg fa hF;u_op fa hF;u_op fa hF;u_op fa hF;u_skip fa hF;u_skip fa hF;u_op fa hF;u_op fa hF;u_skip fa hF;u_skip fa hF;u_skip fa hF;u_skip fa hF;u_op fa hF;u_c stepG_region_end fa hF;u_cond false fa hF;u_c stepG_skip fa hF;u_c stepG_seq fa hF;u_c stepG_seq fa hF;u_reg fa hF;u_op fa hF;u_op fa hF;u_op fa hF;u_skip fa hF;u_skip fa hF;u_op fa hF;u_c stepG_region_end fa hF;u_cond true fa hF;u_c stepG_ret' fa hF;refine Goes.stop (λw1 h1=>?_);replace hF:=fa hF h1;clear h1;refine MT.step rfl λw2 h2 hp=>?_;replace hF:=fa hF ⟨h2,hp.1⟩;clear h2 hp;refine .H6 (.inl ⟨rfl,rfl⟩) (stepG_unwind_entry (v:=.tuple #[]) (evs:= #[mk .enable]) rfl H.f_enable (x_enable_n L) (x_enable_b L) (x_enable_x L) (x_enable_f L) (by simp[Extern.Race.none_]) (by simp[mk]) (by simp[mk])) rfl ?_;refine MT.goes (ms:=.wg Wg qs .pe) (K:=WgLive L.tWg Wg) (n:=400) (λ_ h=>h.1) ?_ hF.1;u_leave0 H.f_add fa hF;exact Goes.stop λw3 h3=>(fa hF h3).2
 .obtain⟨V,hV⟩:∃V:Int,V=(v:Int)+1:=⟨_,rfl⟩;obtain⟨X,hX⟩:∃X:Int,X=V*KK:=⟨_,rfl⟩;have eX:IntKind.u64.wrap ((v:Int)*KK+4294967296)=X:=by rw[IntKind.wrap_u64,hX,hV];simp only[KK];omega
  have a1:X/4294967296=V:=by rw[hX];simp only[KK];omega
  have b1:bits .and .u64 X 2147483648=0:=by rw[hX,hV];have:=st_flag (v+1) 0 BYO BYO;simpa[KK] using this
  have b2:bits .and .u64 X 2147483647=0:=by rw[hX,hV];have:=st_waiters (v+1) 0 BYO BYO;simpa[KK] using this
  have c1:IntKind.i32.wrap V=V:=by rw[IntKind.wrap_i32];omega
  have q1:(V==1)=false:=BYT;have q2:decide (V=1)=false:=decide_eq_false BYO;have q3:decide (V<0)=false:=decide_eq_false BYO;have q4:decide (0<V)=true:=decide_eq_true BYO;have q5:(V==0)=false:=BYT;have q6:decide (V=0)=false:=decide_eq_false BYO;refine .add (v:=v) hw ((stepG_add_atomic rfl rfl (by k_ne) rfl H.f_addU64 (x_addU64_n L) (x_addU64_b L) (x_addU64_x L) .u64 (x_addU64_f L) rfl rfl hw.cellSt (hw.thaw 0)).trans (by rw[eX,show(((v+1:Nat):Int))*KK=X by rw[hX,hV];rfl];rfl)) rfl ?_;rw[show(((v+1:Nat):Int))*KK=X by rw[hX,hV];rfl];replace hF:Fa P Post lo L.tWg Wg (.wg Wg qs .pe) S R _ (w2.setCell (stA Wg) (.int .u64 X)):=⟨⟨_,_,hw.setSt X⟩,hF.2.rely (nV Ey)⟩;refine MT.goes (ms:=.wg Wg qs .pend) (K:=WgLive L.tWg Wg) (n:=400) (λ_ h=>h.1) ?_ hF.1;clear hw hX hV eX hv hq
  walk_nrm
  u_op fa hF;u_c stepG_region_end fa hF;u_c stepG_ret' fa hF;u_leave1 H.f_uAdd fa hF;u_op fa hF;u_c stepG_region_end fa hF;u_c stepG_seq fa hF;u_c stepG_seq fa hF;u_reg fa hF;u_op fa hF;u_op fa hF;u_op fa hF;u_op fa hF;u_skip fa hF;u_skip fa hF;u_op fa hF;u_c stepG_region_end fa hF;u_cnd false fa hF;u_c stepG_skip fa hF;u_c stepG_seq fa hF;u_reg fa hF;u_op fa hF;u_op fa hF;u_op fa hF;u_op fa hF;u_c stepG_region_end fa hF;u_c stepG_seq fa hF;u_reg fa hF;u_op fa hF;u_op fa hF;u_op fa hF;u_op fa hF;u_c stepG_region_end fa hF;u_c stepG_seq fa hF;u_c stepG_seq fa hF;u_reg fa hF;u_op fa hF;u_op fa hF;u_op fa hF;u_op fa hF;u_op fa hF;u_op fa hF;u_op fa hF;u_op fa hF;u_op fa hF;u_op fa hF;u_c stepG_region_end fa hF;u_cnd false fa hF;u_c stepG_skip fa hF;u_c stepG_seq fa hF;u_c stepG_seq fa hF;u_reg fa hF;u_op fa hF;u_op fa hF;u_c stepG_region_end fa hF;u_cnd false fa hF;u_c stepG_skip fa hF;u_c stepG_seq fa hF;u_c stepG_seq fa hF;u_reg fa hF;u_op fa hF;u_op fa hF;u_op fa hF;u_skip fa hF;u_skip fa hF;u_op fa hF;u_op fa hF;u_skip fa hF;u_skip fa hF;u_skip fa hF;u_skip fa hF;u_op fa hF;u_c stepG_region_end fa hF;u_cnd false fa hF;u_c stepG_skip fa hF;u_c stepG_seq fa hF;u_c stepG_seq fa hF;u_reg fa hF;u_op fa hF;u_op fa hF;u_op fa hF;u_skip fa hF;u_skip fa hF;u_op fa hF;u_c stepG_region_end fa hF;u_cnd true fa hF;u_c stepG_ret' fa hF;refine Goes.stop (λw1 h1=>?_);replace hF:=fa hF h1;clear h1;refine MT.step rfl λw2 h2 hp=>?_;replace hF:=fa hF ⟨h2,hp.1⟩;clear h2 hp;refine .H6 (.inl ⟨rfl,rfl⟩) (stepG_unwind_entry (v:=.tuple #[]) (evs:= #[mk .enable]) rfl H.f_enable (x_enable_n L) (x_enable_b L) (x_enable_x L) (x_enable_f L) (by simp[Extern.Race.none_]) (by simp[mk]) (by simp[mk])) rfl ?_;refine MT.goes (ms:=.wg Wg qs .pe) (K:=WgLive L.tWg Wg) (n:=400) (λ_ h=>h.1) ?_ hF.1;u_leave0 H.f_add fa hF;exact Goes.stop λw3 h3=>(fa hF h3).2
end
open Go.ConcR (KK wgBlock WgAt stA smA rd wr mk DC0)
open Go.ConcN (st_flag st_waiters)
variable{w1:World}
section
variable{P:Program}{S R:PS}{Q:World->Prop}
abbrev Fk(ty:TypeId)(Wg:Nat)(S:PS)(Q:World->Prop)(w:World):Prop:=WgLive ty Wg w/\∀w1,bZ S w w1->Q w1
def kf(h:Fk ty Wg S Q w)(r:RA (S.or R) (WgLive ty Wg) w w1):Fk ty Wg S Q w1:=⟨r.2,λw2 h2=>h.2 w2 ((r.1.sub λ_ _ x=>.inl x).trans h2)⟩
def kl{V:PS}(_:WgLive ty Wg w/\True)(r:RA V (WgLive ty Wg) w w1):WgLive ty Wg w1/\True:=⟨r.2,trivial⟩
def add_neg(H:WgLib P L){b₀:Frame}{a₀:Act}{qB:Array Oper}{i₀:Nat}{oI:List Nat}{k₀:List Item}{cs:List Frame}{qt:Nat}{w:World}
  (hT:QuitsD P qt 0 (G (b₀.at (a₀.put ((qB[i₀]?).bind (·.dst)) (.tuple #[])) (.inRegion qB oI::k₀)) cs))(hF:Fk L.tWg Wg S Q w):
  KT P L.tWg (.wg Wg Q) .work S R (G ((base L.add).at ⟨#[.pointer (some ⟨Wg,0,none⟩),.int .i64 (-1),undef,undef,undef,undef,undef,undef,undef,undef,undef,undef,undef,undef,undef,undef,undef,undef,undef,undef,undef,undef,undef,undef,undef,undef,undef,undef,undef,undef,undef,undef,undef,undef,undef,undef,undef,undef,undef,undef,undef,undef,undef,undef,undef,undef,undef,undef,undef,undef,undef,undef,undef,undef,undef,undef,undef,undef,undef,undef,undef,undef,undef,undef,undef,undef,undef,undef,undef,undef,undef,undef,undef,undef,undef,undef,undef,undef,undef,undef,undef,undef,undef,undef,undef,undef,undef,undef,undef,undef,undef,undef,undef,undef,undef,undef,undef,undef,undef,undef,undef,undef,undef,undef,undef,undef,undef,undef,undef,undef,undef,undef,undef,undef,undef,undef,undef],[]⟩ [.code (body_add L)]) (b₀.at a₀ (.inRegion qB (i₀::oI)::k₀)::cs)) w:=by
 lib_facts
 simp only[body_add,addFn,aFV];refine KT.goes (ty:=L.tWg) (I:=.wg Wg Q) (st:=.work) (K:=WgLive L.tWg Wg) (n:=400) BYS (λ_ h=>h.1) ?_ hF.1;u_c stepG_seq kf hF;u_cond true kf hF;u_c stepG_seq kf hF;u_c stepG_seq kf hF;u_reg kf hF;u_op kf hF;u_op kf hF;u_c stepG_region_end kf hF;u_cond true kf hF;u_reg kf hF;u_op kf hF;u_conv H.underlying_tWgP H.room_tWg (aOw hF.1).choose_spec kf hF;refine Goes.stop (λw1 h1=>?_);replace hF:=kf hF h1;clear h1;refine KT.step rfl BYS λw2 h2 hp=>?_;replace hF:=kf hF ⟨h2,hp.1⟩;clear h2 hp;refine .rel rfl (stepG_markAt .releaseMerge BYS rfl rfl (by k_ne) rfl H.f_relMerge (x_relMerge_n L) (x_relMerge_b L) (x_relMerge_x L) (x_relMerge_f L) (by simp[Act.eval,stA])) hF.2 ?_;refine KT.goes (ty:=L.tWg) (I:=.wg Wg Q) (st:=.rel) (K:=WgLive L.tWg Wg) (n:=400) BYS (λ_ h=>h.1) ?_ hF.1
 walk_nrm
 u_c stepG_region_end kf hF;u_c stepG_seq kf hF;u_reg kf hF;refine Goes.stop (λw1 h1=>?_);replace hF:=kf hF h1;clear h1;refine KT.step rfl BYS λw2 h2 hp=>?_;replace hF:=kf hF ⟨h2,hp.1⟩;clear h2 hp;refine .AJ (stepG_mark0 .disable BYS rfl rfl (by k_ne) rfl H.f_disable (x_disable_n L) (x_disable_b L) (x_disable_x L) (x_disable_f L)) ?_;refine KT.goes (ty:=L.tWg) (I:=.wg Wg Q) (st:=.deaf) (K:=WgLive L.tWg Wg) (n:=400) BYS (λ_ h=>h.1) ?_ hF.1
 walk_nrm
 u_c stepG_region_end kf hF;u_reg kf hF;u_defer kf hF;u_c stepG_region_end kf hF;u_c stepG_seq kf hF;u_reg kf hF;u_op kf hF;u_c stepG_region_end kf hF;u_c stepG_seq kf hF;u_c stepG_seq kf hF;u_reg kf hF;u_bub kf hF;u_c stepG_region_end kf hF;u_cond false kf hF;u_c stepG_skip kf hF;u_c stepG_seq kf hF;u_reg kf hF;u_op kf hF;u_op kf hF;u_op kf hF;u_op kf hF;u_op kf hF;u_op kf hF;u_call H.f_uAdd (nm_uAdd L) uAddFn kf hF;u_c stepG_seq kf hF;u_reg kf hF;u_op kf hF;u_c stepG_region_end kf hF;u_c stepG_seq kf hF;u_reg kf hF;u_op kf hF;u_op kf hF;u_op kf hF;u_op kf hF;refine Goes.stop (λw1 h1=>?_);replace hF:=kf hF h1;clear h1;refine KT.step rfl BYS λw2 h2 hp=>?_;obtain⟨_,v,wt,hwt,hv,hw⟩:=hp;clear h2 hF;have e0:IntKind.u64.wrap (KK+18446744069414584320)=0:=BYD;have e1:IntKind.u64.wrap (KK+1+18446744069414584320)=1:=BYD;rcases aCl v with rfl|hvp
 .obtain rfl|rfl:wt=0\/wt=1:=BYO
  .have Ev:WgAt L.tWg Wg w2 KK 0:=by simpa using hw
   have z:((0:Nat):Int)*KK+((0:Nat):Int)=0:=BYS;refine .add (v:=0) (wt:=0) rfl BYO hw (by
    rw[z];exact(stepG_add_atomic rfl rfl (by k_ne) rfl H.f_addU64 (x_addU64_n L) (x_addU64_b L) (x_addU64_x L) .u64 (x_addU64_f L) rfl rfl Ev.cellSt (Ev.thaw 0)).trans (by rw[e0];rfl)) ?_
   rw[if_neg BYO];refine KT.quit (q:=qt+89) ?_;clear hw Ev
   walk_nrm
   q_val (.int .u64 0);q_c stepG_region_end;q_c stepG_ret';q_leave1 H.f_uAdd;q_val (.int .u64 0);q_c stepG_region_end;q_c stepG_seq;q_c stepG_seq;q_reg;q_val (.int .u64 0);q_val (.int .u64 0);q_val (.bool false);q_val (.bool false);q_skip;q_skip;q_val (.bool false);q_c stepG_region_end;q_cond false;q_c stepG_skip;q_c stepG_seq;q_reg;q_val (.int .u64 0);q_val (.int .u64 0);q_val (.int .i32 0);q_val (.int .i32 0);q_c stepG_region_end;q_c stepG_seq;q_reg;q_val (.int .u64 0);q_val (.int .u64 0);q_val (.int .u32 0);q_val (.int .u32 0);q_c stepG_region_end;q_c stepG_seq;q_c stepG_seq;q_reg;q_val (.bool true);q_val (.int .i64 (-1));q_val (.bool false);q_val (.bool false);q_val (.bool false);q_skip;q_skip;q_skip;q_skip;q_val (.bool false);q_c stepG_region_end;q_cond false;q_c stepG_skip;q_c stepG_seq;q_c stepG_seq;q_reg;q_val (.int .i32 0);q_val (.bool false);q_c stepG_region_end;q_cond false;q_c stepG_skip;q_c stepG_seq;q_c stepG_seq;q_reg;q_val (.int .u32 0);q_val (.bool false);q_val (.bool false);q_skip;q_skip;q_val (.bool false);q_val (.bool false);q_skip;q_skip;q_skip;q_skip;q_val (.bool false);q_c stepG_region_end;q_cond false;q_c stepG_skip;q_c stepG_seq;q_c stepG_seq;q_reg;q_val (.int .i32 0);q_val (.bool false);q_val (.bool false);q_val (.int .u32 0);q_val (.bool true);q_val (.bool true);q_c stepG_region_end;q_cond true;q_c stepG_ret';q_enable;q_leave0 H.f_add;exact hT
  .have Ev:WgAt L.tWg Wg w2 (KK+1) 0:=by simpa using hw
   have z:((0:Nat):Int)*KK+((1:Nat):Int)=1:=BYS;refine .add (v:=0) (wt:=1) rfl BYO hw (by
    rw[z];exact(stepG_add_atomic rfl rfl (by k_ne) rfl H.f_addU64 (x_addU64_n L) (x_addU64_b L) (x_addU64_x L) .u64 (x_addU64_f L) rfl rfl Ev.cellSt (Ev.thaw 0)).trans (by rw[e1];rfl)) ?_
   rw[if_pos ⟨rfl,rfl⟩,z];have hF:WgLive L.tWg Wg (w2.setCell (stA Wg) (.int .u64 1))/\True:=⟨⟨_,_,Ev.setSt 1⟩,trivial⟩;clear hw Ev;refine KT.goes (ty:=L.tWg) (I:=.wg Wg Q) (st:=.l4) (K:=WgLive L.tWg Wg) (n:=400) BYS (λ_ h=>h.1) ?_ hF.1
   walk_nrm
   u_op kl hF;u_c stepG_region_end kl hF;u_c stepG_ret' kl hF;u_leave1 H.f_uAdd kl hF;u_op kl hF;u_c stepG_region_end kl hF;u_c stepG_seq kl hF;u_c stepG_seq kl hF;u_reg kl hF;u_op kl hF;u_op kl hF;u_op kl hF;u_op kl hF;u_skip kl hF;u_skip kl hF;u_op kl hF;u_c stepG_region_end kl hF;u_cond false kl hF;u_c stepG_skip kl hF;u_c stepG_seq kl hF;u_reg kl hF;u_op kl hF;u_op kl hF;u_op kl hF;u_op kl hF;u_c stepG_region_end kl hF;u_c stepG_seq kl hF;u_reg kl hF;u_op kl hF;u_op kl hF;u_op kl hF;u_op kl hF;u_c stepG_region_end kl hF;u_c stepG_seq kl hF;u_c stepG_seq kl hF;u_reg kl hF;u_op kl hF;u_op kl hF;u_op kl hF;u_op kl hF;u_op kl hF;u_skip kl hF;u_skip kl hF;u_skip kl hF;u_skip kl hF;u_op kl hF;u_c stepG_region_end kl hF;u_cond false kl hF;u_c stepG_skip kl hF;u_c stepG_seq kl hF;u_c stepG_seq kl hF;u_reg kl hF;u_op kl hF;u_op kl hF;u_c stepG_region_end kl hF;u_cond false kl hF;u_c stepG_skip kl hF;u_c stepG_seq kl hF;u_c stepG_seq kl hF;u_reg kl hF;u_op kl hF;u_op kl hF;u_op kl hF;u_op kl hF;u_op kl hF;u_op kl hF;u_op kl hF;u_skip kl hF;u_skip kl hF;u_skip kl hF;u_skip kl hF;u_op kl hF;u_c stepG_region_end kl hF;u_cond false kl hF;u_c stepG_skip kl hF;u_c stepG_seq kl hF;u_c stepG_seq kl hF;u_reg kl hF;u_op kl hF;u_op kl hF;u_op kl hF;u_op kl hF;u_op kl hF;u_op kl hF;u_c stepG_region_end kl hF;u_cond false kl hF;u_c stepG_skip kl hF;u_c stepG_seq kl hF;u_c stepG_seq kl hF;u_reg kl hF;u_op kl hF;u_op kl hF;u_op kl hF;u_call H.f_uLoad (nm_uLoad L) uLoadFn kl hF;u_c stepG_seq kl hF;u_reg kl hF;u_op kl hF;u_c stepG_region_end kl hF;u_c stepG_seq kl hF;u_reg kl hF;u_op kl hF;u_op kl hF;u_op kl hF;refine Goes.stop (λw1 h1=>?_);replace hF:=kl hF h1;clear h1;refine KT.step rfl BYS λw2 h2 hp=>?_;replace hF:=kl hF (⟨h2,hp.1⟩:RA (S.or R) _ _ _);have hw:WgAt L.tWg Wg _ 1 0:=hp.2;refine .d4 rfl (stepG_load_atomic (v:=1) rfl rfl (by k_ne) rfl H.f_loadU64 (x_loadU64_n L) (x_loadU64_b L) (x_loadU64_x L) .u64 (x_loadU64_f L) rfl hw.cellSt) ?_;clear h2 hp hw;refine KT.goes (ty:=L.tWg) (I:=.wg Wg Q) (st:=.l3) (K:=WgLive L.tWg Wg) (n:=400) BYS (λ_ h=>h.1) ?_ hF.1
   walk_nrm
   u_op kl hF;u_c stepG_region_end kl hF;u_c stepG_ret' kl hF;u_leave1 H.f_uLoad kl hF;u_op kl hF;u_op kl hF;u_c stepG_region_end kl hF;u_cond false kl hF;u_c stepG_skip kl hF;u_c stepG_seq kl hF;u_reg kl hF;u_op kl hF;u_op kl hF;u_op kl hF;u_call H.f_uStore (nm_uStore L) uStoreFn kl hF;u_reg kl hF;u_op kl hF;u_op kl hF;u_op kl hF;u_op kl hF;refine Goes.stop (λw1 h1=>?_);replace hF:=kl hF h1;clear h1;refine KT.step rfl BYS λw2 h2 hp=>?_;have hw:WgAt L.tWg Wg _ 1 0:=hp.2;refine .d3 rfl (stepG_store_atomic rfl rfl (by k_ne) rfl H.f_storeU64 (x_storeU64_n L) (x_storeU64_b L) (x_storeU64_x L) (x_storeU64_f L) rfl rfl hw.cellSt (hw.thaw 0)) ?_;replace hF:WgLive L.tWg Wg _/\True:=⟨⟨_,_,hw.setSt 0⟩,trivial⟩;clear h2 hp hw;refine KT.goes (ty:=L.tWg) (I:=.wg Wg Q) (st:=.l2) (K:=WgLive L.tWg Wg) (n:=400) BYS (λ_ h=>h.1) ?_ hF.1
   walk_nrm
   u_c stepG_region_end kl hF;u_c stepG_end kl hF;u_leave0 H.f_uStore kl hF;u_c stepG_region_end kl hF;u_c stepG_seq kl hF;u_c stepG_seq kl hF;u_reg kl hF;u_op kl hF;u_c stepG_region_end kl hF;u_cond false kl hF;u_c stepG_skip kl hF;u_c stepG_block kl hF;u_c stepG_loop kl hF;u_c stepG_seq kl hF;u_c stepG_seq kl hF;u_reg kl hF;u_op kl hF;u_op kl hF;u_c stepG_region_end kl hF;u_cond true kl hF;u_c stepG_skip kl hF;u_c stepG_seq kl hF;u_c stepG_block kl hF;u_reg kl hF;u_op kl hF;u_op kl hF;u_op kl hF;refine Goes.stop (λw1 h1=>?_);replace hF:=kl hF h1;clear h1;refine KT.step rfl BYS λw2 h2 hp=>?_;have hw:WgAt L.tWg Wg _ 0 0:=hp.2;refine .d2 rfl (mayWake_entry rfl rfl H.f_semrelease (x_semrelease_b L)) ((stepG_semrelease rfl rfl (by k_ne) rfl H.f_semrelease (x_semrelease_n L) (x_semrelease_b L) (x_semrelease_x L) (x_semrelease_f L) (by simp[Act.eval,smA]) hw.cellSm (hw.thaw 1)).trans (by rfl)) ?_;refine KT.quit (q:=qt+19) ?_;clear h2 hp hw hF
   walk_nrm
   q_c stepG_region_end;q_c stepG_inBlock;q_reg;q_val (.int .u32 1);q_val (.int .u32 0);q_val (.int .u32 0);q_c stepG_region_end;q_c stepG_inLoop;q_c stepG_seq;q_c stepG_seq;q_reg;q_val (.int .u32 0);q_val (.bool false);q_c stepG_region_end;q_cond false;q_exit;q_c stepG_end;q_enable;q_leave0 H.f_add;exact hT
 .obtain⟨V,hV⟩:∃V:Int,V=(v:Int):=⟨_,rfl⟩;obtain⟨X,hX⟩:∃X:Int,X=V*KK+(wt:Int):=⟨_,rfl⟩;have eX:IntKind.u64.wrap (((v:Int)+1)*KK+(wt:Int)+18446744069414584320)=X:=by rw[IntKind.wrap_u64,hX,hV];simp only[KK];omega
  have zX:((v:Nat):Int)*KK+((wt:Nat):Int)=X:=by rw[hX,hV]
  have a1:X/4294967296=V:=by rw[hX];simp only[KK];omega
  have a2:0<=X/\X<9223372036854775808:=by rw[hX];simp only[KK];omega
  have b1:bits .and .u64 X 2147483648=0:=by rw[hX,hV];have:=st_flag v wt BYO BYO;simpa[KK] using this
  have b2:bits .and .u64 X 2147483647=(wt:Int):=by rw[hX,hV];have:=st_waiters v wt BYO BYO;simpa[KK] using this
  have hV1:0<V:=BYO;have hV2:V<2147483647:=BYO;refine .add (v:=v) (wt:=wt) rfl hwt hw (by
   rw[zX];exact(stepG_add_atomic rfl rfl (by k_ne) rfl H.f_addU64 (x_addU64_n L) (x_addU64_b L) (x_addU64_x L) .u64 (x_addU64_f L) rfl rfl hw.cellSt (hw.thaw 0)).trans (by rw[eX];rfl)) ?_
  rw[if_neg BYO];refine KT.quit (q:=qt+89) ?_;clear hw hX zX eX hV hv hvp;obtain rfl|rfl:wt=0\/wt=1:=BYO
  all_goals clear hwt
  .replace b2:bits .and .u64 X 2147483647=0:=b2
   walk_nrm
   q_vn (.int .u64 X);q_c stepG_region_end;q_c stepG_ret';q_leave1 H.f_uAdd;q_vn (.int .u64 X);q_c stepG_region_end;q_c stepG_seq;q_c stepG_seq;q_reg;q_vn (.int .u64 X);q_vn (.int .u64 0);q_vn (.bool false);q_vn (.bool false);q_skip;q_skip;q_vn (.bool false);q_c stepG_region_end;q_cond false;q_c stepG_skip;q_c stepG_seq;q_reg;q_vn (.int .u64 X);q_vn (.int .u64 V);q_vn (.int .i32 V);q_vn (.int .i32 V);q_c stepG_region_end;q_c stepG_seq;q_reg;q_vn (.int .u64 X);q_vn (.int .u64 0);q_vn (.int .u32 0);q_vn (.int .u32 0);q_c stepG_region_end;q_c stepG_seq;q_c stepG_seq;q_reg;q_vn (.bool true);q_vn (.int .i64 (-1));q_vn (.bool false);q_vn (.bool false);q_vn (.bool false);q_skip;q_skip;q_skip;q_skip;q_vn (.bool false);q_c stepG_region_end;q_cond false;q_c stepG_skip;q_c stepG_seq;q_c stepG_seq;q_reg;q_vn (.int .i32 V);q_vn (.bool false);q_c stepG_region_end;q_cond false;q_c stepG_skip;q_c stepG_seq;q_c stepG_seq;q_reg;q_vn (.int .u32 0);q_vn (.bool false);q_vn (.bool false);q_skip;q_skip;q_vn (.bool false);q_vn (.bool false);q_skip;q_skip;q_skip;q_skip;q_vn (.bool false);q_c stepG_region_end;q_cond false;q_c stepG_skip;q_c stepG_seq;q_c stepG_seq;q_reg;q_vn (.int .i32 V);q_vn (.bool true);q_vn (.bool true);q_skip;q_skip;q_vn (.bool true);q_c stepG_region_end;q_cond true;q_c stepG_ret';q_enable;q_leave0 H.f_add;exact hT
  .replace b2:bits .and .u64 X 2147483647=1:=b2
   walk_nrm
   q_vn (.int .u64 X);q_c stepG_region_end;q_c stepG_ret';q_leave1 H.f_uAdd;q_vn (.int .u64 X);q_c stepG_region_end;q_c stepG_seq;q_c stepG_seq;q_reg;q_vn (.int .u64 X);q_vn (.int .u64 0);q_vn (.bool false);q_vn (.bool false);q_skip;q_skip;q_vn (.bool false);q_c stepG_region_end;q_cond false;q_c stepG_skip;q_c stepG_seq;q_reg;q_vn (.int .u64 X);q_vn (.int .u64 V);q_vn (.int .i32 V);q_vn (.int .i32 V);q_c stepG_region_end;q_c stepG_seq;q_reg;q_vn (.int .u64 X);q_vn (.int .u64 1);q_vn (.int .u32 1);q_vn (.int .u32 1);q_c stepG_region_end;q_c stepG_seq;q_c stepG_seq;q_reg;q_vn (.bool true);q_vn (.int .i64 (-1));q_vn (.bool false);q_vn (.bool false);q_vn (.bool false);q_skip;q_skip;q_skip;q_skip;q_vn (.bool false);q_c stepG_region_end;q_cond false;q_c stepG_skip;q_c stepG_seq;q_c stepG_seq;q_reg;q_vn (.int .i32 V);q_vn (.bool false);q_c stepG_region_end;q_cond false;q_c stepG_skip;q_c stepG_seq;q_c stepG_seq;q_reg;q_vn (.int .u32 1);q_vn (.bool true);q_vn (.bool true);q_vn (.int .i64 (-1));q_vn (.bool false);q_vn (.bool false);q_vn (.bool false);q_skip;q_skip;q_skip;q_skip;q_vn (.bool false);q_c stepG_region_end;q_cond false;q_c stepG_skip;q_c stepG_seq;q_c stepG_seq;q_reg;q_vn (.int .i32 V);q_vn (.bool true);q_vn (.bool true);q_skip;q_skip;q_vn (.bool true);q_c stepG_region_end;q_cond true;q_c stepG_ret';q_enable;q_leave0 H.f_add;exact hT
noncomputable def body_done(L:WgLink):Code:=(doneFn L).body.getD .skip
def done(H:WgLib P L){c:Frame}{cs:List Frame}{qt:Nat}(hcm:c.mode=.returning)(hT:QuitsD P qt 0 (G c cs))(hF:Fk L.tWg Wg S Q w):
  KT P L.tWg (.wg Wg Q) .work S R (G ((baseD L.done).at ⟨#[.pointer (some ⟨Wg,0,none⟩),undef,undef,undef],[]⟩ [.code (body_done L)]) (c::cs)) w:=by
 refine KT.pre rfl BYS λw1 ha hp=>?_;replace hF:=kf hF ⟨ha,hp.1⟩;clear ha hp
 lib_facts
 have hA:=@add_neg (L:=L) (P:=P) (S:=S) (R:=R) (Wg:=Wg) (Q:=Q) H;simp only[body_done,body_add,doneFn,addFn,aFV]at hA⊢;refine KT.goes (ty:=L.tWg) (I:=.wg Wg Q) (st:=.work) (K:=WgLive L.tWg Wg) (n:=400) BYS (λ_ h=>h.1) ?_ hF.1;u_reg kf hF;u_op kf hF;u_in kf hF;refine goes_call rfl rfl (by k_ne) rfl H.f_add (nm_add L) rfl ⟨by u_nil,?_⟩
 walk_nrmf addFn
 refine Goes.stop (λw2 h2=>?_);replace hF:=kf hF h2;refine hA (qt:=qt+3) ?_ hF;q_c stepG_region_end;q_c stepG_end;exact QuitsD.leaveD rfl rfl H.f_done rfl hcm hT
end
def link:Go.Conc.Lib.WgLink:={add:=62,done:=64,wait:=65,relMerge:=78,disable:=79,enable:=80,inBubble:=81,associate:=82,fatal:=83,uOr:=84,uAdd:=85,raceRead:=86,uLoad:=87,uStore:=88,disassociate:=89,semrelease:=90,acquire:=91,isAssociated:=92,uCas:=93,raceWrite:=94,semacquire:=95,orU64:=104,addU64:=105,loadU64:=106,storeU64:=107,casU64:=108,tWgP:=161,tUP:=163,tAssoc:=164,tWg:=135,tAU:=132,tU64:=130,tUint:=167,tU32:=133,tPU32:=168,tPAU:=185,tPU64:=187,tNoCopy:=127,tANoCopy:=128,tAlign64:=129}
def QR:Go.Conc.Lib.WgLib Tryz.prog link:=
 ⟨Tryz.func62,Tryz.func64,Tryz.func65,Tryz.func78,Tryz.func79,Tryz.func80,Tryz.func81,Tryz.func82,Tryz.func83,Tryz.func84,Tryz.func85,Tryz.func86,Tryz.func87,Tryz.func88,Tryz.func89,Tryz.func90,Tryz.func91,Tryz.func92,Tryz.func93,Tryz.func94,Tryz.func95,Tryz.func104,Tryz.func105,Tryz.func106,Tryz.func107,Tryz.func108,Tryz.underlying161,Tryz.runUnderlying161,Tryz.sizeOf161,Tryz.isAgg161,Tryz.zeroValue161,Tryz.underlying163,Tryz.runUnderlying163,Tryz.sizeOf163,Tryz.isAgg163,Tryz.zeroValue163,Tryz.underlying164,Tryz.runUnderlying164,Tryz.sizeOf164,Tryz.isAgg164,Tryz.zeroValue164,Tryz.underlying135,Tryz.runUnderlying135,Tryz.sizeOf135,Tryz.isAgg135,Tryz.zeroValue135,Tryz.underlying132,Tryz.runUnderlying132,Tryz.sizeOf132,Tryz.isAgg132,Tryz.zeroValue132,Tryz.underlying130,Tryz.runUnderlying130,Tryz.sizeOf130,Tryz.isAgg130,Tryz.zeroValue130,Tryz.underlying167,Tryz.runUnderlying167,Tryz.sizeOf167,Tryz.isAgg167,Tryz.zeroValue167,Tryz.underlying133,Tryz.runUnderlying133,Tryz.sizeOf133,Tryz.isAgg133,Tryz.zeroValue133,Tryz.underlying168,Tryz.runUnderlying168,Tryz.sizeOf168,Tryz.isAgg168,Tryz.zeroValue168,Tryz.underlying185,Tryz.runUnderlying185,Tryz.sizeOf185,Tryz.isAgg185,Tryz.zeroValue185,Tryz.underlying187,Tryz.runUnderlying187,Tryz.sizeOf187,Tryz.isAgg187,Tryz.zeroValue187,Tryz.underlying0,Tryz.runUnderlying0,Tryz.sizeOf0,Tryz.isAgg0,Tryz.zeroValue0,Tryz.underlying3,Tryz.runUnderlying3,Tryz.sizeOf3,Tryz.isAgg3,Tryz.zeroValue3,Tryz.underlying4,Tryz.runUnderlying4,Tryz.sizeOf4,Tryz.isAgg4,Tryz.zeroValue4,Tryz.underlying9,Tryz.runUnderlying9,Tryz.sizeOf9,Tryz.isAgg9,Tryz.zeroValue9,Tryz.underlying20,Tryz.runUnderlying20,Tryz.sizeOf20,Tryz.isAgg20,Tryz.zeroValue20,Tryz.underlying21,Tryz.runUnderlying21,Tryz.sizeOf21,Tryz.isAgg21,Tryz.zeroValue21,BYK,BYK⟩
end Rk.Cw
