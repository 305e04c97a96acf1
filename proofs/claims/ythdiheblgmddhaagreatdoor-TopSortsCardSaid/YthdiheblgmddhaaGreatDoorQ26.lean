/- TopSorts: for every input the law answers true, on every schedule, without a data race, and the input reads afterwards as it read before; what other goroutines did to memory happened before the return. The three tables that are read (of math/bits and internal/strconv) are laid as the program's text lays them (the card's tie, over the pruned copy of the repository); no other condition. -/
import Derived.ChangeMaps5
import Derived.ChangeSame
import Derived.ChangeVars
import Derived.JoinedOf
import Derived.RowKitTokens
import Derived.LaidLaws
import Derived.Lib.LaidU8
import Derived.Lib.LaidIn
import Derived.Stop.Joined
import Derived.SevenTiedAt
import Derived.SizedLaws
import Derived.Conc.LeavingOf
import Derived.Test.YthdiheblgmddhaaGreatDoorRows
import Derived.Test.YthdiheblgmddhaaGreatDoorCards
import Derived.Test.YthdiheblgmddhaaGreatDoorTie
import Derived.Test.YthdiheblgmddhaaGreatDoorQ25
set_option linter.all false
set_option maxHeartbeats 2000000
set_option maxRecDepth 100000
namespace Go.Proofs.YthdiheblgmddhaaGreatDoor.topSorts
open Go.ChangeShapes Go.WideShapes Go.ChangeAt Go.RowKit Go.Conc
variable{W:World}{p P:Program}{e c n k base:Nat}
def own:ownKnob Tryz.prog.godebug=none:=by kernel_rfl
def laidOut:laidOutB Tryz.prog=true:=by kernel_rfl
abbrev Dp:List (String×DataW Unit):=[("math/bits.deBruijn32tab",Rows.laid_math_bits_deBruijn32tab),("math/bits.deBruijn64tab",Rows.laid_math_bits_deBruijn64tab),("internal/strconv.uint64pow10",Rows.laid_internal_strconv_uint64pow10)]
def aGM:Lib.tabData .u64 Lib.pow10Tab=(Rows.laid_internal_strconv_uint64pow10:DataW Unit):=by kernel_rfl
def aGN:Tryz.prog.globalNamed "internal/strconv.uint64pow10" =some 0:=by kernel_rfl
def X8(P:Program)(F:Array Func)(w:World)(n:String):w.var? (Rk.Oc P F) n=w.var? P n:=rfl
def aBd(h:laidMet Tryz.prog Dp W):Rk.lZ (Rk.Al.gw W):=by
 obtain⟨g,t,cs,fuel,p,h1,h2,h3,h4⟩:=Lib.laidMet.reads h (.tail _ (.tail _ (.head _)));rw[aGN]at h1;cases h1;have ht:t=203:=Option.some.inj (h2.symm.trans (by kernel_rfl));subst ht;rw[<-aGM]at h4;have h5:=Lib.cells_of_tab (n:=20) (e:=130) (by kernel_rfl) (by kernel_rfl) (by kernel_rfl) (by kernel_rfl) h4;have h6:W.var? Tryz.prog "internal/strconv.uint64pow10" =some (Lib.pow10Tab.map λz=>Value.int .u64 z).toArray:=by rw[h3,<-h5]
 unfold Rk.lZ Lib.TabIs Rk.tz;rw[X8];unfold World.var? at h6⊢;rw[aGN]at h6⊢;simp only[Option.bind_some]at h6⊢;rw[Rk.Al.tO];cases hx:W.heap[0]? with
 |none=>rw[hx]at h6;simp at h6
 |some o=>
  rw[hx]at h6;cases o<;>first|exact h6|simp at h6
def Lw:DataW Unit->Array Value
 | .agg l=>(l.map λ
  | .lit (.int k z)=>.int k z
  |_=>.nilIface).toArray
 |_=> #[]
noncomputable def RX(os:Os):World:=
 let w0:=World.holding Tryz.prog os ⟨#[],#[],[]⟩
 let put (h:Array Obj) (g:Nat) (cs:Array Value):Array Obj:=h.modify g λ
  | .cells _ t frozen=>.cells cs t frozen
  |o=>o
 {w0 with heap:=put (put (put w0.heap 1 (Lw Rows.laid_math_bits_deBruijn32tab)) 2 (Lw Rows.laid_math_bits_deBruijn64tab)) 0 (Lw Rows.laid_internal_strconv_uint64pow10)}
def OI(os:Os)(args:Array Value):laidMet Tryz.prog Dp ((RX os).forCall (λ_ _=>0) ⟨#[],args,[]⟩).memory:=
 LaidIn.met (LaidIn.of_run [1,2,0] 8 (by kernel_rfl) (by kernel_rfl) (by kernel_rfl) (by kernel_rfl))
def FU(p:Program)(fits:TypeId->Bool):Nat->TypeId->Bool
 |0,_=>true
 |d+1,e=> !fits e&&match p.underlying e with
  |some (.struct fs)=>fs.all λf=>FU p fits d f.type
  |some (.array _ e')=>FU p fits d e'
  |_=>true
def X9{fits:TypeId->Bool}:∀(d:Nat) (e:TypeId) (c o n:Nat),FU p fits d e=true->rowAt p fits d e c o n=false:=by
 intro d;induction d with
 |zero=>intro e c o n _;rfl
 |succ d ih=>
  intro e c o n h;simp only[FU,Bool.and_eq_true,Bool.not_eq_true']at h;obtain⟨h1,h2⟩:=h;unfold rowAt;simp only[h1,Bool.and_false,Bool.false_or];split
  .rfl
  .cases hu:p.underlying e with
   |none=>simp
   |some u=>
    rw[hu]at h2;cases u with
    |struct fs=>
     have:(fs.any λf=>decide (f.offset<=o % p.cellsOf e)&&decide (o % p.cellsOf e<f.offset+p.cellsOf f.type)&&rowAt p fits d f.type 1 (o % p.cellsOf e-f.offset) n)=false:=by
      rw[Array.any_eq_false];intro i hi;have h3:=(Array.all_eq_true.1 h2) i hi;rw[ih _ _ _ _ h3];simp
     simp[this]
    |array m e'=>
     have:=ih e' m (o % p.cellsOf e) n h2;simp[this]
    |_=>simp
def qy{u o:Nat}{fs:Array Field}(hu:p.underlying u=some (.struct fs))(h:FU p (sameLayout p p.depth · u) p.depth e=true):∀d,liesAt p d e c o u n=false
 |0=>rfl
 |d+1=>by
  unfold liesAt;rw[X9 _ _ _ _ _ h,hu];rfl
def qz(hs:W.ShapedOpen P)(h1:P.globals.size<=k)(h2:k<(begin P (λ_ _=>0) default).world.heap.size):k<W.heap.size:=by
 obtain⟨o,_,h3,_⟩:=hs.2 k h1 h2;exact(Array.getElem?_eq_some_iff.1 h3).1
noncomputable abbrev w0:World:=(begin Tryz.prog (λ_ _=>0) default).world
def Qh:w0.heap.size=Rk.fD.GB:=by kernel_rfl
def aGO:Option Obj->Bool
 |some (.cells ..)|some (.pending ..)=>true
 |_=>false
def rh:((List.range 3).all λk=>aGO w0.heap[k]?)=true:=by kernel_rfl
def aGP:((List.range Rk.fD.GB).all λk=>match w0.heap[k]? with
  |some o=>match o.row? with
   |some (_,t)=>FU Tryz.prog (sameLayout Tryz.prog Tryz.prog.depth · 38) Tryz.prog.depth t
   |none=>true
  |none=>true)=true:=by kernel_rfl
def Dq:Tryz.prog.globals.size=3:=by kernel_rfl
def aBe(hs:W.ShapedOpen Tryz.prog)(hk:k<Rk.fD.GB){cs:Array Value}{t:TypeId}{fz:Nat×Nat}(h:W.heap[k]?=some (.cells cs t fz)):FU Tryz.prog (sameLayout Tryz.prog Tryz.prog.depth · 38) Tryz.prog.depth t=true:=by
 have CK:=List.all_eq_true.1 aGP k (List.mem_range.2 hk);obtain⟨h1,h2⟩:=hs;rw[Dq]at h1 h2;have go:∀z,w0.heap[k]?=some z->(∃c,z.row?=some (c,t))->FU Tryz.prog (sameLayout Tryz.prog Tryz.prog.depth · 38) Tryz.prog.depth t=true:=λz hz ⟨c,hc⟩=>by
  rw[hz]at CK;simpa only[hc] using CK
 rcases Nat.lt_or_ge k 3 with dD|CL
 .have hr:=List.all_eq_true.1 rh k (List.mem_range.2 dD);cases hz:w0.heap[k]? with
  |none=>rw[hz]at hr;cases hr
  |some z=>
   rw[hz]at hr;have:∃c t0,z.row?=some (c,t0):=by cases z<;>first|exact⟨_,_,rfl⟩|cases hr
   obtain⟨c,t0,e⟩:=this;obtain⟨MU,h3,_⟩:=h1 k c t0 dD (by rw[show(begin Tryz.prog (λ_ _=>0) default).world.heap[k]?=some z from hz];exact e);rw[h]at h3;cases h3;exact go z hz ⟨c,e⟩
 .obtain⟨o,o₀,h3,h4,h5⟩:=h2 k CL (by rw[show(begin Tryz.prog (λ_ _=>0) default).world.heap.size=Rk.fD.GB from Qh];exact hk);rw[h]at h3;cases h3;have e:Obj.cells cs t fz=o₀:=by
   split at h5
   .cases o₀<;>exact h5
   .exact h5
  exact go o₀ h4 ⟨cs,by rw[<-e];rfl⟩
def rj(hs:W.ShapedOpen Tryz.prog):Rk.fD.GB<=W.heap.size:=by
 exact qz hs (k:=3+4) (by rw[Dq];decide) (by rw[show(begin Tryz.prog (λ_ _=>0) default).world.heap.size=Rk.fD.GB from Qh];decide)
def Lx{r:Reach}{t:Nat}{p:Addr}(ht:P.underlying t=some (.slice e))(h:Value.okWide P W r base t (.slice (some p) n c)):W.has P r base p e c:=by
 unfold Value.okWide at h;rw[ht]at h;simp only at h;unfold Cell.okWide at h;rw[ht]at h;simp only at h;unfold Cell.ok at h;rw[ht]at h;exact h.2.2
def rn(hs:W.ShapedOpen Tryz.prog){A:Option Addr}(h:Value.okWide Tryz.prog W .any base 22 (.slice A n c)):Rk.Cw.Seen W (λb x=>x=none/\b<W.heap.size) A:=λp hp=>by
 subst hp;obtain⟨_,dp,row,cells,lI,hl⟩:=Lx Tryz.underlying22 h;unfold World.shape? at lI;cases hx:W.heap[p.block]? with
 |none=>rw[hx]at lI;cases lI
 |some o=>
  rw[hx]at lI;cases o with
  |cells cs t fz=>
   simp only[Option.some.injEq,Prod.mk.injEq]at lI;obtain⟨rfl,rfl⟩:=lI;refine⟨dp,⟨rfl,(Array.getElem?_eq_some_iff.1 hx).1⟩,?_,cs,t,fz,rfl⟩;rcases Nat.lt_or_ge p.block Rk.fD.GB with dD|CL
   .exfalso;have h1:=aBe hs dD hx;rw[qy Tryz.underlying38 h1]at hl;cases hl
   .exact CL
  |_=>cases lI
def lifted(os:Os)(started:os.Started)(H:Type)(enc:TypeId×Value->H):
  ReturnsInLeavingWide {} Tryz.checked os 3 .any (λw args=>(Rows.topSortsSpec.pre enc Tryz.prog Tryz.f3 [] false w args/\laidMet Tryz.prog Dp w)/\sizedMet enc Tryz.prog Tryz.f3 (OpenSpec.ofChange Rows.topSortsSpec) false w args)
   (Rows.topSortsSpec.post enc Tryz.prog Tryz.f3 false true false false):=by
 refine returnsInLeavingWide_of_good (C:=Tryz.checked) own started
  (ChangeSpec.witness_at (enc:=enc) (C:=Tryz.checked) (os:=os) (X:=λw _=>laidMet Tryz.prog Dp w) false (RX os) #[.slice none 0 0,.int .i64 0,.int .i64 0] 8 rfl (by kernel_rfl) (by kernel_rfl) (by kernel_rfl) (by kernel_rfl) (by kernel_rfl) (OI os _)) ?_
 intro w tape i _ Md _ bY WV _;obtain⟨_,_,_,fn',aKp,_,_,_,_,Ra⟩:=bY;have efn:fn'=Tryz.f3:=Option.some.inj (aKp.symm.trans Tryz.func3);subst efn;obtain⟨⟨⟨ds,gs,before,hw,hc⟩,zv⟩,hz⟩:=WV;have hW:=DataW.Whole.of_heap (w':=w.forCall tape i) (by rfl) hw;have hL:laidMet Tryz.prog Dp (w.forCall tape i):=laidMet.of_heap (by rfl) zv;clear hw hc hz zv;obtain⟨args,aCa⟩:∃args,args=i.args:=⟨_,rfl⟩;rw[<-aCa]at hW Ra⊢;generalize w.forCall tape i=W at hW hL Md Ra⊢;have Dw:∀(j:Nat) t v,Tryz.f3.params[j]?=some t->args[j]?=some v->Value.okWide Tryz.prog W .any w.heap.size t v:=Ra;have hW':=hW;obtain⟨p,q,hA0,hV,rfl,hfz,XL⟩:=hW;have hA:DataW.TrodAll enc Tryz.prog W 0 (λ_=>true) true Tryz.f3.params.toList args.toList ds p:=hA0;rw[Tryz.params3]at hA Dw;obtain⟨v0,vs0,d0,ds0,p0,q0,aOq,rfl,rfl,h0,r0⟩:=trodAll_cons hA;obtain⟨v1,vs1,d1,ds1,p1,q1,rfl,rfl,rfl,h1,r1⟩:=trodAll_cons r0;obtain⟨v2,vs2,d2,ds2,p2,q2,rfl,rfl,rfl,h2,r2⟩:=trodAll_cons r1;obtain⟨rfl,rfl,rfl⟩:=trodAll_nil r2;obtain rfl:args= #[v0,v1,v2]:=by cases args;simp_all
 obtain⟨rfl,rfl⟩:=trodVars_none hV;obtain⟨a0,WY,Y8,rfl⟩:=okWide_slice Tryz.underlying22 (Dw 0 22 v0 rfl rfl);have k0:=h0;have lt0:∀x∈p0,x.block<W.heap.size:=by obtain⟨m,hm⟩:=k0;exact DataW.trod_lt m _ _ _ hm
 obtain⟨z0,w0',lc0,lm0⟩:=Rk.Cw.Lv h0;obtain⟨a1,rfl,rfl,rfl,w1⟩:=open_int Tryz.underlying3 (Dw 1 3 v1 rfl rfl) h1;obtain⟨a2,rfl,rfl,rfl,w2⟩:=open_int Tryz.underlying3 (Dw 2 3 v2 rfl rfl) h2;have aIa:=rn Md (Dw 0 22 _ rfl rfl);clear hA0 Ra hfz XL;obtain⟨N,last,o,w',t',g1,g2,g3,g4⟩:=Rk.Al.X7 (k:=a1) (z:=a2) w0' lc0 (aBd hL) (rj Md) aIa (Post:=λv W'=>Rows.topSortsSpec.post enc Tryz.prog Tryz.f3 false true false false W #[.slice a0 WY Y8,.int .i64 a1,.int .i64 a2] v W') λW' bel=>
  ⟨_,_,_,[],_,[],hW',trodAll_mk1 (shut_bool Tryz.underlying4 _),(trodAll_cons_mk (Below.trod laidOut (by kernel_rfl) (of_decide_eq_true (by kernel_rfl)) k0 bel lt0) (trodAll_cons_mk (shut_int Tryz.underlying3 w1) (trodAll_cons_mk (shut_int Tryz.underlying3 w2) trodAll_mk0))),rfl,bel.frame _,λh=>by cases h⟩
 exact⟨N,last,o,w',t',g1,g2,g3,g4.mono λv hp=>ChangeSpec.post_blind hp⟩
def over:Rows.topSortsRow.holds Tryz.pinned (OpenSpec.ofChange Rows.topSortsSpec):=
 OpenClaim.holds_of_wide_leaving 3 Tryz.f3 rfl rfl rfl rfl rfl rfl rfl ⟨rfl,rfl,rfl,rfl,rfl⟩ rfl rfl rfl rfl rfl (by kernel_rfl) Tryz.func3 (by kernel_rfl)
  (of_decide_eq_true (by kernel_rfl)) (by unfold Func.isWrapper;first|(rw[if_pos (by decide+kernel)];kernel_rfl)|(rw[if_neg (by decide+kernel)];exact⟨rfl,rfl⟩))
  (λos started H enc _=>lifted os started H enc)
def rp:∀(j:Nat) t,Tryz.f3.params[j]?=some t->Tryz.prog.wantsStandIn t=false:=λj t ht=>by
 rw[Tryz.params3]at ht
 match j,ht with
 |0,ht=>(obtain rfl:t=22:=(by simpa using ht.symm));exact(show Tryz.prog.wantsStandIn 22=false by kernel_rfl)
 |1,ht=>(obtain rfl:t=3:=(by simpa using ht.symm));exact(show Tryz.prog.wantsStandIn 3=false by kernel_rfl)
 |2,ht=>(obtain rfl:t=3:=(by simpa using ht.symm));exact(show Tryz.prog.wantsStandIn 3=false by kernel_rfl)
 |j+3,ht=>simp at ht
def Wa(Lk:Looks){p:Pinned}{s:OpenSpec}{c:OpenClaim}(kinds:List LaidKind)(Y2:Bool)(har:Bool×String)(lk:Bool)
  (hc:c.holds p s)(hw:c.wfByText s=true)(aLj:c.laidByTextAt Lk p kinds Y2)
  (dI:c.start=.entering)(hnb:c.noBlocks=false/\c.again=false)(hm:p.checked.prog.mainIs=some (har.1,har.2.toList))(hn:(!har.1&&har.2.isEmpty&& !lk)=false)
  (hl:∀f fn,p.checked.prog.funcNamed c.func=some f->p.checked.prog.funcs[f]?=some fn->lk=p.checked.prog.looks []/\∀(j:Nat) t,fn.params[j]?=some t->p.checked.prog.wantsStandIn t=false)
  (hg:true=c.goesBy p.checked.prog):
  Claim7.holds p (.plain s) {stood:={row:=c,standIns:=[],harness:=har,looks:=lk},kinds:=[],alts:=[],goes:=true,laidByText:=true,laidKinds:=kinds,laidTests:=Y2,laidLooks:=Lk}:=by
 have h6:Claim7.isSixth {stood:={row:=c,standIns:=[],harness:=har,looks:=lk},kinds:=[]}=false:=by simpa[Claim7.isSixth] using hn
 exact⟨Claim7.tied_new_at Lk kinds Y2 (Claim7.new_of_sixth hc har lk dI hnb hm h6 hl) hw,λ_ hD=>(by cases hD),aLj,(λh=>by cases h),hg⟩
def proved:Rows.TopSortsCardSaid:=
 Wa .later [.data,.data,.data] true (true, "a568a189bb133c36b5f74d06dc90295c5263c4156aa62c8e7811c4852d01cdc7") false
  over (by kernel_rfl) topSorts_row_tie rfl ⟨rfl,rfl⟩ (by kernel_rfl) rfl
  (λf fn hf XM=>by
   obtain rfl:f=3:=Option.some.inj ((show Tryz.prog.funcNamed "rickstead/ricksteadtop.TopSorts" =some 3 by kernel_rfl).symm.trans hf)|>.symm;obtain rfl:fn=Tryz.f3:=(Option.some.inj (Tryz.func3.symm.trans XM)).symm;exact⟨by kernel_rfl,rp⟩)
  (by kernel_rfl)
end Go.Proofs.YthdiheblgmddhaaGreatDoor.topSorts
