/- Part of the proof of TopSorts. -/
import Derived.Laws.Cover3
import Derived.Laws.Tables
import Derived.Maps.AppendAt
import Derived.Test.YthdiheblgmddhaaGreatDoorQ00
set_option linter.all false
namespace Rk
open Go Go.RowKit
variable{P:Program}{ops:Array Oper}{N d c n bk o off:Nat}{w:World}{t e ft:TypeId}{pos:String}{after:Array Edge}{v:Value}{A:Option Addr}{p:Addr}{f:FuncId}{fn:Func}{ρ:Operand->Value}{xs:List Operand}{vs:List Value}{sG:Array TypeId}
def WL.aO{K:Env->World->Prop}{E:Env}{rest:List Oper}{op:Op}(h:aA P op t E w v w)(k:WL P ops K N ((d,v)::E) rest w)(hd:Nat.blt d N=true:=by with_unfolding_all exact rfl):WL P ops K N E (⟨some d,op,t,pos,after,none⟩::rest) w:=WL.step h hd k
def QL.aO {P:Program} {ops:Array Oper} {C:World->Prop} {R:Env->Prop} {N d:Nat} {E:Env} {rest:List Oper} {op:Op} {t:TypeId} {pos:String} {after:Array Edge} {v:Value} (h:∀{w:World},aA P op t E w v w) (k:QL P ops C R N ((d,v)::E) rest) (hd:Nat.blt d N=true:=by with_unfolding_all exact rfl):QL P ops C R N E (⟨some d,op,t,pos,after,none⟩::rest):=QL.step (λ_ _=>h) hd k
def RL.aO {P:Program} {ops:Array Oper} {C:World->Prop} {R:Env->Prop} {N d:Nat} {E:Env} {op:Op} {t:TypeId} {pos:String} {after:Array Edge} {v:Value} (h:∀{w:World},aA P op t E w v w) (k:R ((d,v)::E)) (hd:Nat.blt d N=true:=by with_unfolding_all exact rfl):RL P ops C R N E ⟨some d,op,t,pos,after,none⟩:=RL.step (λ_ _=>h) hd k
section
variable{E:Env}{x y i:Operand}{xt yt:TypeId}{u:Value}{a b:Int}{k:IntKind}
def On(a b:Int):(a==b)=decide (a=b):=by by_cases h:a=b<;>simp[h]
def aA.move(hx:aM E x=some v:=by with_unfolding_all exact rfl):aA P (.move x) t E w v w:=λρ hρ _ _ _ _=>by simp[execOp,hρ _ _ hx,pure,Sem.run]
def aA.assign(hx:aM E x=some v:=by with_unfolding_all exact rfl):aA P (.assign x) t E w v w:=λρ hρ _ _ _ _=>by simp[execOp,hρ _ _ hx,pure,Sem.run]
def aMe{c:Operand}(hc:aM E c=some (.bool true):=by with_unfolding_all exact rfl)(hx:aM E x=some v:=by with_unfolding_all exact rfl):aA P (.pick c x y) t E w v w:=λρ hρ _ _ _ _=>by
 simp[execOp,hρ _ _ hc,hρ _ _ hx,asBool]
def aMU{c:Operand}(hc:aM E c=some (.bool false):=by with_unfolding_all exact rfl)(hy:aM E y=some v:=by with_unfolding_all exact rfl):aA P (.pick c x y) t E w v w:=λρ hρ _ _ _ _=>by
 simp[execOp,hρ _ _ hc,hρ _ _ hy,asBool]
def aA.lss(hx:aM E x=some (.int k a):=by with_unfolding_all exact rfl)(hy:aM E y=some (.int k b):=by with_unfolding_all exact rfl):aA P (.binOp .lss xt x y yt) t E w (.bool (decide (a<b))) w:=λρ hρ _ _ _ _=>by
 simp[execOp,hρ _ _ hx,hρ _ _ hy,go_sem,eqGuard]
def aA.leq(hx:aM E x=some (.int k a):=by with_unfolding_all exact rfl)(hy:aM E y=some (.int k b):=by with_unfolding_all exact rfl):aA P (.binOp .leq xt x y yt) t E w (.bool (decide (a<=b))) w:=λρ hρ _ _ _ _=>by
 simp[execOp,hρ _ _ hx,hρ _ _ hy,go_sem,eqGuard]
def aA.gtr(hx:aM E x=some (.int k a):=by with_unfolding_all exact rfl)(hy:aM E y=some (.int k b):=by with_unfolding_all exact rfl):aA P (.binOp .gtr xt x y yt) t E w (.bool (decide (b<a))) w:=λρ hρ _ _ _ _=>by
 simp[execOp,hρ _ _ hx,hρ _ _ hy,go_sem,eqGuard]
def aA.geq(hx:aM E x=some (.int k a):=by with_unfolding_all exact rfl)(hy:aM E y=some (.int k b):=by with_unfolding_all exact rfl):aA P (.binOp .geq xt x y yt) t E w (.bool (decide (b<=a))) w:=λρ hρ _ _ _ _=>by
 simp[execOp,hρ _ _ hx,hρ _ _ hy,go_sem,eqGuard]
def aO6(hx:aM E x=some (.int k a):=by with_unfolding_all exact rfl)(hy:aM E y=some (.int k b):=by with_unfolding_all exact rfl):aA P (.binOp .eql xt x y yt) t E w (.bool (decide (a=b))) w:=λρ hρ _ _ _ _=>by
 simp[execOp,hρ _ _ hx,hρ _ _ hy,go_sem,eqGuard];exact On _ _
def aO7(hx:aM E x=some (.int k a):=by with_unfolding_all exact rfl)(hy:aM E y=some (.int k b):=by with_unfolding_all exact rfl):aA P (.binOp .neq xt x y yt) t E w (.bool (decide (a≠b))) w:=λρ hρ _ _ _ _=>by
 simp[execOp,hρ _ _ hx,hρ _ _ hy,go_sem,eqGuard,bne];exact On _ _
def wrap_i64{n:Int}(h: -9223372036854775808<=n/\n<=9223372036854775807):IntKind.i64.wrap n=n:=by rw[IntKind.wrap_i64];omega
def aA.add(hx:aM E x=some (.int .i64 a):=by with_unfolding_all exact rfl)(hy:aM E y=some (.int .i64 b):=by with_unfolding_all exact rfl)(h: -9223372036854775808<=a+b/\a+b<=9223372036854775807:=by omega):aA P (.binOp .add xt x y yt) t E w (.int .i64 (a+b)) w:=λρ hρ _ _ _ _=>by
 simp only[execOp,hρ _ _ hx,hρ _ _ hy,eqGuard,binOp,Op.intArith,wrap_i64 h];simp[go_sem]
def aA.sub(hx:aM E x=some (.int .i64 a):=by with_unfolding_all exact rfl)(hy:aM E y=some (.int .i64 b):=by with_unfolding_all exact rfl)(h: -9223372036854775808<=a-b/\a-b<=9223372036854775807:=by omega):aA P (.binOp .sub xt x y yt) t E w (.int .i64 (a-b)) w:=λρ hρ _ _ _ _=>by
 simp only[execOp,hρ _ _ hx,hρ _ _ hy,eqGuard,binOp,Op.intArith,wrap_i64 h];simp[go_sem]
def aA.mul(hx:aM E x=some (.int .i64 a):=by with_unfolding_all exact rfl)(hy:aM E y=some (.int .i64 b):=by with_unfolding_all exact rfl)(h: -9223372036854775808<=a*b/\a*b<=9223372036854775807:=by omega):aA P (.binOp .mul xt x y yt) t E w (.int .i64 (a*b)) w:=λρ hρ _ _ _ _=>by
 simp only[execOp,hρ _ _ hx,hρ _ _ hy,eqGuard,binOp,Op.intArith,wrap_i64 h];simp[go_sem]
def aA.quo(hx:aM E x=some (.int .i64 a):=by with_unfolding_all exact rfl)(hy:aM E y=some (.int .i64 b):=by with_unfolding_all exact rfl)(ha:0<=a/\a<=9223372036854775807:=by omega)(hb:0<b:=by omega):aA P (.binOp .quo xt x y yt) t E w (.int .i64 (a/b)) w:=λρ hρ _ _ _ _=>by
 have h1:a.tdiv b=a/b:=Int.tdiv_eq_ediv_of_nonneg ha.1;have h2:0<=a/b:=Int.ediv_nonneg ha.1 BYO;have h3:a/b<=a:=Int.ediv_le_self b ha.1;have h4:¬b=0:=BYO;simp only[execOp,hρ _ _ hx,hρ _ _ hy,eqGuard,binOp,Op.intDiv,if_neg h4,h1,wrap_i64 (show-9223372036854775808<=a/b/\a/b<=9223372036854775807 by omega)];simp[go_sem]
def aA.rem(hx:aM E x=some (.int .i64 a))(hy:aM E y=some (.int .i64 b))(ha:0<=a)(hb:0<b):aA P (.binOp .rem xt x y yt) t E w (.int .i64 (a % b)) w:=λρ hρ _ _ _ _=>by
 have h1:a.tmod b=a % b:=Int.tmod_eq_emod_of_nonneg ha;have h4:¬b=0:=BYO;simp only[execOp,hρ _ _ hx,hρ _ _ hy,eqGuard,binOp,Op.intDiv,if_neg h4,h1];simp[go_sem]
def aA.not{b:Bool}(hx:aM E x=some (.bool b):=by with_unfolding_all exact rfl):aA P (.unOp .not xt x) t E w (.bool !b) w:=λρ hρ _ _ _ _=>by
 simp[execOp,hρ _ _ hx,go_sem]
def aA.makeInterface{d:TypeDesc}(ht:P.underlying xt=some d)(hd:∀ms,d≠.interface ms)(hx:aM E x=some v):aA P (.makeInterface xt x) t E w (.iface xt v) w:=λρ hρ _ _ _ _=>by
 simp only[execOp,hρ _ _ hx,Instr.makeInterface];cases d<;>first|(exact absurd rfl (hd _))|simp[go_sem,run_underlying ht]
def aL3{rt:TypeId}(ht:P.underlying xt=some (.slice e))(hx:aM E x=some (.slice A n c)):
  aA P (.call {callee:=.builtin .len,args:= #[x],argTypes:= #[xt]}) rt E w (.int .i64 n) w:=λρ hρ _ _ _ _=>by
 simp[execOp,resolve,hρ _ _ hx,go_sem,invoke,builtin,Builtin.len_,run_underlying ht,goInt]
def aA.extract{vs:Array Value}(hx:aM E x=some (.tuple vs):=by with_unfolding_all exact rfl)(hn:vs[n]?=some v:=by with_unfolding_all exact rfl):aA P (.extract x n) t E w v w:=λρ hρ _ _ _ _=>by
 simp[execOp,hρ _ _ hx,Instr.extract,hn,go_sem]
def aQ6(hx:aM E x=some (.pointer (some p))):aA P (.nilCheck x) t E w (.pointer (some p)) w:=λρ hρ _ _ _ _=>by
 simp[execOp,hρ _ _ hx,go_sem]
def aQn(ht:P.underlying xt=some (.interface (P.methodsAt xt)))(hx:aM E x=some .nilIface):aA P (.binOp .neq xt x (.const .nilIface) yt) t E w (.bool false) w:=λρ hρ _ _ _ _=>by
 simp[execOp,hρ _ _ hx,hρ (.const .nilIface) .nilIface rfl,go_sem,eqGuard,run_neq_nil_nil w xt ht]
def aQo(ht:P.underlying xt=some (.interface (P.methodsAt xt)))(hx:aM E x=some .nilIface):aA P (.binOp .eql xt x (.const .nilIface) yt) t E w (.bool true) w:=λρ hρ _ _ _ _=>by
 simp[execOp,hρ _ _ hx,hρ (.const .nilIface) .nilIface rfl,go_sem,eqGuard,run_eql_nil_nil w xt ht]
def aQp{u:TypeId}(ht:P.underlying xt=some (.interface (P.methodsAt xt)))(hx:aM E x=some (.iface u v)):aA P (.binOp .neq xt x (.const .nilIface) yt) t E w (.bool true) w:=λρ hρ _ _ _ _=>by
 simp[execOp,hρ _ _ hx,hρ (.const .nilIface) .nilIface rfl,go_sem,eqGuard,run_neq_held_nil w xt u v ht]
def aSQ{u:TypeId}(ht:P.underlying xt=some (.interface (P.methodsAt xt)))(hx:aM E x=some (.iface u v)):aA P (.binOp .eql xt x (.const .nilIface) yt) t E w (.bool false) w:=λρ hρ _ _ _ _=>by
 simp[execOp,hρ _ _ hx,hρ (.const .nilIface) .nilIface rfl,go_sem,eqGuard,run_eql_held_nil w xt u v ht]
def aA.indexAddr{sz:Nat}{j:Int}(ht:P.underlying xt=some (.slice e))(hs:∀w,(Go.sizeOf e).run P w=.ok sz w)
  (hx:aM E x=some (.slice (some ⟨bk,o,none⟩) n c))(hi:aM E i=some (.int .i64 j))(h0:0<=j)(hn:j<n):
  aA P (.indexAddr xt x i) t E w (.pointer (some ⟨bk,o+j.toNat*sz,none⟩)) w:=λρ hρ _ _ _ _=>by
 simp[execOp,hρ _ _ hx,hρ _ _ hi,go_sem,Instr.indexAt,run_underlying ht,hs,h0,hn,asIntOf,Addr.add]
def QM{c:Code}(hf:P.funcs[f]?=some fn)(hn:(fn.name== "runtime.NumGoroutine")=false)(hb:fn.body=some c)(args:Array Value)(w:World):
  (callFunc f args).run P w=.ok (.enter f args) w:=by
 have h1:¬fn.name= "runtime.NumGoroutine" :=by simpa using hn
 simp[callFunc,go_sem,hf,h1,hb]
def evs(E:Env):List Operand->Option (List Value)
 |[]=>some []
 |x::r=>match aM E x,evs E r with
  |some v,some l=>some (v::l)
  |_,_=>none
def sR(hρ:Fits E ρ):∀{xs:List Operand} {vs:List Value},evs E xs=some vs->xs.map ρ=vs:=by
 intro xs;induction xs with
 |nil=>intro vs h;simp[evs]at h;simp[h]
 |cons x r ih=>
  intro vs h;simp only[evs]at h;split at h
  .rename_i v l h1 h2;injection h with h;rw[<-h,aC9,hρ _ _ h1,ih h2]
  .cases h
def aOu{c:Code}(hf:P.funcs[f]?=some fn)(hn:(fn.name== "runtime.NumGoroutine")=false)(hb:fn.body=some c)
  (he:evs E xs=some vs):OpC P (.call {callee:=.value (.func f),args:=xs.toArray,argTypes:=sG}) t E w f vs.toArray:=λρ hρ _ _ _ _=>by
 have h0:ρ (.func f)=.func (.func f) #[] #[]:=hρ _ _ rfl;have h1:=sR hρ he;simp[execOp,resolve,h0,Deferred.ofValue,invoke,h1,go_sem,QM hf hn hb]
def aOQ{c:Code}{g:Operand}{cb:Array Value}(hf:P.funcs[f]?=some fn)(hn:(fn.name== "runtime.NumGoroutine")=false)(hb:fn.body=some c)
  (hg:aM E g=some (.func (.func f) #[] cb))(he:evs E xs=some vs):OpC P (.call {callee:=.value g,args:=xs.toArray,argTypes:=sG}) t E w f (vs.toArray++cb):=λρ hρ _ _ _ _=>by
 have h0:=hρ _ _ hg;have h1:=sR hρ he;simp[execOp,resolve,h0,Deferred.ofValue,invoke,h1,go_sem,QM hf hn hb]
structure Ty(P:Program)(e:TypeId)(agg:Bool)(sz bytes:Nat)(z:Value):Prop where
 info:∃i,P.info? e=some i/\i.zero=some z/\i.size=sz/\i.bytes=bytes
 UC:∀w,(isAgg e).run P w=.ok agg w
 zsz:z.cells.size=sz
variable{agg:Bool}{sz bytes:Nat}{z:Value}
def Ty.size(h:Ty P e agg sz bytes z)(w:World):(Go.sizeOf e).run P w=.ok sz w:=by
 obtain⟨i,hi,_,hs,_⟩:=h.info;simp[Go.sizeOf,typeInfo,hi,hs]
def Ty.zero(h:Ty P e agg sz bytes z)(w:World):(zeroValue e).run P w=.ok z w:=by
 obtain⟨i,hi,hz,_,_⟩:=h.info;simp[zeroValue,typeInfo,hi,hz]
def aLt(h:(P.info? e).map (λi=>(i.zero,i.size,i.bytes))=some (some z,sz,bytes))(ha:∀w,(isAgg e).run P w=.ok agg w)(hz:z.cells.size=sz):Ty P e agg sz bytes z:=
 ⟨info_parts h,ha,hz⟩
def aJC(ty:Ty P e false sz bytes z)(hx:aM E x=some (.pointer (some p)))(hc:w.cell? p=some v):aA P (.load e x) t E w v w:=λρ hρ _ _ _ _=>by
 simp[execOp,hρ _ _ hx,go_sem,Instr.loadAt,Instr.sureAddr,loadVar,ty.UC,hc]
def aL5{cs:List Value}(ty:Ty P e true sz bytes z)(hx:aM E x=some (.pointer (some ⟨bk,o,none⟩)))(hl:cs.length=sz)
  (hc:∀j u,cs[j]?=some u->w.cell? ⟨bk,o+j,none⟩=some u):aA P (.load e x) t E w (.agg cs.toArray) w:=λρ hρ _ _ _ _=>by
 have h:=run_loadCells_list (P:=P) (w:=w) ⟨bk,o,none⟩ cs (λj u hj=>by
  have:=hc j u hj;unfold Addr.add;split
  .rename_i h0;subst h0;simpa using this
  .exact this)
 rw[hl]at h;simp only[loadCells]at h;simp[execOp,hρ _ _ hx,go_sem,Instr.loadAt,Instr.sureAddr,loadVar,ty.UC,ty.size,h]
def fld{fs:Array Field}(hf:(fs[n]?).map (λf=>(f.offset,f.type))=some (off,ft)):∃f,fs[n]?=some f/\f.offset=off/\f.type=ft:=by
 obtain⟨f,h1,h2⟩:=Option.map_eq_some_iff.1 hf;simp only[aIq]at h2;exact⟨f,h1,h2.1,h2.2⟩
def aA.fieldAddr(ht:P.underlying xt=some (.struct (P.fieldsOf xt)))(hf:((P.fieldsOf xt)[n]?).map (λf=>(f.offset,f.type))=some (off,ft))(ty:Ty P ft agg sz bytes z)(hz:sz≠0)
  (hx:aM E x=some (.pointer (some ⟨bk,o,none⟩))):aA P (.fieldAddr xt x n) t E w (.pointer (some ⟨bk,o+off,none⟩)) w:=λρ hρ _ _ _ _=>by
 generalize P.fieldsOf xt=fs at*;obtain⟨f,h1,h2,h3⟩:=fld hf;simp[execOp,hρ _ _ hx,go_sem,Instr.fieldAt,run_underlying ht,h1,h2,h3,Instr.sureAddr,ty.size,hz]
def OA(E:Env):List (Nat×Operand)->Option (List (Nat×Value))
 |[]=>some []
 |(n,x)::r=>match aM E x,OA E r with
  |some v,some l=>some ((n,v)::l)
  |_,_=>none
def lq(hρ:Fits E ρ):∀{xs:List (Nat×Operand)} {vs:List (Nat×Value)},OA E xs=some vs->xs.map (λp=>(p.1,ρ p.2))=vs:=by
 intro xs;induction xs with
 |nil=>intro vs h;simp[OA]at h;simp[h]
 |cons x r ih=>
  intro vs h;obtain⟨n,x⟩:=x;simp only[OA]at h;split at h
  .rename_i v l h1 h2;injection h with h;rw[<-h,aC9,hρ _ _ h1,ih h2]
  .cases h
def aA.build{parts:List (Nat×Operand)}{ps:List (Nat×Value)}{cs:Array Value}(he:OA E parts=some ps)(hb:P.built xt ps=some cs):aA P (.build xt parts.toArray) t E w (.agg cs) w:=λρ hρ _ _ _ _=>by
 have h1:=lq hρ he;have h2:(parts.toArray.map λ(x:Nat×Operand)=>match x with|(i,x)=>(i,ρ x))=ps.toArray:=by
  rw[<-h1,aDb]
 have h3:=run_build (P:=P) w xt ps.toArray cs (by simpa using hb);simp only[execOp,h2];simp[h3]
def Ii(w:World)(t e:TypeId)(a:Option Addr)(l c:Nat)(h:P.underlying t=some (.slice e)):(binOp .eql t (.slice a l c) (.slice none 0 0)).run P w=.ok (.bool a.isNone) w:=by
 simp only[binOp];simp[run_equal_slice_nil w t e a l c h]
def aSR(ht:P.underlying xt=some (.slice e))(hx:aM E x=some (.slice A n c)):aA P (.binOp .eql xt x (.const (.slice none 0 0)) yt) t E w (.bool A.isNone) w:=λρ hρ _ _ _ _=>by
 simp[execOp,hρ _ _ hx,hρ (.const (.slice none 0 0)) (.slice none 0 0) rfl,go_sem,eqGuard,Ii w xt e A n c ht]
def aNH{hi:Operand}{j:Int}(ht:P.underlying xt=some (.slice e))(ty:Ty P e agg sz bytes z)(hx:aM E x=some (.slice A n c))(hh:aM E hi=some (.int k j))(h0:0<=j)(hc:j<=c):
  aA P (.slice xt x none (some hi) none) t E w (.slice A j.toNat c) w:=λρ hρ _ _ _ _=>by
 have hA:A.map (λa:Addr=>a.add 0)=A:=by cases A<;>simp[Addr.add]
 simp[execOp,hρ _ _ hx,hρ _ _ hh,Instr.sliceAt,Instr.slice,Instr.sliceBounds,Instr.sliceBound,asIntOf,run_underlying ht,h0,hc,ty.size,hA]
def aMi{lo:Operand}{j:Int}(ht:P.underlying xt=some (.slice e))(ty:Ty P e agg sz bytes z)(hx:aM E x=some (.slice A n c))(hh:aM E lo=some (.int k j))(h0:0<=j)(hc:j<=n):
  aA P (.slice xt x (some lo) none none) t E w (.slice (if c=j.toNat then A else A.map (·.add (j.toNat*sz))) (n-j.toNat) (c-j.toNat)) w:=λρ hρ _ _ _ _=>by
 simp[execOp,hρ _ _ hx,hρ _ _ hh,Instr.sliceAt,Instr.slice,Instr.sliceBounds,Instr.sliceBound,asIntOf,run_underlying ht,h0,hc,ty.size]
section
variable{K:Env->World->Prop}{d_:Nat}{rest:List Oper}{C:World->Prop}{R:Env->Prop}
end
end
def aKQ{K:Env->World->Prop}{E:Env}{rest:List Oper}{c:Code}{S:Value->World->Prop}(hf:P.funcs[f]?=some fn)(hc:Calls P f vs.toArray w (eT S))(h:∀v w',S v w'->WL P ops K N ((d,v)::E) rest w')(hn:(fn.name== "runtime.NumGoroutine")=false:=by kernel_rfl)(hb:fn.body=some c:=by exact rfl)(he:evs E xs=some vs:=by exact rfl)(hd:Nat.blt d N=true:=by exact rfl):WL P ops K N E (⟨some d,.call {callee:=.value (.func f),args:=xs.toArray,argTypes:=sG},t,pos,after,none⟩::rest) w:=WL.call (aOu hf hn hb he) hd hc h
section
variable{K:Env->World->Prop}{H C:World->Prop}{R:Env->Prop}{Q:Exit->Act->World->Prop}{j dj i:Nat}{E:Env}{rest:List Oper}{op:Op}
 {after:Array Edge}{want:Bool}{d':Option Nat}
def aPa(h:WL P ops K N E (⟨d',op,t,pos,after,none⟩::rest) w)(hj:(ops[j]?).bind (·.dst)=some dj:=by with_unfolding_all exact rfl)(hb:look E dj=some (.bool want):=by with_unfolding_all exact rfl):
  WL P ops K N E (⟨d',op,t,pos,after,some (j,want)⟩::rest) w:=aTE hj hb h
def aQw(h:WL P ops K N ((d,undef)::E) rest w)(hj:(ops[j]?).bind (·.dst)=some dj:=by with_unfolding_all exact rfl)(hb:look E dj=some (.bool !want):=by with_unfolding_all exact rfl)
  (hd:Nat.blt d N=true:=by with_unfolding_all exact rfl):WL P ops K N E (⟨some d,op,t,pos,after,some (j,want)⟩::rest) w:=WL.no hj hb hd h
def aQy(h:WL P ops K N ((d,undef)::E) rest w)(hj:(ops[j]?).bind (·.dst)=some dj:=by with_unfolding_all exact rfl)(hb:look E dj=some undef:=by with_unfolding_all exact rfl)
  (hd:Nat.blt d N=true:=by with_unfolding_all exact rfl):WL P ops K N E (⟨some d,op,t,pos,after,some (j,want)⟩::rest) w:=aT5 hj hb hd h
def aM9(h:QL P ops C R N E (⟨d',op,t,pos,after,none⟩::rest))(hj:(ops[j]?).bind (·.dst)=some dj:=by with_unfolding_all exact rfl)(hb:look E dj=some (.bool want):=by with_unfolding_all exact rfl):
  QL P ops C R N E (⟨d',op,t,pos,after,some (j,want)⟩::rest):=aT6 hj hb h
def aRb(h:QL P ops C R N ((d,undef)::E) rest)(hj:(ops[j]?).bind (·.dst)=some dj:=by with_unfolding_all exact rfl)(hb:look E dj=some (.bool !want):=by with_unfolding_all exact rfl)
  (hd:Nat.blt d N=true:=by with_unfolding_all exact rfl):QL P ops C R N E (⟨some d,op,t,pos,after,some (j,want)⟩::rest):=QL.no hj hb hd h
def aRD(h:QL P ops C R N ((d,undef)::E) rest)(hj:(ops[j]?).bind (·.dst)=some dj:=by with_unfolding_all exact rfl)(hb:look E dj=some undef:=by with_unfolding_all exact rfl)
  (hd:Nat.blt d N=true:=by with_unfolding_all exact rfl):QL P ops C R N E (⟨some d,op,t,pos,after,some (j,want)⟩::rest):=aT7 hj hb hd h
def aRC(h:RL P ops C R N E ⟨d',op,t,pos,after,none⟩)(hj:(ops[j]?).bind (·.dst)=some dj:=by with_unfolding_all exact rfl)(hb:look E dj=some (.bool want):=by with_unfolding_all exact rfl):
  RL P ops C R N E ⟨d',op,t,pos,after,some (j,want)⟩:=aT8 hj hb h
def aRa(h:R ((d,undef)::E))(hj:(ops[j]?).bind (·.dst)=some dj:=by with_unfolding_all exact rfl)(hb:look E dj=some (.bool !want):=by with_unfolding_all exact rfl)
  (hd:Nat.blt d N=true:=by with_unfolding_all exact rfl):RL P ops C R N E ⟨some d,op,t,pos,after,some (j,want)⟩:=RL.no hj hb hd h
def aQJ{l:List Oper}{r:List (Nat×Nat)}{o:Oper}(h:RL P l.toArray (λ_=>True) (λE'=>OL P l.toArray H K N E' r w) N E o)(lJ:pC l i=some o:=by with_unfolding_all exact rfl):
  OL P l.toArray H K N E ((i,0)::r) w:=OL.pure lJ h
end
def aKZ{G:Prop}(h:G:=by
 refine aI aK0 rfl aK3 rfl ?_;refine aT9 λK hK=>?_;refine aM3 rfl rfl λw1 fQ dM mP=>?_;have cA:=aC fQ;replace dM:Bk w1 w.heap.size aJO (aAk x):=dM;have Z9:=h.lt;have h1:=h.below cA;have FY:bF w w1 (hF hp v) (hF hp v):=aLX cA Z9;refine SU ?_;refine WC.tm (λw'=>Bk w' hp aJ2 [v,aJ3 eA]/\Bk w' w.heap.size aJO (aAk x)) [10] (.pure 0 (.pure 1 (.pure 2 (.pure 3 (.read 4 (.read 5 (.act 6 (.act 7 (.pure 8 (.pure 9 (.last 10 .fin))))))))))) mixed BYK rfl BYK (λw' hb _=>⟨h1.blk.below hb,dM.below hb⟩) λK hK w2 bM hh2=>?_;have qA:=h1.blk.below bM;have pP:=dM.below bM;refine eJ ?_;refine aLq (RL.step (λw' dY=>aJC aJF rfl (dY.1.cell rfl)) rfl ?_) ⟨qA,pP⟩;refine aLq (RL.step (λw' dY=>aL5 (cs:=aAk x) aIy rfl (aHn _) (λj u hu=>by rw[aAn];exact dY.2.cell hu)) rfl ?_) ⟨qA,pP⟩;refine TM.act rfl (WL.lit (xs:=[.tmp 11]) (vs:=[aJD x]) aJI aIy rfl rfl (by simp[aAk,Value.cells]) rfl rfl BYO λw4 kO rE RY=>WL.nil ?_);have oQ:=aC kO;refine⟨⟨qA.below oQ,pP.below oQ⟩,?_⟩;have MN:=qA.below oQ;have wC:=pP.below oQ;have SJ:aE aAk aJV w4 (some ⟨w2.heap.size,0,none⟩) 1 (λ_=>x):=rE.bK (enc:=aAk) (k:=aJV) (f:=λ_=>x) 0 λi hi j u hu=>by
  obtain rfl:i=0:=BYO;simpa[aAk,Value.cells] using hu
 have Eh:Below w1.heap.size w1 w4:=bM.tr oQ;have tZ:=FY.trans (aLX Eh h1.lt);refine TM.act rfl (WL.append aHn aJB BYO aJI aIy rfl rfl rfl ((h1.own.below bM).below oQ) SJ BYO (by simp[maxLen];omega) (by have:=h.base;have:=MN.lt;omega) λv5 w5 row rC fU GO cp cq=>WL.nil ?_);rw[show aG (λ_=>x) 1=[x] from rfl]at rC;have EI:∀k,row=some k->k≠hp/\(k<w.heap.size):=λk hk=>by
  rcases GO with e|e
  .rw[e]at hk;cases hk
  .rw[e]at hk;exact⟨(h.ne k hk).1,(h.ne k hk).2.1⟩
 have NF:=MN.keep fU (λe=>(EI _ e).1 rfl);have MR:=wC.keep fU (λe=>absurd (EI _ e).2 BYO);refine⟨⟨NF,MR⟩,?_⟩;refine eJ ?_;have aGg:=rC;obtain⟨g5,aIS,e5,FX⟩:=rC.toS aHn BYS;have xB:=tZ.trans (bF.app (hp:=hp) fU GO cq MN.lt (λk hk=>by rw[e5]at hk;simp[Value.ownBlock]at hk;subst hk;exact FX.lt));have Em:v5.cells.toList=[v5]:=by rw[e5];rfl
 have h15:∀u∈v5.cells.toList,u.oneCell'=true:=by rw[Em,e5];simp[Value.oneCell']
 refine TM.last rfl (WL.store (g:=hp) (o:=0) aJF rfl rfl (by rw[e5];rfl) h15 NF BYS λw6 gL pU FW=>WL.nil ?_);rw[Em]at pU;replace pU:Bk w6 hp aJ2 [v5,aJ3 eA]:=pU;refine TM.fin (hK _ _ ?_);have wZ:=xB.trans (aLi gL (.inl rfl) λk hk=>(xB.next k hk).2);clear hK K;have GH:(l++[x]).length=l.length+1:=BYS;obtain⟨g,cap,rfl,hS⟩:=rC.toS aHn BYS;obtain⟨vY,qP⟩:=first
 obtain⟨fn,cd,zO,HR,Fh⟩:=vY;have cQ:=(h.ne g);have aBs:∀k,hF hp (.slice (some ⟨g,0,none⟩) (l++[x]).length cap) k->k<w6.heap.size:=λk hk=>(wZ.next k hk).2;have Wx:g≠hp:=by
  intro e;subst e;rcases cq with e2|e2
  .exact(h.ne g e2.symm).1 rfl
  .simp[Value.ownBlock]at e2;have:=h1.blk.lt;have:=Eh.size;omega
 rw[GH]at hS pU⊢;have um:cO aAk aJV aJO w6 B g (l.length+1) cap (G.put (lf l) l.length x):=(hS.keep gL BYT).congr λi hi=>by
  have e1:l++[x]=aG (G.put (lf l) l.length x) (l.length+1):=by rw[<-G.BO,dE]
  rw[e1,kU _ hi]
 have uH:∀i,i<l.length+1->aIz (G.put (lf l) l.length x i):=λi hi=>by
  unfold G.put;split
  .exact hx
  .rw[bU BYO];exact h.ok _ (aCX _)
 clear hS gL rC cq;have oA:∀(wr:World) (f':Nat->aIu),f'=G.FO (lf l) l.length x->cO aAk aJV aJO wr B g (l.length+1) cap f'->Bk wr hp aJ2 [.slice (some ⟨g,0,none⟩) (l.length+1) cap,aJ3 eA]->bF w wr (hF hp v) (hF hp (.slice (some ⟨g,0,none⟩) (l.length+1) cap))->
   ∃v' l',aBU wr B hp eA v' l'/\l'.Perm (x::l)/\bF w wr (hF hp v) (hF hp v'):=by
  rintro wr f' rfl hS hb hC;have nB:=G.DZ (lf l) l.length x;rw[dE]at nB;refine⟨_,_,⟨hb,h.base,hS.toL aHn,λk hk=>?_,(G.DY h.heap).list,λy hy=>?_⟩,nB,hC⟩
  .simp[Value.ownBlock]at hk;subst hk;exact⟨Wx,hS.lt,hS.base⟩
  .rcases aBI.1 (nB.mem_iff.1 hy) with rfl|hy
   .exact hx
   .exact h.ok _ hy
 refine SU ?_;refine aMK (λ(i:Nat) (f':Nat->aIu)=>[(0,.pointer (some ⟨hp,0,none⟩)),(4,.int .i64 i)]) (λi f' m wr=>i<m/\i<l.length+1/\G.oH m i f'=G.FO (lf l) l.length x/\(∀k,k<l.length+1->aIz (f' k))/\cO aAk aJV aJO wr B g (l.length+1) cap f'/\
  Bk wr hp aJ2 [.slice (some ⟨g,0,none⟩) (l.length+1) cap,aJ3 eA]/\bF w wr (hF hp v) (hF hp (.slice (some ⟨g,0,none⟩) (l.length+1) cap))) (l.length+1) l.length (G.put (lf l) l.length x) ⟨BYO,BYO,rfl,uH,um,pU,wZ⟩ aJA ?_
 rintro i f' m wr ⟨CM,iD,heq,bY,ho,hb,hC⟩;obtain⟨m,rfl⟩:∃m',m=m'+1:=⟨m-1,BYO⟩;rw[G.oH]at heq;refine SU ?_;refine aJ6 rfl (λh0=>?_) (λh0=>?_)
 .have Ds:0<i:=BYO;refine SU ?_;refine aLh mixed BYK ?_;refine Zs ?_;refine QL.call (λ_ _=>aOQ zO HR Fh rfl rfl) rfl (λw_ FZ=>lO (aJi (qP (f' i) (f' ((i-1)/2)) w_ (bY i iD) (bY _ BYO))) FZ) ?_;refine Zs ?_;refine QL.done λw7 lD=>?_;have OT:=hb.below lD;have BZ:=ho.below lD;have NM:=hC.trans (aLX lD λk hk=>(hC.next k hk).2);refine SU ?_;refine aPf rfl (λh2=>?_) (λh2=>?_)
  .rw[if_neg (λhh=>h2 hh.2)]at heq;refine SU ?_;exact aPe rfl (oA _ _ heq BZ OT NM)
  .rw[if_pos ⟨Ds,h2⟩]at heq;refine SU ?_;refine WC.ord [25,27] [(0,0),(1,0),(2,0),(4,0),(5,0),(6,0),(7,0),(9,0),(10,0),(11,0),(12,0),(14,0),(17,0),(18,0),(19,0),(21,0),(3,1),(8,1),(13,1),(15,0),(16,1),(20,1),(22,0),(23,1),(24,0),(25,2),(26,0),(27,2)] mixed BYK rfl BYK λK hK w8 mN fh=>?_;refine uX ?_;refine OL.act rfl (aML aHn aJB aIy (i:=i) (a:=f' ((i-1)/2)) rfl BYO rfl (aJE _) (BZ.heap fh) iD λw9 CI SD ba=>WL.nil ?_);refine uX ?_;refine OL.act rfl (aML aHn aJB aIy (i:=(i-1)/2) (a:=f' i) rfl BYO rfl (aJE _) SD BYO λAA mZ ef Du=>WL.nil ?_);refine OL.nil (hK _ _ ?_);clear hK K;have wA:=NM.trans (aLX mN λk hk=>(NM.next k hk).2);have pS:=wA.trans (aLi CI (.inr rfl) λk hk=>(wA.next k hk).2);have oB:=pS.trans (aLi mZ (.inr rfl) λk hk=>(pS.next k hk).2);have oO:=((OT.heap fh).keep CI BYT).keep mZ BYT;have ES:cO aAk aJV aJO AA B g (l.length+1) cap (G.aP f' i ((i-1)/2)):=ef.congr λj _=>by rw[<-G.lX f' i ((i-1)/2) BYO]
   refine SU ?_;refine aLm ((i-1)/2) (G.aP f' i ((i-1)/2)) m BYO ⟨BYO,BYO,heq,λk hk=>?_,ES,oO,oB⟩ aJA;simp only[G.aP];split
   .exact bY _ BYO
   .split
    .exact bY _ iD
    .exact bY _ hk
 .rw[if_neg (λhh=>h0 BYO)]at heq;refine SU ?_;exact aMt rfl (oA _ _ heq ho hb hC)):G:=h
def aKs{G:Prop}(h:G:=by
 refine aI aKt rfl aLE rfl ?_;refine aT9 λK hK=>?_;refine WL.step (aP3 rfl) rfl ?_;refine SU ?_;refine aM3 rfl rfl λw1 fQ dM mP=>?_;replace dM:Bk w1 w.heap.size aJ2 [.slice none 0 0,aJ3 eA]:=dM;refine SU ?_;refine aMP (λ_:Unit=>[(5,.pointer (some ⟨w.heap.size,0,none⟩)),(11,.slice none 0 0),(12,.int .i64 0),(13,.int .i64 0)]) (λ_ _ wr=>wr=w1) 0 () rfl aJA ?_;rintro _ n wr rfl;refine SU ?_;refine aJ6 rfl (λh=>absurd h BYO) (λh=>?_);refine SU ?_;exact aLV rfl rfl ⟨rfl,⟨dM,aAB _,bT.nil _ _ _ _ _ _,λg hg=>(by simp[Value.ownBlock]at hg),λi h0 hi=>(by simp at hi),λx hx=>(by cases hx)⟩,aC fQ⟩):G:=h
def aLF{G:Prop}(h:G:=by
 obtain⟨g,cap,rfl,hS⟩:=h.own.toS aHn Ep;have Mw:0<l.length:=aC8.2 Ep;obtain⟨vY,qP⟩:=first
 obtain⟨fn,cd,zO,HR,Fh⟩:=vY;have Wx:g≠hp:=(h.ne g rfl).1;have WB:g<w.heap.size:=(h.ne g rfl).2.1;have Wh:=h.blk.lt;have XQ:=h.blk;have zh:=hS.le;have hC0:bF w w (hF hp (.slice (some ⟨g,0,none⟩) l.length cap)) (hF hp (.slice (some ⟨g,0,none⟩) l.length cap)):=bF.refl h.lt;refine aI aLI rfl aJj rfl ?_;refine aT9 λK hK=>?_;refine WL.alloc aIy rfl λw1 fQ EJ mP=>?_;have cA:=aC fQ;replace XQ:=XQ.below cA;have Fp:=hS.below cA;refine aT9 λK hK=>?_;refine WL.box aIy rfl rfl rfl (by intro u hu;exact aJB _ u hu) λw2 eB pP qO=>?_;have bM:=aC eB;replace pP:Bk w2 w1.heap.size aJO (aAk (lf l 0)):=pP;have pT:=EJ.below bM;have iW:=XQ.below bM;have ff:=Fp.below bM;have uN:=hC0.more (cA.tr bM);have Xk:z_o.cells.toList.length=aJV:=rfl;have Mh:w.heap.size<w1.heap.size:=BYO;clear XQ Fp EJ;refine SU ?_;refine WC.ord [12] [(0,0),(1,0),(2,0),(4,0),(5,0),(6,0),(8,0),(3,1),(7,1),(9,0),(10,1),(11,0),(12,2)] mixed BYK rfl BYK λK hK w3 dZ OR=>?_;refine uX ?_;have GC:=ff.heap OR;have mM:=iW.heap OR;refine OL.act rfl (aML aHn aJB aIy (i:=0) (a:=lf l (l.length-1)) rfl (by first|omega|rfl) rfl (aJE _) GC BYO λw4 kO xO RY=>WL.nil ?_);refine OL.nil (hK _ _ ?_);clear hK K;have rE:=mM.keep kO BYT;have wC:=(pP.heap OR).keep kO BYT;have SJ:=(pT.heap OR).keep kO BYT;have tZ:=(uN.more dZ).trans (aLi kO (.inr rfl) λk hk=>((uN.more dZ).next k hk).2);refine aT9 λK hK=>?_;refine WL.store (g:=hp) (o:=0) aJF rfl rfl rfl (by simp[Value.cells,Value.oneCell']) rE BYS λw5 fU pZ zT=>?_;replace pZ:Bk w5 hp aJ2 [.slice (some ⟨g,0,none⟩) (l.length-1) cap,aJ3 eA]:=pZ;have FX:=(xO.keep fU BYT).shorter (m:=l.length-1) BYO;have MR:=wC.keep fU BYT;have zM:=SJ.keep fU BYT;have xB:bF w w5 (hF hp (.slice (some ⟨g,0,none⟩) l.length cap)) (hF hp (.slice (some ⟨g,0,none⟩) (l.length-1) cap)):=tZ.trans (aLi fU (.inl rfl) λk hk=>(tZ.next k hk).2);have uH:∀i,i<l.length->aIz (lf l i):=λi hi=>by rw[bU hi];exact h.ok _ (aCX _)
 have Eb:∀k,k<l.length-1->aIz (if k=0 then lf l (l.length-1) else lf l k):=λk hk=>by
  split
  .exact uH _ BYO
  .exact uH _ BYO
 have oA:∀(wr:World) (f':Nat->aIu),f'=G.OH (lf l) l.length->cO aAk aJV aJO wr B g (l.length-1) cap f'->Bk wr hp aJ2 [.slice (some ⟨g,0,none⟩) (l.length-1) cap,aJ3 eA]->bF w wr (hF hp (.slice (some ⟨g,0,none⟩) l.length cap)) (hF hp (.slice (some ⟨g,0,none⟩) (l.length-1) cap))->
   ∃v' l' x,aJD (lf l 0)=aJD x/\aBU wr B hp eA v' l'/\l.Perm (x::l')/\(∀y∈l',G.Key.key x<=G.Key.key y)/\bF w wr (hF hp (.slice (some ⟨g,0,none⟩) l.length cap)) (hF hp v'):=by
  rintro wr f' rfl hS hb hC;have nB:=G.BP (lf l) Mw;rw[dE]at nB;refine⟨_,_,_,rfl,⟨hb,h.base,hS.toL aHn,λk hk=>?_,(G.LV h.heap).list,λy hy=>?_⟩,nB,G.EA h.heap Mw,hC⟩
  .simp[Value.ownBlock]at hk;subst hk;exact⟨Wx,hS.lt,hS.base⟩
  .exact h.ok _ (nB.mem_iff.2 (aBm _ hy))
 refine SU ?_;refine aMK (λ(i:Nat) (f':Nat->aIu)=>[(0,.pointer (some ⟨hp,0,none⟩)),(2,.pointer (some ⟨w.heap.size,0,none⟩)),(3,.pointer (some ⟨w1.heap.size,0,none⟩)),(4,.int .i64 ((l.length-1:Nat):Int)),(5,.int .i64 i)]) (λi f' m wr=>i<=1000/\l.length-1<=i+m/\G.dA (l.length-1) m i f'=G.OH (lf l) l.length/\(∀k,k<l.length-1->aIz (f' k))/\cO aAk aJV aJO wr B g (l.length-1) cap f'/\
  Bk wr hp aJ2 [.slice (some ⟨g,0,none⟩) (l.length-1) cap,aJ3 eA]/\bF w wr (hF hp (.slice (some ⟨g,0,none⟩) l.length cap)) (hF hp (.slice (some ⟨g,0,none⟩) (l.length-1) cap))/\Bk wr w1.heap.size aJO (aAk (lf l 0))/\Bk wr w.heap.size aJO z_o.cells.toList) (l.length-1) 0 (λj=>if j=0 then lf l (l.length-1) else lf l j)
  ⟨BYO,BYO,rfl,Eb,FX,pZ,xB,MR,zM⟩ aJA ?_
 rintro i f' m wr ⟨Qz,CM,heq,bY,ho,hb,hC,hx,hr⟩;refine SU ?_;rw[show(2*(i:Int)+1)=((2*i+1:Nat):Int) from by omega];refine aJ6 rfl (λh0=>?_) (λh0=>?_)
 .have GF:G.dA (l.length-1) m i f'=f':=by cases m<;>simp[G.dA,show l.length-1<=2*i+1 by omega]
  rw[GF]at heq;refine aT9 λK hK=>?_;refine WL.store (v:=aJD (lf l 0)) (g:=w.heap.size) (o:=0) aIy rfl rfl rfl (by intro u hu;exact aJB _ u hu) hr (by rw[Xk];decide) λZ0 pQ pR bq=>?_;replace pR:Bk Z0 w.heap.size aJO (aAk (lf l 0)):=pR;refine SU ?_;exact aPg aIy rfl rfl pR (aHn _) (oA _ _ heq (ho.keep pQ BYT) (hb.keep pQ BYT) (hC.fresh pQ (aAB _)))
 .obtain⟨m,rfl⟩:∃m',m=m'+1:=⟨m-1,BYO⟩;have eH:G.dA (l.length-1) (m+1) i f'=if G.Key.key (f' i)<=G.Key.key (f' (G.fN f' (l.length-1) i)) then f' else G.dA (l.length-1) m (G.fN f' (l.length-1) i) (G.aP f' i (G.fN f' (l.length-1) i)):=by
   rw[G.dA,if_neg BYO]
  rw[eH]at heq;have XB:=G.pH (f:=f') (n:=l.length-1) (i:=i) BYO;have hkg:=G.pI f' (l.length-1) i;refine IQ ?_;refine aOm [(0,.pointer (some ⟨hp,0,none⟩)),(2,.pointer (some ⟨w.heap.size,0,none⟩)),(3,.pointer (some ⟨w1.heap.size,0,none⟩)),(4,.int .i64 ((l.length-1:Nat):Int)),(5,.int .i64 i),(6,.int .i64 (G.fN f' (l.length-1) i))] (λw'=>Below wr.heap.size wr w') ?_ ?_
  .refine SU ?_;refine aLh mixed BYK ?_;refine Zs ?_;refine QL.guard rfl rfl (λh1=>?_) (λh1=>?_)
   .have PD:2*i+1+1<l.length-1:=by have:=of_decide_eq_true h1;omega
    refine Zs ?_;refine QL.call (λ_ _=>aOQ zO HR Fh rfl rfl) rfl (λw_ FZ=>lO (aJi (qP (f' (2*i+1+1)) (f' (2*i+1)) w_ (bY _ PD) (bY _ BYO))) FZ) ?_;refine Zs ?_;refine QL.done λw7 lD=>?_;refine SU ?_;refine aJ6 rfl (λh2=>?_) (λh2=>?_)
    .have hk:G.fN f' (l.length-1) i=2*i+2:=if_pos ⟨PD,h2⟩;refine SU ?_;exact aNf lD aJA
    .have hk:G.fN f' (l.length-1) i=2*i+1:=if_neg (λhh=>h2 hh.2);refine SU ?_;exact aNf lD aJA
   .have PD:¬2*i+2<l.length-1:=by have:=of_decide_eq_false h1;omega
    have hk:G.fN f' (l.length-1) i=2*i+1:=if_neg (λhh=>PD hh.1);refine Zs ?_;refine QL.done λw7 lD=>?_;refine SU ?_;refine aJh rfl ?_;refine SU ?_;exact aNf lD aJA
  .intro w8 mN;replace hb:=hb.below mN;replace ho:=ho.below mN;replace hC:=hC.more mN;replace hx:=hx.below mN;replace hr:=hr.below mN;clear mN eH;generalize G.fN f' (l.length-1) i=c at*;refine SU ?_;refine aLh mixed BYK ?_;refine Zs ?_;refine QL.call (λ_ _=>aOQ zO HR Fh rfl rfl) rfl (λw_ FZ=>lO (aJi (qP (f' c) (f' i) w_ (bY _ XB) (bY _ BYO))) FZ) ?_;refine Zs ?_;refine QL.done λw9 zV=>?_;replace hb:=hb.below zV;replace ho:=ho.below zV;replace hC:=hC.more zV;replace hx:=hx.below zV;replace hr:=hr.below zV;clear zV;refine SU ?_;refine aPf rfl (λh2=>?_) (λh2=>?_)
   .rw[if_pos BYO]at heq;refine aT9 λK hK=>?_;refine WL.store (v:=aJD (lf l 0)) (g:=w.heap.size) (o:=0) aIy rfl rfl rfl (by intro u hu;exact aJB _ u hu) hr (by rw[Xk];decide) λZ0 pQ pR bq=>?_;replace pR:Bk Z0 w.heap.size aJO (aAk (lf l 0)):=pR;refine SU ?_;exact aPg aIy rfl rfl pR (aHn _) (oA _ _ heq (ho.keep pQ BYT) (hb.keep pQ BYT) (hC.fresh pQ (aAB _)))
   .rw[if_neg BYO]at heq;refine SU ?_;refine WC.ord [25,27] [(0,0),(1,0),(2,0),(4,0),(5,0),(6,0),(7,0),(9,0),(10,0),(11,0),(12,0),(14,0),(17,0),(18,0),(19,0),(21,0),(3,1),(8,1),(13,1),(15,0),(16,1),(20,1),(22,0),(23,1),(24,0),(25,2),(26,0),(27,2)] mixed BYK rfl BYK λK hK AA oR xL=>?_;refine uX ?_;refine OL.act rfl (aML aHn aJB aIy (i:=i) (a:=f' c) rfl BYO rfl (aJE _) (ho.heap xL) BYO λQo xN ES uh=>WL.nil ?_);refine uX ?_;refine OL.act rfl (aML aHn aJB aIy (i:=c) (a:=f' i) rfl BYO rfl (aJE _) ES BYO λXn uI En rq=>WL.nil ?_);refine OL.nil (hK _ _ ?_);clear hK K;have oB:=hC.more oR;have pO:=oB.trans (aLi xN (.inr rfl) λk hk=>(oB.next k hk).2);have zQ:=pO.trans (aLi uI (.inr rfl) λk hk=>(pO.next k hk).2);have qA:=((hb.heap xL).keep xN BYT).keep uI BYT;have aq:cO aAk aJV aJO Xn B g (l.length-1) cap (G.aP f' i c):=En.congr λj _=>by rw[<-G.lX f' i c BYO]
    have Z5:=((hx.heap xL).keep xN BYT).keep uI BYT;have Na:=((hr.heap xL).keep xN BYT).keep uI BYT;refine SU ?_;refine aLm c (G.aP f' i c) m BYO ⟨BYO,BYO,heq,λk hk=>?_,aq,qA,zQ,Z5,Na⟩ aJA;simp only[G.aP];split
    .exact bY _ BYO
    .split
     .exact bY _ BYO
     .exact bY _ hk):G:=h
def aLJ{G:Prop}(h:G:=by
 refine⟨⟨_,_,aJe,BYK,rfl⟩,λa b w ha hb=>?_⟩;rw[aLy ha hb];refine aI aJe rfl aJk rfl ?_;refine aJf λK hK=>?_;refine aM3 rfl rfl λw1 fQ dM mP=>?_;have cA:=aC fQ;replace dM:Bk w1 w.heap.size aJO (aAk a):=dM;refine aJW ?_;refine aM3 rfl rfl λw2 eB iW qO=>?_;replace iW:Bk w2 w1.heap.size aJO (aAk b):=iW;have bM:=aC eB;replace dM:=dM.below bM;refine aJf λK hK=>?_;refine WL.guard rfl rfl (λh0=>?_) (λh0=>?_)
 .refine aJW ?_;exact aLV rfl rfl ⟨by rw[h0];rfl,cA.tr bM⟩
 .refine aJW ?_;refine WL.guard rfl rfl (λh1=>?_) (λh1=>?_)
  .refine aJW ?_;exact aLV rfl rfl ⟨by rw[h0,h1];rfl,cA.tr bM⟩
  .refine aJW ?_;exact aLV rfl rfl ⟨by rw[h0,h1];rfl,cA.tr bM⟩):G:=h
variable{m g:Nat}
def aE{α:Type}(enc:α->List Value)(k:Nat)(w:World)(A:Option Addr)(n:Nat)(f:Nat->α):Prop:=
 0<n->∃b o,A=some ⟨b,o,none⟩/\b<w.heap.size/\∀i,i<n->∀j u,(enc (f i))[j]?=some u->w.cell? ⟨b,o+i*k+j,none⟩=some u
def Bk(w:World)(g:Nat)(t:TypeId)(cs:List Value):Prop:=w.heap[g]?=some (.cells cs.toArray t (0,0))
section
variable{α:Type}{enc:α->List Value}{k:Nat}{w':World}{f f':Nat->α}{cs:List Value}{row:Option Nat}{B:Nat}
def aE.zero(enc:α->List Value)(k:Nat)(w:World)(A:Option Addr)(f:Nat->α):aE enc k w A 0 f:=λh=>absurd h BYO
def aE.congr(h:aE enc k w A n f)(e:∀i,i<n->f' i=f i):aE enc k w A n f':=λhn=>by
 obtain⟨b,o,h1,h2,h3⟩:=h hn;exact⟨b,o,h1,h2,λi hi j u hu=>h3 i hi j u (by rw[<-e i hi];exact hu)⟩
def fB{w w':World}{b:Nat}(h:w'.heap[b]?=w.heap[b]?)(j:Nat):w'.cell? ⟨b,j,none⟩=w.cell? ⟨b,j,none⟩:=by simp[World.cell?,h]
def aE.below(h:aE enc k w A n f)(hb:Below w.heap.size w w'):aE enc k w' A n f:=λhn=>by
 obtain⟨b,o,h1,h2,h3⟩:=h hn;exact⟨b,o,h1,aAx h2 hb.size,λi hi j u hu=>by rw[fB (hb.block b h2)];exact h3 i hi j u hu⟩
def aE.grown(h:aE enc k w A n f)(hg:w.grownBy w' row)(cQ:∀p,A=some p->row≠some p.block):aE enc k w' A n f:=λhn=>by
 obtain⟨b,o,h1,h2,h3⟩:=h hn;exact⟨b,o,h1,aAx h2 hg.size,λi hi j u hu=>by rw[fB (hg.block b h2 (λe=>cQ _ h1 e.symm))];exact h3 i hi j u hu⟩
def aE.heap(h:aE enc k w A n f)(hh:w'.heap=w.heap):aE enc k w' A n f:=λhn=>by
 obtain⟨b,o,h1,h2,h3⟩:=h hn;exact⟨b,o,h1,by rw[hh];exact h2,λi hi j u hu=>by rw[fB (w:=w) (w':=w') (by rw[hh])];exact h3 i hi j u hu⟩
def aE.at_(h:aE enc k w A n f)(hn:0<n):∃b o,A=some ⟨b,o,none⟩/\b<w.heap.size/\∀w',Below w.heap.size w w'->∀i,i<n->∀j u,(enc (f i))[j]?=some u->w'.cell? ⟨b,o+i*k+j,none⟩=some u:=by
 obtain⟨b,o,h1,h2,h3⟩:=h hn;exact⟨b,o,h1,h2,λw' hb i hi j u hu=>(fB (hb.block b h2) _).trans (h3 i hi j u hu)⟩
def aE.sub(h:aE enc k w A n f)(hm:m<=n):aE enc k w A m f:=λhn=>by
 obtain⟨b,o,h1,h2,h3⟩:=h BYO;exact⟨b,o,h1,h2,λi hi=>h3 i BYO⟩
def aE.cut(h:aE enc k w A n f){l c:Nat}(hlm:l+m<=n)(hc:n<=c):
  aE enc k w (if c=l then A else A.map (·.add (l*k))) m (λi=>f (l+i)):=λhn=>by
 obtain⟨b,o,h1,h2,h3⟩:=h BYO;subst h1;rw[if_neg BYO];refine⟨b,o+l*k,?_,h2,λi hi j u hu=>?_⟩
 .simp only[aDo,Addr.add];split
  .rename_i e;rw[e];rfl
  .rfl
 .rw[show o+l*k+i*k+j=o+(l+i)*k+j from by rw[aCL];omega];exact h3 (l+i) BYO j u hu
def Bk.lt(h:Bk w g t cs):g<w.heap.size:=by
 rcases aCD g w.heap.size with dD|CL
 .exact dD
 .unfold Bk at h;rw[aIm CL]at h;cases h
def Bk.cell(h:Bk w g t cs){i:Nat}{u:Value}(hu:cs[i]?=some u):w.cell? ⟨g,i,none⟩=some u:=by
 unfold Bk at h;simp[World.cell?,h,hu]
def Bk.frozen(h:Bk w g t cs)(i:Nat):w.frozen? ⟨g,i,none⟩=false:=by
 unfold Bk at h;simp[World.frozen?,h]
def Bk.keep(h:Bk w g t cs)(hg:w.grownBy w' row)(cQ:row≠some g):Bk w' g t cs:=(hg.block g h.lt (λe=>cQ e.symm)).trans h
def Bk.below(h:Bk w g t cs)(hb:Below w.heap.size w w'):Bk w' g t cs:=(hb.block g h.lt).trans h
def Bk.heap(h:Bk w g t cs)(hh:w'.heap=w.heap):Bk w' g t cs:=by unfold Bk at*;rw[hh];exact h
def Bk.bK(h:Bk w g t cs)(off:Nat)(XN:∀i,i<m->∀j u,(enc (f i))[j]?=some u->cs[off+i*k+j]?=some u):aE enc k w (some ⟨g,off,none⟩) m f:=λ_=>
 ⟨g,off,rfl,h.lt,λi hi j u hu=>h.cell (XN i hi j u hu)⟩
def aC(hg:w.grownBy w' none):Below w.heap.size w w':=⟨hg.os,hg.tape,hg.output,hg.size,λk hk=>hg.block k hk BYS⟩
def cP(h:Below w.heap.size w w')(row:Option Nat):w.grownBy w' row:=⟨h.os,h.tape,h.output,h.size,λk hk _=>h.block k hk⟩
def _root_.Go.RowKit.Below.rM{w0:World}(h:Below w0.heap.size w0 w)(hg:w.grownBy w' row)(hr:∀k,row=some k->w0.heap.size<=k):Below w0.heap.size w0 w':=h.grown hg h.size hr
def _root_.Go.RowKit.Below.tr{w0:World}(h:Below w0.heap.size w0 w)(k:Below w.heap.size w w'):Below w0.heap.size w0 w':=h.trans (k.mono h.size)
end
section
variable{K:Env->World->Prop}{E:Env}{rest:List Oper}{w':World}{op:Op}
 {dz:String}{MV:Array Edge}{t2:TypeId}{x y i:Operand}{v u z:Value}{e xt:TypeId}{agg:Bool}{sz bytes:Nat}
def cN(w:World)(cs:Array Value)(e:TypeId):Bk (w.alloc (.cells cs e)) w.heap.size e cs.toList:=heap_alloc_new w _
def aA.alloc(ty:Ty P e agg sz bytes z):aA P (.alloc e) t E w (.pointer (some ⟨w.heap.size,0,none⟩)) (w.alloc (.cells z.cells e)):=λρ hρ _ _ _ _=>by
 simp[execOp,go_sem,Instr.alloc,ty.zero,newVar,newRow]
def WL.alloc(ty:Ty P e agg sz bytes z)(hd:Nat.blt d N=true)
  (h:∀w',w.grownBy w' none->Bk w' w.heap.size e z.cells.toList->w'.heap.size=w.heap.size+1->WL P ops K N ((d,.pointer (some ⟨w.heap.size,0,none⟩))::E) rest w'):WL P ops K N E (⟨some d,.alloc e,t,pos,after,none⟩::rest) w:=
 WL.step (aA.alloc ty) hd (h _ (World.grownBy_alloc w _ none) (cN w _ _) BYS)
def GQ(w:World)(g j:Nat)(u:Value):w.grownBy (w.setCell ⟨g,j,none⟩ u) (some g):=
 ⟨rfl,rfl,rfl,by simp[World.setCell],λk _ cQ=>Below.heap_setCell w ⟨g,j,none⟩ u k (λe=>cQ (by rw[e]))⟩
def Bk.aKE{cs:List Value}(h:Bk w g e cs)(j:Nat)(u:Value):Bk (w.setCell ⟨g,j,none⟩ u) g e (cs.set j u):=by
 unfold Bk at h⊢;simp[World.setCell,aDI,h]
def size_setCell(w:World)(a:Addr)(u:Value):(w.setCell a u).heap.size=w.heap.size:=by simp[World.setCell]
def aU{a b c:World}{row:Option Nat}(h:a.grownBy b row)(k:b.grownBy c row):a.grownBy c row:=
 ⟨k.os.trans h.os,k.tape.trans h.tape,k.output.trans h.output,aBS h.size k.size,λi hi cQ=>(k.block i (aAx hi h.size) cQ).trans (h.block i hi cQ)⟩
def Ij(w:World)(row:Option Nat):w.grownBy w row:=World.grownBy.refl w row
def putAt(cs:List Value)(j:Nat):List Value->List Value
 |[]=>cs
 |u::r=>putAt (cs.set j u) (j+1) r
def qH:∀(vs:List Value) (i o:Nat) (cs:List Value) (w:World),Bk w g e cs->(∀u∈vs,u.oneCell'=true)->o+i+vs.length<=cs.length->
  ∃w',(storeCells ⟨g,o,none⟩ vs i).run P w=.ok () w'/\w.grownBy w' (some g)/\Bk w' g e (putAt cs (o+i) vs)/\w'.heap.size=w.heap.size:=by
 intro vs;induction vs with
 |nil=>intro i o cs w h _ _;exact⟨w,by simp[storeCells],Ij _ _,h,rfl⟩
 |cons u r ih=>
  intro i o cs w h h1 hl;simp only[aBJ]at hl;have hc:w.cell? ⟨g,o+i,none⟩=some (cs[o+i]'BYO):=h.cell (aDZ BYO);obtain⟨w',a1,a2,a3,a4⟩:=ih (i+1) o (cs.set (o+i) u) (w.setCell ⟨g,o+i,none⟩ u) (h.aKE _ _) (λv hv=>h1 v (aBm _ hv)) BYT;refine⟨w',?_,aU (GQ w g (o+i) u) a2,a3,by rw[a4,size_setCell]⟩;have EN:(⟨g,o,none⟩:Addr).add i=⟨g,o+i,none⟩:=by
   unfold Addr.add;split
   .rename_i e;simp[e]
   .rfl
  simp only[storeCells,EN];rw[Sem.run_bind,run_store P w ⟨g,o+i,none⟩ u .plain (h1 u aBw)];simp[stored,hc,h.frozen,a1]
def WL.store{g o:Nat}{cs:List Value}(ty:Ty P e agg sz bytes z)(hx:aM E x=some (.pointer (some ⟨g,o,none⟩)))(hy:aM E y=some v)(hs:v.cells.size=sz)(h1:∀u∈v.cells.toList,u.oneCell'=true)
  {te:TypeId}(hb:Bk w g te cs)(hl:o+sz<=cs.length)(h:∀w',w.grownBy w' (some g)->Bk w' g te (putAt cs o v.cells.toList)->w'.heap.size=w.heap.size->WL P ops K N E rest w'):
  WL P ops K N E (⟨none,.store e x y,t,pos,after,none⟩::rest) w:=by
 obtain⟨w',a1,a2,a3,a4⟩:=qH (P:=P) v.cells.toList 0 o cs w hb h1 BYT;rw[aDV]at a3;refine WL.act (w':=w') (λρ hρ _ _ _ _=>?_) (h w' a2 a3 a4);have hsv:(storeVar e ⟨g,o,none⟩ v).run P w=.ok () w':=by
  unfold storeVar;rw[Sem.run_bind,ty.size];simp only[Result.andThen_ok,hs,ne_eq,not_true_eq_false,if_false];exact a1
 simp[execOp,hρ _ _ hx,hρ _ _ hy,Instr.storeAt,Instr.sureAddr,hsv]
def WL.box(ty:Ty P e agg sz bytes z)(hd:Nat.blt d N=true)(hy:aM ((d,.pointer (some ⟨w.heap.size,0,none⟩))::E) y=some v)(hs:v.cells.size=sz)(h1:∀u∈v.cells.toList,u.oneCell'=true)
  (h:∀w',w.grownBy w' none->Bk w' w.heap.size e (putAt z.cells.toList 0 v.cells.toList)->w'.heap.size=w.heap.size+1->WL P ops K N ((d,.pointer (some ⟨w.heap.size,0,none⟩))::E) rest w'):
  WL P ops K N E (⟨some d,.alloc e,t,pos,after,none⟩::⟨none,.store e (.tmp d) y,t2,dz,MV,none⟩::rest) w:=by
 refine WL.alloc ty hd λw1 fQ dM mP=>?_;refine WL.store (z:=z) (g:=w.heap.size) (o:=0) ty (by simp[aM,look]) hy hs h1 dM (by have:=ty.zsz;simp;omega) λw2 eB iW qO=>?_;exact h w2 ⟨eB.os.trans fQ.os,eB.tape.trans fQ.tape,eB.output.trans fQ.output,BYO,λk hk _=>(eB.block k BYO BYT).trans (fQ.block k hk BYS)⟩ iW BYO
def aM3(hx:aM E x=some v)(hd:Nat.blt d N=true)
  (h:∀w',w.grownBy w' none->Bk w' w.heap.size e v.cells.toList->w'.heap.size=w.heap.size+1->WL P ops K N ((d,.pointer (some ⟨w.heap.size,0,none⟩))::E) rest w'):WL P ops K N E (⟨some d,.box e x,t,pos,after,none⟩::rest) w:=by
 refine WL.step (w':=w.alloc (.cells v.cells e)) (v:=.pointer (some ⟨w.heap.size,0,none⟩)) (λρ hρ _ _ _ _=>?_) hd (h _ (World.grownBy_alloc w _ none) (cN w _ _) BYS);simp[execOp,go_sem,hρ _ _ hx,Instr.box,newVar,newRow]
end
def OpB(P:Program)(op:Op)(t:TypeId)(E:Env)(w:World)(v:Value):Prop:=∀w',Below w.heap.size w w' \/w'.heap=w.heap->aA P op t E w' v w'
def Bk.bh {w w':World} {g:Nat} {t:TypeId} {cs:List Value} (h:Bk w g t cs) (hb:Below w.heap.size w w' \/w'.heap=w.heap):Bk w' g t cs:=hb.elim h.below h.heap
def aE.bh {α:Type} {enc:α->List Value} {k n:Nat} {w w':World} {A:Option Addr} {f:Nat->α} (h:aE enc k w A n f) (hb:Below w.heap.size w w' \/w'.heap=w.heap):aE enc k w' A n f:=hb.elim h.below h.heap
section
variable{K:Env->World->Prop}{R:Env->Prop}{e sz bytes j:Nat}{E:Env}{rest:List Oper}{op:Op}{te:TypeId}{z u:Value}{x:Operand}{cs:List Value}
def aLP (h:OpB P op t E w v) (k:WL P ops K N ((d,v)::E) rest w) (hd:Nat.blt d N=true:=by with_unfolding_all exact rfl):WL P ops K N E (⟨some d,op,t,pos,after,none⟩::rest) w:=WL.step (h _ (.inr rfl)) hd k
def aMC (h:OpB P op t E w v) (k:QL P ops (λw'=>Below w.heap.size w w') R N ((d,v)::E) rest) (hd:Nat.blt d N=true:=by with_unfolding_all exact rfl):QL P ops (λw'=>Below w.heap.size w w') R N E (⟨some d,op,t,pos,after,none⟩::rest):=QL.step (λ_ hw=>h _ (.inl hw)) hd k
def aPF (h:OpB P op t E w v) (k:R ((d,v)::E)) (hd:Nat.blt d N=true:=by with_unfolding_all exact rfl):RL P ops (λw'=>Below w.heap.size w w') R N E ⟨some d,op,t,pos,after,none⟩:=RL.step (λ_ hw=>h _ (.inl hw)) hd k
def aRA (h:OpB P op t E w v) (k:R ((d,v)::E)) (hd:Nat.blt d N=true:=by with_unfolding_all exact rfl):RL P ops (λw'=>w'.heap=w.heap) R N E ⟨some d,op,t,pos,after,none⟩:=RL.step (λ_ hw=>h _ (.inr hw)) hd k
def aLN (ty:Ty P e false sz bytes z) (hx:aM E x=some (.pointer (some ⟨g,j,none⟩)):=by with_unfolding_all exact rfl) (hb:Bk w g te cs:=by assumption) (hu:cs[j]?=some u:=by with_unfolding_all exact rfl):OpB P (.load e x) t E w u:=λ_ hw=>aJC ty hx ((hb.bh hw).cell hu)
end
variable{B' i:Nat}{α:Type}
def Own(w:World)(B:Nat)(e:TypeId)(k:Nat)(v:Value)(n:Nat)(xs:List Value):Prop:=
 xs.length=n*k/\((∃A,v=.slice A 0 0/\n=0)\/
  ∃g cap cur,v=.slice (some ⟨g,0,none⟩) n cap/\B<=g/\w.heap[g]?=some (.cells cur e (0,0))/\n<=cap/\cap<=maxLen/\cur.size=cap*k/\cur.toList.take (n*k)=xs)
section
variable{w':World}{B k:Nat}{xs:List Value}{row:Option Nat}
def Own.nil(w:World)(B:Nat)(e:TypeId)(k:Nat)(A:Option Addr):Own w B e k (.slice A 0 0) 0 []:=⟨BYS,.inl ⟨A,rfl,rfl⟩⟩
def aOv(h:w.ownsRow B e k v n xs):Own w B e k v n xs:=⟨h.1,h.2.imp (λh=>⟨none,h.1,h.2⟩) id⟩
def Own.keep(h:Own w B e k v n xs)(hg:w.grownBy w' row)(cQ:v.ownBlock=none\/v.ownBlock≠row):Own w' B e k v n xs:=by
 refine⟨h.1,?_⟩;rcases h.2 with hn|⟨g,cap,cur,rfl,hb,OY,rest⟩
 .exact .inl hn
 .refine .inr ⟨g,cap,cur,rfl,hb,?_,rest⟩;rw[hg.block g (aCH.1 OY).1 (by simpa[Value.ownBlock] using cQ)];exact OY
def Own.below(h:Own w B e k v n xs)(hb:Below w.heap.size w w'):Own w' B e k v n xs:=by
 refine⟨h.1,?_⟩;rcases h.2 with hn|⟨g,cap,cur,rfl,hB,OY,rest⟩
 .exact .inl hn
 .exact .inr ⟨g,cap,cur,rfl,hB,by rw[hb.block g (aCH.1 OY).1];exact OY,rest⟩
def Own.base(h:Own w B e k v n xs)(hB:B'<=B):Own w B' e k v n xs:=by
 refine⟨h.1,?_⟩;rcases h.2 with hn|⟨g,cap,cur,rfl,NL,OY,rest⟩
 .exact .inl hn
 .exact .inr ⟨g,cap,cur,rfl,aBS hB NL,OY,rest⟩
def Own.blk(h:Own w B e k v n xs):∀g,v.ownBlock=some g->n≠0->B<=g/\g<w.heap.size:=by
 intro g hg hn;rcases h.2 with⟨A,rfl,h0⟩|⟨g',cap,cur,rfl,NL,OY,_⟩
 .exact absurd h0 hn
 .simp[Value.ownBlock]at hg;subst hg;exact⟨NL,(aCH.1 OY).1⟩
def Own.form(h:Own w B e k v n xs):∃A c,v=.slice A n c/\n<=c:=by
 rcases h.2 with⟨A,rfl,rfl⟩|⟨g',cap,cur,rfl,_,_,hc,_⟩
 .exact⟨A,0,rfl,aAB _⟩
 .exact⟨_,_,rfl,hc⟩
def aST{cs:List Value}(hb:Bk w g e cs)(hB:B<=g)(hn:cs.length=n*k)(hm:n<=maxLen):Own w B e k (.slice (some ⟨g,0,none⟩) n n) n cs:=
 ⟨hn,.inr ⟨g,n,cs.toArray,rfl,hB,hb,aAB _,hm,by simpa using hn,by simp[<-hn]⟩⟩
end
def bT(enc:α->List Value)(k:Nat)(e:TypeId)(w:World)(B:Nat)(v:Value)(l:List α):Prop:=Own w B e k v l.length (l.flatMap enc)
def lf [Inhabited α](l:List α):Nat->α:=λi=>l.getD i default
def aG(f:Nat->α)(n:Nat):List α:=(List.range n).map f
section
variable{enc:α->List Value}{k:Nat}{w':World}{B:Nat}{l:List α}{row:Option Nat}{f:Nat->α}
def aF(f:Nat->α)(n:Nat):(aG f n).length=n:=by simp[aG]
def gM(f:Nat->α)(n:Nat):aG f (n+1)=aG f n++[f n]:=by simp[aG,aGV]
def lF(f:Nat->α)(h:i<(aG f n).length):(aG f n)[i]=f i:=by simp[aG]
def dE [Inhabited α](l:List α):aG (lf l) l.length=l:=by
 refine aHa (by simp[aG]) λi h1 h2=>?_;simp[aG,lf,h2]
def kU [Inhabited α](f:Nat->α)(h:i<n):lf (aG f n) i=f i:=by
 simp[lf,aG,h]
def bU [Inhabited α]{l:List α}(h:i<l.length):lf l i=l[i]:=by simp[lf,h]
def lM{f g:Nat->α}(h:∀i,i<n->f i=g i):aG f n=aG g n:=by
 unfold aG;exact aGm λi hi=>h i (aC5.1 hi)
def pE(hk:∀x,(enc x).length=k):∀(l:List α) (i j:Nat) (hi:i<l.length),j<k->(l.flatMap enc)[i*k+j]?=(enc l[i])[j]?:=by
 intro l;induction l with
 |nil=>intro i j hi;simp at hi
 |cons x r ih=>
  intro i j hi hj;rw[aDs];cases i with
  |zero=>rw[Nat.zero_mul,aAn,aDe (by rw[hk];exact hj)];rfl
  |succ i=>
   rw[aDt (by rw[hk,aCL];omega),hk];rw[show(i+1)*k+j-k=i*k+j from by rw[aCL];omega];exact ih i j (by simpa using hi) hj
def jY(hk:∀x,(enc x).length=k):∀(l:List α),(l.flatMap enc).length=l.length*k:=by
 intro l;induction l with
 |nil=>simp
 |cons x r ih=>rw[aDs,aBh,ih,hk,aBJ,aCL];omega
def bT.nil(enc:α->List Value)(k:Nat)(e:TypeId)(w:World)(B:Nat)(A:Option Addr):bT enc k e w B (.slice A 0 0) []:=Own.nil w B e k A
def bT.keep(h:bT enc k e w B v l)(hg:w.grownBy w' row)(cQ:v.ownBlock=none\/v.ownBlock≠row):bT enc k e w' B v l:=Own.keep h hg cQ
def bT.below(h:bT enc k e w B v l)(hb:Below w.heap.size w w'):bT enc k e w' B v l:=Own.below h hb
def bT.base(h:bT enc k e w B v l)(hB:B'<=B):bT enc k e w B' v l:=Own.base h hB
def bT.form(h:bT enc k e w B v l):∃A c,v=.slice A l.length c/\l.length<=c:=Own.form h
def bT.bK [Inhabited α](hk:∀x,(enc x).length=k){A:Option Addr}{c:Nat}(h:bT enc k e w B (.slice A n c) l):n=l.length/\n<=c/\aE enc k w A n (lf l):=by
 rcases h.2 with⟨A',h1,h2⟩|⟨g,cap,cur,h1,h2,h3,h4,h5,h6,h7⟩
 .injection h1 with _ h1 _;refine⟨BYO,BYO,λhn=>BYO⟩
 .injection h1 with h1 hn hc;subst h1 hn hc;refine⟨rfl,h4,λhn=>⟨g,0,rfl,(aCH.1 h3).1,λi hi j u hu=>?_⟩⟩;have hj:j<k:=by
   rcases aCD j k with hj|hj
   .exact hj
   .rw[aCU (by rw[hk];exact hj)]at hu;cases hu
  rw[bU hi,<-pE hk l i j hi hj,<-h7,aGr]at hu;split at hu
  .rw[cell_of_row w g _ cur e (0,0) h3,aAn];simpa using hu
  .cases hu
def aQZ(hk:∀x,(enc x).length=k){b o:Nat}(h:∀i,i<n->∀j u,(enc (f i))[j]?=some u->w.cell? ⟨b,o+i*k+j,none⟩=some u):
  ∀j u,((aG f n).flatMap enc)[j]?=some u->w.cell? ((⟨b,o,none⟩:Addr).add j)=some u:=by
 intro j u hu;have hlen:=jY hk (aG f n);have hj:j<n*k:=by
  rcases aCD j (n*k) with hj|hj
  .exact hj
  .rw[aCU (by rw[hlen,aF];exact hj)]at hu;cases hu
 have OW:0<k:=by
  rcases aCl k with h0|h0
  .rw[h0]at hj;simp at hj
  .exact h0
 have hdiv:j/k<n:=by rw[aIV OW];exact hj
 have OK:=Nat.mod_lt j OW;have he:j=(j/k)*k+j % k:=by have:=Nat.div_add_mod j k;rw[aDX]at this;omega
 have Fg:((aG f n).flatMap enc)[(j/k)*k+j % k]?=some u:=by rw[<-he];exact hu
 rw[pE hk (aG f n) (j/k) (j % k) (by rw[aF];exact hdiv) OK,lF]at Fg;have:=h (j/k) hdiv (j % k) u Fg;rw[show o+j/k*k+j % k=o+j from by omega]at this;unfold Addr.add;split
 .rename_i e;rw[e]at this;simpa using this
 .exact this
end
section
variable{K:Env->World->Prop}{E:Env}{rest:List Oper}{w':World}{op:Op}
 {dz:String}{MV:Array Edge}{t2:TypeId}{x y s:Operand}{v u z:Value}{e st xt:TypeId}{agg:Bool}{k bytes:Nat}
 {α:Type}{enc:α->List Value}{l:List α}{f:Nat->α}{m c B:Nat}{A:Option Addr}
def tQ(ht:P.underlying st=some (.slice e))(ty:Ty P e agg k bytes z)(A:Option Addr)(c:Nat)(B:Option Addr)(ty':TypeId):
  (Builtin.append_ #[st,st] ty' #[.slice A 0 0,.slice B 0 c]).run P w=.ok (.slice A 0 0) w:=by
 obtain⟨i,hi,hz,hs,hb⟩:=ty.info;cases A<;>cases B<;>simp[Builtin.append_,run_underlying ht,Go.sizeOf,typeInfo,hi,Builtin.lenOf,Builtin.firstCells,loadCells,loadCellsFrom,storeCells]
def JV{st:TypeId}(ht:P.underlying st=some (.slice e))(ty:Ty P e agg k bytes z)(A:Option Addr)(a:Addr)(m c:Nat)(hm:0<m)(ty':TypeId)(hb:m*bytes<=140737488355328)(hbm:m<=maxLen):
  (Builtin.append_ #[st,st] ty' #[.slice A 0 0,.slice (some a) m c]).run P w=(Builtin.append_ #[st,st] ty' #[.slice none 0 0,.slice (some a) m c]).run P w:=by
 obtain⟨i,hi,hz,hs,HA⟩:=ty.info;have h1:¬m=0:=BYO;have h2:¬(140737488355328*2<Builtin.nextslicecap m 0*i.bytes):=by
  have:Builtin.nextslicecap m 0=m:=by unfold Builtin.nextslicecap;rw[if_pos BYO]
  rw[this,HA];omega
 have h3:¬(281474976710656<Builtin.nextslicecap m 0*i.bytes):=BYO;have h4:¬((9223372036854775807:Int)<(m:Int)):=by unfold maxLen at hbm;omega
 cases A with
 |none=>rfl
 |some p=>simp[Builtin.append_,run_underlying ht,Go.sizeOf,typeInfo,hi,Builtin.lenOf,Builtin.firstCells,h1,h3,loadCells,loadCellsFrom,Builtin.mayShare]
def WL.append(hk:∀x,(enc x).length=k)(h1:∀x,∀u∈enc x,u.oneCell'=true)(OW:0<k)(ht:P.underlying st=some (.slice e))(ty:Ty P e agg k bytes z)(hd:Nat.blt d N=true)
  (hs:aM E s=some v)(hx:aM E x=some (.slice A m c))(ho:bT enc k e w B v l)(hr:aE enc k w A m f)(hb:(l.length+m)*bytes<=140737488355328)(hlen:l.length+m<=maxLen)(hB:B<=w.heap.size)
  (h:∀v' w' row,bT enc k e w' B v' (l++aG f m)->w.grownBy w' row->(row=none\/row=v.ownBlock)->(∀g,row=some g->B<=g)->(v'.ownBlock=v.ownBlock\/v'.ownBlock=some w.heap.size)->WL P ops K N ((d,v')::E) rest w'):
  WL P ops K N E (⟨some d,.call {callee:=.builtin .append,args:= #[s,x],argTypes:= #[st,st]},t,pos,after,none⟩::rest) w:=by
 have lV:∃v' w' row,(Builtin.append_ #[st,st] t #[v,.slice A m c]).run P w=.ok v' w'/\bT enc k e w' B v' (l++aG f m)/\w.grownBy w' row/\(row=none\/row=v.ownBlock)/\(∀g,row=some g->B<=g)/\(v'.ownBlock=v.ownBlock\/v'.ownBlock=some w.heap.size):=by
  obtain⟨i,hi,hz,oC,HA⟩:=ty.info;rcases aCl m with h0|h0
  .subst h0;have hl0:l++aG f 0=l:=by simp[aG]
   rw[hl0];rcases ho.2 with⟨A',rfl,hn⟩|⟨g,cap,cur,rfl,fQ,eB,iE,kO,fU,gL⟩
   .exact⟨_,w,none,tQ ht ty A' c A t,ho,World.grownBy.refl w _,.inl rfl,λ_ h=>(by cases h),.inl rfl⟩
   .refine⟨_,w,none,?_,ho,World.grownBy.refl w _,.inl rfl,λ_ h=>(by cases h),.inl rfl⟩;cases A<;>simp[Builtin.append_,run_underlying ht,Go.sizeOf,typeInfo,hi,Builtin.lenOf,Builtin.firstCells,loadCells,loadCellsFrom,storeCells,iE]
  .obtain⟨b,o,rfl,hbl,FV⟩:=hr h0;have GG:=aQZ hk FV;have XK:∀u∈(aG f m).flatMap enc,u.oneCell'=true:=by
    intro u hu;obtain⟨x,_,hx⟩:=aGQ.1 hu;exact h1 x u hx
   have Xu:((aG f m).flatMap enc).length=m*k:=by rw[jY hk,aF]
   rcases ho.2 with⟨A',rfl,hn⟩|⟨g,cap,cur,hv,fQ,eB,iE,kO,fU,gL⟩
   .have hl:l=[]:=aCQ hn;subst hl;have zp:m*bytes<=140737488355328:=by simpa using hb
    rw[JV ht ty A' ⟨b,o,none⟩ m c h0 t zp (by simpa using hlen)];obtain⟨v',w',r1,r2,r3,_,r5⟩:=run_append_own_at (P:=P) w B st t e i z k bytes ht hi hz oC HA ty.zsz OW (.slice none 0 0) 0 [] (World.ownsRow_nil w B e k)
     ⟨b,o,none⟩ m c _ Xu GG XK (by simpa using hlen) (by simpa using hb) hB
    refine⟨v',w',none,r1,?_,⟨r3.os,r3.tape,r3.output,r3.size,λj hj _=>r3.block j hj (by simp[Value.ownBlock])⟩,.inl rfl,λ_ h=>(by cases h),?_⟩
    .have:=aOv r2;simp only[aAn,aDF]at this⊢;unfold bT;rw[aF];exact this
    .rcases r5 with e1|e1
     .exfalso;rcases r2.2 with⟨_,h00⟩|⟨g,cap,cur,hv,_⟩
      .omega
      .rw[hv]at e1;simp[Value.ownBlock]at e1
     .exact .inr e1
   .have eE:w.ownsRow B e k v l.length (l.flatMap enc):=⟨ho.1,.inr ⟨g,cap,cur,hv,fQ,eB,iE,kO,fU,gL⟩⟩;obtain⟨v',w',r1,r2,r3,_,r5⟩:=run_append_own_at (P:=P) w B st t e i z k bytes ht hi hz oC HA ty.zsz OW v l.length _ eE ⟨b,o,none⟩ m c _ Xu GG XK hlen hb hB;refine⟨v',w',v.ownBlock,r1,?_,r3,.inr rfl,λb hb=>(by rw[hv]at hb;simp[Value.ownBlock]at hb;omega),r5⟩;have:=aOv r2;unfold bT;rw[aEZ,aBh,aF];exact this
 obtain⟨v',w',row,r1,r2,r3,r3a,r3b,r4⟩:=lV;refine WL.step (w':=w') (v:=v') (λρ hρ _ _ _ _=>?_) hd (h v' w' row r2 r3 r3a r3b r4);simp[execOp,resolve,hρ _ _ hs,hρ _ _ hx,invoke,builtin,r1]
def Tl(vs:List Value):∀(i:Nat) (off:Nat) (pre rest:List Value),pre.length=off+i->vs.length<=rest.length->
  (vs.zipIdx i).foldl (λ(cs:Array Value) (p:Value×Nat)=>cs.setIfInBounds (off+p.2) p.1) (pre++rest).toArray=(pre++vs++rest.drop vs.length).toArray:=by
 induction vs with
 |nil=>intro i off pre rest _ _;simp
 |cons u r ih=>
  intro i off pre rest hp hr;cases rest with
  |nil=>simp at hr
  |cons y rest=>
   simp only[aIj,List.foldl_cons];have e:(pre++y::rest).toArray.setIfInBounds (off+i) u=((pre++[u])++rest).toArray:=by
    rw[<-hp];simp
   rw[e,ih (i+1) off (pre++[u]) rest BYT (by simpa using hr)];simp
def K5(k:Nat):∀(vs:List Value) (i:Nat) (pre zs:List Value),(∀v∈vs,v.cells.size=k)->pre.length=i*k->zs.length=vs.length*k->
  Instr.fill (λi=>some (i*k,k)) (pre++zs).toArray ((vs.zipIdx i).map λp=>(p.2,p.1))=some (pre++vs.flatMap (·.cells.toList)).toArray:=by
 intro vs;induction vs with
 |nil=>intro i pre zs _ _ hz;have:zs=[]:=aCQ (by simpa using hz);subst this;simp[Instr.fill]
 |cons v r ih=>
  intro i pre zs hv hp hz;simp only[aIj,aC9,Instr.fill];have hvk:=hv v aBw;have Mr:zs.length=k+r.length*k:=by rw[hz,aBJ,aCL];omega
  rw[if_neg (by simp[hvk,hp];omega)];have e:v.cells.zipIdx.foldl (λ(cs:Array Value) (p:Value×Nat)=>cs.setIfInBounds (i*k+p.2) p.1) (pre++zs).toArray=(pre++v.cells.toList++zs.drop k).toArray:=by
   have h1:=Tl v.cells.toList 0 (i*k) pre zs BYO (by simp[hvk];omega);have h2:v.cells.toList.length=k:=by simpa using hvk
   rw[h2]at h1;rw[<-h1,<-aHZ];simp
  have e':v.cells.zipIdx.foldl (λ(cs:Array Value) (x:Value×Nat)=>match x with|(c,j)=>cs.setIfInBounds (i*k+j) c) (pre++zs).toArray=(pre++v.cells.toList++zs.drop k).toArray:=e;rw[e',ih (i+1) (pre++v.cells.toList) (zs.drop k) (λu hu=>hv u (aBm _ hu)) (by simp[hp,hvk,aCL]) BYT];simp
def WL.lit{xs:List Operand}{vs:List Value}(ht:P.underlying st=some (.slice e))(ty:Ty P e agg k bytes z)(hd:Nat.blt d N=true)(he:evs E xs=some vs)(hk:∀v∈vs,v.cells.size=k)
  {parts:Array (Nat×Operand)}(aCO:parts.toList=xs.zipIdx.map λp=>(p.2,p.1))(hn:vs.length=n)(Qx:n*k<=16777216)
  (h:∀w',w.grownBy w' none->Bk w' w.heap.size e (vs.flatMap (·.cells.toList))->w'.heap.size=w.heap.size+1->WL P ops K N ((d,.slice (some ⟨w.heap.size,0,none⟩) n n)::E) rest w'):
  WL P ops K N E (⟨some d,.buildSlice st n parts,t,pos,after,none⟩::rest) w:=by
 refine WL.step (w':=w.alloc (.cells (vs.flatMap (·.cells.toList)).toArray e)) (v:=.slice (some ⟨w.heap.size,0,none⟩) n n) (λρ hρ _ _ _ _=>?_) hd (h _ (World.grownBy_alloc w _ none) (cN w _ _) BYS);have hm:=sR hρ he;have aMH:(parts.map λp=>(p.1,ρ p.2)).toList=(vs.zipIdx).map λp=>(p.2,p.1):=by
  rw[Array.toList_map,aCO,aDd,<-hm];have:∀(l:List Operand) (i:Nat),(l.zipIdx i).map ((λp:Nat×Operand=>(p.1,ρ p.2))∘λp:Operand×Nat=>(p.2,p.1))=((l.map ρ).zipIdx i).map λp=>(p.2,p.1):=by
   intro l;induction l with
   |nil=>intro i;rfl
   |cons x r ih=>intro i;simp only[aIj,aC9,ih];rfl
  exact this xs 0
 obtain⟨i,hi,hz,hs,hb⟩:=ty.info;have Qn:∀zs:List Value,zs.length=n*k->Instr.fill (λi=>some (i*k,k)) zs.toArray ((vs.zipIdx).map λp=>(p.2,p.1))=some (vs.flatMap (·.cells.toList)).toArray:=by
  intro zs hzs;have:=K5 k vs 0 [] zs hk BYS (by rw[hn];exact hzs);simpa using this
 have HS:(parts.map λ(x:Nat×Operand)=>match x with|(i,x)=>(i,ρ x)).toList=(vs.zipIdx).map λp=>(p.2,p.1):=aMH;simp only[execOp,Instr.buildSlice,HS];have h2:¬(2 ^ 24<n*k):=BYO;have hfA:∀zs:Array Value,zs.size=n*k->Instr.fill (λi=>some (i*k,k)) zs ((vs.zipIdx).map λp=>(p.2,p.1))=some (vs.flatMap (·.cells.toList)).toArray:=by
  intro zs hzs;have:=Qn zs.toList (by simpa using hzs);simpa using this
 by_cases h0:n*k=0
 .simp[run_underlying ht,ty.size,h0,newRow];rw[hfA _ (by simp[h0])];simp
 .have Ds:¬(n=0\/k=0):=by
   intro h;apply h0;rcases h with h|h<;>simp[h]
  simp[run_underlying ht,ty.size,Ds,ty.zero,newRow];rw[if_neg BYO,if_neg h0,hfA _ BYS];simp
end
open Go.Proofs
variable{b:Bool}{u:TypeId}
def aFO(h:(!b)=true):b=false:=by cases b<;>simp_all
def aFP(h:(!b)=false):b=true:=by cases b<;>simp_all
def mixed:tz.follows .mixedOrders=true:=BYK
def aN:Ty tz 3 false 1 8 (.int .i64 0):=aLt BYK (λ_=>BYK) rfl
def tR:tz.underlying 25=some (.interface (tz.methodsAt 25)):=BYK
def HF:tz.underlying 68=some (.int .i64):=BYK
def cI(e:Nat):Value:=if e=0 then .nilIface else .iface 68 (.int .i64 e)
section
variable{E:Env}{x i:Operand}{j:Int}
def aPE(hx:aM E x=some v:=by with_unfolding_all exact rfl):aA tz (.makeInterface 68 x) t E w (.iface 68 v) w:=aA.makeInterface HF (λ_ h=>by cases h) hx
def aOY(hx:aM E x=some .nilIface:=by with_unfolding_all exact rfl):aA tz (.binOp .neq 25 x (.const .nilIface) 25) t E w (.bool false) w:=aQn tR hx
def aOe(hx:aM E x=some (.iface u v):=by with_unfolding_all exact rfl):aA tz (.binOp .neq 25 x (.const .nilIface) 25) t E w (.bool true) w:=aQp tR hx
def aPl(hx:aM E x=some .nilIface:=by with_unfolding_all exact rfl):aA tz (.binOp .eql 25 x (.const .nilIface) 25) t E w (.bool true) w:=aQo tR hx
def aPm(hx:aM E x=some (.iface u v):=by with_unfolding_all exact rfl):aA tz (.binOp .eql 25 x (.const .nilIface) 25) t E w (.bool false) w:=aSQ tR hx
section
variable{K:Env->World->Prop}{d_:Nat}{rest:List Oper}{C:World->Prop}{R:Env->Prop}
end
end
structure cO{α:Type}(enc:α->List Value)(k:Nat)(e:TypeId)(w:World)(B g n cap:Nat)(f:Nat->α):Prop where
 base:B<=g
 le:n<=cap
 max:cap<=maxLen
 blk:∃cur,Bk w g e cur/\cur.length=cap*k/\∀i,i<n->∀j u,(enc (f i))[j]?=some u->cur[i*k+j]?=some u
section
variable{enc:α->List Value}{k:Nat}{w':World}{B cap:Nat}{f f':Nat->α}{row:Option Nat}
def cO.lt(h:cO enc k e w B g n cap f):g<w.heap.size:=by obtain⟨cur,hb,_⟩:=h.blk;exact hb.lt
def cO.cell(h:cO enc k e w B g n cap f)(hi:i<n):∀j u,(enc (f i))[j]?=some u->w.cell? ⟨g,0+i*k+j,none⟩=some u:=by
 intro j u hu;obtain⟨cur,hb,_,hc⟩:=h.blk;rw[aAn];exact hb.cell (hc i hi j u hu)
def cO.bK(h:cO enc k e w B g n cap f):aE enc k w (some ⟨g,0,none⟩) n f:=λ_=>⟨g,0,rfl,h.lt,λ_ hi=>h.cell hi⟩
def cO.keep(h:cO enc k e w B g n cap f)(hg:w.grownBy w' row)(cQ:row≠some g):cO enc k e w' B g n cap f:=by
 obtain⟨cur,hb,hr⟩:=h.blk;exact⟨h.base,h.le,h.max,cur,hb.keep hg cQ,hr⟩
def cO.below(h:cO enc k e w B g n cap f)(hb:Below w.heap.size w w'):cO enc k e w' B g n cap f:=h.keep (cP hb none) BYS
def cO.heap(h:cO enc k e w B g n cap f)(hh:w'.heap=w.heap):cO enc k e w' B g n cap f:=by
 obtain⟨cur,hb,hr⟩:=h.blk;exact⟨h.base,h.le,h.max,cur,hb.heap hh,hr⟩
def cO.congr(h:cO enc k e w B g n cap f)(hf:∀i,i<n->f' i=f i):cO enc k e w B g n cap f':=by
 obtain⟨cur,hb,hl,hc⟩:=h.blk;exact⟨h.base,h.le,h.max,cur,hb,hl,λi hi j u hu=>hc i hi j u (by rw[<-hf i hi];exact hu)⟩
def cO.shorter(h:cO enc k e w B g n cap f)(hm:m<=n):cO enc k e w B g m cap f:=by
 obtain⟨cur,hb,hl,hc⟩:=h.blk;exact⟨h.base,aBS hm h.le,h.max,cur,hb,hl,λi hi=>hc i BYO⟩
def cO.toL(hk:∀x,(enc x).length=k)(h:cO enc k e w B g n cap f):bT enc k e w B (.slice (some ⟨g,0,none⟩) n cap) (aG f n):=by
 obtain⟨cur,hb,hl,hc⟩:=h.blk;have Xu:((aG f n).flatMap enc).length=n*k:=by rw[jY hk,aF]
 have hnk:n*k<=cap*k:=aC1 _ h.le;unfold bT;rw[aF];refine⟨Xu,.inr ⟨g,cap,cur.toArray,rfl,h.base,hb,h.le,h.max,by simpa using hl,?_⟩⟩;refine List.ext_getElem? λp=>?_;rw[aGr];by_cases hp:p<n*k
 .rw[if_pos hp];have OW:0<k:=by
   rcases aCl k with h0|h0
   .rw[h0]at hp;simp at hp
   .exact h0
  have hdiv:p/k<n:=by rw[aIV OW];exact hp
  have OK:=Nat.mod_lt p OW;have he:p=(p/k)*k+p % k:=by have:=Nat.div_add_mod p k;rw[aDX]at this;omega
  rw[he,pE hk (aG f n) (p/k) (p % k) (by rw[aF];exact hdiv) OK,lF];have hex:(enc (f (p/k)))[p % k]?=some ((enc (f (p/k)))[p % k]'(by rw[hk];exact OK)):=aDZ _;rw[hex];exact hc _ hdiv _ _ hex
 .rw[if_neg hp,aCU BYO]
def bT.lower{l:List α}(h:bT enc k e w B' v l)(hB:B<=B'):bT enc k e w B v l:=by
 refine⟨h.1,?_⟩;rcases h.2 with h0|⟨g,cap,cur,h1,h2,h3⟩
 .exact .inl h0
 .exact .inr ⟨g,cap,cur,h1,aBS hB h2,h3⟩
def cO.lower(h:cO enc k e w B' g n cap f)(hB:B<=B'):cO enc k e w B g n cap f:=⟨aBS hB h.base,h.le,h.max,h.blk⟩
def bT.toS [Inhabited α](hk:∀x,(enc x).length=k){l:List α}(h:bT enc k e w B v l)(hl:l≠[]):∃g cap,v=.slice (some ⟨g,0,none⟩) l.length cap/\cO enc k e w B g l.length cap (lf l):=by
 rcases h.2 with⟨A,rfl,h0⟩|⟨g,cap,cur,rfl,hB,OY,hc,hm,hs,ht⟩
 .exact absurd (aCQ h0) hl
 .refine⟨g,cap,rfl,hB,hc,hm,cur.toList,by simpa[Bk] using OY,by simpa using hs,λi hi j u hu=>?_⟩;have hj:j<k:=by
   rcases aCD j k with hj|hj
   .exact hj
   .rw[aCU (by rw[hk];exact hj)]at hu;cases hu
  rw[bU hi,<-pE hk l i j hi hj,<-ht,aGr]at hu;split at hu
  .exact hu
  .cases hu
def DJ:∀(vs:List Value) (cs:List Value) (j p:Nat),j+vs.length<=cs.length->(putAt cs j vs)[p]?=if j<=p/\p<j+vs.length then vs[p-j]? else cs[p]?:=by
 intro vs;induction vs with
 |nil=>intro cs j p _;simp only[putAt,aBv];rw[if_neg BYO]
 |cons u r ih=>
  intro cs j p hl;simp only[aBJ]at hl;simp only[putAt];rw[ih _ _ _ BYT];by_cases h1:j+1<=p/\p<j+1+r.length
  .rw[if_pos h1,if_pos BYT,show p-j=(p-(j+1))+1 from by omega];simp
  .rw[if_neg h1];by_cases h2:p=j
   .subst h2;rw[if_pos BYS];rw[List.getElem?_set_self BYO];simp
   .rw[if_neg BYT,List.getElem?_set_ne BYO]
def sS:∀(vs:List Value) (cs:List Value) (j:Nat),(putAt cs j vs).length=cs.length:=by
 intro vs;induction vs with
 |nil=>intro cs j;rfl
 |cons u r ih=>intro cs j;simp only[putAt];rw[ih];simp
end
section
variable{K:Env->World->Prop}{E:Env}{rest:List Oper}{w':World}
 {x y:Operand}{v z:Value}{e:TypeId}{agg:Bool}{k bytes:Nat}{α:Type}{enc:α->List Value}{f:Nat->α}{B g n cap:Nat}
def aML(hk:∀x,(enc x).length=k)(h1:∀x,∀u∈enc x,u.oneCell'=true)(ty:Ty P e agg k bytes z){p:Nat}(hx:aM E x=some (.pointer (some ⟨g,p,none⟩)))(hp:p=i*k)
  (hy:aM E y=some v){a:α}(hv:v.cells.toList=enc a)(ho:cO enc k e w B g n cap f)(hi:i<n)
  (h:∀w',w.grownBy w' (some g)->cO enc k e w' B g n cap (λj=>if j=i then a else f j)->w'.heap.size=w.heap.size->WL P ops K N E rest w'):
  WL P ops K N E (⟨none,.store e x y,t,pos,after,none⟩::rest) w:=by
 subst hp;obtain⟨cur,hb,hl,hc⟩:=ho.blk;have hs:v.cells.size=k:=by have:=congrArg List.length hv;rw[hk]at this;simpa using this
 have aCs:i*k+k<=cap*k:=by
  have:=aC1 k (show i+1<=cap from by have:=ho.le;omega);rw[aCL,aDH]at this;exact this
 refine WL.store ty hx hy hs (by rw[hv];exact h1 a) hb BYO λw' hg rD hz=>h w' hg ?_ hz;refine⟨ho.base,ho.le,ho.max,_,rD,by rw[sS,hl],λi' uK j u hu=>?_⟩;rw[hv,DJ _ _ _ _ (by rw[hk];omega)];have hj:j<k:=by
  rcases aCD j k with hj|hj
  .exact hj
  .rw[aCU (by rw[hk];exact hj)]at hu;cases hu
 by_cases e:i'=i
 .subst e;rw[if_pos rfl]at hu;rw[if_pos (by rw[hk];omega),show i'*k+j-i'*k=j from by omega];exact hu
 .rw[if_neg e]at hu;rw[if_neg,hc i' uK j u hu];rw[hk];rcases Nat.lt_or_gt_of_ne e with dD|MX
  .have:=aC1 k (show i'+1<=i from dD);rw[aCL,aDH]at this;omega
  .have:=aC1 k (show i+1<=i' from MX);rw[aCL,aDH]at this;omega
end
end Rk
