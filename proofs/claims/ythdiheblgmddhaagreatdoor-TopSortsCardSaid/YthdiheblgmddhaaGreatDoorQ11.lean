/- Part of the proof of TopSorts. -/
import Derived.Laws.IdiomStrings
import Derived.Laws.DeepStrings4
import Derived.Laws.Concat
import Derived.Shelf.Strconv.Itoa3
import Derived.Lib.ItoaLen
import Derived.Lib.AppendIntMem
import Derived.WalkSmall
import Derived.Lib.AppendStr
import Derived.Lib.Builder
import Derived.Laws.Externs
import Derived.Lib.ConvBytes
import Derived.Test.YthdiheblgmddhaaGreatDoorQ05
import Derived.Test.YthdiheblgmddhaaGreatDoorQ06
set_option linter.all false
set_option maxHeartbeats 4000000
namespace Rk
open Go Go.RowKit Go.Proofs
variable{rt t:TypeId}{bk o n c:Nat}{A:Option Addr}{E:Env}{w:World}{x:Operand}
abbrev Bs:=List UInt8
abbrev VO(s:Bs):Value:=.string ⟨s.toArray⟩
abbrev byV(b:UInt8):Value:=.int .u8 (b.toNat:Int)
def yn(b:UInt8):List Value:=[.int .u8 (b.toNat:Int)]
def pj(s:UInt8):(yn s).length=1:=rfl
def Ck:tz.underlying 9=some .string:=BYK
def LO:tz.underlying 5=some (.int .u8):=BYK
def S8:tz.underlying 3=some (.int .i64):=BYK
def wV:tz.underlying 78=some (.slice 5):=BYK
def Lf:Ty tz 5 false 1 1 (.int .u8 0):=aLt BYK (λ_=>BYK) rfl
section
variable{y:Operand}{a b:Int}{s r:Bs}{xt yt:TypeId}
def aTV(hx:aM E x=some (.int .u8 a))(h:0<=a/\a<=255):aA tz (.convert 5 3 x) t E w (.int .i64 a) w:=aA.conv ⟨_,LO⟩ S8 hx (wrap_i64 BYO)
def aRZ(hx:aM E x=some (VO s):=by with_unfolding_all exact rfl):aA tz (.call {callee:=.builtin .len,args:= #[x],argTypes:= #[9]}) rt E w (.int .i64 (s.length:Nat)) w:=λρ hρ _ _ _ _=>by
 simp[execOp,resolve,hρ _ _ hx,go_sem,invoke,builtin,run_len_string w _ _ _ Ck,goInt,ByteArray.size]
def aRl{j:Nat}(hx:aM E x=some (.slice (some ⟨bk,o,none⟩) n c):=by with_unfolding_all exact rfl)(hi:aM E y=some (.int .i64 (j:Int)):=by with_unfolding_all exact rfl)(hn:j<n:=by omega):
  aA tz (.indexAddr 78 x y) t E w (.pointer (some ⟨bk,o+j*1,none⟩)) w:=aA.indexAddr wV Lf.size hx hi BYO BYO
def aRI(hx:aM E x=some (.slice A n c):=by with_unfolding_all exact rfl):aA tz (.call {callee:=.builtin .len,args:= #[x],argTypes:= #[78]}) rt E w (.int .i64 n) w:=aL3 wV hx
section
variable{ops:Array Oper}{K:Env->World->Prop}{N d_:Nat}{rest:List Oper}{pos:String}{after:Array Edge}{C:World->Prop}{R:Env->Prop}
end
end
def aRO{f:Nat->UInt8}(hx:aM E x=some (.slice (some ⟨bk,o,none⟩) n c))(hr:aE yn 1 w (some ⟨bk,o,none⟩) n f):
  aA tz (.convert 78 9 x) t E w (VO (aG f n)) w:=λρ hρ _ _ _ _=>by
 have h:=run_convert_bytes_back (P:=tz) w 78 9 5 ⟨bk,o,none⟩ c (aG f n) wV LO Ck (λj hj=>by
  rw[aF]at hj;obtain⟨b',o',e,_,hc⟩:=hr BYO;cases e;have:=hc j hj 0 (.int .u8 ((f j).toNat:Int)) rfl;rw[lF];have hp:(⟨bk,o,none⟩:Addr).add j=⟨bk,o+j,none⟩:=by unfold Addr.add;split<;>simp_all
  rw[hp];simpa using this)
 rw[aF]at h;simp[execOp,hρ _ _ hx,h]
def aTO{B:Nat}{l:Bs}(hx:aM E x=some (.slice A l.length c))(ho:bT yn 1 5 w B (.slice A l.length c) l):
  aA tz (.convert 78 9 x) t E w (VO l) w:=by
 by_cases h:l=[]
 .subst h;intro ρ hρ _ _ _ _;have h0:(convert 78 9 (.slice A 0 c)).run tz w=.ok (.string ⟨#[]⟩) w:=by
   rw[run_convert_bytes_string w _ _ 5 A 0 c wV LO Ck];cases A<;>simp[Conv.bytesToString,loadCells]
   all_goals rfl
  simp[execOp,hρ _ _ hx,h0]
 .obtain⟨g,cap,hv,hS⟩:=ho.toS pj h;obtain⟨rfl,rfl⟩:A=some ⟨g,0,none⟩/\c=cap:=by injection hv with a b c;exact⟨a,c⟩
  have:=aRO (t:=t) hx hS.bK;rw[dE]at this;exact this
open Go.Shelf
variable{w':World}
def T3:Ren where
 f:=λx=>match x with
  |129=>120
  |171=>35
  |243=>72
  |246=>102
  |283=>112
  |284=>113
  |285=>114
  |286=>115
  |317=>119
  |318=>121
  |319=>122
  |320=>123
  |337=>124
  |338=>125
  |n=>n
 t:=λx=>match x with
  |0=>0
  |2=>2
  |3=>3
  |4=>4
  |5=>5
  |9=>9
  |20=>20
  |37=>78
  |46=>167
  |51=>133
  |53=>130
  |171=>194
  |173=>197
  |212=>203
  |213=>204
  |232=>207
  |233=>208
  |n=>n
 g:=λx=>match x with
  |17=>0
  |18=>1
  |19=>2
  |n=>n
def pn:Lays.n171 tz T3 where
 mixed:=mixed
 f129:=(aA5).trans (congrArg some BYK)
 f171:=(Od).trans (congrArg some BYK)
 f243:=(aEx).trans (congrArg some BYK)
 f246:=(aAZ).trans (congrArg some BYK)
 f283:=(aA0).trans (congrArg some BYK)
 f284:=(aA1).trans (congrArg some BYK)
 f285:=(aA2).trans (congrArg some BYK)
 f286:=(aA3).trans (congrArg some BYK)
 f317:=(aA4).trans (congrArg some BYK)
 f318:=(aA6).trans (congrArg some BYK)
 f319:=(aA7).trans (congrArg some BYK)
 f320:=(aA8).trans (congrArg some BYK)
 f337:=(aA9).trans (congrArg some BYK)
 f338:=(aAa).trans (congrArg some BYK)
 t0:=BYK
 a0:=λw=>BYK
 z0:=λw=>BYK
 v0:=λw=>BYK
 t2:=BYK
 a2:=λw=>BYK
 z2:=λw=>BYK
 v2:=λw=>BYK
 t3:=BYK
 a3:=λw=>BYK
 z3:=λw=>BYK
 v3:=λw=>BYK
 t4:=BYK
 a4:=λw=>BYK
 z4:=λw=>BYK
 v4:=λw=>BYK
 t5:=BYK
 a5:=λw=>BYK
 z5:=λw=>BYK
 v5:=λw=>BYK
 t9:=BYK
 a9:=λw=>BYK
 z9:=λw=>BYK
 v9:=λw=>BYK
 t20:=BYK
 a20:=λw=>BYK
 z20:=λw=>BYK
 v20:=λw=>BYK
 t37:=BYK
 a37:=λw=>BYK
 z37:=λw=>BYK
 v37:=λw=>BYK
 t46:=BYK
 a46:=λw=>BYK
 z46:=λw=>BYK
 v46:=λw=>BYK
 t51:=BYK
 a51:=λw=>BYK
 z51:=λw=>BYK
 v51:=λw=>BYK
 t53:=BYK
 a53:=λw=>BYK
 z53:=λw=>BYK
 v53:=λw=>BYK
 t171:=BYK
 a171:=λw=>BYK
 z171:=λw=>BYK
 v171:=λw=>BYK
 t173:=BYK
 a173:=λw=>BYK
 z173:=λw=>BYK
 v173:=λw=>BYK
 t212:=BYK
 a212:=λw=>BYK
 z212:=λw=>BYK
 v212:=λw=>BYK
 t213:=BYK
 a213:=λw=>BYK
 z213:=λw=>BYK
 t232:=BYK
 a232:=λw=>BYK
 z232:=λw=>BYK
 v232:=λw=>BYK
 t233:=BYK
 a233:=λw=>BYK
 z233:=λw=>BYK
 v233:=λw=>BYK
 g17:=BYK
 g18:=BYK
 g19:=BYK
def LP:LaysM.n171 tz T3:={pn with
 i0:=BYK
 i2:=BYK
 i3:=BYK
 i4:=BYK
 i5:=BYK
 i9:=BYK
 i20:=BYK
 i37:=BYK
 i46:=BYK
 i51:=BYK
 i53:=BYK
 i171:=BYK
 i173:=BYK
 i212:=BYK
 i232:=BYK
 i233:=BYK
 m17:=BYK
 m18:=BYK
 m19:=by kernel_rfl}
def lZ(w:World):Prop:=Lib.TabIs tz w "internal/strconv.uint64pow10" .u64 Lib.pow10Tab
def lZ.lt(h:lZ w):0<w.heap.size:=by
 unfold lZ Lib.TabIs World.var? at h;simp only[LP.m17,aDv]at h;rcases aCD 0 w.heap.size with h1|h1
 .exact h1
 .have:w.heap[T3.g 17]?=none:=aIm h1;simp[this]at h
def lZ.same(h:lZ w)(he:w'.heap[0]?=w.heap[0]?):lZ w':=by
 unfold lZ Lib.TabIs World.var? at h⊢;simp only[LP.m17,aDv]at h⊢;change w'.heap[T3.g 17]?=w.heap[T3.g 17]? at he;rw[he];exact h
def lZ.tr(h:lZ w)(hb:Below w.heap.size w w'):lZ w':=h.same (hb.block _ h.lt)
def LQ(n:Int)(h0: -9223372036854775808<=n/\n<=9223372036854775807)(w:World)(hT:lZ w):Calls tz 35 #[.int .i64 n] w (eT λv w'=>∃s:Bs,v=VO s/\s.length<=21/\Below w.heap.size w w'):=by
 refine(Any.strconv_Itoa LP n h0.1 h0.2 w hT).mono ?_;rintro e w' ⟨rfl,k,os,rfl⟩;exact⟨_,rfl,Lib.itoa_length_le n h0.1 h0.2,Lib.below_grow _ _ (aAB _) _ _⟩
variable{P:Program}{yt:TypeId}{p:Option Addr}{a:Addr}
def aB9(base:Nat)(t u ty e:TypeId)(i:TypeInfo)(ht:P.underlying t=some (.slice e))(hu:P.underlying u=some .string)(hi:P.info? e=some i)(hz:i.zero=some (.int .u8 0))(aTu:i.size=1)(hby:i.bytes=1)
  (v:Value)(n:Nat)(xs:List Value)(Ws:w.ownsRow base e 1 v n xs)(s:ByteArray)(h63:n+s.size<=1000000)(GA:base<=w.heap.size):
  ∃v' w',(Builtin.append_ #[t,u] ty #[v,.string s]).run P w=.ok v' w'/\w'.ownsRow base e 1 v' (n+s.size) (xs++Lib.strCells s)/\w.grownBy w' v.ownBlock/\(v'.ownBlock=v.ownBlock\/v'.ownBlock=some w.heap.size):=by
 have hm:n+s.size<=maxLen:=by simp only[maxLen];omega
 obtain⟨v',w',hr,h2,h3,h4⟩:=Lib.run_append_own_string (P:=P) (w:=w) base t u ty e i ht hu hi hz aTu hby v n xs Ws s hm BYO GA;refine⟨v',w',hr,h2,h3,?_⟩;have hxl:xs.length=n:=by simpa using Ws.1
 rcases Ws.2 with⟨rfl,rfl⟩|⟨g,cap,cur,rfl,hbg,hg,sa,hcm,XN,zb⟩
 .by_cases hs0:s.size=0
  .exact .inl (by rw[h4.2 ⟨rfl,hs0⟩])
  .have sD:=run_append_nil_string (P:=P) w t u ty e i (.int .u8 0) ht hu hi hz s BYO BYO (by rw[hby];omega);rw[hr]at sD;injection sD with e1 e2;exact .inr (by rw[e1];rfl)
 .by_cases bj:n+s.size<=cap
  .have sD:=Lib.run_append_room_string (P:=P) w t u ty e i ht hu hi aTu g n cap cur hg s bj BYO;rw[hr]at sD;injection sD with e1 e2;exact .inl (by rw[e1];rfl)
  .have holds:∀j u,xs[j]?=some u->w.cell? ((⟨g,0,none⟩:Addr).add j)=some u:=Ws.cells (g:=g) rfl;have sD:=Lib.run_append_grow_string (P:=P) w t u ty e i (.int .u8 0) ht hu hi hz ⟨g,0,none⟩ n cap xs (by rw[aTu];simpa using hxl) holds s BYO BYO (by rw[hby];exact growslice_fits BYO BYO);rw[hr]at sD;injection sD with e1 e2;exact .inr (by rw[e1];rfl)
def aB4:tz.underlying 82=some (.struct (tz.fieldsOf 82)):=BYK
def yo:Ty tz 80 true 2 32 (.agg #[.pointer none,.slice none 0 0]):=aLt BYK (λ_=>BYK) rfl
def yp:tz.underlying 80=some (.struct (tz.fieldsOf 80)):=BYK
def Lg:Ty tz 77 false 1 8 (.pointer none):=aLt BYK (λ_=>BYK) rfl
def Lh:tz.underlying 77=some (.pointer 80):=BYK
def T4:tz.underlying 163=some .unsafePointer:=BYK
def LR:Ty tz 78 false 1 24 (.slice none 0 0):=aLt BYK (λ_=>BYK) rfl
def T7:Ty tz 72 false 1 8 (.pointer none):=aLt BYK (λ_=>BYK) rfl
def aKe:((tz.fieldsOf 82)[0]?).map (λf=>(f.offset,f.type))=some (0,72):=BYK
def aKf:((tz.fieldsOf 82)[1]?).map (λf=>(f.offset,f.type))=some (1,3):=BYK
def aKg:((tz.fieldsOf 82)[2]?).map (λf=>(f.offset,f.type))=some (2,80):=BYK
def aKh:((tz.fieldsOf 80)[0]?).map (λf=>(f.offset,f.type))=some (0,77):=BYK
def aKi:((tz.fieldsOf 80)[1]?).map (λf=>(f.offset,f.type))=some (1,78):=BYK
def VP:∃j,tz.info? 80=some j/\j.size≠0:=by
 obtain⟨i,hi,_,hs,_⟩:=yo.info;exact⟨i,hi,by rw[hs];decide⟩
def T8:∃i,tz.info? 5=some i/\i.zero=some (.int .u8 0)/\i.size=1/\i.bytes=1:=by
 obtain⟨i,hi,hz,hs,hb⟩:=Lf.info;exact⟨i,hi,hz,hs,hb⟩
def aTJ{xt:TypeId}(ht:P.underlying xt=some (.pointer (P.pointee xt)))(hx:aM E x=some (.pointer p)):
  aA P (.binOp .eql xt x (.const (.pointer none)) yt) t E w (.bool p.isNone) w:=λρ hρ _ _ _ _=>by
 simp[execOp,hρ _ _ hx,hρ (.const (.pointer none)) (.pointer none) rfl,eqGuard,run_eql_pointer_nil w xt p ht]
section
variable{y z u:Operand}{j:Nat}
def aOK(hx:aM E x=some (.pointer (some ⟨bk,o,none⟩)):=by with_unfolding_all exact rfl):aA tz (.fieldAddr 82 x 0) t E w (.pointer (some ⟨bk,o,none⟩)) w:=aA.fieldAddr (off:=0) aB4 aKe T7 BYO hx
def aOL(hx:aM E x=some (.pointer (some ⟨bk,o,none⟩)):=by with_unfolding_all exact rfl):aA tz (.fieldAddr 82 x 1) t E w (.pointer (some ⟨bk,o+1,none⟩)) w:=aA.fieldAddr aB4 aKf aN BYO hx
def aQS(hx:aM E x=some (.pointer (some ⟨bk,o,none⟩)):=by with_unfolding_all exact rfl):aA tz (.fieldAddr 82 x 2) t E w (.pointer (some ⟨bk,o+2,none⟩)) w:=aA.fieldAddr aB4 aKg yo BYO hx
def aQP(hx:aM E x=some (.pointer (some ⟨bk,o,none⟩)):=by with_unfolding_all exact rfl):aA tz (.fieldAddr 80 x 0) t E w (.pointer (some ⟨bk,o,none⟩)) w:=aA.fieldAddr (off:=0) yp aKh Lg BYO hx
def aQQ(hx:aM E x=some (.pointer (some ⟨bk,o,none⟩)):=by with_unfolding_all exact rfl):aA tz (.fieldAddr 80 x 1) t E w (.pointer (some ⟨bk,o+1,none⟩)) w:=aA.fieldAddr yp aKi LR BYO hx
def aQF(hx:aM E x=some (.pointer p):=by with_unfolding_all exact rfl):aA tz (.binOp .eql 77 x (.const (.pointer none)) yt) t E w (.bool p.isNone) w:=aTJ BYK hx
def aQR(hx:aM E x=some (.pointer (some a)):=by with_unfolding_all exact rfl)(hy:aM E y=some (.pointer (some a)):=by with_unfolding_all exact rfl):aA tz (.binOp .neq 77 x y yt) t E w (.bool false) w:=λρ hρ _ _ _ _=>by
 obtain⟨j,hj,_⟩:=VP;simp[execOp,hρ _ _ hx,hρ _ _ hy,eqGuard,Lib.run_neq_ptr_same (w:=w) a Lh hj]
section
variable{ops:Array Oper}{K:Env->World->Prop}{N d_:Nat}{rest:List Oper}{pos:String}{after:Array Edge}{C:World->Prop}{R:Env->Prop}
end
def aTK{e:TypeId}{cells:Nat}(lI:w.shape? a.block=some (e,cells))(ho:a.off<cells)(hx:aM E x=some (.pointer (some a))):aA tz (.convert 77 163 x) t E w (.pointer (some a)) w:=λρ hρ _ _ _ _=>by
 obtain⟨j,hj,hn⟩:=VP;simp[execOp,hρ _ _ hx,Lib.run_to_unsafe (w:=w) a Lh T4 hj hn lI ho]
def aRs{b:Nat}(lI:w.shape? b=some (82,4))(hx:aM E x=some (.pointer (some ⟨b,2,none⟩))):aA tz (.convert 163 77 x) t E w (.pointer (some ⟨b,2,none⟩)) w:=λρ hρ _ _ _ _=>by
 obtain⟨j,hj,hn⟩:=VP;simp[execOp,hρ _ _ hx,Lib.run_from_unsafe (w:=w) ⟨b,2,none⟩ T4 Lh hj lI BYK]
def aSe{v:Value}{sG:Array TypeId}(hx:aM E x=some v):aA tz (.call {callee:=.value (.func 111),args:= #[x],argTypes:=sG}) t E w v w:=λρ hρ _ _ _ _=>by
 have h0:ρ (.func 111)=.func (.func 111) #[] #[]:=hρ _ _ rfl;have h1:=run_callFunc_extern aAb BYK BYK BYK (e:=Extern.AbiNoEscape.same) BYK #[v] w;rw[Lib.run_noEscape]at h1;simp[execOp,resolve,h0,hρ _ _ hx,Deferred.ofValue,invoke,go_sem,h1]
end
section
variable{ops:Array Oper}{K:Env->World->Prop}{R:Env->Prop}{N:Nat}{rest:List Oper}{pos:String}{after:Array Edge}{d:Nat}{g j:Nat}{te:TypeId}{cs:List Value}{u:Value}
end
section
variable{ops:Array Oper}{K:Env->World->Prop}{R:Env->Prop}{N:Nat}{rest:List Oper}{pos:String}{after:Array Edge}{d:Nat}{g j:Nat}{te:TypeId}{cs:List Value}{u:Value}
end
section
variable{ops:Array Oper}{K:Env->World->Prop}{R:Env->Prop}{N:Nat}{rest:List Oper}{pos:String}{after:Array Edge}{d:Nat}{g j:Nat}{te:TypeId}{cs:List Value}{u:Value}
end
def T9(hp:Nat)(q:Nat)(ad sl:Value):List Value:=[.pointer (some ⟨hp,0,none⟩),.int .i64 (q:Nat),ad,sl]
abbrev BF(bk:Nat)(sl:Value):Nat->Prop:=hF bk sl
structure VQ(w:World)(bk hp q m:Nat)(ad sl:Value):Prop where
 blk:Bk w bk 82 (T9 hp q ad sl)
 addr:ad=.pointer none\/ad=.pointer (some ⟨bk,2,none⟩)
 buf:∃xs,w.ownsRow 0 5 1 sl m xs
 ne:∀g,sl.ownBlock=some g->g≠bk
def VQ.lt{hp q m:Nat}{ad sl:Value}(h:VQ w bk hp q m ad sl):∀g,BF bk sl g->g<w.heap.size:=by
 rintro g (rfl|h1)
 .exact h.blk.lt
 .obtain⟨xs,hx⟩:=h.buf;exact(hx.lt g h1).2
section
variable{hp q m:Nat}{ad sl:Value}
def VQ.dG{F F':Nat->Prop}(h:VQ w bk hp q m ad sl)(hc:bF w w' F F')(hd:∀g,BF bk sl g->¬F g):VQ w' bk hp q m ad sl:=by
 refine⟨h.blk.dG hc (hd _ (.inl rfl)),h.addr,?_,h.ne⟩;obtain⟨xs,hx⟩:=h.buf;refine⟨xs,hx.1,hx.2.imp id ?_⟩;rintro⟨g,cap,cur,rfl,h1,h2,h3⟩;refine⟨g,cap,cur,rfl,h1,?_,h3⟩;rw[hc.block g (aCH.1 h2).1 (hd g (.inr rfl))];exact h2
def VQ.below(h:VQ w bk hp q m ad sl)(hb:Below w.heap.size w w'):VQ w' bk hp q m ad sl:=h.dG (aLX (F:=λ_=>False) hb λ_ h=>h.elim) λ_ _ h=>h
end
end Rk
namespace Rk
open Go Go.RowKit Go.Proofs
variable{E:Env}{w w':World}{t:TypeId}{x:Operand}
def aRt{v v':Value}{s:Bs}{y:Operand}(hx:aM E x=some v)(hy:aM E y=some (VO s))(hr:(Builtin.append_ #[78,9] t #[v,VO s]).run tz w=.ok v' w'):
  aA tz (.call {callee:=.builtin .append,args:= #[x,y],argTypes:= #[78,9]}) t E w v' w':=λρ hρ _ _ _ _=>by
 simp[execOp,resolve,hρ _ _ hx,hρ _ _ hy,invoke,builtin,hr]
attribute [local irreducible] aA jH OpC WL QL WC WX OL RL TL TM
section
variable{bk hp q m:Nat}{ad sl:Value}
def Qa{T:TypeId}{cs:List Value}(h:Bk w bk T cs)(n:Nat)(hn:cs.length=n):w.shape? bk=some (T,n):=by
 unfold Bk at h;subst hn;simp[World.shape?,h]
def aB7(w:World)(h:VQ w bk hp q m ad sl):Calls tz 101 #[.pointer (some ⟨bk,2,none⟩)] w (eT λv w'=>VQ w' bk hp q m (.pointer (some ⟨bk,2,none⟩)) sl/\bF w w' (BF bk sl) (BF bk sl)):=by
 have hb:=h.blk;refine aI J5 rfl Tryz.ntmps101 rfl ?_;rcases h.addr with e|e
 .subst e;refine IP ?_;refine aLO rfl ?_;refine aTm λK hK=>?_;refine WL.step (aTK (Qa hb 4 rfl) (by show 2<4;omega) rfl) rfl ?_;refine WL.step (aSe rfl) rfl ?_;refine WL.step (aRs (Qa hb 4 rfl) rfl) rfl ?_;refine IP ?_;refine WL.store (v:=.pointer (some ⟨bk,2,none⟩)) (g:=bk) (o:=2) Lg rfl rfl rfl (by simp[Value.cells,Value.oneCell']) hb (by simp[T9]) λw1 fQ dM mP=>?_;replace dM:Bk w1 bk 82 (T9 hp q (.pointer (some ⟨bk,2,none⟩)) sl):=dM;refine IP ?_;have hC:=aLi fQ (.inl rfl:BF bk sl bk) h.lt;refine aMt rfl ⟨⟨dM,.inr rfl,?_,h.ne⟩,hC⟩;obtain⟨xs,hx⟩:=h.buf;refine⟨xs,hx.kept fQ ?_⟩;cases hs:sl.ownBlock with
  |none=>exact .inl rfl
  |some g=>exact .inr (by have:=h.ne g hs;simp;exact this)
 .subst e;refine IP ?_;refine aJh rfl ?_;refine IP ?_;refine aJh rfl ?_;refine IP ?_;exact aMt rfl ⟨h,bF.refl h.lt⟩
def aB8(w:World)(s:Bs)(h:VQ w bk hp q m ad sl)(hm:m+s.length<=1000000):Calls tz 70 #[.pointer (some ⟨bk,2,none⟩),VO s] w (eT λv w'=>∃nG,VQ w' bk hp q (m+s.length) (.pointer (some ⟨bk,2,none⟩)) nG/\bF w w' (BF bk sl) (BF bk nG)):=by
 have hz:(⟨s.toArray⟩:ByteArray).size=s.length:=by simp[ByteArray.size]
 refine aI xn rfl Tryz.ntmps70 rfl ?_;refine aTm λK hK=>?_;refine aKQ J5 (aB7 w h) ?_;rintro v w1 ⟨h1,FY⟩;have dM:=h1.blk;refine aTm λK hK=>?_;obtain⟨xs,hx⟩:=h1.buf;obtain⟨i,hi,hiz,XF,th⟩:=T8;obtain⟨v',w2,pT,kT,eB,hv2⟩:=aB9 (P:=tz) (w:=w1) 0 78 9 78 5 i wV Ck hi hiz XF th sl m xs hx ⟨s.toArray⟩ (by rw[hz];exact hm) (aBt _);refine WL.step (aRt rfl rfl pT) rfl ?_;have iW:Bk w2 bk 82 (T9 hp q (.pointer (some ⟨bk,2,none⟩)) sl):=by
  unfold Bk at dM⊢;rw[eB.block bk h1.blk.lt (λe=>h1.ne bk e.symm rfl)];exact dM
 have aBf:∀g,v'.ownBlock=some g->g<w2.heap.size:=λg hg=>(kT.lt g hg).2;have aGk:∀g,v'.ownBlock=some g->g≠bk:=λg hg=>by
  rcases hv2 with e|e
  .exact h1.ne g (e▸hg)
  .rw[e]at hg;injection hg with hg;have:=h1.blk.lt;omega
 have uN:bF w1 w2 (BF bk sl) (BF bk v'):=bF.app eB (.inr rfl) hv2 h1.blk.lt aBf;refine IP ?_;have XN:v'.cells.toList=[v']/\v'.oneCell'=true:=by
  rcases kT.2 with⟨rfl,_⟩|⟨g,cap,cur,rfl,_⟩<;>simp[Value.cells,Value.oneCell']
 refine WL.store (v:=v') (g:=bk) (o:=3) LR rfl rfl (by rw[<-aF3,XN.1];rfl) (by rw[XN.1];intro u hu;simp at hu;subst hu;exact XN.2) iW (by simp[T9]) λw3 iE mM EL=>?_;rw[XN.1]at mM;replace mM:Bk w3 bk 82 (T9 hp q (.pointer (some ⟨bk,2,none⟩)) v'):=mM;have EM:bF w2 w3 (BF bk v') (BF bk v'):=aLi iE (.inl rfl) λg hg=>(uN.next g hg).2;refine IP ?_;refine aLe rfl rfl rfl ⟨v',⟨mM,.inr rfl,⟨xs++Lib.strCells ⟨s.toArray⟩,?_⟩,aGk⟩,(FY.trans uN).trans EM⟩;rw[hz]at kT;refine kT.kept iE ?_;cases hs:v'.ownBlock with
 |none=>exact .inl rfl
 |some g=>exact .inr (by have:=aGk g hs;simp;exact this)
end
end Rk
namespace Rk
open Go Go.RowKit Go.Proofs
variable{E:Env}{w:World}{t:TypeId}{x:Operand}
def aRP{s:Bs}(hx:aM E x=some (VO s)):
  aA tz (.convert 9 78 x) t E w (.slice (some ⟨w.heap.size,0,none⟩) s.length (grownCap w s.length 0 5)) (Lib.bytesWorld w 5 ⟨s.toArray⟩):=λρ hρ _ _ _ _=>by
 have hz:(⟨s.toArray⟩:ByteArray).size=s.length:=by simp[ByteArray.size]
 have h:=Lib.run_convert_string_bytes (P:=tz) w 9 78 5 ⟨s.toArray⟩ Ck wV LO;rw[hz]at h;simp[execOp,hρ _ _ hx,h]
def Cm(w:World)(s:Bs):Below w.heap.size w (Lib.bytesWorld w 5 ⟨s.toArray⟩):=
 ⟨by simp[Lib.bytesWorld,World.freeze,World.alloc,World.drew,-World.alloc_eq,-World.drew_eq],by simp[Lib.bytesWorld,World.freeze,World.alloc,World.drew,-World.alloc_eq,-World.drew_eq],by simp[Lib.bytesWorld,World.freeze,World.alloc,World.drew,-World.alloc_eq,-World.drew_eq],
  by rw[Lib.bytesWorld_size];omega,λk hk=>Lib.bytesWorld_at_old _ _ _ k hk⟩
def Vl(w:World)(s:Bs):aE yn 1 (Lib.bytesWorld w 5 ⟨s.toArray⟩) (some ⟨w.heap.size,0,none⟩) s.length (lf s):=λhn=>by
 refine⟨w.heap.size,0,rfl,by rw[Lib.bytesWorld_size];omega,λi hi j u hu=>?_⟩;have hz:(⟨s.toArray⟩:ByteArray).size=s.length:=by simp[ByteArray.size]
 have h:=Lib.bytesWorld_cell w 5 ⟨s.toArray⟩ i (by rw[hz];exact hi);rcases j with _|j
 .simp[yn]at hu;subst hu;rw[show 0+i*1+0=i from BYO,h];simp[lf,aIA];rfl
 .simp[yn]at hu
attribute [local irreducible] aA jH OpC WL QL WC WX OL RL TL TM
def po(s:Bs)(hs:s.length<=1000)(w:World):Calls tz 71 #[VO s] w (eT λv w'=>∃n:Nat,v=.int .i64 (n:Int)/\n<=9972/\Below w.heap.size w w'):=by
 refine aI xo rfl Tryz.ntmps71 rfl ?_;refine aZ λK hK=>?_;refine WL.step (aRP rfl) rfl ?_;have hB:=Cm w s;have hr:=Vl w s;generalize Lib.bytesWorld w 5 ⟨s.toArray⟩=w1 at hB hr⊢;generalize grownCap w s.length 0 5=c;refine uW ?_;refine aMK (λ(k:Nat) (A:Int)=>[(0,VO s),(3,.int .i64 A),(7,.slice (some ⟨w.heap.size,0,none⟩) s.length c),(8,.int .i64 (s.length:Nat)),(9,.int .i64 (k:Nat))]) (λk A q wr=>k<=s.length/\q=s.length-k/\0<=A/\A<=9972/\Below w1.heap.size w1 wr) s.length 0 0 ⟨BYO,rfl,BYO,BYO,Below.refl _ _⟩ aJA ?_;rintro k A q wr ⟨hk,rfl,hA0,PC,hBr⟩;refine aB ?_;refine aJ6 rfl (λh=>?_) (λh=>?_)
 .replace hr:=hr.below hBr;refine aUE λK hK=>?_;obtain⟨b,o,e,_,FV⟩:=hr BYO;injection e with e;injection e with e1 e2 _;subst e1 e2;have hc:=FV k BYO 0 (byV (lf s k)) rfl;refine WL.step (aJC Lf rfl hc) rfl ?_;refine aZ λK hK=>?_;have hx:(lf s k).toNat<=255:=by have:=(lf s k).toNat_lt;omega
  refine WL.step (aTV (a:=(((lf s k).toNat:Nat):Int)) rfl BYO) rfl ?_;generalize hX:(((lf s k).toNat:Nat):Int)=X;have hX0:0<=X/\X<=255:=BYO;have hM0:0<=((k:Int)+1)*X:=Int.mul_nonneg BYO hX0.1;have hM1:((k:Int)+1)*X<=1001*255:=Int.mul_le_mul BYO hX0.2 hX0.1 BYO;refine WL.step (aA.mul rfl rfl BYO) rfl ?_;generalize ((k:Int)+1)*X=M at hM0 hM1⊢;refine WL.step (aA.add rfl rfl BYO) rfl ?_;refine WL.step (aA.rem rfl rfl BYO BYO) rfl ?_;refine aB ?_;exact aLm (k+1) ((A+M) % 9973) (s.length-(k+1)) BYO ⟨BYO,rfl,BYO,BYO,hBr⟩ aJA
 .obtain rfl:k=s.length:=BYO;refine aB ?_;exact aLV rfl rfl ⟨A.toNat,by rw[Int.toNat_of_nonneg hA0],BYO,hB.tr hBr⟩
end Rk
namespace Rk
open Go Go.RowKit Go.Proofs
section
variable{E:Env}{w:World}{t:TypeId}{x y:Operand}{s r:Bs}
def aOp(hx:aM E x=some (VO s))(hy:aM E y=some (VO r))(h:s.length+r.length<=9223372036854775807):aA tz (.binOp .add 9 x y 9) t E w (VO (s++r)) w:=λρ hρ _ _ _ _=>by
 have h1:=run_string_add_sum (P:=tz) w ⟨s.toArray⟩ ⟨r.toArray⟩ (by simpa[ByteArray.size] using h);have h2:(⟨s.toArray⟩:ByteArray)++⟨r.toArray⟩=⟨(s++r).toArray⟩:=by
  apply ByteArray.ext;simp
 rw[h2]at h1;simp[execOp,hρ _ _ hx,hρ _ _ hy,eqGuard,go_sem,h1]
end
end Rk
namespace Rk
open Go Go.RowKit Go.Proofs
variable{w w':World}
attribute [local irreducible] aA jH OpC WL QL WC WX OL RL TL TM
def lZ.dG{F F':Nat->Prop}(h:lZ w)(hc:bF w w' F F')(hF:∀g,F g->3<=g):lZ w':=h.same (hc.block _ h.lt λhf=>by have:=hF _ hf;omega)
section
variable{bk hp q m:Nat}{ad sl:Value}
def FN(w:World)(s:Bs)(h:VQ w bk hp q m ad sl)(hT:lZ w)(hs:s.length<=100)(hm:m<=900000):Calls tz 34 #[.pointer (some ⟨bk,0,none⟩),VO s] w (eT λv w'=>∃m' nG,m'<=m+123/\VQ w' bk hp q m' (.pointer (some ⟨bk,2,none⟩)) nG/\bF w w' (BF bk sl) (BF bk nG)):=by
 refine aI I5 rfl Tryz.ntmps34 rfl ?_;refine aB ?_;refine WC.tm (λw'=>VQ w' bk hp q m ad sl/\lZ w') [10] (.pure 0 (.pure 1 (.pure 2 (.pure 3 (.pure 4 (.pure 5 (.act 6 (.act 7 (.pure 8 (.pure 9 (.last 10 .fin))))))))))) mixed BYK rfl BYK (λw' hb _=>⟨h.below hb,hT.tr hb⟩) λK hK w2 bM hh2=>?_;have h2:=h.below bM;have hT2:=hT.tr bM;refine aTi ?_;refine RL.step (λ_ _=>aOp (s:=s) (r:=[32]) rfl rfl BYT) rfl ?_;refine aTi ?_;refine TM.act rfl (aKQ xo (po s BYO w2) ?_);rintro v w3 ⟨n,rfl,hn,dZ⟩;have h3:=h2.below dZ;have hT3:=hT2.tr dZ;refine WL.nil ⟨⟨h3,hT3⟩,?_⟩;refine aTi ?_;refine TM.act rfl (aKQ Od (LQ (n:Int) BYO w3 hT3) ?_);rintro v w4 ⟨d,rfl,hd,jR⟩;have h4:=h3.below jR;have hT4:=hT3.tr jR;refine WL.nil ⟨⟨h4,hT4⟩,?_⟩;refine aTi ?_;refine RL.step (λ_ _=>aOp (s:=s++[32]) (r:=d) rfl rfl BYT) rfl ?_;refine aLo (RL.step (λ_ _=>aOp (s:=s++[32]++d) (r:=[10]) rfl rfl BYT) rfl ?_);have hlen:(s++[32]++d++[10]).length<=123:=BYT;generalize s++[32]++d++[10]=line at hlen⊢;refine TM.last rfl (aKQ xn (aB8 w4 line h4 BYO) ?_);rintro v w5 ⟨nG,h5,xB⟩;refine WL.nil (TM.fin (hK _ _ ?_));refine aB ?_;exact aMt rfl ⟨_,nG,BYO,h5,(aLX (bM.tr (dZ.tr jR)) h.lt).trans xB⟩
end
end Rk
namespace Rk.Hw
open Go Go.RowKit Go.Proofs
abbrev aIu:=Int×Int×Int
def aAk(x:aIu):List Value:=[.int .i64 x.1,.int .i64 x.2.1,.int .i64 x.2.2]
abbrev aJD(x:aIu):Value:=.agg (aAk x).toArray
def aHn(x:aIu):(aAk x).length=3:=rfl
def aJB(x:aIu):∀u∈aAk x,u.oneCell'=true:=by simp[aAk,Value.oneCell']
def aJE(x:aIu):(aJD x).cells.toList=aAk x:=rfl
def z_o:Value:=.agg #[.int .i64 0,.int .i64 0,.int .i64 0]
def aIy:Ty tz 75 true 3 24 z_o:=aLt BYK (λ_=>BYK) rfl
def aJS:tz.underlying 75=some (.struct (tz.fieldsOf 75)):=BYK
def aJg:((tz.fieldsOf 75)[0]?).map (λf=>(f.offset,f.type))=some (0,38):=BYK
def aJx:((tz.fieldsOf 75)[1]?).map (λf=>(f.offset,f.type))=some (2,3):=BYK
def aIz(x:aIu):Prop:=0<=x.2.2/\x.2.2<=9223372036854775807
instance:G.Key aIu:=⟨λx=>x.1*9223372036854775808+x.2.2⟩
def aJK{a b:aIu}(ha:aIz a)(hb:aIz b):G.Key.key a<G.Key.key b↔a.1<b.1\/a.1=b.1/\a.2.2<b.2.2:=by
 simp only[G.Key.key,aIz]at*;omega
section
variable{E:Env}{w:World}{t:TypeId}{x y z:Operand}{bk o:Nat}{a b:Int}
def aNG(hx:aM E x=some (.pointer (some ⟨bk,o,none⟩)):=by with_unfolding_all exact rfl):aA tz (.fieldAddr 75 x 0) t E w (.pointer (some ⟨bk,o,none⟩)) w:=aA.fieldAddr (off:=0) aJS aJg aL BYO hx
def aMo(hx:aM E x=some (.pointer (some ⟨bk,o,none⟩)):=by with_unfolding_all exact rfl):aA tz (.fieldAddr 75 x 1) t E w (.pointer (some ⟨bk,o+2,none⟩)) w:=aA.fieldAddr aJS aJx aN BYO hx
def aTL{d:Int}{p:It}(hx:aM E x=some (mV p))(hy:aM E y=some (.int .i64 d)):aA tz (.build 75 #[(0,x),(1,y)]) t E w (aJD (p.1,p.2,d)) w:=
 aA.build (parts:=[(0,x),(1,y)]) (ps:=[(0,mV p),(1,.int .i64 d)]) (by simp[OA,hx,hy]) BYK
section
variable{ops:Array Oper}{K:Env->World->Prop}{N d_:Nat}{rest:List Oper}{pos:String}{after:Array Edge}{C:World->Prop}{R:Env->Prop}
end
end
section
variable{ops:Array Oper}{K:Env->World->Prop}{R:Env->Prop}{N:Nat}{E:Env}{rest:List Oper}{w:World}{t:TypeId}{pos:String}{after:Array Edge}{d:Nat}{x:Operand}{g:Nat}{te:TypeId}{y:aIu}
def aOk(hx:aM E x=some (.pointer (some ⟨g,0,none⟩)):=by with_unfolding_all exact rfl)(hb:Bk w g te (aAk y):=by assumption):OpB tz (.load 75 x) t E w (.agg (aAk y).toArray):=λ_ hw=>aL5 (cs:=aAk y) aIy hx (aHn y) (λj u hu=>by rw[aAn];exact(hb.bh hw).cell hu)
end
section
variable{ops:Array Oper}{K:Env->World->Prop}{R:Env->Prop}{N:Nat}{E:Env}{rest:List Oper}{w:World}{t:TypeId}{pos:String}{after:Array Edge}{d:Nat}{x:Operand}{b o i n:Nat}{f:Nat->aIu}
def aOj(hx:aM E x=some (.pointer (some ⟨b,o+i*3,none⟩)):=by with_unfolding_all exact rfl)(hr:aE aAk 3 w (some ⟨b,o,none⟩) n f:=by first|assumption|exact cO.bK (by assumption))(hi:i<n:=by omega):OpB tz (.load 75 x) t E w (.agg (aAk (f i)).toArray):=λ_ hw=>aL5 (cs:=aAk (f i)) aIy hx (aHn _) ((hr.bh hw).get hi)
end
end Rk.Hw
namespace Rk.Hw
open Go Go.RowKit Go.Proofs
variable{A:Option Addr}{hp:Nat}{eA:FuncId}
def aJI:tz.underlying 140=some (.slice 75):=BYK
def aJF:Ty tz 140 false 1 24 (.slice none 0 0):=aLt BYK (λ_=>BYK) rfl
def aJR:Ty tz 76 false 1 8 .nilFunc:=aLt BYK (λ_=>BYK) rfl
def aJU:tz.underlying 142=some (.struct (tz.fieldsOf 142)):=BYK
def aKP:((tz.fieldsOf 142)[0]?).map (λf=>(f.offset,f.type))=some (0,140):=BYK
def aKI:((tz.fieldsOf 142)[1]?).map (λf=>(f.offset,f.type))=some (1,76):=BYK
abbrev aJT(eA:FuncId):Value:=.func (.func eA) #[] #[]
section
variable{E:Env}{w:World}{t:TypeId}{x y:Operand}{bk o n c j:Nat}
def aNd(hx:aM E x=some (.pointer (some ⟨bk,o,none⟩)):=by with_unfolding_all exact rfl):aA tz (.fieldAddr 142 x 0) t E w (.pointer (some ⟨bk,o,none⟩)) w:=aA.fieldAddr (off:=0) aJU aKP aJF BYO hx
def aOt(hx:aM E x=some (.pointer (some ⟨bk,o,none⟩)):=by with_unfolding_all exact rfl):aA tz (.fieldAddr 142 x 1) t E w (.pointer (some ⟨bk,o+1,none⟩)) w:=aA.fieldAddr aJU aKI aJR BYO hx
def aPH(hx:aM E x=some (.slice A n c):=by with_unfolding_all exact rfl){rt:TypeId}:aA tz (.call {callee:=.builtin .len,args:= #[x],argTypes:= #[140]}) rt E w (.int .i64 n) w:=aL3 aJI hx
def aNm(hx:aM E x=some (.slice (some ⟨bk,o,none⟩) n c):=by with_unfolding_all exact rfl)(hi:aM E y=some (.int .i64 (j:Int)):=by with_unfolding_all exact rfl)(hn:j<n:=by omega):
  aA tz (.indexAddr 140 x y) t E w (.pointer (some ⟨bk,o+j*3,none⟩)) w:=aA.indexAddr aJI aIy.size hx hi BYO BYO
def aNl(hx:aM E x=some (.slice (some ⟨bk,o,none⟩) n c):=by with_unfolding_all exact rfl)(hn:0<n:=by omega):
  aA tz (.indexAddr 140 x (.const (.int .i64 0))) t E w (.pointer (some ⟨bk,o+0*3,none⟩)) w:=aA.indexAddr (j:=0) aJI aIy.size hx rfl BYO BYO
def aP2(hx:aM E x=some (.slice A n c):=by with_unfolding_all exact rfl)(hh:aM E y=some (.int .i64 (j:Int)):=by with_unfolding_all exact rfl)(hc:j<=c:=by omega):
  aA tz (.slice 140 x none (some y) none) t E w (.slice A j c) w:=by
 have:=aNH (P:=tz) (t:=t) (w:=w) aJI aIy hx hh BYO BYO;rwa[aD3]at this
section
variable{ops:Array Oper}{K:Env->World->Prop}{N d_:Nat}{rest:List Oper}{pos:String}{after:Array Edge}{C:World->Prop}{R:Env->Prop}
end
end
section
variable{ops:Array Oper}{K:Env->World->Prop}{R:Env->Prop}{N:Nat}{E:Env}{rest:List Oper}{w:World}{t:TypeId}{pos:String}{after:Array Edge}{d:Nat}{x:Operand}{g j:Nat}{te:TypeId}{cs:List Value}{u:Value}
end
section
variable{ops:Array Oper}{K:Env->World->Prop}{R:Env->Prop}{N:Nat}{E:Env}{rest:List Oper}{w:World}{t:TypeId}{pos:String}{after:Array Edge}{d:Nat}{x:Operand}{g j:Nat}{te:TypeId}{cs:List Value}{u:Value}
end
attribute [local irreducible] aA jH OpC WL QL WC WX OL RL TL TM
structure aJG [G.Key aIu](eA:FuncId):Prop where
 code:∃fn c,tz.funcs[eA]?=some fn/\(fn.name== "runtime.NumGoroutine")=false/\fn.body=some c
 calls:∀a b w,aIz a->aIz b->Calls tz eA #[aJD a,aJD b] w (eT λv w'=>v=.bool (decide (G.Key.key a<G.Key.key b))/\Below w.heap.size w w')
structure aBU [G.Key aIu](w:World)(B hp:Nat)(eA:FuncId)(v:Value)(l:List aIu):Prop where
 blk:Bk w hp 142 [v,aJT eA]
 base:B<=hp
 own:bT aAk 3 75 w B v l
 ne:∀g,v.ownBlock=some g->g≠hp/\g<w.heap.size/\B<=g
 heap:G.hZ (lf l) l.length
 ok:∀x∈l,aIz x
section
variable{kk:G.Key aIu}{B:Nat}{v:Value}{l:List aIu}{w w':World}
def aBU.ow(h:aBU w B hp eA v l):bT aAk 3 75 w B v l:=h.own
def aBU.re(h:aBU w B hp eA v l){B':Nat}(hB:B'<=B):aBU w B' hp eA v l:=⟨h.blk,aBS hB h.base,h.own.lower hB,λg hg=>⟨(h.ne g hg).1,(h.ne g hg).2.1,aBS hB (h.ne g hg).2.2⟩,h.heap,h.ok⟩
def aBU.lt(h:aBU w B hp eA v l):∀g,hF hp v g->g<w.heap.size:=λg hg=>by
 rcases hg with rfl|hg
 .exact h.blk.lt
 .exact(h.ne g hg).2.1
def aBU.below(h:aBU w B hp eA v l)(hb:Below w.heap.size w w'):aBU w' B hp eA v l:=
 ⟨h.blk.below hb,h.base,h.own.below hb,λg hg=>⟨(h.ne g hg).1,aAx (h.ne g hg).2.1 hb.size,(h.ne g hg).2.2⟩,h.heap,h.ok⟩
def aBU.dG{F F':Nat->Prop}(h:aBU w B hp eA v l)(hc:bF w w' F F')(ha:Apart F (hF hp v)):aBU w' B hp eA v l:=
 ⟨h.blk.dG hc (λhf=>ha hp hf (.inl rfl)),h.base,h.own.dG hc (λg hf hg=>ha g hf (.inr hg)) (λg hg=>(h.ne g hg).2.1),λg hg=>⟨(h.ne g hg).1,aAx (h.ne g hg).2.1 hc.size,(h.ne g hg).2.2⟩,h.heap,h.ok⟩
end
def aJ5{f:FuncId}{a b:Value}{w:World}{S:Ending->World->Prop}(h:Calls tz f #[a,b] w S):Calls tz f (([a,b]:List Value).toArray++ #[]) w S:=h
def aJX{n c:Nat}(w:World)(h:Bk w hp 142 [.slice A n c,aJT eA]):
  Calls tz 33 #[.pointer (some ⟨hp,0,none⟩)] w (eT λr w'=>r=.int .i64 n/\w'=w):=by
 refine aI I4 rfl Tryz.ntmps33 rfl ?_;refine SU ?_;exact aLV rfl rfl ⟨rfl,rfl⟩
abbrev aK0:=@xa
abbrev aK3:=@Tryz.ntmps36
abbrev aJO:Nat:=75
abbrev aJ2:Nat:=142
abbrev aJ3:=@aJT
abbrev aJV:Nat:=3
abbrev aJi:=@aJ5
abbrev aKt:=@wv
abbrev aLE:=@Tryz.ntmps29
abbrev aLI:=@xe
abbrev aJj:=@Tryz.ntmps46
abbrev aJe:=@wx
abbrev aJk:=@Tryz.ntmps30
abbrev aJf:=@aTt
abbrev aJW:=@y0
def aJP{kk:G.Key aIu}{B:Nat}{v:Value}{l:List aIu}(first:aJG eA)(x:aIu)(w:World)(h:aBU w B hp eA v l)(hx:aIz x)(hlen:l.length<=900):
  Calls tz 36 #[.pointer (some ⟨hp,0,none⟩),aJD x] w (eT λ_ w'=>∃v' l',aBU w' B hp eA v' l'/\l'.Perm (x::l)/\bF w w' (hF hp v) (hF hp v')):=aKZ
end Rk.Hw
namespace Rk.Hw
open Go Go.RowKit Go.Proofs
variable{eA:FuncId}{hp:Nat}
attribute [local irreducible] aA jH OpC WL QL WC WX OL RL TL TM
def aP3{E:Env}{w:World}{t:TypeId}{x:Operand}(hx:aM E x=some (aJT eA)):aA tz (.build 142 #[(1,x)]) t E w (.agg #[.slice none 0 0,aJT eA]) w:=
 aA.build (parts:=[(1,x)]) (ps:=[(1,aJT eA)]) (by simp[OA,hx]) BYK
def aJ9 [G.Key aIu](eA:FuncId)(w:World):
  Calls tz 29 #[aJT eA,.slice none 0 0] w (eT λr w'=>r=.pointer (some ⟨w.heap.size,0,none⟩)/\aBU w' w.heap.size w.heap.size eA (.slice none 0 0) []/\Below w.heap.size w w'):=aKs
def aJ7{kk:G.Key aIu}{B:Nat}{v:Value}{l:List aIu}(first:aJG eA)(w:World)(h:aBU w B hp eA v l)(Ep:l≠[])(hlen:l.length<=900):
  Calls tz 46 #[.pointer (some ⟨hp,0,none⟩)] w (eT λr w'=>∃v' l' x,r=aJD x/\aBU w' B hp eA v' l'/\l.Perm (x::l')/\(∀y∈l',G.Key.key x<=G.Key.key y)/\bF w w' (hF hp v) (hF hp v')):=aLF
def aLy{a b:aIu}(ha:aIz a)(hb:aIz b):decide (G.Key.key a<G.Key.key b)=(decide (a.1<b.1)||(decide (a.1=b.1)&&decide (a.2.2<b.2.2))):=by
 rw[aIU];simp[aJK ha hb]
def aJH:aJG 30:=aLJ
end Rk.Hw
namespace Rk
open Go Go.RowKit Go.Proofs
def aTM{E:Env}{w:World}{t:TypeId}{x:Operand}{p:Addr}(hx:aM E x=some (.pointer (some p))):aA tz (.build 82 #[(0,x)]) t E w (.agg #[.pointer (some p),.int .i64 0,.pointer none,.slice none 0 0]) w:=
 aA.build (parts:=[(0,x)]) (ps:=[(0,.pointer (some p))]) (by simp[OA,hx]) BYK
attribute [local irreducible] aA jH OpC WL QL WC WX OL RL TL TM
structure Bo(w:World)(bk hp q m:Nat)(v ad sl:Value)(l:List Hw.aIu):Prop where
 ew:VQ w bk hp q m ad sl
 yY:Hw.aBU w 0 hp 30 v l
 sep:∀g,hF hp v g->¬BF bk sl g
 seq:∀x∈l,x.2.2<=(q:Int)
def Cp(bk hp:Nat)(v sl:Value):Nat->Prop:=λg=>hF hp v g\/BF bk sl g
section
variable{w w':World}{bk hp q m:Nat}{v ad sl:Value}{l:List Hw.aIu}
def Bo.lt(h:Bo w bk hp q m v ad sl l):∀g,Cp bk hp v sl g->g<w.heap.size:=λg hg=>hg.elim (h.yY.lt g) (h.ew.lt g)
def Bo.dG{F F':Nat->Prop}(h:Bo w bk hp q m v ad sl l)(hc:bF w w' F F')(hd:∀g,Cp bk hp v sl g->¬F g):Bo w' bk hp q m v ad sl l:=
 ⟨h.ew.dG hc λg hg=>hd g (.inr hg),h.yY.dG hc λg h1 h2=>hd g (.inl h2) h1,h.sep,h.seq⟩
def Bo.below(h:Bo w bk hp q m v ad sl l)(hb:Below w.heap.size w w'):Bo w' bk hp q m v ad sl l:=h.dG (aLX (F:=λ_=>False) hb λ_ h=>h.elim) λ_ _ h=>h
def Vp(w:World):Calls tz 8 #[] w (eT λr w'=>∃bk hp v ad sl,r=.pointer (some ⟨bk,0,none⟩)/\Bo w' bk hp 0 0 v ad sl []/\(∀g,Cp bk hp v sl g->w.heap.size<=g)/\Below w.heap.size w w'):=by
 refine aI aEu rfl Tryz.ntmps8 rfl ?_;refine Zt λK hK=>?_;refine aKQ wv (Hw.aJ9 30 w) ?_;rintro r w1 ⟨rfl,hH,cA⟩;have uP:=cA.size;have WT:=hH.blk.lt;refine IS ?_;refine WL.step (aTM rfl) rfl ?_;refine aM3 rfl rfl λw2 eB iW qO=>?_;have bM:=aC eB;replace iW:Bk w2 w1.heap.size 82 (T9 w.heap.size 0 (.pointer none) (.slice none 0 0)):=iW;refine IS ?_;refine aLV rfl rfl ⟨w1.heap.size,w.heap.size,.slice none 0 0,.pointer none,.slice none 0 0,rfl,⟨⟨iW,.inl rfl,⟨[],World.ownsRow_nil _ _ _ _⟩,λg hg=>by simp[Value.ownBlock]at hg⟩,(hH.below bM).re (aBt _),?_,λx hx=>by cases hx⟩,?_,cA.tr bM⟩
 .rintro g (rfl|h1) (h2|h2)
  .omega
  .simp[Value.ownBlock]at h2
  .simp[Value.ownBlock]at h1
  .simp[Value.ownBlock]at h1
 .rintro g ((rfl|h1)|(rfl|h1))
  .exact aAB _
  .simp[Value.ownBlock]at h1
  .exact uP
  .simp[Value.ownBlock]at h1
def qa{x:It}(he:aH 1 (lf [x])=0):iR x=true:=by
 unfold aH at he;rw[if_neg BYO]at he;by_cases h:(aG (lf [x]) 1).all iR=true
 .simpa[aG,lf] using h
 .rw[if_neg h]at he;cases he
def Ll(w:World)(x:It)(h:Bo w bk hp q m v ad sl l)(hT:lZ w)(hG:∀g,Cp bk hp v sl g->3<=g)(he:aH 1 (lf [x])=0)(hl:l.length<60)(hq:q<=1000)(hm:m<=100000):
  Calls tz 11 #[.pointer (some ⟨bk,0,none⟩),mV x] w (eT λr w'=>r=.nilIface/\∃m' v' ad' nG l',m'<=m+123/\Bo w' bk hp (q+1) m' v' ad' nG l'/\l'.Perm ((x.1,x.2,((q+1:Nat):Int))::l)/\bF w w' (Cp bk hp v sl) (Cp bk hp v' nG)/\lZ w'):=by
 have bY:=qa he;refine aI wa rfl Tryz.ntmps11 rfl ?_;refine Zt λK hK=>?_;refine aM3 rfl rfl λw1 fQ dM mP=>?_;have cA:Below w.heap.size w w1:=aC fQ;replace dM:Bk w1 w.heap.size 38 (cB x):=dM;refine Zt λK hK=>?_;refine WL.step (aL5 (cs:=cB x) aL rfl (bN _) (λj u hu=>by rw[aAn];exact dM.cell hu)) rfl ?_;refine WL.lit (xs:=[.tmp 6]) (vs:=[mV x]) aY aL rfl rfl (by simp[cB,Value.cells]) rfl rfl BYO λw2 eB iW qO=>?_;have bM:=aC eB;have pT:aE cB 2 w2 (some ⟨w1.heap.size,0,none⟩) 1 (lf [x]):=iW.bK (enc:=cB) (k:=2) (f:=lf [x]) 0 λi hi j u hu=>by
  obtain rfl:i=0:=BYO;rw[show lf [x] 0=x from rfl]at hu;simpa[cB,Value.cells] using hu
 refine IS ?_;refine aKQ xT (jJ _ 1 1 _ _ pT) ?_;rintro r w3 ⟨rfl,dZ⟩;rw[he,yj];have iT:=cA.tr (bM.tr dZ);have h3:=h.below iT;have hT3:=hT.tr iT;have Mv:=(dM.below bM).below dZ;have hxs:w.heap.size<w3.heap.size:=Mv.lt;have Rf:∀g,Cp bk hp v sl g->g≠w.heap.size:=λg hg=>by have:=h.lt g hg;omega
 clear pT iW dM;refine IS ?_;refine aJh rfl ?_;have dt:=h3.ew.blk;refine Zt λK hK=>?_;obtain⟨A,c,ev,hc⟩:=h3.yY.own.form;have aj:=h3.yY.blk;rw[ev]at aj;refine aKQ I4 (Hw.aJX _ aj) ?_;rintro r w4 ⟨rfl,rfl⟩;refine IS ?_;refine aJ6 rfl (λSB=>absurd SB BYO) (λ_=>?_);refine IS ?_;have Eb: -1000000<=x.1/\x.1<=1000000/\0<=x.2/\x.2<=1000000:=by
  simp only[iR,aBg,decide_eq_true_eq]at bY;exact⟨bY.1.1,bY.1.2,bY.2.1,bY.2.2⟩
 have yx:∀g,BF bk sl g->¬hF hp v g:=λg h1 h2=>h3.sep g h2 h1;refine WC.tm (λw'=>Bk w' w.heap.size 38 (cB x)) [] (.pure 0 (.pure 1 (.pure 6 (.read 2 (.read 7 (.act 3 (.pure 4 (.pure 5 (.act 8 (.pure 9 (.act 10 .fin))))))))))) mixed BYK rfl BYK (λw' hb _=>Mv.below hb) λK hK w5 gO de=>?_;have MR:=Mv.below gO;have h5:=h3.below gO;have hT5:=hT3.tr gO;refine oX ?_;refine RL.step (λw' dY=>aJC aN rfl (dY.cell rfl)) rfl ?_;refine aLq (RL.step (λw' dY=>aJC aN rfl (dY.cell rfl)) rfl ?_) MR;refine TM.act rfl (aKQ Od (LQ x.1 BYO w5 hT5) ?_);rintro r w6 ⟨d1,rfl,hd1,gH⟩;have hx6:=MR.below gH;have h6:=h5.below gH;have hT6:=hT5.tr gH;refine WL.nil ⟨hx6,?_⟩;refine aLo (RL.step (λ_ _=>aOp (s:=[112,117,115,104,32]) (r:=d1) rfl rfl BYT) rfl ?_);refine aLo (RL.step (λ_ _=>aOp (s:=[112,117,115,104,32]++d1) (r:=[32]) rfl rfl BYT) rfl ?_);refine TM.act rfl (aKQ Od (LQ x.2 BYO w6 hT6) ?_);rintro r w7 ⟨d2,rfl,hd2,lD⟩;have hx7:=hx6.below lD;have h7:=h6.below lD;have hT7:=hT6.tr lD;refine WL.nil ⟨hx7,?_⟩;refine aLo (RL.step (λ_ _=>aOp (s:=[112,117,115,104,32]++d1++[32]) (r:=d2) rfl rfl BYT) rfl ?_);have hlen:([112,117,115,104,32]++d1++[32]++d2).length<=100:=BYT;generalize [112,117,115,104,32]++d1++[32]++d2=line at hlen⊢;have Ew:=iT.tr (gO.tr (gH.tr lD));refine TM.act rfl (aKQ I5 (FN w7 line h7.ew hT7 hlen BYO) ?_);rintro r w8 ⟨m',nG,di,Lz,wA⟩;have hO8:Hw.aBU w8 0 hp 30 v l:=h7.yY.dG wA yx;have ae:Bk w8 w.heap.size 38 (cB x):=hx7.dG wA λhf=>Rf _ (.inr hf) rfl;have hT8:=hT7.dG wA λg hg=>hG g (.inr hg);have MY:∀g,hF hp v g->¬BF bk nG g:=λg h1 h2=>by
  rcases(wA.next g h2).1 with h4|h4
  .exact h.sep g h1 h4
  .have:=h7.yY.lt g h1;omega
 refine WL.nil ⟨ae,TM.fin (hK _ _ ?_)⟩;clear hK K;have hb8:=Lz.blk;refine Zt λK hK=>?_;refine aPA rfl rfl hb8 (by simp[T9]) λw9 CI dv ba=>?_;replace dv:Bk w9 bk 82 (T9 hp (q+1) (.pointer (some ⟨bk,2,none⟩)) nG):=by
  unfold T9;rw[show((q+1:Nat):Int)=(q:Int)+1 from by omega];exact dv
 have pS:bF w8 w9 (BF bk nG) (BF bk nG):=aLi CI (.inl rfl) Lz.lt;have hS9:VQ w9 bk hp (q+1) m' (.pointer (some ⟨bk,2,none⟩)) nG:=by
  refine⟨dv,.inr rfl,?_,Lz.ne⟩;obtain⟨xs,hxs⟩:=Lz.buf;refine⟨xs,hxs.kept CI ?_⟩;cases hs:nG.ownBlock with
  |none=>exact .inl rfl
  |some g=>exact .inr (by have:=Lz.ne g hs;simp;exact this)
 have hO9:Hw.aBU w9 0 hp 30 v l:=hO8.dG pS λg h1 h2=>MY g h2 h1;have aMQ:∀g,BF bk nG g->g≠w.heap.size:=λg hg e=>by
  rcases(wA.next g hg).1 with h4|h4
  .exact Rf g (.inr h4) e
  .have:=hx7.lt;omega
 have hx9:Bk w9 w.heap.size 38 (cB x):=ae.dG pS λhf=>aMQ _ hf rfl;have hT9:=hT8.dG pS λg hg=>by
  rcases(wA.next g hg).1 with h4|h4
  .exact hG g (.inr h4)
  .have:=hT7.lt;have h5:=hG bk (.inr (.inl rfl));have:=h7.ew.blk.lt;omega
 refine IS ?_;refine WC.tm (λw'=>Bk w' w.heap.size 38 (cB x)/\Bk w' bk 82 (T9 hp (q+1) (.pointer (some ⟨bk,2,none⟩)) nG)) [] (.pure 0 (.pure 1 (.pure 2 (.pure 5 (.pure 6 (.pure 7 (.read 3 (.read 4 (.read 8 (.pure 9 (.act 10 .fin))))))))))) mixed BYK rfl BYK (λw' hb _=>⟨hx9.below hb,dv.below hb⟩) λK hK AA oR xL=>?_;have uo:=hx9.below oR;have oO:=dv.below oR;have aNQ:=hO9.below oR;have OM:=hS9.below oR;refine oX ?_;refine aLq (RL.step (λw' dY=>aJC T7 rfl (dY.2.cell rfl)) rfl ?_) ⟨uo,oO⟩;refine aLq (RL.step (λw' dY=>aL5 (cs:=cB x) aL rfl (bN _) (λj u hu=>by rw[aAn];exact dY.1.cell hu)) rfl ?_) ⟨uo,oO⟩;refine aLq (RL.step (λw' dY=>aJC aN rfl (dY.2.cell rfl)) rfl ?_) ⟨uo,oO⟩;refine aLo (RL.step (λ_ _=>Hw.aTL (p:=x) (d:=((q+1:Nat):Int)) rfl rfl) rfl ?_);refine TM.act rfl (aKQ xa (Hw.aJP Hw.aJH (x.1,x.2,((q+1:Nat):Int)) AA aNQ ⟨by show 0<=((q+1:Nat):Int);omega,by show((q+1:Nat):Int)<=_;omega⟩ BYO) ?_);rintro r Qo ⟨v',l',aMf,aHC,pO⟩;have zi:∀g,hF hp v g->g≠w.heap.size/\g≠bk:=λg hg=>⟨λe=>Rf g (.inl hg) e,λe=>MY g hg (.inl e)⟩;have aDA:=uo.dG pO λhf=>(zi _ hf).1 rfl;have au:=oO.dG pO λhf=>(zi _ hf).2 rfl;refine WL.nil ⟨⟨aDA,au⟩,TM.fin (hK _ _ ?_)⟩;clear hK K;refine IS ?_;have tj:VQ Qo bk hp (q+1) m' (.pointer (some ⟨bk,2,none⟩)) nG:=OM.dG pO λg h1 h2=>MY g h2 h1;have aMT:=(hT9.tr oR).dG pO λg hg=>hG g (.inl hg);have hCa:bF w w9 (BF bk sl) (BF bk nG):=((aLX Ew h.ew.lt).trans wA).trans pS;have zw:bF w AA (BF bk sl) (BF bk nG):=hCa.more oR;have hC:bF w Qo (Cp bk hp v sl) (Cp bk hp v' nG):=by
  refine⟨pO.os.trans zw.os,pO.tape.trans zw.tape,pO.output.trans zw.output,aBS zw.size pO.size,λk hk hn=>?_,λg hg=>?_⟩
  .rw[pO.block k (aAx hk zw.size) λhf=>hn (.inl hf)];exact zw.block k hk λhf=>hn (.inr hf)
  .rcases hg with hg|hg
   .obtain⟨h1,h2⟩:=pO.next g hg;refine⟨?_,h2⟩;rcases h1 with h1|h1
    .exact .inl (.inl h1)
    .exact .inr (aBS zw.size h1)
   .obtain⟨h1,h2⟩:=zw.next g hg;exact⟨h1.imp .inr id,aAx h2 pO.size⟩
 refine aLV rfl rfl ⟨rfl,m',v',_,nG,l',di,⟨tj,aMf,λg h1 h2=>?_,λy hy=>?_⟩,aHC,hC,aMT⟩
 .rcases(pO.next g h1).1 with h4|h4
  .exact MY g h4 h2
  .have:=OM.lt g h2;omega
 .rcases aBI.1 (aHC.mem_iff.1 hy) with rfl|hy
  .exact aC0 _
  .have:=h.seq y hy;omega
end
end Rk
namespace Rk
open Go Go.RowKit Go.Proofs
variable{P:Program}{E:Env}{w:World}{t:TypeId}{x:Operand}{k bytes s1 s2:Nat}{z v2:Value}{fn:Func}
def aRv{xt ft:TypeId}{n off:Nat}{cs:Array Value}(ht:P.underlying xt=some (.struct (P.fieldsOf xt)))(hf:((P.fieldsOf xt)[n]?).map (λf=>(f.offset,f.type))=some (off,ft))(ty:Ty P ft true k bytes z)(hx:aM E x=some (.agg cs)):
  aA P (.field xt x n) t E w (.agg (cs.extract off (off+k))) w:=λρ hρ _ _ _ _=>by
 generalize P.fieldsOf xt=fs at*;obtain⟨f,h1,h2,h3⟩:=fld hf;simp[execOp,hρ _ _ hx,go_sem,Instr.field,run_underlying ht,h1,h2,h3,part,asAgg,ty.UC,ty.size]
def aSg{e:Hw.aIu}(hx:aM E x=some (Hw.aJD e)):aA tz (.field 75 x 0) t E w (mV (e.1,e.2.1)) w:=by
 have:=aRv (w:=w) (t:=t) Hw.aJS Hw.aJg aL hx;have e1:((Hw.aAk e).toArray.extract 0 (0+2))=(cB (e.1,e.2.1)).toArray:=by simp[Hw.aAk,cB]
 rw[e1]at this;exact this
def Lm{T:TypeId}{v1:Value}{p:Addr}{tmps:Array Value}(hr:fn.results= #[.cell s1 T,.tmp s2])(h1:tmps[s1]?=some (.pointer (some p)))(h2:tmps[s2]?=some v2)
  (hl:(loadVar T p).run P w=.ok v1 w):(results fn tmps).run P w=.ok (.tuple #[v1,v2]) w:=by
 simp[results,hr,h1,h2,asAddr,hl]
attribute [local irreducible] aA jH OpC WL QL WC WX OL RL TL TM
def aTN{S:Value->World->Prop}{N:Nat}{T:TypeId}{g:Nat}{te:TypeId}{cs:List Value}(ty:Ty P T true k bytes z)(hr:fn.results= #[.cell s1 T,.tmp s2])(h1:look E s1=some (.pointer (some ⟨g,0,none⟩)))(h2:look E s2=some v2)
  (hb:Bk w g te cs)(hl:cs.length=k)(h:S (.tuple #[.agg cs.toArray,v2]) w):WX (bodyPost P fn (eT S)) .ret N E w:=by
 unfold WX;intro a ha;exact bodyPost_ret (Lm hr (ha.at_ _ _ h1) (ha.at_ _ _ h2) (Pa ty hb hl)) ha.defers h
section
variable{w':World}{bk hp q m:Nat}{v ad sl:Value}{l:List Hw.aIu}
def Vq(w:World)(h:Bo w bk hp q m v ad sl l)(hT:lZ w)(hG:∀g,Cp bk hp v sl g->3<=g)(cQ:l≠[])(hl:l.length<=60)(hm:m<=100000):
  Calls tz 16 #[.pointer (some ⟨bk,0,none⟩)] w (eT λr w'=>∃m' v' ad' nG l' x,r=.tuple #[mV (x.1,x.2.1),.nilIface]/\l.Perm (x::l')/\(∀y∈l',G.Key.key x<=G.Key.key y)/\m'<=m+123/\Bo w' bk hp q m' v' ad' nG l'/\bF w w' (Cp bk hp v sl) (Cp bk hp v' nG)/\lZ w'):=by
 refine aI wj rfl Tryz.ntmps16 rfl ?_;refine Zt λK hK=>?_;refine WL.alloc aL rfl λw1 fQ dM mP=>?_;have cA:Below w.heap.size w w1:=aC fQ;replace dM:Bk w1 w.heap.size 38 (cB (0,0)):=dM;have h1:=h.below cA;have hT1:=hT.tr cA;have Rf:∀g,Cp bk hp v sl g->g≠w.heap.size:=λg hg=>by have:=h.lt g hg;omega
 have tq:=h1.ew.blk;refine Zt λK hK=>?_;obtain⟨A,c,ev,hc⟩:=h1.yY.own.form;have aj:=h1.yY.blk;rw[ev]at aj;refine aKQ I4 (Hw.aJX _ aj) ?_;rintro r w4 ⟨rfl,rfl⟩;refine IS ?_;have nA:0<l.length:=aC8.2 cQ;refine aJ6 rfl (λSB=>absurd SB BYO) (λ_=>?_);refine Zt λK hK=>?_;refine aKQ I5 (FN w4 [112,111,112] h1.ew hT1 BYS BYO) ?_;rintro r w8 ⟨m',nG,di,Lz,wA⟩;have yx:∀g,BF bk sl g->¬hF hp v g:=λg h2 h3=>h1.sep g h3 h2;have hO8:Hw.aBU w8 0 hp 30 v l:=h1.yY.dG wA yx;have ae:Bk w8 w.heap.size 38 (cB (0,0)):=dM.dG wA λhf=>Rf _ (.inr hf) rfl;have hT8:=hT1.dG wA λg hg=>hG g (.inr hg);have MY:∀g,hF hp v g->¬BF bk nG g:=λg h3 h2=>by
  rcases(wA.next g h2).1 with h4|h4
  .exact h.sep g h3 h4
  .have:=h1.yY.lt g h3;omega
 have hb8:=Lz.blk;refine Zt λK hK=>?_;refine aKQ xe (Hw.aJ7 Hw.aJH w8 hO8 cQ BYO) ?_;rintro r w9 ⟨v',l',x,rfl,hO9,hp9,Mb,pS⟩;have hS9:VQ w9 bk hp q m' (.pointer (some ⟨bk,2,none⟩)) nG:=Lz.dG pS λg h2 h3=>MY g h3 h2;have hx9:=ae.dG pS λhf=>Rf _ (.inl hf) rfl;have hT9:=hT8.dG pS λg hg=>hG g (.inl hg);refine IS ?_;refine WL.step (aSg rfl) rfl ?_;refine WL.store (v:=mV (x.1,x.2.1)) aL rfl rfl rfl (cJ _) hx9 (aAB 2) λAA mZ oO Du=>?_;replace oO:Bk AA w.heap.size 38 (cB (x.1,x.2.1)):=oO;have zN:bF w w8 (BF bk sl) (BF bk nG):=(aLX cA h.ew.lt).trans wA;have hC:bF w w9 (Cp bk hp v sl) (Cp bk hp v' nG):=by
  refine⟨pS.os.trans zN.os,pS.tape.trans zN.tape,pS.output.trans zN.output,aBS zN.size pS.size,λk hk hn=>?_,λg hg=>?_⟩
  .rw[pS.block k (aAx hk zN.size) λhf=>hn (.inl hf)];exact zN.block k hk λhf=>hn (.inr hf)
  .rcases hg with hg|hg
   .obtain⟨h2,h3⟩:=pS.next g hg;exact⟨h2.imp .inl (aBS zN.size),h3⟩
   .obtain⟨h2,h3⟩:=zN.next g hg;exact⟨h2.imp .inr id,aAx h3 pS.size⟩
 have aIC:∀g,hF hp v' g->¬BF bk nG g:=λg h3 h2=>by
  rcases(pS.next g h3).1 with h4|h4
  .exact MY g h4 h2
  .have:=Lz.lt g h2;omega
 have zV:Bo w9 bk hp q m' v' (.pointer (some ⟨bk,2,none⟩)) nG l':=⟨hS9,hO9,aIC,λy hy=>h.seq y (hp9.mem_iff.2 (aBm _ hy))⟩;have oB:bF w9 AA (λg=>g=w.heap.size) (λg=>g=w.heap.size):=aLi mZ rfl λg hg=>by rw[hg];exact hx9.lt
 have aMa:∀g,Cp bk hp v' nG g->g≠w.heap.size:=λg hg e=>by
  rcases hg with hg|hg
  .rcases(pS.next g hg).1 with h4|h4
   .exact Rf g (.inl h4) e
   .have:=ae.lt;omega
  .rcases(wA.next g hg).1 with h4|h4
   .exact Rf g (.inr h4) e
   .have:=dM.lt;omega
 refine IS ?_;exact aTN aL rfl rfl rfl oO rfl ⟨m',v',_,nG,l',x,rfl,hp9,Mb,di,zV.dG oB aMa,hC.fresh mZ (aAB _),hT9.dG oB λg hg=>by have:=hG bk (.inr (.inl rfl));have:=h.ew.blk.lt;omega⟩
end
end Rk
namespace Rk
variable{i:Nat}{S l:List It}
abbrev tH:=Int×Int×Int
def tH.it(e:tH):It:=(e.1,e.2.1)
def tH.lt(a b:tH):Prop:=a.1<b.1\/(a.1=b.1/\a.2.2<b.2.2)
def VS(e:tH):List tH->List tH
 |[]=>[e]
 |y::r=>if e.1<y.1 then e::y::r else y::VS e r
def BQ:Nat->List It->List tH
 |_,[]=>[]
 |n,x::r=>(x.1,x.2,((n+1:Nat):Int))::BQ (n+1) r
def Cq(a b:List It):∀n,BQ n (a++b)=BQ n a++BQ (n+a.length) b:=by
 induction a with
 |nil=>intro n;simp[BQ]
 |cons x r ih=>intro n;simp only[aCq,BQ,ih,aBJ];rw[show n+1+r.length=n+(r.length+1) from by omega]
def U3(a:List It):∀n,∀e∈BQ n a,(n:Int)<e.2.2/\e.2.2<=((n+a.length:Nat):Int):=by
 induction a with
 |nil=>intro n e he;cases he
 |cons x r ih=>
  intro n e he;rcases aBI.1 he with rfl|he
  .simp only[aBJ];omega
  .have:=ih (n+1) e he;simp only[aBJ];omega
def RR(e:tH)(l:List tH):(VS e l).Perm (e::l):=by
 induction l with
 |nil=>exact aBx _
 |cons y r ih=>
  unfold VS;split
  .exact aBx _
  .exact(ih.cons y).trans (List.Perm.swap _ _ _)
def Cr{e:tH}{l:List tH}(hs:l.Pairwise tH.lt)(hn:∀y∈l,y.2.2<e.2.2):(VS e l).Pairwise tH.lt:=by
 induction l with
 |nil=>simp[VS]
 |cons y r ih=>
  rw[aCG]at hs;unfold VS;split
  .rename_i h;rw[aCG,aCG];refine⟨λz hz=>?_,hs⟩;rcases aBI.1 hz with rfl|hz
   .exact .inl h
   .have h2:y.lt z:=hs.1 z hz;unfold tH.lt at h2⊢;omega
  .rename_i h;rw[aCG];refine⟨λz hz=>?_,ih hs.2 λz hz=>hn z (aBm _ hz)⟩;rcases aBI.1 ((RR e r).mem_iff.1 hz) with rfl|hz
   .have:=hn y aBw;unfold tH.lt;omega
   .exact hs.1 z hz
def qb(e:tH)(l:List tH):(VS e l).map tH.it=vK e.it (l.map tH.it):=by
 induction l with
 |nil=>rfl
 |cons y r ih=>
  simp only[VS,aC9,vK];by_cases h:e.1<y.1
  .rw[if_pos h,if_neg (show¬y.it.1<=e.it.1 from by show¬y.1<=e.1;omega)];rfl
  .rw[if_neg h,if_pos (show y.it.1<=e.it.1 from by show y.1<=e.1;omega)];simp[ih]
def Ct(l:List It):∃S:List tH,S.map tH.it=bS l/\S.Pairwise tH.lt/\S.Perm (BQ 0 l):=by
 have key:∀n (l:List It),l.length=n->∃S:List tH,S.map tH.it=bS l/\S.Pairwise tH.lt/\S.Perm (BQ 0 l):=by
  intro n;induction n with
  |zero=>intro l hl;obtain rfl:=aCQ hl;exact⟨[],rfl,List.Pairwise.nil,aBx _⟩
  |succ n ih=>
   intro l hl;obtain⟨r,x,rfl⟩:∃r x,l=r++[x]:=⟨l.dropLast,l.getLast (λe=>by rw[e]at hl;cases hl),(List.dropLast_concat_getLast _).symm⟩;have hr:r.length=n:=by simpa using hl
   obtain⟨S,h1,h2,h3⟩:=ih r hr;have e1:bS (r++[x])=vK x (bS r):=by simp[bS,aIs]
   refine⟨VS (x.1,x.2,((n+1:Nat):Int)) S,?_,Cr h2 λy hy=>?_,?_⟩
   .rw[qb,h1,e1];rfl
   .have:=(U3 r 0 y (h3.mem_iff.1 hy)).2;rw[hr]at this;show y.2.2<((n+1:Nat):Int);omega
   .rw[Cq,hr];refine(RR _ _).trans ?_;refine(h3.cons _).trans ?_;simp only[BQ,aAn];exact(aDr _ _).symm
 exact key _ l rfl
def Vr{S:List tH}(hs:S.Pairwise tH.lt){x:tH}{L:List tH}(hp:(x::L).Perm (S.drop i))(hm:∀y∈L,¬y.lt x)(hi:i<S.length):x=S[i]/\L.Perm (S.drop (i+1)):=by
 have e:S.drop i=S[i]::S.drop (i+1):=aDf hi;rw[e]at hp;have MO:(S.drop i).Pairwise tH.lt:=hs.sublist (List.drop_sublist _ _);rw[e,aCG]at MO;have hx:x=S[i]:=by
  rcases aBI.1 (hp.mem_iff.1 aBw) with h|h
  .exact h
  .exfalso;have h1:=MO.1 x h;rcases aBI.1 (hp.mem_iff.2 aBw) with h2|h2
   .rw[h2]at h1;unfold tH.lt at h1;omega
   .exact hm _ h2 h1
 refine⟨hx,?_⟩;rw[hx]at hp;exact hp.cons_inv
def wW(hs:cW S){x:It}{l':List It}(hk:(l.map (·.1)).Perm ((S.drop i).map (·.1)))(hp:l.Perm (x::l'))(hm:∀y∈l',x.1<=y.1)(hi:i<S.length):x.1=S[i].1/\(l'.map (·.1)).Perm ((S.drop (i+1)).map (·.1)):=by
 have e:S.drop i=S[i]::S.drop (i+1):=aDf hi;have MO:(S.drop i).Pairwise (λa b=>a.1<=b.1):=List.Pairwise.sublist (List.drop_sublist _ _) hs;rw[e,aCG]at MO;have HU:(x.1::l'.map (·.1)).Perm (S[i].1::(S.drop (i+1)).map (·.1)):=by
  have h1:=(hp.map (·.1)).symm.trans hk;rw[e,aC9,aC9]at h1;exact h1
 have h1:x.1<=S[i].1:=by
  rcases aBI.1 (HU.mem_iff.2 aBw) with h|h
  .omega
  .obtain⟨y,hy,hye⟩:=aCc.1 h;have:=hm y hy;omega
 have h2:S[i].1<=x.1:=by
  rcases aBI.1 (HU.mem_iff.1 aBw) with h|h
  .omega
  .obtain⟨y,hy,hye⟩:=aCc.1 h;have:=MO.1 y hy;omega
 have h3:x.1=S[i].1:=BYO;refine⟨h3,?_⟩;rw[h3]at HU;exact HU.cons_inv
def tI(h:l.Perm S):(l.map (·.1)).Perm ((S.drop 0).map (·.1)):=by simpa using h.map (·.1)
end Rk
namespace Rk
open Go Go.RowKit Go.Proofs
attribute [local irreducible] aA jH OpC WL QL WC WX OL RL
def lU(w:World)(bk q c:Nat)(L:List tH)(F:Nat->Prop):Prop:=∃hp m v ad sl,Bo w bk hp q m v ad sl L/\m<=123*c/\F=Cp bk hp v sl
section
variable{w w':World}{F F':Nat->Prop}{bk q c:Nat}{L:List tH}
def lU.lt(h:lU w bk q c L F):∀g,F g->g<w.heap.size:=by
 obtain⟨hp,m,v,ad,sl,hB,_,rfl⟩:=h;exact hB.lt
def lU.dG{G G':Nat->Prop}(h:lU w bk q c L F)(hc:bF w w' G G')(hd:∀g,F g->¬G g):lU w' bk q c L F:=by
 obtain⟨hp,m,v,ad,sl,hB,hm,rfl⟩:=h;exact⟨hp,m,v,ad,sl,hB.dG hc hd,hm,rfl⟩
def lU.below(h:lU w bk q c L F)(hb:Below w.heap.size w w'):lU w' bk q c L F:=by
 obtain⟨hp,m,v,ad,sl,hB,hm,rfl⟩:=h;exact⟨hp,m,v,ad,sl,hB.below hb,hm,rfl⟩
def U4(w:World):Calls tz 8 #[] w (eT λr w'=>Below w.heap.size w w'/\∃bk F,r=.pointer (some ⟨bk,0,none⟩)/\lU w' bk 0 0 [] F/\∀g,F g->w.heap.size<=g):=by
 refine(Vp w).mono λe w' h=>?_;cases e<;>first|exact h.elim|skip
 obtain⟨bk,hp,v,ad,sl,rfl,h1,h2,hB⟩:=h;exact⟨hB,bk,_,rfl,⟨hp,0,v,ad,sl,h1,aAB _,rfl⟩,h2⟩
def Vs(h:lU w bk q c L F)(hT:lZ w)(hG:∀g,F g->3<=g){x:It}(hx:iR x=true)(hL:L.length<60)(hq:q<=1000)(hc:c<=500):
  Calls tz 11 #[.pointer (some ⟨bk,0,none⟩),mV x] w (eT λr w'=>r=.nilIface/\∃L' F',lU w' bk (q+1) (c+1) L' F'/\L'.Perm ((x.1,x.2,((q+1:Nat):Int))::L)/\bF w w' F F'/\lZ w'):=by
 obtain⟨hp,m,v,ad,sl,hB,hm,rfl⟩:=h;refine(Ll w x hB hT hG (by rw[LN,if_pos hx]) hL hq BYO).mono λe w' h=>?_;cases e<;>first|exact h.elim|skip
 obtain⟨rfl,m',v',ad',nG,l',h1,h2,h3,h4,h5⟩:=h;exact⟨rfl,l',_,⟨hp,m',v',ad',nG,h2,BYO,rfl⟩,h3,h4,h5⟩
def U5(h:lU w bk q c L F)(hT:lZ w)(hG:∀g,F g->3<=g)(cQ:L≠[])(hL:L.length<=60)(hc:c<=500):
  Calls tz 16 #[.pointer (some ⟨bk,0,none⟩)] w (eT λr w'=>∃x L' F',r=.tuple #[mV x.it,.nilIface]/\L.Perm (x::L')/\(∀y∈L',¬y.lt x)/\lU w' bk q (c+1) L' F'/\bF w w' F F'/\lZ w'):=by
 obtain⟨hp,m,v,ad,sl,hB,hm,rfl⟩:=h;refine(Vq w hB hT hG cQ hL BYO).mono λe w' h=>?_;cases e<;>first|exact h.elim|skip
 obtain⟨m',v',ad',nG,l',x,rfl,h1,h2,h3,h4,h5,h6⟩:=h;refine⟨x,l',_,rfl,h1,λy hy dD=>?_,⟨hp,m',v',ad',nG,h4,BYO,rfl⟩,h5,h6⟩;have ox:=hB.yY.ok x (h1.mem_iff.2 aBw);have oy:=hB.yY.ok y (h1.mem_iff.2 (aBm _ hy));have h7:=h2 y hy;have h8:=(Hw.aJK oy ox).2 dD;omega
end
end Rk
