/- Part of the proof of TopSorts. -/
import Derived.KernelRfl
import Derived.Test.YthdiheblgmddhaaGreatDoorProg
import Derived.WalkKit
import Derived.Deep.Quiet
import Derived.Deep.LoopGhost
import Derived.OrdersHeld
import Derived.Test.YthdiheblgmddhaaGreatDoorQM
set_option linter.all false
namespace Rk
open Go Go.Proofs
variable{f:Nat}{fn:Func}
def AN(f:Nat):Bool:=([0,1,2,22,62,63,64,65,66,78,79,80,81,82,83,84,85,86,87,88,89,90,91,92,93,94,95,96,104,105,106,107,108,126,127,128,129,130,131,132,133,134,135,136,137,138,139,140,141,142,143,144,145,146,152]:List Nat).contains f||(147<=f&&f<=151)
def TX:Func:={(default:Func) with name:= "",body:=none}
def aAY(a:Array Func)(p:Nat->Bool)(s:Func)(f:Nat):(a.mapIdx λi fn=>if p i then s else fn)[f]?=(a[f]?).map λfn=>if p f then s else fn:=by
 rw[aIZ]
noncomputable def TY(a:Array Func):Array Func:=a.mapIdx λi fn=>if AN i then TX else fn
def QH(a:Array Func)(f:Nat):(TY a)[f]?=(a[f]?).map λfn=>if AN f then TX else fn:=aAY _ _ _ _
noncomputable def Hy:Array Func:=TY Tryz.prog.funcs
def Oc(P:Program)(F:Array Func):Program:={P with funcs:=F}
def ZL(P:Program)(F:Array Func):(Oc P F).funcs=F:=rfl
noncomputable def tz:Program:=Oc Tryz.prog Hy
def I1:tz.funcs=Hy:=ZL _ _
def yR{a:Array Func}(h:a[f]?=some fn)(hb:AN f=false):(TY a)[f]?=some fn:=by
 rw[QH,h];simp[hb]
def aR(h:Tryz.prog.funcs[f]?=some fn)(hb:AN f=false):tz.funcs[f]?=some fn:=by
 rw[I1,Hy];exact yR h hb
def aEr:tz.funcs[4]?=some Tryz.f4:=aR Tryz.func4 rfl
def ld:tz.funcs[5]?=some Tryz.f5:=aR Tryz.func5 rfl
def aEs:tz.funcs[6]?=some Tryz.f6:=aR Tryz.func6 rfl
def aEt:tz.funcs[7]?=some Tryz.f7:=aR Tryz.func7 rfl
def aEu:tz.funcs[8]?=some Tryz.f8:=aR Tryz.func8 rfl
def aEv:tz.funcs[9]?=some Tryz.f9:=aR Tryz.func9 rfl
def vz:tz.funcs[10]?=some Tryz.f10:=aR Tryz.func10 rfl
def wa:tz.funcs[11]?=some Tryz.f11:=aR Tryz.func11 rfl
def wb:tz.funcs[12]?=some Tryz.f12:=aR Tryz.func12 rfl
def wc:tz.funcs[13]?=some Tryz.f13:=aR Tryz.func13 rfl
def we:tz.funcs[14]?=some Tryz.f14:=aR Tryz.func14 rfl
def wh:tz.funcs[15]?=some Tryz.f15:=aR Tryz.func15 rfl
def wj:tz.funcs[16]?=some Tryz.f16:=aR Tryz.func16 rfl
def wm:tz.funcs[17]?=some Tryz.f17:=aR Tryz.func17 rfl
def wo:tz.funcs[18]?=some Tryz.f18:=aR Tryz.func18 rfl
def I2:tz.funcs[19]?=some Tryz.f19:=aR Tryz.func19 rfl
def wq:tz.funcs[20]?=some Tryz.f20:=aR Tryz.func20 rfl
def wu:tz.funcs[21]?=some Tryz.f21:=aR Tryz.func21 rfl
def aEw:tz.funcs[23]?=some Tryz.f23:=aR Tryz.func23 rfl
def xT:tz.funcs[24]?=some Tryz.f24:=aR Tryz.func24 rfl
def JQ:tz.funcs[25]?=some Tryz.f25:=aR Tryz.func25 rfl
def ZM:tz.funcs[26]?=some Tryz.f26:=aR Tryz.func26 rfl
def QI:tz.funcs[27]?=some Tryz.f27:=aR Tryz.func27 rfl
def I3:tz.funcs[28]?=some Tryz.f28:=aR Tryz.func28 rfl
def wv:tz.funcs[29]?=some Tryz.f29:=aR Tryz.func29 rfl
def wx:tz.funcs[30]?=some Tryz.f30:=aR Tryz.func30 rfl
def wy:tz.funcs[31]?=some Tryz.f31:=aR Tryz.func31 rfl
def wz:tz.funcs[32]?=some Tryz.f32:=aR Tryz.func32 rfl
def I4:tz.funcs[33]?=some Tryz.f33:=aR Tryz.func33 rfl
def I5:tz.funcs[34]?=some Tryz.f34:=aR Tryz.func34 rfl
def Od:tz.funcs[35]?=some Tryz.f35:=aR Tryz.func35 rfl
def xa:tz.funcs[36]?=some Tryz.f36:=aR Tryz.func36 rfl
def xb:tz.funcs[37]?=some Tryz.f37:=aR Tryz.func37 rfl
def xc:tz.funcs[38]?=some Tryz.f38:=aR Tryz.func38 rfl
def Oe:tz.funcs[39]?=some Tryz.f39:=aR Tryz.func39 rfl
def QJ:tz.funcs[40]?=some Tryz.f40:=aR Tryz.func40 rfl
def QK:tz.funcs[41]?=some Tryz.f41:=aR Tryz.func41 rfl
def Of:tz.funcs[42]?=some Tryz.f42:=aR Tryz.func42 rfl
def xd:tz.funcs[43]?=some Tryz.f43:=aR Tryz.func43 rfl
def I6:tz.funcs[44]?=some Tryz.f44:=aR Tryz.func44 rfl
def I7:tz.funcs[45]?=some Tryz.f45:=aR Tryz.func45 rfl
def xe:tz.funcs[46]?=some Tryz.f46:=aR Tryz.func46 rfl
def ZN:tz.funcs[47]?=some Tryz.f47:=aR Tryz.func47 rfl
def Og:tz.funcs[48]?=some Tryz.f48:=aR Tryz.func48 rfl
def I8:tz.funcs[49]?=some Tryz.f49:=aR Tryz.func49 rfl
def xf:tz.funcs[50]?=some Tryz.f50:=aR Tryz.func50 rfl
def xg:tz.funcs[51]?=some Tryz.f51:=aR Tryz.func51 rfl
def I9:tz.funcs[52]?=some Tryz.f52:=aR Tryz.func52 rfl
def xh:tz.funcs[53]?=some Tryz.f53:=aR Tryz.func53 rfl
def J0:tz.funcs[54]?=some Tryz.f54:=aR Tryz.func54 rfl
def Oh:tz.funcs[55]?=some Tryz.f55:=aR Tryz.func55 rfl
def xi:tz.funcs[56]?=some Tryz.f56:=aR Tryz.func56 rfl
def xj:tz.funcs[57]?=some Tryz.f57:=aR Tryz.func57 rfl
def J1:tz.funcs[58]?=some Tryz.f58:=aR Tryz.func58 rfl
def xk:tz.funcs[59]?=some Tryz.f59:=aR Tryz.func59 rfl
def xl:tz.funcs[60]?=some Tryz.f60:=aR Tryz.func60 rfl
def Oi:tz.funcs[61]?=some Tryz.f61:=aR Tryz.func61 rfl
def ZO:tz.funcs[67]?=some Tryz.f67:=aR Tryz.func67 rfl
def xm:tz.funcs[68]?=some Tryz.f68:=aR Tryz.func68 rfl
def Oj:tz.funcs[69]?=some Tryz.f69:=aR Tryz.func69 rfl
def xn:tz.funcs[70]?=some Tryz.f70:=aR Tryz.func70 rfl
def xo:tz.funcs[71]?=some Tryz.f71:=aR Tryz.func71 rfl
def aEx:tz.funcs[72]?=some Tryz.f72:=aR Tryz.func72 rfl
def J2:tz.funcs[73]?=some Tryz.f73:=aR Tryz.func73 rfl
def JR:tz.funcs[74]?=some Tryz.f74:=aR Tryz.func74 rfl
def J3:tz.funcs[75]?=some Tryz.f75:=aR Tryz.func75 rfl
def xp:tz.funcs[76]?=some Tryz.f76:=aR Tryz.func76 rfl
def J4:tz.funcs[77]?=some Tryz.f77:=aR Tryz.func77 rfl
def ZP:tz.funcs[98]?=some Tryz.f98:=aR Tryz.func98 rfl
def ZQ:tz.funcs[99]?=some Tryz.f99:=aR Tryz.func99 rfl
def Hz:tz.funcs[100]?=some Tryz.f100:=aR Tryz.func100 rfl
def J5:tz.funcs[101]?=some Tryz.f101:=aR Tryz.func101 rfl
def aAZ:tz.funcs[102]?=some Tryz.f102:=aR Tryz.func102 rfl
def J6:tz.funcs[103]?=some Tryz.f103:=aR Tryz.func103 rfl
def xq:tz.funcs[97]?=some Tryz.f97:=aR Tryz.func97 rfl
def TZ:tz.funcs[109]?=some Tryz.f109:=aR Tryz.func109 rfl
def J7:tz.funcs[110]?=some Tryz.f110:=aR Tryz.func110 rfl
def aA0:tz.funcs[112]?=some Tryz.f112:=aR Tryz.func112 rfl
def aA1:tz.funcs[113]?=some Tryz.f113:=aR Tryz.func113 rfl
def aA2:tz.funcs[114]?=some Tryz.f114:=aR Tryz.func114 rfl
def aA3:tz.funcs[115]?=some Tryz.f115:=aR Tryz.func115 rfl
def J8:tz.funcs[116]?=some Tryz.f116:=aR Tryz.func116 rfl
def J9:tz.funcs[117]?=some Tryz.f117:=aR Tryz.func117 rfl
def UA:tz.funcs[118]?=some Tryz.f118:=aR Tryz.func118 rfl
def aA4:tz.funcs[119]?=some Tryz.f119:=aR Tryz.func119 rfl
def aA5:tz.funcs[120]?=some Tryz.f120:=aR Tryz.func120 rfl
def aA6:tz.funcs[121]?=some Tryz.f121:=aR Tryz.func121 rfl
def aA7:tz.funcs[122]?=some Tryz.f122:=aR Tryz.func122 rfl
def aA8:tz.funcs[123]?=some Tryz.f123:=aR Tryz.func123 rfl
def aA9:tz.funcs[124]?=some Tryz.f124:=aR Tryz.func124 rfl
def aAa:tz.funcs[125]?=some Tryz.f125:=aR Tryz.func125 rfl
def aAb:tz.funcs[111]?=some Tryz.f111:=aR Tryz.func111 rfl
open Go.RowKit
variable{k j dj s i s1 s2 s3:Nat}{v v1 v2 v3:Value}{a:Act}{f:FuncId}{args:Array Value}{b:Bool}{d':Option Nat}{p:Addr}
abbrev Env:=List (Nat×Value)
def look:Env->Nat->Option Value
 |[],_=>none
 |(k,v)::r,n=>bif Nat.beq k n then some v else look r n
structure Ag(a:Act)(N:Nat)(E:Env):Prop where
 size:a.tmps.size=N
 defers:a.defers=[]
 at_:∀k v,look E k=some v->a.tmps[k]?=some v
section
variable{N:Nat}{E E':Env}
def Ag.nil(h:Ag a N E):Ag a N []:=⟨h.size,h.defers,λ_ _ hk=>by simp[look]at hk⟩
def Ag.keep(h':Ag a N E')(h:Ag a N E)(hk:look E k=some v):Ag a N ((k,v)::E'):=by
 refine⟨h.size,h.defers,λn u hn=>?_⟩;simp only[look]at hn;cases e:Nat.beq k n with
 |true=>rw[e]at hn;simp at hn;subst hn;have:=aD6 e;subst this;exact h.at_ _ _ hk
 |false=>rw[e]at hn;exact h'.at_ _ _ hn
def Ag.put(h:Ag a N E){d:Nat}(v:Value)(hd:Nat.blt d N=true):Ag (a.put (some d) v) N ((d,v)::E):=by
 have BS:d<a.tmps.size:=by rw[h.size];exact aHt hd
 refine⟨by simp[Act.put,h.size],by simp[Act.put,h.defers],λn u hn=>?_⟩;simp only[look]at hn;simp only[Act.put];cases e:Nat.beq d n with
 |true=>
  rw[e]at hn;simp at hn;subst hn;have:=aD6 e;subst this;simp[BS]
 |false=>
  rw[e]at hn;have cQ:d≠n:=aIE e;rw[aCM cQ];exact h.at_ _ _ hn
def aM(E:Env):Operand->Option Value
 | .tmp t=>look E t
 | .const v=>some v
 | .global g=>some (.pointer (some ⟨g,0,none⟩))
 | .func f=>some (.func (.func f) #[] #[])
def Ag.eval(h:Ag a N E){x:Operand}(hx:aM E x=some v):a.eval x=v:=by
 cases x with
 |tmp t=>simp only[aM]at hx;simp[Act.eval,h.at_ _ _ hx]
 |const u=>simp only[aM]at hx;injection hx
 |global g=>simp only[aM]at hx;injection hx
 |func f=>simp only[aM]at hx;injection hx
end
def Fits(E:Env)(ρ:Operand->Value):Prop:=∀x v,aM E x=some v->ρ x=v
def Ag.fits{N:Nat}{E:Env}(h:Ag a N E):Fits E a.eval:=λ_ _ hx=>h.eval hx
def aA(P:Program)(op:Op)(t:TypeId)(E:Env)(w:World)(v:Value)(w':World):Prop:=
 ∀ρ,Fits E ρ->∀d pos after g,(execOp ρ ⟨d,op,t,pos,after,g⟩).run P w=.ok (.value v) w'
def jH(P:Program)(op:Op)(t:TypeId)(E:Env)(w:World)(w':World):Prop:=
 ∀ρ,Fits E ρ->∀d pos after g,(execOp ρ ⟨d,op,t,pos,after,g⟩).run P w=.ok .skip w'
def OpC(P:Program)(op:Op)(t:TypeId)(E:Env)(w:World)(f:FuncId)(args:Array Value):Prop:=
 ∀ρ,Fits E ρ->∀d pos after g,(execOp ρ ⟨d,op,t,pos,after,g⟩).run P w=.ok (.enter f args) w
def eT(S:Value->World->Prop):Ending->World->Prop
 | .returned v,w=>S v w
 |_,_=>False
def Fin(K:Env->World->Prop)(N:Nat):Exit->Act->World->Prop:=λe a w=>e=.normal/\∃E,Ag a N E/\K E w
def WL(P:Program)(ops:Array Oper)(K:Env->World->Prop)(N:Nat)(E:Env)(rest:List Oper)(w:World):Prop:=∀a,Ag a N E->wpList P ops (Fin K N) rest a w
def WC(P:Program)(Q:Exit->Act->World->Prop)(N:Nat)(E:Env)(c:Code)(w:World):Prop:=∀a,Ag a N E->Code.wp P c Q a w
def WX(Q:Exit->Act->World->Prop)(e:Exit)(N:Nat)(E:Env)(w:World):Prop:=∀a,Ag a N E->Q e a w
def QL(P:Program)(ops:Array Oper)(C:World->Prop)(K:Env->Prop)(N:Nat)(E:Env)(rest:List Oper):Prop:=∀a,Ag a N E->wpQuiet P ops C (λa=>∃E,Ag a N E/\K E) rest a
section
variable{P:Program}{ops:Array Oper}{Q:Exit->Act->World->Prop}{K:Env->World->Prop}{N:Nat}{E:Env}{rest:List Oper}{w w':World}{op:Op}{t:TypeId}{pos:String}{after:Array Edge}{d:Nat}
def WL.nil(h:K E w):WL P ops K N E [] w:=λa ha=>wpList_nil ⟨rfl,E,ha,h⟩
def WL.step(ho:aA P op t E w v w')(hd:Nat.blt d N=true)(h:WL P ops K N ((d,v)::E) rest w'):WL P ops K N E (⟨some d,op,t,pos,after,none⟩::rest) w:=by
 intro a ha;refine wpList_plain rfl λK' sv=>?_;unfold Oper.wp;rw[ho _ ha.fits];exact sv _ _ (h _ (ha.put v hd))
def WL.act(ho:jH P op t E w w')(h:WL P ops K N E rest w'):WL P ops K N E (⟨none,op,t,pos,after,none⟩::rest) w:=by
 intro a ha;refine wpList_plain rfl λK' sv=>?_;unfold Oper.wp;rw[ho _ ha.fits];exact sv _ _ (h _ ha)
def WL.call{S:Value->World->Prop}(ho:OpC P op t E w f args)(hd:Nat.blt d N=true)(hc:Calls P f args w (eT S))
  (h:∀v w',S v w'->WL P ops K N ((d,v)::E) rest w'):WL P ops K N E (⟨some d,op,t,pos,after,none⟩::rest) w:=by
 intro a ha;refine wpList_plain rfl λK' sv=>?_;unfold Oper.wp;rw[ho _ ha.fits];refine hc.mono λe w1 he=>?_;cases e with
 |returned v=>exact sv _ _ (h v w1 he _ (ha.put v hd))
 |panicked ch=>exact he.elim
 |outgrown=>exact he.elim
def oT(ha:Ag a N E){want:Bool}(hj:(ops[j]?).bind (·.dst)=some dj)(hb:look E dj=some (.bool b))(d':Option Nat):
  Region.wanted ⟨d',op,t,pos,after,some (j,want)⟩ (yielded ops a.tmps)=(b==want):=by
 simp only[Region.wanted,yielded,hj,aDv,ha.at_ _ _ hb];cases b<;>cases want<;>rfl
def AO(ha:Ag a N E){want:Bool}(hj:(ops[j]?).bind (·.dst)=some dj)(hb:look E dj=some undef)(d':Option Nat):
  Region.wanted ⟨d',op,t,pos,after,some (j,want)⟩ (yielded ops a.tmps)=false:=by
 simp only[Region.wanted,yielded,hj,aDv,ha.at_ _ _ hb];cases want<;>rfl
def Ag.again(ha:Ag a N E)(hk:look E k=some v):Ag a N ((k,v)::E):=ha.keep ha hk
def aTE{want:Bool}(hj:(ops[j]?).bind (·.dst)=some dj)(hb:look E dj=some (.bool want))
  (h:WL P ops K N E (⟨d',op,t,pos,after,none⟩::rest) w):WL P ops K N E (⟨d',op,t,pos,after,some (j,want)⟩::rest) w:=by
 intro a ha;have h1:=h a ha;unfold wpList at h1⊢;rw[oT ha hj hb];simp only[Region.wanted,if_true]at h1;simp only[beq_self_eq_true,if_true];exact h1
def WL.no{want:Bool}(hj:(ops[j]?).bind (·.dst)=some dj)(hb:look E dj=some (.bool !want))(hd:Nat.blt d N=true)
  (h:WL P ops K N ((d,undef)::E) rest w):WL P ops K N E (⟨some d,op,t,pos,after,some (j,want)⟩::rest) w:=by
 intro a ha;refine wpList_skip ?_ (h _ (ha.put undef hd));rw[oT ha hj hb];cases want<;>rfl
def aT5{want:Bool}(hj:(ops[j]?).bind (·.dst)=some dj)(hb:look E dj=some undef)(hd:Nat.blt d N=true)
  (h:WL P ops K N ((d,undef)::E) rest w):WL P ops K N E (⟨some d,op,t,pos,after,some (j,want)⟩::rest) w:=by
 intro a ha;exact wpList_skip (AO ha hj hb _) (h _ (ha.put undef hd))
def WL.guard{want:Bool}(_hj:(ops[j]?).bind (·.dst)=some dj)(hb:look E dj=some (.bool b))
  (h1:b=true->WL P ops K N ((dj,.bool true)::E) (⟨d',op,t,pos,after,some (j,want)⟩::rest) w)
  (h2:b=false->WL P ops K N ((dj,.bool false)::E) (⟨d',op,t,pos,after,some (j,want)⟩::rest) w):WL P ops K N E (⟨d',op,t,pos,after,some (j,want)⟩::rest) w:=by
 intro a ha;cases b with
 |true=>exact h1 rfl a (ha.again hb)
 |false=>exact h2 rfl a (ha.again hb)
variable{C:World->Prop}{R:Env->Prop}
def QL.step(ho:∀w,C w->aA P op t E w v w)(hd:Nat.blt d N=true)(h:QL P ops C R N ((d,v)::E) rest):QL P ops C R N E (⟨some d,op,t,pos,after,none⟩::rest):=by
 intro a ha;refine wpQuiet_step λK' sv=>?_;rw[if_pos (by rfl)];refine⟨v,λw hw=>?_,sv _ (h _ (ha.put v hd))⟩;unfold Oper.quietAt;rw[ho w hw _ ha.fits];exact⟨rfl,rfl⟩
def QL.call(ho:∀w,C w->OpC P op t E w f args)(hd:Nat.blt d N=true)(hc:∀w,C w->Calls P f args w (eT λu w'=>u=v/\C w'))
  (h:QL P ops C R N ((d,v)::E) rest):QL P ops C R N E (⟨some d,op,t,pos,after,none⟩::rest):=by
 intro a ha;refine wpQuiet_step λK' sv=>?_;rw[if_pos (by rfl)];refine⟨v,λw hw=>?_,sv _ (h _ (ha.put v hd))⟩;unfold Oper.quietAt;rw[ho w hw _ ha.fits];refine⟨rfl,(hc w hw).mono λe w1 he=>?_⟩;cases e with
 |returned u=>obtain⟨rfl,h2⟩:=he;exact⟨rfl,h2⟩
 |panicked ch=>exact he.elim
 |outgrown=>exact he.elim
def aT6{want:Bool}(hj:(ops[j]?).bind (·.dst)=some dj)(hb:look E dj=some (.bool want))
  (h:QL P ops C R N E (⟨d',op,t,pos,after,none⟩::rest)):QL P ops C R N E (⟨d',op,t,pos,after,some (j,want)⟩::rest):=by
 intro a ha;have h1:=h a ha;unfold wpQuiet at h1⊢;rw[oT ha hj hb];simp only[Region.wanted,if_true]at h1;simp only[beq_self_eq_true,if_true];exact h1
def JS{S:Act->Prop}{o:Oper}(hw:Region.wanted o (yielded ops a.tmps)=false)(h:wpQuiet P ops C S rest (a.put o.dst undef)):wpQuiet P ops C S (o::rest) a:=by
 unfold wpQuiet;rw[hw];exact h
def QL.no{want:Bool}(hj:(ops[j]?).bind (·.dst)=some dj)(hb:look E dj=some (.bool !want))(hd:Nat.blt d N=true)
  (h:QL P ops C R N ((d,undef)::E) rest):QL P ops C R N E (⟨some d,op,t,pos,after,some (j,want)⟩::rest):=by
 intro a ha;refine JS ?_ (h _ (ha.put undef hd));rw[oT ha hj hb];cases want<;>rfl
def aT7{want:Bool}(hj:(ops[j]?).bind (·.dst)=some dj)(hb:look E dj=some undef)(hd:Nat.blt d N=true)
  (h:QL P ops C R N ((d,undef)::E) rest):QL P ops C R N E (⟨some d,op,t,pos,after,some (j,want)⟩::rest):=by
 intro a ha;exact JS (AO ha hj hb _) (h _ (ha.put undef hd))
def QL.guard{want:Bool}(_hj:(ops[j]?).bind (·.dst)=some dj)(hb:look E dj=some (.bool b))
  (h1:b=true->QL P ops C R N ((dj,.bool true)::E) (⟨d',op,t,pos,after,some (j,want)⟩::rest))
  (h2:b=false->QL P ops C R N ((dj,.bool false)::E) (⟨d',op,t,pos,after,some (j,want)⟩::rest)):QL P ops C R N E (⟨d',op,t,pos,after,some (j,want)⟩::rest):=by
 intro a ha;cases b with
 |true=>exact h1 rfl a (ha.again hb)
 |false=>exact h2 rfl a (ha.again hb)
def QL.nil(h:R E):QL P ops C R N E []:=λa ha=>wpQuiet_nil ⟨E,ha,h⟩
def xU{R S:Act->Prop}:∀(l:List Oper) (a:Act),wpQuiet P ops C R l a->(∀a,R a->S a)->wpQuiet P ops C S l a:=by
 intro l;induction l with
 |nil=>intro a h hs;exact hs _ h
 |cons o r ih=>
  intro a h hs;unfold wpQuiet at h⊢;split
  .rename_i hw;rw[if_pos hw]at h;exact Oper.quiet_mono (λa h=>ih a h hs) h
  .rename_i hw;rw[if_neg hw]at h;exact ih _ h hs
variable{x y c:Code}{id:Nat}{l:List Oper}
def WC.region(h:∀K:Env->World->Prop,(∀E w,WX Q .normal N E w->K E w)->WL P l.toArray K N E l w):WC P Q N E (.region id l.toArray false) w:=by
 intro a ha;refine wp_mono (wp_region_lit (h (λE w=>WX Q .normal N E w) (λ_ _ h=>h) a ha)) ?_;rintro e a' w' ⟨rfl,E',uL,hK⟩;exact hK a' uL
def WC.quiet(hm:P.follows .mixedOrders=true)(hB:Region.lexB .any l.toArray=true)
  (h:∀K:Env->Prop,(∀E,(∀w',Below w.heap.size w w'->WX Q .normal N E w')->K E)->QL P l.toArray (λw'=>Below w.heap.size w w') K N E l):WC P Q N E (.region id l.toArray true) w:=by
 intro a ha;refine wp_region_quiet (C:=λw'=>Below w.heap.size w w') hm hB ⟨rfl,rfl,rfl,aAB _,λ_ _=>rfl⟩ ?_;have h1:wpQuiet P l.toArray (λw'=>Below w.heap.size w w') (λa=>∀w',Below w.heap.size w w'->Q .normal a w') l a:=xU l _ (h (λE=>∀w',Below w.heap.size w w'->WX Q .normal N E w') (λ_ h=>h) a ha) (λa' (h:∃E,Ag a' N E/\∀w',Below w.heap.size w w'->WX Q .normal N E w')=>λw' dY=>by
  obtain⟨E',uL,hK⟩:=h;exact hK w' dY a' uL)
 simpa using h1
def WC.seq(h:WC P (Exit.then (λa w=>y.wp P Q a w) Q) N E x w):WC P Q N E (.seq x y) w:=λa ha=>wp_seq (h a ha)
def aRM(J:Act->World->Prop)(h1:WC P (Exit.then J Q) N E x w)(h2:∀a w,J a w->Code.wp P y Q a w):WC P Q N E (.seq x y) w:=
 λa ha=>wp_seq (wp_mono (h1 a ha) λe a' w' hq=>by cases e<;>first|exact h2 _ _ hq|exact hq)
def aOE{J:Act->World->Prop}(h:∀a,Ag a N E->J a w):WX (Exit.then J Q) .normal N E w:=h
def WC.skip(h:WX Q .normal N E w):WC P Q N E .skip w:=λa ha=>wp_skip (h a ha)
def WC.exit(h:WX Q (.exit id) N E w):WC P Q N E (.exit id) w:=λa ha=>wp_exit (h a ha)
def WC.ret(h:WX Q .ret N E w):WC P Q N E .ret w:=λa ha=>wp_ret (h a ha)
def WC.block(h:WC P (Exit.inBlock id Q) N E c w):WC P Q N E (.block id c) w:=λa ha=>wp_block (h a ha)
def WC.cond(hb:look E s=some (.bool b))(h1:b=true->WC P Q N ((s,.bool true)::E) x w)(h2:b=false->WC P Q N ((s,.bool false)::E) y w):WC P Q N E (.cond (.tmp s) x y) w:=by
 intro a ha;refine wp_cond_split (t:=b) (ha.eval (x:=.tmp s) hb) (λe=>?_) (λe=>?_)
 .subst e;exact h1 rfl a (ha.again hb)
 .subst e;exact h2 rfl a (ha.again hb)
def aLO(hb:look E s=some (.bool true))(h1:WC P Q N E x w):WC P Q N E (.cond (.tmp s) x y) w:=
 λa ha=>wp_cond_true (ha.eval (x:=.tmp s) hb) (h1 a ha)
def aJh(hb:look E s=some (.bool false))(h1:WC P Q N E y w):WC P Q N E (.cond (.tmp s) x y) w:=
 λa ha=>wp_cond_false (ha.eval (x:=.tmp s) hb) (h1 a ha)
def aSH(h:WC P Q N E y w){Q':Exit->Act->World->Prop}:WX (Exit.then (λa w=>y.wp P Q a w) Q') .normal N E w:=h
def aSI{K:Act->World->Prop}(h:WX Q (.exit i) N E w):WX (Exit.then K Q) (.exit i) N E w:=h
def aSK{K:Act->World->Prop}(h:WX Q .ret N E w):WX (Exit.then K Q) .ret N E w:=h
def aRc(h:WX Q .normal N E w):WX (Exit.inBlock i Q) .normal N E w:=h
def aRd(h:WX Q .ret N E w):WX (Exit.inBlock i Q) .ret N E w:=h
def aRe(h:WX Q .normal N E w):WX (Exit.inBlock i Q) (.exit i) N E w:=λa ha=>by simp only[Exit.inBlock,if_true];exact h a ha
def WC.weaken{E':Env}(h:WC P Q N E' c w)(hE:∀a,Ag a N E->Ag a N E'):WC P Q N E c w:=λa ha=>h a (hE a ha)
def tP(I:Nat->Act->World->Prop)(n:Nat)(a:Act)(w:World):Prop:=∃m,m<n/\I m a w
def WC.loop(I:Nat->Act->World->Prop)(n:Nat)(h0:∀a,Ag a N E->I n a w)
  (round:∀n a w,I n a w->c.wp P (Exit.then (tP I n) Q) a w):WC P Q N E (.loop c) w:=by
 intro a ha;exact wp_loop_ghost I n (h0 a ha) round
def WX.again{I:Nat->Act->World->Prop}{n m:Nat}(hm:m<n)(h:∀a,Ag a N E->I m a w):WX (Exit.then (tP I n) Q) .normal N E w:=λa ha=>⟨m,hm,h a ha⟩
def WC.at(h:WC P Q N E c w)(ha:Ag a N E):Code.wp P c Q a w:=h a ha
variable{S:Value->World->Prop}
def aLV(hr:fn.results= #[.tmp s])(hs:look E s=some v)(h:S v w):WX (bodyPost P fn (eT S)) .ret N E w:=by
 intro a ha;refine bodyPost_ret (results_tmp hr a.tmps P w) ha.defers ?_;simp[ha.at_ _ _ hs];exact h
def aLe(hr:fn.results= #[.tmp s1,.tmp s2])(h1:look E s1=some v1)(h2:look E s2=some v2)(h:S (.tuple #[v1,v2]) w):WX (bodyPost P fn (eT S)) .ret N E w:=by
 intro a ha;refine bodyPost_ret (results_tmp2 hr a.tmps P w) ha.defers ?_;simp[ha.at_ _ _ h1,ha.at_ _ _ h2];exact h
def Ig{T:TypeId}{tmps:Array Value}(hr:fn.results= #[.cell s1 T,.tmp s2,.tmp s3])(h1:tmps[s1]?=some (.pointer (some p)))(h2:tmps[s2]?=some v2)(h3:tmps[s3]?=some v3)
  (hl:(loadVar T p).run P w=.ok v1 w):(results fn tmps).run P w=.ok (.tuple #[v1,v2,v3]) w:=by
 simp[results,hr,h1,h2,h3,asAddr,hl]
def aTF{T:TypeId}(hr:fn.results= #[.cell s1 T,.tmp s2,.tmp s3])(h1:look E s1=some (.pointer (some p)))(h2:look E s2=some v2)(h3:look E s3=some v3)
  (hl:(loadVar T p).run P w=.ok v1 w)(h:S (.tuple #[v1,v2,v3]) w):WX (bodyPost P fn (eT S)) .ret N E w:=by
 intro a ha;exact bodyPost_ret (Ig hr (ha.at_ _ _ h1) (ha.at_ _ _ h2) (ha.at_ _ _ h3) hl) ha.defers h
def aPe(hr:fn.results= #[])(h:S (.tuple #[]) w):WX (bodyPost P fn (eT S)) .ret N E w:=
 λa ha=>bodyPost_ret (results_none hr a.tmps P w) ha.defers h
def aMt(hr:fn.results= #[])(h:S (.tuple #[]) w):WX (bodyPost P fn (eT S)) .normal N E w:=
 λa ha=>bodyPost_end (results_none hr a.tmps P w) ha.defers h
def AP:List Value->Nat->Env
 |[],_=>[]
 |v::r,i=>(i,v)::AP r (i+1)
def iY:∀(l:List Value) (i k:Nat) (v:Value),look (AP l i) k=some v->i<=k/\l[k-i]?=some v:=by
 intro l;induction l with
 |nil=>intro i k v h;simp[AP,look]at h
 |cons x r ih=>
  intro i k v h;simp only[AP,look]at h;cases e:Nat.beq i k with
  |true=>
   rw[e]at h;simp at h;subst h;have:=aD6 e;subst this;simp
  |false=>
   rw[e]at h;have cQ:i≠k:=aIE e;obtain⟨h1,h2⟩:=ih (i+1) k v h;refine⟨BYO,?_⟩;rw[show k-i=(k-(i+1))+1 from by omega];simpa using h2
def aI{l:List Value}(hf:P.funcs[f]?=some fn)(hb:fn.body=some c)(hn:fn.ntmps=N)(hl:Nat.ble l.length N=true)
  (h:WC P (bodyPost P fn (eT S)) N (AP l 0) c w):Calls P f l.toArray w (eT S):=by
 refine calls_of_wp hf hb (h _ ?_);have WI:l.length<=N:=aHt hl;refine⟨by simp[hn];omega,rfl,λk v hk=>?_⟩;obtain⟨_,h2⟩:=iY l 0 k v hk;have dD:k<l.length:=by
  rcases aCD k l.length with h|h
  .exact h
  .simp[aCU h]at h2
 simp only[aD5]at h2;rw[Array.getElem?_append_left (by simpa using dD)];simpa using h2
end
def RT(P:Program)(T:Code)(J Q:Act->World->Prop)(c:Code)(a:Act)(w:World):Prop:=∀(b:Frame) (k:List Item) (cs:List Frame),(∃a' w',J a' w'/\Steps P (lone (b.at a (.code c::k)) cs w) (lone (b.at a' (.code T::k)) cs w'))\/∃a' w' todo,Q a' w'/\Steps P (lone (b.at a (.code c::k)) cs w) (lone {b.at a' todo with mode:=.returning} cs w')
def K4(Q:Act->World->Prop):Exit->Act->World->Prop:=λe a w=>e=.ret/\Q a w
def RE(P:Program)(T:Code)(J Q:Act->World->Prop)(N:Nat)(E:Env)(c:Code)(w:World):Prop:=∀a,Ag a N E->RT P T J Q c a w
section
variable{P:Program}{T:Code}{J Q:Act->World->Prop}{N:Nat}{E:Env}{x y:Code}{w:World}
def RT.here(h:J a w):RT P T J Q T a w:=λ_ _ _=>.inl ⟨a,w,h,Steps.refl _ _⟩
def RT.seq(h:x.wp P (Exit.then (RT P T J Q y) (K4 Q)) a w):RT P T J Q (.seq x y) a w:=λb k cs=>by
 obtain⟨e,a1,w1,hq,hs⟩:=h b (.code y::k) cs;cases e with
 |normal=>
  rcases hq b k cs with⟨a2,w2,h1,h2⟩|⟨a2,w2,t,h1,h2⟩
  .exact .inl ⟨a2,w2,h1,.head step_seq (Steps.trans hs h2)⟩
  .exact .inr ⟨a2,w2,t,h1,.head step_seq (Steps.trans hs h2)⟩
 |ret=>
  obtain⟨t,hs⟩:=hs;exact .inr ⟨a1,w1,t,hq.2,.head step_seq hs⟩
 |_=>cases hq.1
def RE.seq(h:WC P (Exit.then (RT P T J Q y) (K4 Q)) N E x w):RE P T J Q N E (.seq x y) w:=λa ha=>RT.seq (h a ha)
def RE.here(h:∀a,Ag a N E->J a w):RE P T J Q N E T w:=λa ha=>RT.here (h a ha)
def aMI{Q':Exit->Act->World->Prop}(h:RE P T J Q N E y w):WX (Exit.then (RT P T J Q y) Q') .normal N E w:=h
def aTG(h:∀a,Ag a N E->Q a w):WX (K4 Q) .ret N E w:=λa ha=>⟨rfl,h a ha⟩
def lp{l:List Value}{n:Nat}(hn:n=N)(hl:Nat.ble l.length N=true):Ag ⟨l.toArray++Array.replicate (n-l.toArray.size) undef,[]⟩ N (AP l 0):=by
 subst hn;have WI:l.length<=n:=aHt hl;refine⟨BYT,rfl,λk v hk=>?_⟩;obtain⟨_,h2⟩:=iY l 0 k v hk;have dD:k<l.length:=by
  rcases aCD k l.length with h|h
  .exact h
  .simp[aCU h]at h2
 simp only[aD5]at h2;rw[Array.getElem?_append_left (by simpa using dD)];simpa using h2
end
variable{L:Array Bool}{oi:Oper}
section
variable{P:Program}{ops:Array Oper}{Q:Exit->Act->World->Prop}{md:Region.Mode}{H:World->Prop}{xs:List Nat}
def pB(xs:List Nat)(L:Array Bool):Prop:=∃x∈xs,L.getD x false=true
def wpAnyS(P:Program)(md:Region.Mode)(ops:Array Oper)(Q:Exit->Act->World->Prop)(xs:List Nat)(H:World->Prop):Nat->Array Bool->Act->World->Prop
 |0,L,a,w=>Region.ready md ops L=[]/\Q .normal a w
 |fuel+1,L,a,w=>
  (Region.ready md ops L=[]->Q .normal a w)/\
  ∀i∈Region.ready md ops L,wpOp P ops Q i (λa' w'=>(pB xs (L.setIfInBounds i true)\/H w')/\wpAnyS P md ops Q xs H fuel (L.setIfInBounds i true) a' w') a w
def sQ:∀(fuel:Nat) (L:Array Bool) (a:Act) (w:World),wpAnyS P md ops Q xs H fuel L a w->wpAny P md ops Q fuel L a w
 |0,_,_,_,h=>h
 |fuel+1,_,_,_,h=>⟨h.1,λi hi=>wpOp_mono (λa' w' h'=>sQ fuel _ a' w' h'.2) (h.2 i hi)⟩
def DI(hi:i∉xs)(h:pB xs (L.setIfInBounds i true)):pB xs L:=by
 obtain⟨x,hx,hl⟩:=h;refine⟨x,hx,?_⟩;by_cases e:i=x
 .subst e;exact absurd hx hi
 .rw[getD_set_ne false e]at hl;exact hl
def rL{oj:Oper}(hr:i∈Region.ready md ops L)(hj:j∈Region.ready md ops L)(Xj:ops[j]?=some oj):∀e∈oj.after,Region.binds md e=true->e.on≠i:=by
 intro e he hb heq;obtain⟨_,oj',aNV,fM⟩:=mem_ready.1 hj;have:oj'=oj:=aG6 (aNV.symm.trans Xj);subst this;have h1:=fM e he hb;have h0:=(mem_ready.1 hr).1;rw[heq]at h1;rcases aCD i L.size with h'|h'
 .simp[h']at h0 h1;rw[h0]at h1;cases h1
 .simp[aIm h']at h1
def FE(hi:ops[i]?=some oi)(br:∀(j:Nat) (o:Oper) cs b,ops[j]?=some o->o.op≠.select cs b)
  (hQ:∀c a w,Q (.panic c) (a.put oi.dst v) w->Q (.panic c) a w)(af:i∉xs):
  ∀(fuel:Nat) (L:Array Bool) (a:Act) (w:World),
   (∀j oj,ops[j]?=some oj->j≠i->L.getD j true=false->(∀e∈oj.after,Region.binds md e=true->e.on≠i)->oi.apart ops oj=true)->
   i∈Region.ready md ops L->YieldsIf P ops (λ_=>True) oi v a->(pB xs L\/H w)->
   wpAnyS P md ops Q xs H fuel (L.setIfInBounds i true) (a.put oi.dst v) w->wpAnyS P md ops Q xs H (fuel+1) L a w:=by
 have step:∀L w,(pB xs L\/H w)->(pB xs (L.setIfInBounds i true)\/H w):=λL w h=>h.imp (λ⟨x,hx,hl⟩=>⟨x,hx,getD_set_true hl⟩) id;intro fuel;induction fuel with
 |zero=>
  intro L a w _ hr hy hS G;refine⟨λh=>(by rw[h]at hr;cases hr),λj hj=>?_⟩;by_cases zW:j=i
  .subst zW;exact hy.wpOp hi trivial ⟨step _ _ hS,G⟩
  .have:=ready_mono hj zW;rw[G.1]at this;cases this
 |succ fuel ih=>
  intro L a w Eu hr hy hS G;refine⟨λh=>(by rw[h]at hr;cases hr),λj hj=>?_⟩;by_cases zW:j=i
  .subst zW;exact hy.wpOp hi trivial ⟨step _ _ hS,G⟩
  .have h1:=G.2 j (ready_mono hj zW);obtain⟨ai,oj,Xj,fM⟩:=mem_ready.1 hj;have uk:=rL hr hj Xj;have h2:=wpOp_putIf Xj (Eu j oj Xj zW ai uk) (λcs b=>br i oi cs b hi) (λcs b=>br j oj cs b Xj) hQ hy h1;have Mk:∀k ok,ops[k]?=some ok->k≠i->(L.setIfInBounds j true).getD k true=false->
     (∀e∈ok.after,Region.binds md e=true->e.on≠i)->oi.apart ops ok=true:=λk ok hk hki hun CK=>by
    refine Eu k ok hk hki ?_ CK;by_cases Es:j=k
    .subst Es;exact ai
    .rw[getD_set_ne true Es]at hun;exact hun
   refine wpOp_mono (λa' w' h3=>?_) h2;have Ma:pB xs (L.setIfInBounds j true)\/H w':=by
    rcases h3.2.1 with h|h
    .rw[aGu _ _ (Ne.symm zW)]at h;exact .inl (DI af h)
    .exact .inr h
   refine⟨Ma,ih (L.setIfInBounds j true) a' w' Mk (ready_mono hr (Ne.symm zW)) h3.1 Ma ?_⟩;rw[aGu _ _ zW];exact h3.2.2
def vJ(hi:ops[i]?=some oi)(br:∀(j:Nat) (o:Oper) cs b,ops[j]?=some o->o.op≠.select cs b)
  (hQ:∀c a w,Q (.panic c) (a.put oi.dst v) w->Q (.panic c) a w)(af:i∉xs)(aGd:∀x∈xs,∀ox,ops[x]?=some ox->∃e∈ox.after,Region.binds md e=true/\e.on=i):
  ∀(fuel:Nat) (L:Array Bool) (a:Act) (w:World),
   (∀j oj,ops[j]?=some oj->j≠i->L.getD j true=false->(∀e∈oj.after,Region.binds md e=true->e.on≠i)->oi.apart ops oj=true)->
   i∈Region.ready md ops L->YieldsIf P ops H oi v a->¬pB xs L->H w->
   wpAnyS P md ops Q xs H fuel (L.setIfInBounds i true) (a.put oi.dst v) w->wpAnyS P md ops Q xs H (fuel+1) L a w:=by
 intro fuel;induction fuel with
 |zero=>
  intro L a w _ hr hy _ hS G;refine⟨λh=>(by rw[h]at hr;cases hr),λj hj=>?_⟩;by_cases zW:j=i
  .subst zW;exact hy.wpOp hi hS ⟨.inr hS,G⟩
  .have:=ready_mono hj zW;rw[G.1]at this;cases this
 |succ fuel ih=>
  intro L a w Eu hr hy hna hS G;refine⟨λh=>(by rw[h]at hr;cases hr),λj hj=>?_⟩;by_cases zW:j=i
  .subst zW;exact hy.wpOp hi hS ⟨.inr hS,G⟩
  .have h1:=G.2 j (ready_mono hj zW);obtain⟨ai,oj,Xj,fM⟩:=mem_ready.1 hj;have uk:=rL hr hj Xj;have hjx:j∉xs:=λhjx=>by
    obtain⟨e,he,hb,hon⟩:=aGd j hjx oj Xj;exact uk e he hb hon
   have h2:=wpOp_putIf Xj (Eu j oj Xj zW ai uk) (λcs b=>br i oi cs b hi) (λcs b=>br j oj cs b Xj) hQ hy h1;have Mk:∀k ok,ops[k]?=some ok->k≠i->(L.setIfInBounds j true).getD k true=false->
     (∀e∈ok.after,Region.binds md e=true->e.on≠i)->oi.apart ops ok=true:=λk ok hk hki hun CK=>by
    refine Eu k ok hk hki ?_ CK;by_cases Es:j=k
    .subst Es;exact ai
    .rw[getD_set_ne true Es]at hun;exact hun
   refine wpOp_mono (λa' w' h3=>?_) h2;have aGv:¬pB xs (L.setIfInBounds j true):=λh=>hna (DI hjx h);have Ma:H w':=by
    rcases h3.2.1 with h|h
    .rw[aGu _ _ (Ne.symm zW)]at h;exact absurd (DI af h) aGv
    .exact h
   refine⟨.inr Ma,ih (L.setIfInBounds j true) a' w' Mk (ready_mono hr (Ne.symm zW)) h3.1 aGv Ma ?_⟩;rw[aGu _ _ zW];exact h3.2.2
end
def UB(md:Region.Mode)(ops:Array Oper)(x i:Nat):Bool:=match ops[x]? with
 |some ox=>ox.after.any λe=>Region.binds md e&&e.on==i
 |none=>true
def AQ(md:Region.Mode)(ops:Array Oper)(xs:List Nat):List (Nat×Nat)->Array Bool->Bool
 |[],L=>(Region.ready md ops L).isEmpty
 |(i,0)::r,L=>Region.free md ops L i&&(Region.ready md ops L).contains i&& !xs.contains i&&AQ md ops xs r (L.setIfInBounds i true)
 |(i,1)::r,L=>Region.free md ops L i&&(Region.ready md ops L).contains i&& !xs.contains i&&(xs.all λx=>UB md ops x i&& !L.getD x false)&&AQ md ops xs r (L.setIfInBounds i true)
 |(i,_)::r,L=>(Region.ready md ops L==[i])&&xs.contains i&&decide (i<L.size)&&AQ md ops xs r (L.setIfInBounds i true)
def JU(P:Program)(ops:Array Oper)(H:World->Prop)(Q:Exit->Act->World->Prop):List (Nat×Nat)->Act->World->Prop
 |[],a,w=>Q .normal a w
 |(i,0)::r,a,w=>∃o v,ops[i]?=some o/\YieldsIf P ops (λ_=>True) o v a/\JU P ops H Q r (a.put o.dst v) w
 |(i,1)::r,a,w=>∃o v,ops[i]?=some o/\H w/\YieldsIf P ops H o v a/\JU P ops H Q r (a.put o.dst v) w
 |(i,_)::r,a,w=>wpOp P ops Q i (JU P ops H Q r) a w
section
variable{P:Program}{ops:Array Oper}{Q:Exit->Act->World->Prop}{md:Region.Mode}{H:World->Prop}{xs:List Nat}
def NZ(hs:Region.noSelect ops=true)(hQ:∀c a b w,Q (.panic c) a w->Q (.panic c) b w):∀(ord:List (Nat×Nat)) (L:Array Bool) (a:Act) (w:World),AQ md ops xs ord L=true->(pB xs L\/H w)->
  JU P ops H Q ord a w->wpAnyS P md ops Q xs H ord.length L a w:=by
 intro ord;induction ord with
 |nil=>
  intro L a w bY _ h;simp only[AQ,aH6]at bY;exact⟨bY,h⟩
 |cons p r ih=>
  intro L a w bY hS h;obtain⟨i,c⟩:=p
  match c,bY,h with
  |0,bY,h=>
   simp only[AQ,aBg]at bY;obtain⟨o,v,ho,hy,hr⟩:=h;have af:i∉xs:=by simpa using bY.1.2
   exact FE ho (Region.noSelect_spec hs) (λc a w h=>hQ c _ _ w h) af _ L a w (Region.free_spec ho bY.1.1.1) (by simpa using bY.1.1.2) hy hS
    (ih _ _ w bY.2 (hS.imp (λ⟨x,hx,hl⟩=>⟨x,hx,getD_set_true hl⟩) id) hr)
  |1,bY,h=>
   simp only[AQ,aBg]at bY;obtain⟨o,v,ho,hH,hy,hr⟩:=h;have af:i∉xs:=by simpa using bY.1.1.2
   have fM:=aCJ.1 bY.1.2;have hna:¬pB xs L:=by
    rintro⟨x,hx,hl⟩;have:=fM x hx;simp only[aBg,aDj]at this;rw[this.2]at hl;cases hl
   refine vJ ho (Region.noSelect_spec hs) (λc a w h=>hQ c _ _ w h) af (λx hx ox td=>?_) _ L a w (Region.free_spec ho bY.1.1.1.1) (by simpa using bY.1.1.1.2) hy hna hH
    (ih _ _ w bY.2 (.inr hH) hr)
   have:=fM x hx;simp only[aBg]at this;have hw:=this.1;simp only[UB,td]at hw;obtain⟨e,he,hb⟩:=Array.any_eq_true'.1 hw;simp only[aBg,beq_iff_eq]at hb;exact⟨e,he,hb.1,hb.2⟩
  |c+2,bY,h=>
   simp only[AQ,aBg,beq_iff_eq,decide_eq_true_eq]at bY;refine⟨λh0=>absurd (bY.1.1.1.symm.trans h0) BYS,λj hj=>?_⟩;rw[bY.1.1.1]at hj;obtain rfl:=aCj.1 hj;have hx:j∈xs:=by simpa using bY.1.1.2
   have az:pB xs (L.setIfInBounds j true):=⟨j,hx,by simp[bY.1.2]⟩;refine wpOp_mono (λa' w' h3=>⟨.inl az,ih _ a' w' bY.2 (.inl az) h3⟩) h
end
def OL(P:Program)(ops:Array Oper)(H:World->Prop)(K:Env->World->Prop)(N:Nat)(E:Env)(ord:List (Nat×Nat))(w:World):Prop:=∀a,Ag a N E->JU P ops H (Fin K N) ord a w
section
variable{P:Program}{ops:Array Oper}{K:Env->World->Prop}{H:World->Prop}{N:Nat}{E:Env}{w:World}{r:List (Nat×Nat)}{o:Oper}
def OL.nil(h:K E w):OL P ops H K N E [] w:=λ_ ha=>⟨rfl,E,ha,h⟩
def RL(P:Program)(ops:Array Oper)(C:World->Prop)(R:Env->Prop)(N:Nat)(E:Env)(o:Oper):Prop:=∀a,Ag a N E->∃v,YieldsIf P ops C o v a/\∃E',Ag (a.put o.dst v) N E'/\R E'
def pC:List Oper->Nat->Option Oper
 |[],_=>none
 |o::_,0=>some o
 |_::r,n+1=>pC r n
def pD:∀{l:List Oper} {i:Nat} {o:Oper},pC l i=some o->l.toArray[i]?=some o:=by
 intro l;induction l with
 |nil=>intro i o h;cases h
 |cons x r ih=>
  intro i o h;cases i with
  |zero=>simpa[pC] using h
  |succ i=>have:=ih (i:=i) (o:=o) h;simpa using this
section
variable{l:List Oper}
def OL.pure(lJ:pC l i=some o)(h:RL P l.toArray (λ_=>True) (λE'=>OL P l.toArray H K N E' r w) N E o):OL P l.toArray H K N E ((i,0)::r) w:=by
 have ho:=pD lJ;intro a ha;obtain⟨v,hy,E',uL,hr⟩:=h a ha;exact⟨o,v,ho,hy,hr _ uL⟩
def OL.read(hH:H w)(lJ:pC l i=some o)(h:RL P l.toArray H (λE'=>OL P l.toArray H K N E' r w) N E o):OL P l.toArray H K N E ((i,1)::r) w:=by
 have ho:=pD lJ;intro a ha;obtain⟨v,hy,E',uL,hr⟩:=h a ha;exact⟨o,v,ho,hH,hy,hr _ uL⟩
def OL.act(lJ:pC l i=some o)(h:WL P l.toArray (λE' w'=>OL P l.toArray H K N E' r w') N E [o] w):OL P l.toArray H K N E ((i,2)::r) w:=by
 have ho:=pD lJ;intro a ha;have h1:=h a ha;simp only[JU,wpOp,ho];unfold wpList at h1;have conv:∀a' w',wpList P l.toArray (Fin (λE' w'=>OL P l.toArray H K N E' r w') N) [] a' w'->JU P l.toArray H (Fin K N) r a' w':=by
  rintro a' w' ⟨_,E',uL,hr⟩;exact hr a' uL
 split
 .rename_i hw;rw[if_pos hw]at h1;rcases h1 with h1|⟨_,a1,w1,h1,_⟩
  .left;have h2:=Oper.wp_mono conv h1
   unfold Oper.wp at h2⊢;generalize (execOp a.eval o).run P w=res at*;cases res with
   |ok n w'=>
    cases n<;>simp only[Oper.upon]at h2⊢<;>first
     |exact h2
     |exact h2.mono λe j0 he=>by
       cases e with
       |returned v=>exact he
       |panicked ch=>exact absurd he.1 BYS
       |outgrown=>obtain⟨a1,w1,h,_⟩:=he;cases h
   |halt x w'=>
    cases x<;>simp only[Oper.upon]at h2⊢<;>first
     |exact h2
     |exact absurd h2.1 BYS
  .cases h1
 .rename_i hw;rw[if_neg hw]at h1;exact conv _ _ h1
end
variable{C:World->Prop}{R:Env->Prop}{op:Op}{t:TypeId}{pos:String}{after:Array Edge}{d:Nat}
def RL.step(ho:∀w,C w->aA P op t E w v w)(hd:Nat.blt d N=true)(h:R ((d,v)::E)):RL P ops C R N E ⟨some d,op,t,pos,after,none⟩:=
 λ_ ha=>⟨v,.inl ⟨rfl,λw hw=>ho w hw _ ha.fits _ _ _ _⟩,_,ha.put v hd,h⟩
def aT8{want:Bool}(hj:(ops[j]?).bind (·.dst)=some dj)(hb:look E dj=some (.bool want))
  (h:RL P ops C R N E ⟨d',op,t,pos,after,none⟩):RL P ops C R N E ⟨d',op,t,pos,after,some (j,want)⟩:=by
 intro a ha;obtain⟨v,hy,h2⟩:=h a ha;refine⟨v,.inl ⟨by rw[oT ha hj hb];simp,?_⟩,h2⟩;rcases hy with⟨_,hy⟩|⟨hw,_⟩
 .exact hy
 .simp[Region.wanted]at hw
def RL.no{want:Bool}(hj:(ops[j]?).bind (·.dst)=some dj)(hb:look E dj=some (.bool !want))(hd:Nat.blt d N=true)
  (h:R ((d,undef)::E)):RL P ops C R N E ⟨some d,op,t,pos,after,some (j,want)⟩:=
 λ_ ha=>⟨undef,.inr ⟨by rw[oT ha hj hb];cases want<;>rfl,rfl⟩,_,ha.put undef hd,h⟩
def WC.ord{id:Nat}{l:List Oper}{Q:Exit->Act->World->Prop}(xs:List Nat)(ord:List (Nat×Nat))(hm:P.follows .mixedOrders=true)(hs:Region.noSelect l.toArray=true)(hlen:ord.length=l.toArray.size)
  (bY:AQ .any l.toArray xs ord (Array.replicate l.toArray.size false)=true)
  (h:∀K:Env->World->Prop,(∀E w,WX Q .normal N E w->K E w)->∀w',Below w.heap.size w w'->w'.heap=w.heap->OL P l.toArray (λw'=>w'.heap=w.heap) K N E ord w'):WC P Q N E (.region id l.toArray true) w:=by
 intro a ha;have h1:=h (λE w=>WX Q .normal N E w) (λ_ _ h=>h) {w with drawn:=w.drawn+1} ⟨rfl,rfl,rfl,aAB _,λ_ _=>rfl⟩ rfl a ha;have h2:=NZ (H:=λw'=>w'.heap=w.heap) (Q:=Fin (λE w=>WX Q .normal N E w) N) hs (λc a b w h=>absurd h.1 BYS) ord _ a {w with drawn:=w.drawn+1} bY (.inr rfl) h1;rw[hlen]at h2;refine wp_mono (wp_region_any (id:=id) (Q:=Fin (λE w=>WX Q .normal N E w) N) hm (sQ _ _ _ _ h2)) ?_;rintro e a' w' ⟨rfl,E',uL,hK⟩;exact hK a' uL
end
end Rk
