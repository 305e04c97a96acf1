/- Part of the proof of TopSorts: words for steps of proofs. -/
import Derived.KernelRfl
set_option linter.all false
def BYO {P:Prop} (h:P:=by omega):P:=h
def BYS {P:Prop} (h:P:=by simp):P:=h
def BYD {P:Prop} (h:P:=by decide):P:=h
def BYT {P:Prop} (h:P:=by simp;omega):P:=h
def BYK {P:Prop} (h:P:=by kernel_rfl):P:=h
abbrev aAB:=@Nat.le_refl
abbrev aAx:=@Nat.lt_of_lt_of_le
abbrev aBJ:=@List.length_cons
abbrev aCH:=@Array.getElem?_eq_some_iff
abbrev aBh:=@List.length_append
abbrev aCQ:=@List.eq_nil_of_length_eq_zero
abbrev aBR:=@List.mem_append
abbrev aBg:=@Bool.and_eq_true
abbrev aBv:=@List.length_nil
abbrev aBS:=@Nat.le_trans
abbrev aAn:=@Nat.zero_add
abbrev aBI:=@List.mem_cons
abbrev aBm:=@List.mem_cons_of_mem
abbrev aCM:=@Array.getElem?_setIfInBounds_ne
abbrev aBT:=@List.size_toArray
abbrev aBw:=@List.mem_cons_self
abbrev aCr:=@Array.getElem?_setIfInBounds_self_of_lt
abbrev aBx:=@List.Perm.refl
abbrev aCG:=@List.pairwise_cons
abbrev aCJ:=@List.all_eq_true
abbrev aCU:=@List.getElem?_eq_none
abbrev aCd:=@Array.getD_eq_getD_getElem?
abbrev aC8:=@List.length_pos_iff
abbrev aCD:=@Nat.lt_or_ge
abbrev aBt:=@Nat.zero_le
abbrev aCN:=@List.length_map
abbrev aC1:=@Nat.mul_le_mul_right
abbrev aCX:=@List.getElem_mem
abbrev aC5:=@List.mem_range
abbrev aC6:=@List.length_drop
abbrev aCg:=@List.getElem?_cons_succ
abbrev aCu:=@List.getElem?_cons_zero
abbrev aCj:=@List.mem_singleton
abbrev aDB:=@List.perm_append_comm
abbrev aDC:=@List.Perm.append_left
abbrev aDZ:=@List.getElem?_eq_getElem
abbrev aCb:=@List.append_assoc
abbrev aCL:=@Nat.add_mul
abbrev aCR:=@List.all_cons
abbrev aD0:=@Classical.byContradiction
abbrev aDE:=@List.getElem?_toArray
abbrev aCl:=@Nat.eq_zero_or_pos
abbrev aDq:=@List.pairwise_iff_getElem
abbrev aC9:=@List.map_cons
abbrev aCq:=@List.cons_append
abbrev aDD:=@List.append_nil
abbrev aDr:=@List.perm_append_singleton
abbrev aDI:=@Array.getElem?_modify
abbrev aC0:=@Int.le_refl
abbrev aDe:=@List.getElem?_append_left
abbrev aDf:=@List.drop_eq_getElem_cons
abbrev aDF:=@List.nil_append
abbrev aCc:=@List.mem_map
abbrev aDg:=@Nat.lt_succ_iff_lt_or_eq
abbrev aD1:=@List.singleton_append
abbrev aD2:=@Classical.choose_spec
abbrev aDK:=@Array.getElem?_push
abbrev aG6:=@Option.some.inj
abbrev aD3:=@Int.toNat_natCast
abbrev aDh:=@List.getElem?_eq_some_iff
abbrev aD6:=@Nat.eq_of_beq_eq_true
abbrev aDs:=@List.flatMap_cons
abbrev aDt:=@List.getElem?_append_right
abbrev aDU:=@List.not_mem_nil
abbrev aDi:=@List.Perm.append_right
abbrev aDG:=@Int.le_trans
abbrev aDj:=@Bool.not_eq_true'
abbrev aDk:=@List.take_append_drop
abbrev aDl:=@Array.mem_of_getElem?
abbrev aD7:=@Array.append_empty
abbrev aDm:=@Nat.pow_le_pow_right
abbrev aD4:=@Array.mem_append
abbrev aDu:=@Option.some.injEq
abbrev aHp:=@List.eraseIdx_eq_take_drop_succ
abbrev aGe:=@Array.getElem?_eq_getElem
abbrev aDv:=@Option.bind_some
abbrev aD8:=@List.mem_toArray
abbrev aGf:=@Array.getElem?_replicate
abbrev aDH:=@Nat.one_mul
abbrev aGh:=@List.pairwise_append
abbrev aD9:=@List.nodup_cons
abbrev aER:=@List.mem_map_of_mem
abbrev aEZ:=@List.flatMap_append
abbrev aDV:=@Nat.add_zero
abbrev aDn:=@List.length_take
abbrev aDa:=@Array.mem_push
abbrev aFJ:=@Array.append_assoc
abbrev aDo:=@Option.map_some
abbrev aDp:=@List.map_append
abbrev aD5:=@Nat.sub_zero
abbrev aFS:=@Nat.lt_trichotomy
abbrev aGi:=@List.mem_of_mem_drop
abbrev aGm:=@List.map_congr_left
abbrev aGn:=@List.drop_succ_cons
abbrev aFV:=@Option.getD_some
abbrev aGr:=@List.getElem?_take
abbrev aIm:=@Array.getElem?_eq_none
abbrev aIn:=@Array.getElem?_setIfInBounds
abbrev aHt:=@Nat.le_of_ble_eq_true
abbrev aHu:=@List.length_singleton
abbrev aF1:=@List.drop_zero
abbrev aDW:=@Nat.pow_succ
abbrev aDX:=@Nat.mul_comm
abbrev aDb:=@List.map_toArray
abbrev aF2:=@List.Perm.nodup_iff
abbrev aF3:=@Array.length_toList
abbrev aGt:=@Array.size_setIfInBounds
abbrev aGu:=@Array.setIfInBounds_comm
abbrev aDc:=@Bool.or_eq_true
abbrev aHw:=@List.take_succ_eq_append_getElem
abbrev aFo:=@Array.getElem_map
abbrev aGx:=@Array.getElem?_append
abbrev aFu:=@List.take_length
abbrev aGQ:=@List.mem_flatMap
abbrev aGR:=@List.filter_cons
abbrev aHz:=@List.eq_nil_iff_forall_not_mem
abbrev aGy:=@Bool.false_or
abbrev aGz:=@List.range_eq_range'
abbrev aHB:=@Array.push_eq_append
abbrev aGV:=@List.range_succ
abbrev aHD:=@List.perm_iff_count
abbrev aDd:=@List.map_map
abbrev aHH:=@Nat.add_sub_cancel
abbrev aIA:=@List.getD_eq_getElem?_getD
abbrev aHK:=@List.countP_append
abbrev aHU:=@Bool.false_eq_true
abbrev aHZ:=@Array.foldl_toList
abbrev aH0:=@List.nodup_append
abbrev aH2:=@List.mem_range'_1
abbrev aH3:=@Nat.lt_succ_self
abbrev aID:=@Nat.add_sub_cancel_left
abbrev aH5:=@List.perm_middle
abbrev aH6:=@List.isEmpty_iff
abbrev aH7:=@List.getElem_map
abbrev aHa:=@List.ext_getElem
abbrev aGY:=@Nat.ne_of_lt
abbrev aIE:=@Nat.ne_of_beq_eq_false
abbrev aG2:=@Nat.add_comm
abbrev aIN:=@List.range_succ_eq_map
abbrev aG3:=@List.map_nil
abbrev aIQ:=@List.drop_of_length_le
abbrev aIo:=@List.drop_eq_nil_of_le
abbrev aIU:=@Bool.eq_iff_iff
abbrev aHe:=@Array.size_push
abbrev aIV:=@Nat.div_lt_iff_lt_mul
abbrev aIW:=@Array.getElem?_toList
abbrev aIZ:=@Array.getElem?_mapIdx
abbrev aIp:=@List.mem_append_left
abbrev aI2:=@Nat.mul_le_mul_left
abbrev aI5:=@List.take_succ_cons
abbrev aI6:=@List.getElem_range'
abbrev aI7:=@List.getElem_of_mem
abbrev aIq:=@Prod.mk.injEq
abbrev aHf:=@Bool.true_and
abbrev aHm:=@Array.mem_map
abbrev aIb:=@Array.getElem?_map
abbrev aId:=@Array.forIn_toList
abbrev aIe:=@Nat.lt_succ_of_lt
abbrev aIr:=@List.getElem?_map
abbrev aIs:=@List.foldl_append
abbrev aIh:=@List.count_append
abbrev aIi:=@List.all_map
abbrev aIj:=@List.zipIdx_cons
abbrev aIk:=@List.drop_length
namespace Rk
structure BX (X:Prop):Prop where
 out:X
variable {G X:Prop} (x:X)
include x
def bI (h:BX X->G:=by intro h;with_reducible (first|refine WL.aO aA.move ?_|refine WL.aO aA.assign ?_|refine aLP aOW ?_|refine aLP aOC ?_|refine WL.aO aMy ?_|refine WL.aO aRw ?_|refine WL.aO aRS ?_|refine WL.aO aRx ?_|refine WL.aO aOX ?_|refine WL.aO aP9 ?_|refine WL.aO aQ8 ?_|refine WL.aO aA.lss ?_|refine WL.aO aA.leq ?_|refine WL.aO aA.gtr ?_|refine WL.aO aA.geq ?_|refine WL.aO aA.add ?_|refine WL.aO aA.sub ?_|refine WL.aO aA.mul ?_|refine WL.aO aA.quo ?_|refine WL.aO aO6 ?_|refine WL.aO aO7 ?_|refine WL.aO aA.not ?_|refine WL.aO aMe ?_|refine WL.aO aMU ?_|refine WL.aO aA.extract ?_|refine WL.aO aMv ?_|refine WL.aO aPE ?_|refine WL.aO aM5 ?_|refine WL.aO aOH ?_|refine WL.aO aMh ?_|refine WL.aO aOY ?_|refine WL.aO aOe ?_|refine WL.aO aPl ?_|refine WL.aO aPm ?_|refine WL.aO aPo ?_|refine WL.aO aQI ?_|refine WL.aO aOr ?_|refine WL.aO aNr ?_|refine WL.aO aNT ?_|refine aPa ?_|refine aQw ?_|refine aQy ?_);exact h.out):G:=h ⟨x⟩
def cV (h:BX X->G:=by intro h;with_reducible (first|refine WL.aO aA.move ?_|refine WL.aO aA.assign ?_|refine aLP aOW ?_|refine aLP aQ9 ?_|refine aLP aOC ?_|refine WL.aO aMy ?_|refine WL.aO aRw ?_|refine WL.aO aRS ?_|refine WL.aO aRx ?_|refine WL.aO aOX ?_|refine WL.aO aP9 ?_|refine WL.aO aQ8 ?_|refine WL.aO aOs ?_|refine WL.aO aQD ?_|refine WL.aO aA.lss ?_|refine WL.aO aA.leq ?_|refine WL.aO aA.gtr ?_|refine WL.aO aA.geq ?_|refine WL.aO aA.add ?_|refine WL.aO aA.sub ?_|refine WL.aO aA.mul ?_|refine WL.aO aA.quo ?_|refine WL.aO aO6 ?_|refine WL.aO aO7 ?_|refine WL.aO aA.not ?_|refine WL.aO aMe ?_|refine WL.aO aMU ?_|refine WL.aO aA.extract ?_|refine WL.aO aMv ?_|refine WL.aO aPE ?_|refine WL.aO aM5 ?_|refine WL.aO aOH ?_|refine WL.aO aMh ?_|refine WL.aO aOY ?_|refine WL.aO aOe ?_|refine WL.aO aPl ?_|refine WL.aO aPm ?_|refine WL.aO aPo ?_|refine WL.aO aQI ?_|refine WL.aO aOr ?_|refine WL.aO aNr ?_|refine WL.aO aNT ?_|refine aPa ?_|refine aQw ?_|refine aQy ?_);exact h.out):G:=h ⟨x⟩
def iF (h:BX X->G:=by intro h;with_reducible (first|refine RL.aO aA.move ?_|refine RL.aO aA.assign ?_|refine aPF aOW ?_|refine aPF aOC ?_|refine aRA aOC ?_|refine RL.aO aMy ?_|refine RL.aO aP0 ?_|refine RL.aO aOX ?_|refine RL.aO aA.lss ?_|refine RL.aO aA.gtr ?_|refine RL.aO aA.add ?_|refine RL.aO aA.sub ?_|refine RL.aO aA.not ?_|refine RL.aO aMe ?_|refine RL.aO aMU ?_|refine RL.aO aM5 ?_|refine RL.aO aOH ?_|refine RL.aO aMh ?_|refine RL.aO aNr ?_|refine RL.aO aNT ?_|refine aRC ?_|refine aRa ?_);exact h.out):G:=h ⟨x⟩
def mT (h:BX X->G:=by intro h;with_reducible (first|refine QL.aO aA.move ?_|refine QL.aO aA.assign ?_|refine aMC aOW ?_|refine aMC aOC ?_|refine QL.aO aMy ?_|refine QL.aO aOX ?_|refine QL.aO aP9 ?_|refine QL.aO aPG ?_|refine QL.aO aA.lss ?_|refine QL.aO aA.leq ?_|refine QL.aO aA.gtr ?_|refine QL.aO aA.geq ?_|refine QL.aO aA.add ?_|refine QL.aO aA.sub ?_|refine QL.aO aA.mul ?_|refine QL.aO aA.quo ?_|refine QL.aO aO6 ?_|refine QL.aO aO7 ?_|refine QL.aO aA.not ?_|refine QL.aO aMe ?_|refine QL.aO aMU ?_|refine QL.aO aMv ?_|refine QL.aO aM5 ?_|refine QL.aO aMh ?_|refine aM9 ?_|refine aRb ?_|refine aRD ?_);exact h.out):G:=h ⟨x⟩
def bJ (h:BX X->G:=by intro h;with_reducible (first|refine aSH ?_|refine aSI ?_|refine aSK ?_|refine aRc ?_|refine aRd ?_|refine aRe ?_);exact h.out):G:=h ⟨x⟩
def jE (h:BX X->G:=by intro h;with_reducible (first|refine WC.block ?_|refine WC.skip ?_|refine WC.exit ?_|refine WC.ret ?_);exact h.out):G:=h ⟨x⟩
def jF (h:BX X->G:=by intro h;with_reducible (first|refine RL.aO aA.move ?_|refine RL.aO aA.assign ?_|refine aPF aOW ?_|refine aPF aOC ?_|refine aRA aOC ?_|refine RL.aO aMy ?_|refine RL.aO aP0 ?_|refine RL.aO aOX ?_|refine RL.aO aOs ?_|refine RL.aO aA.lss ?_|refine RL.aO aA.gtr ?_|refine RL.aO aA.add ?_|refine RL.aO aA.sub ?_|refine RL.aO aA.not ?_|refine RL.aO aMe ?_|refine RL.aO aMU ?_|refine RL.aO aM5 ?_|refine RL.aO aOH ?_|refine RL.aO aMh ?_|refine RL.aO aNr ?_|refine RL.aO aNT ?_|refine aRC ?_|refine aRa ?_);exact h.out):G:=h ⟨x⟩
def bL (h:BX X->G:=by intro h;with_reducible (first|refine WL.aO aOZ ?_|refine WL.aO aOf ?_|refine WL.aO aOg ?_|refine WL.aO aO0 ?_|refine WL.aO aO1 ?_|refine WL.aO aO2 ?_|refine WL.aO aLz ?_|refine aLP aO3 ?_|refine aLP aOh ?_|refine aLP aOi ?_|refine aLP aOI ?_|refine aLP aOJ ?_|refine aLP aO4 ?_|refine WL.aO aOR ?_|refine WL.aO aNg ?_|refine WL.aO aRf ?_|refine WL.aO aP1 ?_|refine aLP aQa ?_|refine aLP aSM ?_|refine aLP aNU ?_|refine aRg ?_|refine aRh ?_);exact h.out):G:=h ⟨x⟩
def tN (h:BX X->G:=by intro h;with_reducible (first|refine QL.aO aOZ ?_|refine QL.aO aOf ?_|refine QL.aO aOg ?_|refine QL.aO aO0 ?_|refine QL.aO aO1 ?_|refine QL.aO aO2 ?_|refine QL.aO aLz ?_|refine aMC aO3 ?_|refine aMC aOh ?_|refine aMC aOi ?_|refine aMC aOI ?_|refine aMC aOJ ?_|refine aMC aO4 ?_|refine QL.aO aOR ?_|refine QL.aO aNg ?_|refine QL.aO aRi ?_|refine QL.aO aP1 ?_|refine aMC aQa ?_|refine aMC aNU ?_|refine aSi ?_|refine aSk ?_);exact h.out):G:=h ⟨x⟩
def PF (h:BX X->G:=by intro h;with_reducible (first|refine QL.aO aA.move ?_|refine QL.aO aA.assign ?_|refine aMC aOW ?_|refine aMC aQ9 ?_|refine aMC aOC ?_|refine QL.aO aMy ?_|refine QL.aO aOX ?_|refine QL.aO aP9 ?_|refine QL.aO aPG ?_|refine QL.aO aOs ?_|refine QL.aO aQD ?_|refine QL.aO aA.lss ?_|refine QL.aO aA.leq ?_|refine QL.aO aA.gtr ?_|refine QL.aO aA.geq ?_|refine QL.aO aA.add ?_|refine QL.aO aA.sub ?_|refine QL.aO aA.mul ?_|refine QL.aO aA.quo ?_|refine QL.aO aO6 ?_|refine QL.aO aO7 ?_|refine QL.aO aA.not ?_|refine QL.aO aMe ?_|refine QL.aO aMU ?_|refine QL.aO aMv ?_|refine QL.aO aM5 ?_|refine QL.aO aMh ?_|refine aM9 ?_|refine aRb ?_|refine aRD ?_);exact h.out):G:=h ⟨x⟩
def SL (h:BX X->G:=by intro h;with_reducible (first|refine WL.aO aA.move ?_|refine WL.aO aA.assign ?_|refine WL.aO aA.lss ?_|refine WL.aO aA.leq ?_|refine WL.aO aA.gtr ?_|refine WL.aO aA.geq ?_|refine WL.aO aA.add ?_|refine WL.aO aA.sub ?_|refine WL.aO aA.mul ?_|refine WL.aO aA.quo ?_|refine WL.aO aO6 ?_|refine WL.aO aO7 ?_|refine WL.aO aA.not ?_|refine WL.aO aMe ?_|refine WL.aO aMU ?_|refine WL.aO aA.extract ?_|refine WL.aO aMv ?_|refine WL.aO aPE ?_|refine WL.aO aM5 ?_|refine WL.aO aOH ?_|refine WL.aO aMh ?_|refine WL.aO aOY ?_|refine WL.aO aOe ?_|refine WL.aO aPl ?_|refine WL.aO aPm ?_|refine WL.aO aPo ?_|refine WL.aO aQI ?_|refine WL.aO aOr ?_|refine WL.aO aNr ?_|refine WL.aO aNT ?_|refine aPa ?_|refine aQw ?_|refine aQy ?_);exact h.out):G:=h ⟨x⟩
def HX (h:BX X->G:=by intro h;with_reducible (first|refine RL.aO aA.move ?_|refine RL.aO aA.assign ?_|refine RL.aO aA.lss ?_|refine RL.aO aA.gtr ?_|refine RL.aO aA.add ?_|refine RL.aO aA.sub ?_|refine RL.aO aA.not ?_|refine RL.aO aMe ?_|refine RL.aO aMU ?_|refine RL.aO aM5 ?_|refine RL.aO aOH ?_|refine RL.aO aMh ?_|refine RL.aO aNr ?_|refine RL.aO aNT ?_|refine aRC ?_|refine aRa ?_);exact h.out):G:=h ⟨x⟩
def Gf (h:BX X->G:=by intro h;with_reducible (first|refine WL.aO aLz ?_|refine WL.aO aNd ?_|refine WL.aO aPH ?_|refine WL.aO aNl ?_|refine WL.aO aP2 ?_|refine aLP (aLN aJF) ?_|refine aLP (aLN aJR) ?_|refine aLP aOj ?_|refine aLP aOk ?_);exact h.out):G:=h ⟨x⟩
def Gh (h:BX X->G:=by intro h;with_reducible (first|refine RL.aO aOZ ?_|refine RL.aO aO0 ?_|refine RL.aO aO1 ?_|refine RL.aO aO2 ?_|refine RL.aO aLz ?_|refine aPF aO3 ?_|refine aPF aOI ?_|refine aPF aOJ ?_|refine aPF aO4 ?_);exact h.out):G:=h ⟨x⟩
def bB (h:BX X->G:=by intro h;(with_reducible repeat (first|refine SL ?_|refine WC.seq ?_|refine WC.region λK hK=>?_|refine jE ?_|refine bJ ?_|(refine WL.nil (hK _ _ ?_);try clear hK K)));exact h.out):G:=h ⟨x⟩
def uw (h:BX X->G:=by intro h;(with_reducible repeat (first|refine SL ?_|refine WC.region λK hK=>?_|refine jE ?_|refine bJ ?_|(refine WL.nil (hK _ _ ?_);try clear hK K)));exact h.out):G:=h ⟨x⟩
def uS (h:BX X->G:=by intro h;(with_reducible repeat (first|refine aRT ?_|refine HX ?_));exact h.out):G:=h ⟨x⟩
def EV (h:BX X->G:=by intro h;(with_reducible repeat (first|refine aQJ ?_|refine HX ?_));exact h.out):G:=h ⟨x⟩
def aB (h:BX X->G:=by intro h;(with_reducible repeat (first|refine bI ?_|refine WC.seq ?_|refine WC.region λK hK=>?_|refine jE ?_|(refine WL.nil (hK _ _ ?_);try clear hK K)|refine bJ ?_));exact h.out):G:=h ⟨x⟩
def PO (h:BX X->G:=by intro h;(with_reducible repeat (first|refine aQJ ?_|refine aRU ?_|refine iF ?_));exact h.out):G:=h ⟨x⟩
def IJ (h:BX X->G:=by intro h;(with_reducible repeat (first|refine bI ?_|refine WC.seq ?_|refine WC.region λK hK=>?_|refine WC.skip ?_|refine WC.exit ?_|refine WC.ret ?_|(refine WL.nil (hK _ _ ?_);try clear hK K)|refine bJ ?_));exact h.out):G:=h ⟨x⟩
def oD (h:BX X->G:=by intro h;(with_reducible repeat (first|refine mT ?_));exact h.out):G:=h ⟨x⟩
def aED (h:BX X->G:=by intro h;(with_reducible repeat (first|refine bI ?_|refine WC.region λK hK=>?_|refine jE ?_|(refine WL.nil (hK _ _ ?_);try clear hK K)|refine bJ ?_));exact h.out):G:=h ⟨x⟩
def xP (h:BX X->G:=by intro h;(with_reducible repeat (first|refine bI ?_|refine WC.seq ?_|refine WC.region λK hK=>?_|refine jE ?_|(refine WL.nil (hK _ _ ?_);try clear hK K)|refine bJ ?_|refine WL.aO aOZ ?_|refine WL.aO aOf ?_|refine WL.aO aOg ?_|refine WL.aO aO0 ?_|refine WL.aO aO1 ?_|refine WL.aO aO2 ?_|refine WL.aO aLz ?_|refine aLP aO3 ?_|refine aLP aOh ?_|refine aLP aOi ?_|refine aLP aOI ?_|refine aLP aOJ ?_|refine aLP aO4 ?_|refine WL.aO aOR ?_|refine WL.aO aNg ?_|refine aRg ?_|refine aRh ?_));exact h.out):G:=h ⟨x⟩
def uT (h:BX X->G:=by intro h;(with_reducible repeat (first|refine mT ?_|refine QL.aO aOZ ?_|refine QL.aO aOf ?_|refine QL.aO aOg ?_|refine QL.aO aO0 ?_|refine QL.aO aO1 ?_|refine QL.aO aO2 ?_|refine QL.aO aLz ?_|refine aMC aO3 ?_|refine aMC aOh ?_|refine aMC aOi ?_|refine aMC aOI ?_|refine aMC aOJ ?_|refine aMC aO4 ?_|refine QL.aO aOR ?_|refine QL.aO aNg ?_|refine aSi ?_|refine aSk ?_));exact h.out):G:=h ⟨x⟩
def CO (h:BX X->G:=by intro h;(with_reducible repeat (first|refine bI ?_|refine aQK ?_|refine aQM ?_|refine WC.region λK hK=>?_|refine jE ?_|(refine WL.nil (hK _ _ ?_);try clear hK K)|refine bJ ?_));exact h.out):G:=h ⟨x⟩
def Yg (h:BX X->G:=by intro h;(with_reducible repeat (first|refine aLo ?_|refine aLq ?_|refine iF ?_|refine Gh ?_));exact h.out):G:=h ⟨x⟩
def yF (h:BX X->G:=by intro h;(with_reducible repeat (first|refine bI ?_|refine WC.seq ?_|refine WC.region λK hK=>?_|refine jE ?_|(refine WL.nil (hK _ _ ?_);try clear hK K)|refine bJ ?_|refine bL ?_));exact h.out):G:=h ⟨x⟩
def Yh (h:BX X->G:=by intro h;(with_reducible repeat (first|refine mT ?_|refine tN ?_));exact h.out):G:=h ⟨x⟩
def fH (h:BX X->G:=by intro h;(with_reducible repeat (first|refine mT ?_|refine tN ?_|refine aMC aPb ?_));exact h.out):G:=h ⟨x⟩
def aTv (h:BX X->G:=by intro h;(with_reducible repeat (first|refine bI ?_|refine WC.seq ?_|refine WC.region λK hK=>?_|refine jE ?_|(refine WL.nil (hK _ _ ?_);try clear hK K)|refine bJ ?_|refine bL ?_|refine aLP aPb ?_));exact h.out):G:=h ⟨x⟩
def aTh (h:BX X->G:=by intro h;(with_reducible repeat (first|refine bI ?_|refine WC.seq ?_|refine WC.region λK hK=>?_|refine jE ?_|(refine WL.nil (hK _ _ ?_);try clear hK K)|refine bJ ?_|refine bL ?_));exact h.out):G:=h ⟨x⟩
def Yk (h:BX X->G:=by intro h;(with_reducible repeat (first|refine bI ?_|refine WC.seq ?_|refine WC.region λK hK=>?_|refine jE ?_|(refine WL.nil (hK _ _ ?_);try clear hK K)|refine bJ ?_|refine bL ?_|refine aLP aPb ?_));exact h.out):G:=h ⟨x⟩
def aTw (h:BX X->G:=by intro h;(with_reducible repeat (first|refine mT ?_|refine tN ?_|refine aMC aPb ?_));exact h.out):G:=h ⟨x⟩
def Ym (h:BX X->G:=by intro h;(with_reducible repeat (first|refine aLo ?_|refine aLq ?_|refine iF ?_|refine Gh ?_|refine RL.aO aP1 ?_));exact h.out):G:=h ⟨x⟩
def uU (h:BX X->G:=by intro h;(with_reducible repeat (first|refine aLo ?_|refine aLq ?_|refine iF ?_));exact h.out):G:=h ⟨x⟩
def aTd (h:BX X->G:=by intro h;(with_reducible repeat (first|refine mT ?_|refine tN ?_));exact h.out):G:=h ⟨x⟩
def Yo (h:BX X->G:=by intro h;(with_reducible repeat (first|refine bI ?_|refine WC.seq ?_|refine WC.region λK hK=>?_|refine jE ?_|(refine WL.nil (hK _ _ ?_);try clear hK K)|refine bJ ?_|refine WL.aO aRj ?_));exact h.out):G:=h ⟨x⟩
def p5 (h:BX X->G:=by intro h;(with_reducible repeat (first|refine bI ?_|refine WC.seq ?_|refine WC.region λK hK=>?_|refine jE ?_|(refine WL.nil (hK _ _ ?_);try clear hK K)|refine bJ ?_|refine WL.aO aLz ?_|refine WL.aO aQb ?_));exact h.out):G:=h ⟨x⟩
def p9 (h:BX X->G:=by intro h;(with_reducible repeat (first|refine bI ?_|refine WC.seq ?_|refine WC.region λK hK=>?_|refine jE ?_|(refine WL.nil (hK _ _ ?_);try clear hK K)|refine bJ ?_|refine WL.aO aPI ?_));exact h.out):G:=h ⟨x⟩
def r6 (h:BX X->G:=by intro h;(with_reducible repeat (first|refine aLo ?_|refine aLq ?_|refine iF ?_|refine RL.aO aLz ?_|refine RL.aO aPO ?_));exact h.out):G:=h ⟨x⟩
def Gn (h:BX X->G:=by intro h;(with_reducible repeat (first|refine bI ?_|refine WC.seq ?_|refine WC.region λK hK=>?_|refine jE ?_|(refine WL.nil (hK _ _ ?_);try clear hK K)|refine bJ ?_|refine WL.aO aLz ?_|refine WL.aO aPP ?_));exact h.out):G:=h ⟨x⟩
def Ys (h:BX X->G:=by intro h;(with_reducible repeat (first|refine mT ?_|refine QL.aO aLz ?_|refine QL.aO aPO ?_));exact h.out):G:=h ⟨x⟩
def Yt (h:BX X->G:=by intro h;(with_reducible repeat (first|refine aLo ?_|refine aLq ?_|refine iF ?_|refine RL.aO aLz ?_|refine RL.aO aPp ?_|refine RL.aO aPP ?_));exact h.out):G:=h ⟨x⟩
def aTn (h:BX X->G:=by intro h;(with_reducible repeat (first|refine bI ?_|refine WC.seq ?_|refine WC.region λK hK=>?_|refine jE ?_|(refine WL.nil (hK _ _ ?_);try clear hK K)|refine bJ ?_|refine WL.aO aPs ?_|refine WL.aO aQc ?_));exact h.out):G:=h ⟨x⟩
def mA (h:BX X->G:=by intro h;(with_reducible repeat (first|refine bI ?_|refine WC.seq ?_|refine WC.region λK hK=>?_|refine jE ?_|(refine WL.nil (hK _ _ ?_);try clear hK K)|refine bJ ?_|refine WL.aO aSN ?_));exact h.out):G:=h ⟨x⟩
def Yv (h:BX X->G:=by intro h;(with_reducible repeat (first|refine bI ?_|refine WC.seq ?_|refine WC.region λK hK=>?_|refine jE ?_|(refine WL.nil (hK _ _ ?_);try clear hK K)|refine bJ ?_|refine WL.aO aPq ?_|refine WL.aO aPr ?_));exact h.out):G:=h ⟨x⟩
def s7 (h:BX X->G:=by intro h;(with_reducible repeat (first|refine bI ?_|refine WC.seq ?_|refine WC.region λK hK=>?_|refine jE ?_|(refine WL.nil (hK _ _ ?_);try clear hK K)|refine bJ ?_|refine WL.aO aRk ?_));exact h.out):G:=h ⟨x⟩
def aTx (h:BX X->G:=by intro h;(with_reducible repeat (first|refine bI ?_|refine WC.seq ?_|refine WC.region λK hK=>?_|refine jE ?_|(refine WL.nil (hK _ _ ?_);try clear hK K)|refine bJ ?_|refine WL.aO aRV ?_));exact h.out):G:=h ⟨x⟩
def aTo (h:BX X->G:=by intro h;(with_reducible repeat (first|refine mT ?_|refine QL.aO aLz ?_|refine QL.aO aPO ?_|refine QL.aO aPs ?_));exact h.out):G:=h ⟨x⟩
def s9 (h:BX X->G:=by intro h;(with_reducible repeat (first|refine aLo ?_|refine aLq ?_|refine iF ?_|refine RL.aO aLz ?_|refine RL.aO aPO ?_|refine RL.aO aPp ?_|refine RL.aO aPP ?_));exact h.out):G:=h ⟨x⟩
def Yy (h:BX X->G:=by intro h;(with_reducible repeat (first|refine QL.aO aA.move ?_|refine QL.aO aA.assign ?_|refine QL.aO aA.lss ?_|refine QL.aO aA.leq ?_|refine QL.aO aA.gtr ?_|refine QL.aO aA.geq ?_|refine QL.aO aA.add ?_|refine QL.aO aA.sub ?_|refine QL.aO aA.mul ?_|refine QL.aO aA.quo ?_|refine QL.aO aO6 ?_|refine QL.aO aO7 ?_|refine QL.aO aA.not ?_|refine QL.aO aMe ?_|refine QL.aO aMU ?_|refine QL.aO aMv ?_|refine QL.aO aM5 ?_|refine QL.aO aMh ?_|refine aM9 ?_|refine aRb ?_|refine aRD ?_));exact h.out):G:=h ⟨x⟩
def u3 (h:BX X->G:=by intro h;(with_reducible repeat (first|refine bI ?_|refine WC.seq ?_|refine WC.region λK hK=>?_|refine jE ?_|(refine WL.nil (hK _ _ ?_);try clear hK K)|refine bJ ?_|refine WL.aO aMv ?_));exact h.out):G:=h ⟨x⟩
def uV (h:BX X->G:=by intro h;(with_reducible repeat (first|refine bI ?_|refine WC.seq ?_|refine WC.region λK hK=>?_|refine jE ?_|(refine WL.nil (hK _ _ ?_);try clear hK K)|refine bJ ?_|refine WL.aO aRE ?_));exact h.out):G:=h ⟨x⟩
def Yz (h:BX X->G:=by intro h;(with_reducible repeat (first|refine bI ?_|refine WC.seq ?_|refine WC.region λK hK=>?_|refine jE ?_|(refine WL.nil (hK _ _ ?_);try clear hK K)|refine bJ ?_|refine WL.aO aPC ?_|refine aLP aRW ?_|refine WL.aO aMv ?_));exact h.out):G:=h ⟨x⟩
def Gp (h:BX X->G:=by intro h;(with_reducible repeat (first|refine bI ?_|refine WC.seq ?_|refine WC.region λK hK=>?_|refine jE ?_|(refine WL.nil (hK _ _ ?_);try clear hK K)|refine bJ ?_|refine WL.aO aPJ ?_));exact h.out):G:=h ⟨x⟩
def u4 (h:BX X->G:=by intro h;(with_reducible repeat (first|refine bI ?_|refine WC.seq ?_|refine WC.region λK hK=>?_|refine jE ?_|(refine WL.nil (hK _ _ ?_);try clear hK K)|refine bJ ?_|refine WL.aO aRG ?_));exact h.out):G:=h ⟨x⟩
def u5 (h:BX X->G:=by intro h;(with_reducible repeat (first|refine bI ?_|refine WC.seq ?_|refine WC.region λK hK=>?_|refine jE ?_|(refine WL.nil (hK _ _ ?_);try clear hK K)|refine bJ ?_|refine WL.aO aPD ?_|refine aLP aRY ?_|refine WL.aO aPJ ?_));exact h.out):G:=h ⟨x⟩
def Zd (h:BX X->G:=by intro h;(with_reducible repeat (first|refine bI ?_|refine WC.seq ?_|refine WC.region λK hK=>?_|refine jE ?_|(refine WL.nil (hK _ _ ?_);try clear hK K)|refine bJ ?_|refine WL.aO aNy ?_));exact h.out):G:=h ⟨x⟩
def Ze (h:BX X->G:=by intro h;(with_reducible repeat (first|refine aLo ?_|refine aLq ?_|refine iF ?_));exact h.out):G:=h ⟨x⟩
def Zg (h:BX X->G:=by intro h;(with_reducible repeat (first|refine bI ?_|refine WC.seq ?_|refine WC.region λK hK=>?_|refine jE ?_|(refine WL.nil (hK _ _ ?_);try clear hK K)|refine bJ ?_|refine WL.aO aOl ?_));exact h.out):G:=h ⟨x⟩
def Zh (h:BX X->G:=by intro h;(with_reducible repeat (first|refine mT ?_|refine QL.aO aOl ?_|refine QL.aO aNy ?_));exact h.out):G:=h ⟨x⟩
def Zi (h:BX X->G:=by intro h;(with_reducible repeat (first|refine mT ?_|refine QL.aO aNy ?_));exact h.out):G:=h ⟨x⟩
def u6 (h:BX X->G:=by intro h;(with_reducible repeat (first|refine mT ?_|refine QL.aO aNy ?_));exact h.out):G:=h ⟨x⟩
def Zj (h:BX X->G:=by intro h;(with_reducible repeat (first|refine aLo ?_|refine aLq ?_|refine iF ?_|refine RL.aO aOl ?_|refine RL.aO aNy ?_));exact h.out):G:=h ⟨x⟩
def Gv (h:BX X->G:=by intro h;(with_reducible repeat (first|refine aLo ?_|refine aLq ?_|refine iF ?_|refine RL.aO aQd ?_));exact h.out):G:=h ⟨x⟩
def Zk (h:BX X->G:=by intro h;(with_reducible repeat (first|refine bI ?_|refine WC.seq ?_|refine WC.region λK hK=>?_|refine jE ?_|(refine WL.nil (hK _ _ ?_);try clear hK K)|refine bJ ?_|refine WL.aO aRH ?_));exact h.out):G:=h ⟨x⟩
def yI (h:BX X->G:=by intro h;(with_reducible repeat (first|refine bI ?_|refine WC.seq ?_|refine WC.region λK hK=>?_|refine jE ?_|(refine WL.nil (hK _ _ ?_);try clear hK K)|refine bJ ?_|refine WL.aO aLz ?_));exact h.out):G:=h ⟨x⟩
def Gw (h:BX X->G:=by intro h;(with_reducible repeat (first|refine bI ?_|refine WC.seq ?_|refine WC.region λK hK=>?_|refine jE ?_|(refine WL.nil (hK _ _ ?_);try clear hK K)|refine bJ ?_|refine WL.aO aOP ?_|refine WL.aO aOl ?_));exact h.out):G:=h ⟨x⟩
def SQ (h:BX X->G:=by intro h;(with_reducible repeat (first|refine bI ?_|refine WC.seq ?_|refine WC.region λK hK=>?_|refine jE ?_|(refine WL.nil (hK _ _ ?_);try clear hK K)|refine bJ ?_|refine WL.aO aOP ?_));exact h.out):G:=h ⟨x⟩
def u7 (h:BX X->G:=by intro h;(with_reducible repeat (first|refine aLo ?_|refine aLq ?_|refine iF ?_|refine RL.aO aOP ?_|refine RL.aO aPK ?_));exact h.out):G:=h ⟨x⟩
def u9 (h:BX X->G:=by intro h;(with_reducible repeat (first|refine aLo ?_|refine aLq ?_|refine iF ?_|refine RL.aO aPK ?_|refine RL.aO aQO ?_));exact h.out):G:=h ⟨x⟩
def SS (h:BX X->G:=by intro h;(with_reducible repeat (first|refine aLo ?_|refine aLq ?_|refine iF ?_|refine RL.aO aQd ?_|refine RL.aO aOd ?_));exact h.out):G:=h ⟨x⟩
def Zm (h:BX X->G:=by intro h;(with_reducible repeat (first|refine bI ?_|refine WC.seq ?_|refine WC.region λK hK=>?_|refine jE ?_|(refine WL.nil (hK _ _ ?_);try clear hK K)|refine bJ ?_|refine WL.aO aSo ?_));exact h.out):G:=h ⟨x⟩
def x6 (h:BX X->G:=by intro h;(with_reducible repeat (first|refine mT ?_|refine QL.aO aNy ?_|refine QL.aO aOd ?_));exact h.out):G:=h ⟨x⟩
def yJ (h:BX X->G:=by intro h;(with_reducible repeat (first|refine aLo ?_|refine aLq ?_|refine iF ?_|refine RL.aO aNy ?_));exact h.out):G:=h ⟨x⟩
def IP (h:BX X->G:=by intro h;(with_reducible repeat (first|refine bI ?_|refine WC.seq ?_|refine WC.region λK hK=>?_|refine jE ?_|(refine WL.nil (hK _ _ ?_);try clear hK K)|refine bJ ?_|refine WL.aO aLz ?_|refine WL.aO aOK ?_|refine WL.aO aOL ?_|refine WL.aO aQP ?_|refine WL.aO aQQ ?_|refine WL.aO aQF ?_|refine WL.aO aQR ?_|refine aLP (aLN Lg) ?_|refine aLP (aLN LR) ?_|refine aLP (aLN T7) ?_|refine aLP (aLN aN) ?_|refine WL.aO aRZ ?_));exact h.out):G:=h ⟨x⟩
def uW (h:BX X->G:=by intro h;(with_reducible repeat (first|refine bI ?_|refine WC.seq ?_|refine WC.region λK hK=>?_|refine jE ?_|(refine WL.nil (hK _ _ ?_);try clear hK K)|refine bJ ?_|refine WL.aO aRI ?_));exact h.out):G:=h ⟨x⟩
def aTi (h:BX X->G:=by intro h;(with_reducible repeat (first|refine aLo ?_|refine aLq ?_|refine iF ?_|refine RL.aO aLz ?_|refine RL.aO aOK ?_|refine RL.aO aOL ?_|refine RL.aO aQS ?_));exact h.out):G:=h ⟨x⟩
def SU (h:BX X->G:=by intro h;(with_reducible repeat (first|refine cV ?_|refine WC.seq ?_|refine WC.region λK hK=>?_|refine jE ?_|(refine WL.nil (hK _ _ ?_);try clear hK K)|refine bJ ?_|refine Gf ?_));exact h.out):G:=h ⟨x⟩
def eJ (h:BX X->G:=by intro h;(with_reducible repeat (first|refine aLo ?_|refine aLq ?_|refine jF ?_|refine RL.aO aLz ?_|refine RL.aO aNd ?_|refine RL.aO aNl ?_|refine RL.aO aNm ?_));exact h.out):G:=h ⟨x⟩
def Zs (h:BX X->G:=by intro h;(with_reducible repeat (first|refine PF ?_|refine QL.aO aLz ?_|refine QL.aO aNd ?_|refine QL.aO aOt ?_|refine QL.aO aNm ?_|refine aMC (aLN aJF) ?_|refine aMC (aLN aJR) ?_|refine aMC aOj ?_));exact h.out):G:=h ⟨x⟩
def uX (h:BX X->G:=by intro h;(with_reducible repeat (first|refine aQJ ?_|refine aRU ?_|refine jF ?_|refine RL.aO aLz ?_|refine RL.aO aNd ?_|refine RL.aO aNl ?_|refine RL.aO aNm ?_|refine aRA (aLN aJF) ?_|refine aRA aOj ?_));exact h.out):G:=h ⟨x⟩
def IQ (h:BX X->G:=by intro h;(with_reducible repeat (first|refine cV ?_|refine aQK ?_|refine aQM ?_|refine WC.region λK hK=>?_|refine jE ?_|(refine WL.nil (hK _ _ ?_);try clear hK K)|refine bJ ?_|refine Gf ?_));exact h.out):G:=h ⟨x⟩
def y0 (h:BX X->G:=by intro h;(with_reducible repeat (first|refine cV ?_|refine WC.seq ?_|refine WC.region λK hK=>?_|refine jE ?_|(refine WL.nil (hK _ _ ?_);try clear hK K)|refine bJ ?_|refine WL.aO aNG ?_|refine WL.aO aMo ?_|refine aLP (aLN aN) ?_));exact h.out):G:=h ⟨x⟩
def IS (h:BX X->G:=by intro h;(with_reducible repeat (first|refine cV ?_|refine WC.seq ?_|refine WC.region λK hK=>?_|refine jE ?_|(refine WL.nil (hK _ _ ?_);try clear hK K)|refine bJ ?_|refine WL.aO aLz ?_|refine WL.aO aOK ?_|refine WL.aO aOL ?_|refine aLP (aLN T7) ?_|refine aLP (aLN aN) ?_));exact h.out):G:=h ⟨x⟩
def oX (h:BX X->G:=by intro h;(with_reducible repeat (first|refine aLo ?_|refine aLq ?_|refine jF ?_|refine RL.aO aLz ?_|refine RL.aO aOK ?_|refine RL.aO aOL ?_|refine RL.aO aQS ?_));exact h.out):G:=h ⟨x⟩
def Zu (h:BX X->G:=by intro h;(with_reducible repeat (first|refine cV ?_|refine WC.seq ?_|refine WC.region λK hK=>?_|refine jE ?_|(refine WL.nil (hK _ _ ?_);try clear hK K)|refine bJ ?_));exact h.out):G:=h ⟨x⟩
def aS (h:BX X->G:=by intro h;(with_reducible repeat (first|refine cV ?_|refine WC.seq ?_|refine WC.region λK hK=>?_|refine jE ?_|(refine WL.nil (hK _ _ ?_);try clear hK K)|refine bJ ?_|refine WL.aO Hd.aNG ?_|refine WL.aO Hd.aMo ?_|refine aLP (aLN aN) ?_|refine aLP (aLN aGF) ?_|refine aLP (aLN MA) ?_|refine aLP Hd.aOk ?_|refine WL.aO Hd.aQf ?_|refine WL.aO aOb ?_));exact h.out):G:=h ⟨x⟩
def eK (h:BX X->G:=by intro h;(with_reducible repeat (first|refine cV ?_|refine aQK ?_|refine aQM ?_|refine WC.region λK hK=>?_|refine jE ?_|(refine WL.nil (hK _ _ ?_);try clear hK K)|refine bJ ?_));exact h.out):G:=h ⟨x⟩
def Zv (h:BX X->G:=by intro h;(with_reducible repeat (first|refine aLo ?_|refine aLq ?_|refine jF ?_|refine RL.aO Hd.aNG ?_|refine RL.aO Hd.aMo ?_|refine RL.aO aOD ?_));exact h.out):G:=h ⟨x⟩
def uY (h:BX X->G:=by intro h;(with_reducible repeat (first|refine cV ?_|refine WC.seq ?_|refine WC.region λK hK=>?_|refine WC.skip ?_|refine WC.exit ?_|refine WC.ret ?_|(refine WL.nil (hK _ _ ?_);try clear hK K)|refine bJ ?_));exact h.out):G:=h ⟨x⟩
def IT (h:BX X->G:=by intro h;(with_reducible repeat (first|refine cV ?_|refine WC.seq ?_|refine WC.region λK hK=>?_|refine jE ?_|(refine WL.nil (hK _ _ ?_);try clear hK K)|refine bJ ?_|refine WL.aO aNG ?_|refine WL.aO aMo ?_|refine aLP (aLN aN) ?_));exact h.out):G:=h ⟨x⟩
def y1 (h:BX X->G:=by intro h;(with_reducible repeat (first|refine cV ?_|refine WC.seq ?_|refine WC.region λK hK=>?_|refine jE ?_|(refine WL.nil (hK _ _ ?_);try clear hK K)|refine bJ ?_|refine WL.aO aOD ?_|refine aLP aQT ?_|refine WL.aO aOb ?_|refine WL.aO Hx.aNG ?_|refine WL.aO Hx.aMo ?_|refine aLP (aLN aN) ?_|refine WL.aO Hx.aPt ?_));exact h.out):G:=h ⟨x⟩
def IU (h:BX X->G:=by intro h;(with_reducible repeat (first|refine PF ?_));exact h.out):G:=h ⟨x⟩
def yM (h:BX X->G:=by intro h;(with_reducible repeat (first|refine PF ?_|refine QL.aO aOD ?_|refine aMC aQT ?_|refine QL.aO Hx.aMo ?_|refine QL.aO Hx.aQg ?_|refine aMC (aLN aN) ?_));exact h.out):G:=h ⟨x⟩
def Zx (h:BX X->G:=by intro h;(with_reducible repeat (first|refine aLo ?_|refine aLq ?_|refine jF ?_|refine RL.aO aOD ?_|refine RL.aO Hx.aMo ?_|refine RL.aO Hx.aQg ?_|refine RL.aO Hx.aPt ?_));exact h.out):G:=h ⟨x⟩
def Gy (h:BX X->G:=by intro h;(with_reducible repeat (first|refine aRT ?_|refine iF ?_));exact h.out):G:=h ⟨x⟩
omit x
variable {α:Type} {H X:α->Prop} (x:∀K,H K->X K)
include x
def lA (h:BX (∀K,H K->X K)->G:=by intro h;(with_reducible repeat (first|refine SL ?_|refine WC.seq ?_|refine WC.region λK hK=>?_|refine jE ?_|refine bJ ?_|(refine WL.nil (hK _ _ ?_);try clear hK K)));exact h.out K hK):G:=h ⟨x⟩
def aZ (h:BX (∀K,H K->X K)->G:=by intro h;(with_reducible repeat (first|refine bI ?_|refine WC.seq ?_|refine WC.region λK hK=>?_|refine jE ?_|(refine WL.nil (hK _ _ ?_);try clear hK K)|refine bJ ?_));exact h.out K hK):G:=h ⟨x⟩
def aTk (h:BX (∀K,H K->X K)->G:=by intro h;(with_reducible repeat (first|refine bI ?_|refine WC.seq ?_|refine WC.region λK hK=>?_|refine jE ?_|(refine WL.nil (hK _ _ ?_);try clear hK K)|refine bJ ?_|refine WL.aO aOZ ?_|refine WL.aO aOf ?_|refine WL.aO aOg ?_|refine WL.aO aO0 ?_|refine WL.aO aO1 ?_|refine WL.aO aO2 ?_|refine WL.aO aLz ?_|refine aLP aO3 ?_|refine aLP aOh ?_|refine aLP aOi ?_|refine aLP aOI ?_|refine aLP aOJ ?_|refine aLP aO4 ?_|refine WL.aO aOR ?_|refine WL.aO aNg ?_|refine aRg ?_|refine aRh ?_));exact h.out K hK):G:=h ⟨x⟩
def aTf (h:BX (∀K,H K->X K)->G:=by intro h;(with_reducible repeat (first|refine bI ?_|refine WC.seq ?_|refine WC.region λK hK=>?_|refine jE ?_|(refine WL.nil (hK _ _ ?_);try clear hK K)|refine bJ ?_|refine bL ?_));exact h.out K hK):G:=h ⟨x⟩
def o8 (h:BX (∀K,H K->X K)->G:=by intro h;(with_reducible repeat (first|refine bI ?_|refine WC.seq ?_|refine WC.region λK hK=>?_|refine jE ?_|(refine WL.nil (hK _ _ ?_);try clear hK K)|refine bJ ?_|refine bL ?_));exact h.out K hK):G:=h ⟨x⟩
def aTy (h:BX (∀K,H K->X K)->G:=by intro h;(with_reducible repeat (first|refine bI ?_|refine WC.seq ?_|refine WC.region λK hK=>?_|refine jE ?_|(refine WL.nil (hK _ _ ?_);try clear hK K)|refine bJ ?_|refine WL.aO aLz ?_|refine WL.aO aQb ?_));exact h.out K hK):G:=h ⟨x⟩
def aTl (h:BX (∀K,H K->X K)->G:=by intro h;(with_reducible repeat (first|refine bI ?_|refine WC.seq ?_|refine WC.region λK hK=>?_|refine jE ?_|(refine WL.nil (hK _ _ ?_);try clear hK K)|refine bJ ?_|refine WL.aO aLz ?_|refine WL.aO aPp ?_));exact h.out K hK):G:=h ⟨x⟩
def aTz (h:BX (∀K,H K->X K)->G:=by intro h;(with_reducible repeat (first|refine bI ?_|refine WC.seq ?_|refine WC.region λK hK=>?_|refine jE ?_|(refine WL.nil (hK _ _ ?_);try clear hK K)|refine bJ ?_|refine WL.aO aPI ?_|refine WL.aO aOc ?_|refine WL.aO aPq ?_));exact h.out K hK):G:=h ⟨x⟩
def aT4 (h:BX (∀K,H K->X K)->G:=by intro h;(with_reducible repeat (first|refine bI ?_|refine WC.seq ?_|refine WC.region λK hK=>?_|refine jE ?_|(refine WL.nil (hK _ _ ?_);try clear hK K)|refine bJ ?_|refine WL.aO aLz ?_|refine WL.aO aPP ?_));exact h.out K hK):G:=h ⟨x⟩
def aUA (h:BX (∀K,H K->X K)->G:=by intro h;(with_reducible repeat (first|refine bI ?_|refine WC.seq ?_|refine WC.region λK hK=>?_|refine jE ?_|(refine WL.nil (hK _ _ ?_);try clear hK K)|refine bJ ?_|refine WL.aO aPI ?_|refine WL.aO aOc ?_|refine WL.aO aPr ?_));exact h.out K hK):G:=h ⟨x⟩
def aTp (h:BX (∀K,H K->X K)->G:=by intro h;(with_reducible repeat (first|refine bI ?_|refine WC.seq ?_|refine WC.region λK hK=>?_|refine jE ?_|(refine WL.nil (hK _ _ ?_);try clear hK K)|refine bJ ?_|refine WL.aO aOc ?_|refine aLP aSl ?_));exact h.out K hK):G:=h ⟨x⟩
def s0 (h:BX (∀K,H K->X K)->G:=by intro h;(with_reducible repeat (first|refine bI ?_|refine WC.seq ?_|refine WC.region λK hK=>?_|refine jE ?_|(refine WL.nil (hK _ _ ?_);try clear hK K)|refine bJ ?_|refine WL.aO aPs ?_|refine WL.aO aQc ?_));exact h.out K hK):G:=h ⟨x⟩
def aUB (h:BX (∀K,H K->X K)->G:=by intro h;(with_reducible repeat (first|refine bI ?_|refine WC.seq ?_|refine WC.region λK hK=>?_|refine jE ?_|(refine WL.nil (hK _ _ ?_);try clear hK K)|refine bJ ?_|refine WL.aO aPq ?_|refine WL.aO aPr ?_));exact h.out K hK):G:=h ⟨x⟩
def aUC (h:BX (∀K,H K->X K)->G:=by intro h;(with_reducible repeat (first|refine bI ?_|refine WC.seq ?_|refine WC.region λK hK=>?_|refine jE ?_|(refine WL.nil (hK _ _ ?_);try clear hK K)|refine bJ ?_|refine WL.aO aPC ?_|refine aLP aRW ?_));exact h.out K hK):G:=h ⟨x⟩
def aUD (h:BX (∀K,H K->X K)->G:=by intro h;(with_reducible repeat (first|refine bI ?_|refine WC.seq ?_|refine WC.region λK hK=>?_|refine jE ?_|(refine WL.nil (hK _ _ ?_);try clear hK K)|refine bJ ?_|refine WL.aO aPJ ?_));exact h.out K hK):G:=h ⟨x⟩
def Zc (h:BX (∀K,H K->X K)->G:=by intro h;(with_reducible repeat (first|refine bI ?_|refine WC.seq ?_|refine WC.region λK hK=>?_|refine jE ?_|(refine WL.nil (hK _ _ ?_);try clear hK K)|refine bJ ?_|refine WL.aO aPD ?_|refine aLP aRY ?_));exact h.out K hK):G:=h ⟨x⟩
def CR (h:BX (∀K,H K->X K)->G:=by intro h;(with_reducible repeat (first|refine bI ?_|refine WC.seq ?_|refine WC.region λK hK=>?_|refine jE ?_|(refine WL.nil (hK _ _ ?_);try clear hK K)|refine bJ ?_|refine WL.aO aOd ?_|refine aLP aSn ?_));exact h.out K hK):G:=h ⟨x⟩
def aTq (h:BX (∀K,H K->X K)->G:=by intro h;(with_reducible repeat (first|refine bI ?_|refine WC.seq ?_|refine WC.region λK hK=>?_|refine jE ?_|(refine WL.nil (hK _ _ ?_);try clear hK K)|refine bJ ?_|refine WL.aO aNy ?_));exact h.out K hK):G:=h ⟨x⟩
def aTg (h:BX (∀K,H K->X K)->G:=by intro h;(with_reducible repeat (first|refine bI ?_|refine WC.seq ?_|refine WC.region λK hK=>?_|refine jE ?_|(refine WL.nil (hK _ _ ?_);try clear hK K)|refine bJ ?_|refine WL.aO aOl ?_));exact h.out K hK):G:=h ⟨x⟩
def aTr (h:BX (∀K,H K->X K)->G:=by intro h;(with_reducible repeat (first|refine bI ?_|refine WC.seq ?_|refine WC.region λK hK=>?_|refine jE ?_|(refine WL.nil (hK _ _ ?_);try clear hK K)|refine bJ ?_|refine WL.aO aQG ?_));exact h.out K hK):G:=h ⟨x⟩
def aTc (h:BX (∀K,H K->X K)->G:=by intro h;(with_reducible repeat (first|refine bI ?_|refine WC.seq ?_|refine WC.region λK hK=>?_|refine jE ?_|(refine WL.nil (hK _ _ ?_);try clear hK K)|refine bJ ?_|refine WL.aO aLz ?_));exact h.out K hK):G:=h ⟨x⟩
def aTs (h:BX (∀K,H K->X K)->G:=by intro h;(with_reducible repeat (first|refine bI ?_|refine WC.seq ?_|refine WC.region λK hK=>?_|refine jE ?_|(refine WL.nil (hK _ _ ?_);try clear hK K)|refine bJ ?_|refine WL.aO aOP ?_));exact h.out K hK):G:=h ⟨x⟩
def aTm (h:BX (∀K,H K->X K)->G:=by intro h;(with_reducible repeat (first|refine bI ?_|refine WC.seq ?_|refine WC.region λK hK=>?_|refine jE ?_|(refine WL.nil (hK _ _ ?_);try clear hK K)|refine bJ ?_|refine WL.aO aLz ?_|refine WL.aO aOK ?_|refine WL.aO aOL ?_|refine WL.aO aQP ?_|refine WL.aO aQQ ?_|refine WL.aO aQF ?_|refine WL.aO aQR ?_|refine aLP (aLN Lg) ?_|refine aLP (aLN LR) ?_|refine aLP (aLN T7) ?_|refine aLP (aLN aN) ?_|refine WL.aO aRZ ?_));exact h.out K hK):G:=h ⟨x⟩
def aUE (h:BX (∀K,H K->X K)->G:=by intro h;(with_reducible repeat (first|refine bI ?_|refine WC.seq ?_|refine WC.region λK hK=>?_|refine jE ?_|(refine WL.nil (hK _ _ ?_);try clear hK K)|refine bJ ?_|refine WL.aO aRl ?_));exact h.out K hK):G:=h ⟨x⟩
def aT9 (h:BX (∀K,H K->X K)->G:=by intro h;(with_reducible repeat (first|refine cV ?_|refine WC.seq ?_|refine WC.region λK hK=>?_|refine jE ?_|(refine WL.nil (hK _ _ ?_);try clear hK K)|refine bJ ?_|refine Gf ?_));exact h.out K hK):G:=h ⟨x⟩
def aTt (h:BX (∀K,H K->X K)->G:=by intro h;(with_reducible repeat (first|refine cV ?_|refine WC.seq ?_|refine WC.region λK hK=>?_|refine jE ?_|(refine WL.nil (hK _ _ ?_);try clear hK K)|refine bJ ?_|refine WL.aO aNG ?_|refine WL.aO aMo ?_|refine aLP (aLN aN) ?_));exact h.out K hK):G:=h ⟨x⟩
def Zt (h:BX (∀K,H K->X K)->G:=by intro h;(with_reducible repeat (first|refine cV ?_|refine WC.seq ?_|refine WC.region λK hK=>?_|refine jE ?_|(refine WL.nil (hK _ _ ?_);try clear hK K)|refine bJ ?_|refine WL.aO aLz ?_|refine WL.aO aOK ?_|refine WL.aO aOL ?_|refine aLP (aLN T7) ?_|refine aLP (aLN aN) ?_));exact h.out K hK):G:=h ⟨x⟩
def aMn (h:BX (∀K,H K->X K)->G:=by intro h;(with_reducible repeat (first|refine cV ?_|refine WC.seq ?_|refine WC.region λK hK=>?_|refine jE ?_|(refine WL.nil (hK _ _ ?_);try clear hK K)|refine bJ ?_));exact h.out K hK):G:=h ⟨x⟩
def eW (h:BX (∀K,H K->X K)->G:=by intro h;(with_reducible repeat (first|refine cV ?_|refine WC.seq ?_|refine WC.region λK hK=>?_|refine jE ?_|(refine WL.nil (hK _ _ ?_);try clear hK K)|refine bJ ?_|refine WL.aO Hd.aNG ?_|refine WL.aO Hd.aMo ?_|refine aLP (aLN aN) ?_|refine aLP (aLN aGF) ?_|refine aLP (aLN MA) ?_|refine aLP Hd.aOk ?_|refine WL.aO Hd.aQf ?_|refine WL.aO aOb ?_));exact h.out K hK):G:=h ⟨x⟩
def aUF (h:BX (∀K,H K->X K)->G:=by intro h;(with_reducible repeat (first|refine cV ?_|refine WC.seq ?_|refine WC.region λK hK=>?_|refine jE ?_|(refine WL.nil (hK _ _ ?_);try clear hK K)|refine bJ ?_|refine WL.aO aNG ?_|refine WL.aO aMo ?_|refine aLP (aLN aN) ?_));exact h.out K hK):G:=h ⟨x⟩
def aKY (h:BX (∀K,H K->X K)->G:=by intro h;(with_reducible repeat (first|refine cV ?_|refine WC.seq ?_|refine WC.region λK hK=>?_|refine jE ?_|(refine WL.nil (hK _ _ ?_);try clear hK K)|refine bJ ?_|refine WL.aO aOD ?_|refine aLP aQT ?_|refine WL.aO aOb ?_|refine WL.aO Hx.aNG ?_|refine WL.aO Hx.aMo ?_|refine aLP (aLN aN) ?_|refine WL.aO Hx.aPt ?_));exact h.out K hK):G:=h ⟨x⟩
end Rk
