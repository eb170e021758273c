/- Short names for what stands in the texts again and again. No program in sight. -/
import Derived.Below
import Derived.Laws.Rows
namespace Go.Proofs.YtdmeoldcifddiaaGreatDoor
open Go Go.RowKit
def Hd (p:Prop):Prop:=p
theorem Hd.o {p:Prop}(h:Hd p):p:=h
theorem Hd.out {p:Prop}(h:Hd p):p:=h
variable {n o:Nat}{p q r s t u v x:Prop}{α:Sort _}{w:World}
theorem dh (h:p):Hd p:=h
theorem lR:n<=n:=Nat.le_refl n
theorem bR:Below n w w:=Below.refl n w
theorem xQ (a:α):∃x,a=x:=⟨a,rfl⟩
theorem xR (a:α):∃x,x=a:=⟨a,rfl⟩
theorem bC {g:Nat}{w':World}{v:Option Value}(hb:Below n w w')(h:g<n)(k:w.cell? ⟨g,o,none⟩=v):w'.cell? ⟨g,o,none⟩=v:=(hb.cell (p:=⟨g,o,none⟩) h).trans k
theorem cR {b T:Nat}{cs:Array Value}{v:Value}(h:w.heap[b]? =some (.cells cs T (0,0)))(e:cs[o]? =some v:=by rfl):w.cell? ⟨b,o,none⟩=some v:=by
  rw[cell_of_row _ _ _ _ _ (0,0) h];exact e
/-- What stands in a cell. -/
abbrev q9 (w:World)(b o:Nat)(v:Value):Prop:=w.cell? ⟨b,o,none⟩=some v
abbrev gD:= @List.getD_eq_getElem?_getD
abbrev gE:= @List.getElem?_eq_getElem
abbrev gB:= @List.getElem?_eq_some_iff
abbrev aI:= @Array.getElem?_eq_some_iff
abbrev tN:= @Int.toNat_natCast
abbrev gC:= @List.getElem?_append_left
abbrev gR:= @List.getElem?_append_right
abbrev lA:= @List.length_append
abbrev mM:= @List.getElem_mem
abbrev mS:= @List.mem_singleton
abbrev tL:= @List.take_of_length_le
abbrev wI:= @IntKind.wrap_i64
theorem iw (a:p)(b:q):Hd p/\Hd q:=⟨dh a,dh b⟩
theorem iA (a:p)(b:q)(c:r):Hd p/\Hd q/\Hd r:=⟨dh a,dh b,dh c⟩
theorem iB (a:p)(b:q)(c:r)(d:s):Hd p/\Hd q/\Hd r/\Hd s:=⟨dh a,dh b,dh c,dh d⟩
theorem iC (a:p)(b:q)(c:r)(d:s)(e:t):Hd p/\Hd q/\Hd r/\Hd s/\Hd t:=⟨dh a,dh b,dh c,dh d,dh e⟩
theorem dh6 (a:p)(b:q)(c:r)(d:s)(e:t)(f:u):Hd p/\Hd q/\Hd r/\Hd s/\Hd t/\Hd u:=⟨dh a,dh b,dh c,dh d,dh e,dh f⟩
theorem iD (a:p)(b:q)(c:r)(d:s)(e:t)(f:u)(g:v):Hd p/\Hd q/\Hd r/\Hd s/\Hd t/\Hd u/\Hd v:=⟨dh a,dh b,dh c,dh d,dh e,dh f,dh g⟩
theorem dh8 (a:p)(b:q)(c:r)(d:s)(e:t)(f:u)(g:v)(h:x):Hd p/\Hd q/\Hd r/\Hd s/\Hd t/\Hd u/\Hd v/\Hd x:=⟨dh a,dh b,dh c,dh d,dh e,dh f,dh g,dh h⟩
theorem dh9 {y:Prop}(a:p)(b:q)(c:r)(d:s)(e:t)(f:u)(g:v)(h:x)(i:y):Hd p/\Hd q/\Hd r/\Hd s/\Hd t/\Hd u/\Hd v/\Hd x/\Hd y:=⟨dh a,dh b,dh c,dh d,dh e,dh f,dh g,dh h,dh i⟩
theorem ω (h:p:=by omega):p:=h
theorem κ (h:p:=by kernel_rfl):p:=h
theorem δ (h:p:=by decide):p:=h
theorem ς (h:p:=by simp):p:=h
theorem γ (h:p:=by grind):p:=h
theorem μ (h:p:=by assumption):p:=h
theorem ξ (h:p:=by simp_all):p:=h
abbrev d9:= @if_neg
abbrev jc:= @List.mem_cons_of_mem
abbrev jd:= @if_pos
abbrev jh:= @Nat.lt_of_lt_of_le
abbrev jg:= @List.mem_map
abbrev ji:= @List.mem_cons_self
abbrev jm:= @Bool.and_eq_true
abbrev jk:= @List.mem_cons
abbrev jq:= @List.length_take
abbrev jw:= @List.ext_getElem
abbrev jy:= @List.mem_of_getElem?
abbrev jl:= @List.mem_range
abbrev jr:= @List.length_map
abbrev jv:= @List.eq_nil_of_length_eq_zero
abbrev jM:= @congrArg
abbrev jN:= @decide_eq_true_eq
abbrev jR:= @List.all_eq_true
abbrev jT:= @List.map_append
abbrev jL:= @List.mem_filter
abbrev jW:= @BitVec.ofInt_natCast
abbrev jY:= @Option.some.inj
abbrev jK:= @List.foldl_append
abbrev jO:= @List.length_filter_le
abbrev j5:= @Nat.mod_eq_of_lt
abbrev jZ:= @List.foldl_cons
abbrev ko:= @BitVec.toNat_ofNat
abbrev jP:= @List.length_cons
abbrev ku:= @List.filter_append
abbrev jX:= @List.mem_append_left
abbrev jU:= @List.length_singleton
abbrev kD:= @of_decide_eq_true
abbrev jQ:= @List.getElem?_eq_none
abbrev jo:= @List.mem_append
abbrev kF:= @beq_eq_false_iff_ne
abbrev kJ:= @Nat.lt_of_le_of_lt
abbrev j6:= @List.map_congr_left
abbrev kQ:= @List.setIfInBounds_toArray
abbrev kH:= @List.take_length
abbrev kM:= @List.mem_append_right
abbrev kT:= @List.any_eq_true
abbrev kL:= @List.length_range
abbrev lI:= @Nat.pow_le_pow_right
abbrev lC:= @List.countP_cons
abbrev kC:= @List.not_mem_nil
abbrev lK:= @List.take_append_drop
abbrev lS:= @List.drop_eq_getElem_cons
abbrev lJ:= @List.getElem_map
abbrev lg:= @List.append_assoc
abbrev kZ:= @List.append_nil
abbrev kR:= @List.getElem?_map
abbrev lW:= @List.set_cons_zero
abbrev lQ:= @List.set_cons_succ
abbrev lU:= @Exists.choose_spec
abbrev lG:= @Bool.eq_iff_iff
abbrev lD:= @List.length_nil
abbrev lZ:= @List.mem_iff_getElem
abbrev kG:= @List.getElem?_set_ne
abbrev l6:= @Nat.eq_of_testBit_eq
abbrev mh:= @List.range_succ
abbrev jS:= @Option.getD_some
abbrev mq:= @List.getElem_set
abbrev mE:= @List.getElem?_set
abbrev kE:= @List.map_cons
abbrev mH:= @Option.map_eq_some_iff
abbrev l9:= @List.getElem_range
abbrev l7:= @List.getElem?_set_self
abbrev kX:= @Bool.or_eq_true
abbrev nO:= @List.foldl_nil
abbrev lH:= @Bool.true_and
abbrev mP:= @List.nodup_append
abbrev mO:= @List.idxOf_lt_length_of_mem
abbrev mQ:= @decide_eq_false_iff_not
abbrev mR:= @Nat.zero_le
abbrev mV:= @List.getElem?_of_mem
abbrev lM:= @List.nil_append
abbrev mY:= @BitVec.toNat_and
abbrev kW:= @List.filter_cons
abbrev mK:= @List.idxOf_append
abbrev nC:= @Array.setIfInBounds_comm
abbrev lN:= @List.filter_nil
abbrev lX:= @List.map_set
abbrev mF:= @Nat.mul_le_mul_right
abbrev lu:= @List.cons_append
abbrev mD:= @Nat.add_assoc
abbrev nG:= @Nat.add_zero
abbrev nN:= @Int.tmod_eq_emod_of_nonneg
abbrev ng:= @Nat.zero_add
abbrev l8:= @List.flatMap_cons
abbrev nP:= @Nat.or_lt_two_pow
abbrev nL:= @List.filter_eq_nil_iff
abbrev nT:= @List.length_pos_iff
abbrev nu:= @List.filter_eq_self
abbrev mg:= @Nat.min_eq_left
abbrev mU:= @Nat.mul_one
abbrev nE:= @List.length_set
abbrev mJ:= @List.length_replicate
abbrev nH:= @List.map_replicate
abbrev nW:= @Nat.lt_succ_self
abbrev mX:= @List.pairwise_append
abbrev nY:= @Int.eq_ofNat_of_zero_le
abbrev nK:= @List.getElem?_replicate
abbrev jV:= @List.getElem?_cons_zero
abbrev og:= @List.nodup_cons
abbrev nZ:= @List.dropLast_concat_getLast
abbrev mI:= @Array.length_toList
abbrev l5:= @List.map_nil
abbrev nX:= @List.getElem?_take
abbrev nV:= @List.countP_le_length
abbrev kg:= @List.getElem?_toArray
abbrev mG:= @Classical.byContradiction
abbrev nR:= @List.take_succ_eq_append_getElem
abbrev nI:= @if_false
abbrev nQ:= @List.map_map
abbrev oF:= @Nat.pow_lt_pow_right
abbrev oH:= @Array.all_eq_true_iff_forall_mem
abbrev oC:= @Array.replicate_succ
abbrev oI:= @Bool.false_or
abbrev nA:= @or_false
abbrev ou:= @decide_eq_decide
abbrev nM:= @Bool.false_and
abbrev oK:= @Nat.mul_le_mul
abbrev lT:= @List.map_toArray
abbrev oL:= @List.take_append_of_le_length
abbrev lV:= @beq_iff_eq
abbrev oN:= @Nat.succ_mul
abbrev oG:= @Nat.lt_or_ge
abbrev mZ:= @Nat.sub_self
abbrev oh:= @Array.getElem?_eq_none
abbrev oO:= @Nat.and_le_left
abbrev lF:= @Nat.testBit_and
abbrev oP:= @List.any_append
abbrev oQ:= @Option.map_some
abbrev oV:= @List.countP_mono_left
abbrev o7:= @List.filter_congr
abbrev o9:= @List.range_eq_range'
abbrev nS:= @Nat.le_of_lt
abbrev nJ:= @Nat.zero_testBit
abbrev pF:= @Nat.shiftRight_eq_div_pow
abbrev pG:= @List.dropWhile_cons
abbrev nU:= @Nat.testBit_two_pow
abbrev pI:= @Array.toList_modify
abbrev oU:= @List.cons.injEq
abbrev pQ:= @List.pairwise_cons
abbrev lY:= @List.getElem?_cons_succ
abbrev pR:= @Bool.eq_false_iff
abbrev om:= @List.getElem_cons_zero
abbrev pW:= @Nat.lt_trans
abbrev oM:= @List.drop_eq_nil_of_le
abbrev pX:= @List.take_zero
abbrev pY:= @Array.mem_of_getElem?
abbrev p9:= @List.eq_nil_or_concat
abbrev qg:= @ByteArray.size_append
abbrev pq:= @List.mem_flatMap
abbrev pE:= @Nat.le_of_not_lt
abbrev pJ:= @Nat.lt_irrefl
abbrev qo:= @List.getLast?_concat
abbrev oD:= @Array.replicate_zero
abbrev qz:= @List.sum_append
abbrev pK:= @Nat.not_lt_zero
abbrev qy:= @Int.ediv_nonneg
abbrev qA:= @List.getD_cons_succ
abbrev oJ:= @List.append_toArray
abbrev qF:= @Nat.mul_comm
abbrev qI:= @Nat.mod_lt
abbrev qG:= @Nat.and_one_is_mod
abbrev pO:= @List.countP_append
abbrev mW:= @Bool.false_eq_true
abbrev qL:= @List.append_of_mem
abbrev qM:= @Prod.mk.inj
abbrev pz:= @if_true
end Go.Proofs.YtdmeoldcifddiaaGreatDoor
