/- For every input the law NeverBoth returns true, and what is handed in reads as it did; the library's tables that it reads are tied to the program's text. -/
import Derived.Test.YtdmeoldcifddiaaGreatDoorZaq
set_option maxRecDepth 100000
namespace Go.Proofs.YtdmeoldcifddiaaGreatDoor
open Go.ChangeShapes Go.WideShapes Go.ChangeAt Go.RowKit
theorem MZ (os:Os)(started:os.Started)(H:Type)(enc:TypeId×Value->H):
  ReturnsInHanded {} Tryz.checked os 4 .any (λw args=>(Rows.neverBothSpec.pre enc Tryz.prog Tryz.f4 [] false w args/\laidMetH Tryz.prog [("math/bits.deBruijn32tab",Rows.laid_math_bits_deBruijn32tab),("math/bits.deBruijn64tab",Rows.laid_math_bits_deBruijn64tab),("internal/strconv.uint64pow10",Rows.laid_internal_strconv_uint64pow10)] w)/\sizedMet enc Tryz.prog Tryz.f4 (OpenSpec.ofChange Rows.neverBothSpec) false w args)
   (Rows.neverBothSpec.post enc Tryz.prog Tryz.f4 false true false false):=by
 refine returnsInHanded_of_change_and (C:=Tryz.checked) (X:=λw _=>laidMetH Tryz.prog [("math/bits.deBruijn32tab",Rows.laid_math_bits_deBruijn32tab),("math/bits.deBruijn64tab",Rows.laid_math_bits_deBruijn64tab),("internal/strconv.uint64pow10",Rows.laid_internal_strconv_uint64pow10)] w) (λ_ _ _ S h=>h.of_heap S) own started (by kernel_rfl) Tryz.func4
  (ChangeSpec.witness_shaped (enc:=enc) (C:=Tryz.checked) (os:=os) (X:=λw _=>laidMetH Tryz.prog [("math/bits.deBruijn32tab",Rows.laid_math_bits_deBruijn32tab),("math/bits.deBruijn64tab",Rows.laid_math_bits_deBruijn64tab),("internal/strconv.uint64pow10",Rows.laid_internal_strconv_uint64pow10)] w) false (World.doorLaid Tryz.prog 24 os) #[.slice none 0 0,.agg #[.slice none 0 0,.slice none 0 0]] 8 rfl (World.shaped_of_RefB (by kernel_rfl) (by kernel_rfl)) (by kernel_rfl) (by kernel_rfl) (by kernel_rfl) (J7 os _)) ?_
 intro W base args ds gs before a K hcnd k T _;have L:=Ep T;have i:(DataW.weightsEach Tryz.prog (Tryz.f4.params.toList++Rows.neverBothSpec.plain.varTypes Tryz.prog) (ds++gs)).all (· <=reachBytes)=true:=k;have hval:∀(j:Nat) t v,Tryz.f4.params[j]? =some t->args[j]? =some v->Value.okWide Tryz.prog W .any base t v:=a;have o:=K;obtain⟨p,q,l,U,rfl,V,Y⟩:=K;have hA:DataW.TrodAll enc Tryz.prog W 0 (λ_=>true) true Tryz.f4.params.toList args.toList ds p:=l;rw[Tryz.params4]at hA hval i;obtain⟨v0,Z,d0,a1,p0,q0,r,rfl,rfl,M,r0⟩:=trodAll_cons hA;obtain⟨v1,a6,d1,a7,p1,q1,rfl,rfl,rfl,N,r1⟩:=trodAll_cons r0;obtain⟨rfl,rfl,rfl⟩:=trodAll_nil r1;obtain rfl:args=#[v0,v1]:=by cases args;simp_all
 obtain⟨rfl,rfl⟩:=trodVars_none U;have O:=M;have s:Small Tryz.prog 22 d0:=EM i (j:=0) rfl rfl;have u:∀x∈p0,x.block<W.1.size:=by obtain⟨m,hm⟩:=O;exact DataW.trod_lt m _ _ _ hm
 obtain⟨a0,P,n,rfl⟩:=okWide_slice Tryz.underlying22 (hval 0 22 v0 rfl rfl);obtain⟨y,z⟩:=M;obtain⟨A0,c0,f0,g,B,w0,b⟩:=Hf Tryz.underlying22 Tryz.underlying44 (by kernel_rfl) (by kernel_rfl) Tryz.underlying3 Tryz.underlying3 z s;rw[show Tryz.prog.bytesOf 44=16 from by kernel_rfl]at b;simp only[reachBytes]at b;replace b:f0.length<=8796093022208:=by omega
 simp[Value.cells]at g;obtain⟨rfl,rfl,rfl⟩:=g;have Q:=N;have D:Small Tryz.prog 25 d1:=EM i (j:=1) rfl rfl;have E:∀x∈p1,x.block<W.1.size:=by obtain⟨m,hm⟩:=Q;exact DataW.trod_lt m _ _ _ hm
 obtain⟨A1,c1,l1,B1,F,R,G,I,J,c,d,w1,z1⟩:=V7 Tryz.underlying25 (by kernel_rfl) (by kernel_rfl) rfl rfl Tryz.underlying23 Tryz.underlying23 (by kernel_rfl) (by kernel_rfl) Tryz.underlying45 Tryz.underlying45 (hval 1 25 v1 rfl rfl) N D;subst G;rw[show Tryz.prog.bytesOf 45=8 from by kernel_rfl]at c d;simp only[reachBytes]at c d;replace c:l1.length<=17592186044416:=by omega
 replace d:R.length<=17592186044416:=by omega
 clear l a;refine(Rj a0 n f0 A1 B1 _ c1 _ F l1 R W B ⟨I,J,rfl,rfl⟩ b w1 z1 c d L (OU L)).mono λe W' ⟨he,xq⟩=>?_
 subst he;exact⟨_,rfl,_,_,_,[],_,[],o,trodAll_mk1 (shut_bool Tryz.underlying4 _),(trodAll_cons_mk (Below.trod laidOut (by kernel_rfl) (kD (by kernel_rfl)) O xq u) (trodAll_cons_mk (Below.trod laidOut (by kernel_rfl) (kD (by kernel_rfl)) Q xq E) trodAll_mk0)),rfl,xq.frame _,λh=>by cases h⟩
theorem NW:Rows.NeverBothSaid:=
 OpenClaim.holds_of_wide 4 Tryz.f4 rfl rfl rfl rfl rfl rfl rfl ⟨rfl,rfl,rfl,rfl,rfl⟩ rfl rfl rfl rfl rfl (by kernel_rfl) Tryz.func4 (by kernel_rfl)
  (kD (by kernel_rfl)) (by unfold Func.isWrapper;first|(rw[jd (by decide +kernel)];kernel_rfl)|(rw[d9 (by decide +kernel)];exact⟨rfl,rfl⟩))
  (λos started H enc _=>MZ os started H enc)
theorem NeverBoth_card:Rows.NeverBothCardSaid:=
 Claim7.holds_tied_plain_at .later [] [.data,.data,.data] true _ false
  NW (λ_ h=>by cases h) (by kernel_rfl) (λ_ h=>by cases h) neverBoth_row_tie rfl ⟨rfl,rfl⟩ (by kernel_rfl) rfl
  (λf fn hf a=>by
   obtain rfl:f=4:=jY ((show Tryz.prog.funcNamed "lariat/lariatlaw34.NeverBoth" =some 4 by kernel_rfl).symm.trans hf) |>.symm;obtain rfl:fn=Tryz.f4:=(jY (Tryz.func4.symm.trans a)).symm
   exact⟨by kernel_rfl,λj t b=>by
    rw[Tryz.params4]at b;have hm:=pY b;exact Hq hm (by kernel_rfl)⟩)
  (by kernel_rfl)
#print axioms NeverBoth_card
end Go.Proofs.YtdmeoldcifddiaaGreatDoor
