/- For every input the law NeverSmall returns true, and what is handed in reads as it did; the library's tables that it reads are tied to the program's text. -/
import Derived.Test.YtdmeoldcifddiaaGreatDoorZaq
set_option maxRecDepth 100000
namespace Go.Proofs.YtdmeoldcifddiaaGreatDoor
open Go.ChangeShapes Go.WideShapes Go.ChangeAt Go.RowKit
theorem LK (os:Os)(started:os.Started)(H:Type)(enc:TypeId×Value->H):
  ReturnsInHanded {} Tryz.checked os 5 .any (λw args=>(Rows.neverSmallSpec.pre enc Tryz.prog Tryz.f5 [] false w args/\laidMetH Tryz.prog [("math/bits.deBruijn32tab",Rows.laid_math_bits_deBruijn32tab),("math/bits.deBruijn64tab",Rows.laid_math_bits_deBruijn64tab),("internal/strconv.uint64pow10",Rows.laid_internal_strconv_uint64pow10)] w)/\sizedMet enc Tryz.prog Tryz.f5 (OpenSpec.ofChange Rows.neverSmallSpec) false w args)
   (Rows.neverSmallSpec.post enc Tryz.prog Tryz.f5 false true false false):=by
 refine returnsInHanded_of_change_and (C:=Tryz.checked) (X:=λw _=>laidMetH Tryz.prog [("math/bits.deBruijn32tab",Rows.laid_math_bits_deBruijn32tab),("math/bits.deBruijn64tab",Rows.laid_math_bits_deBruijn64tab),("internal/strconv.uint64pow10",Rows.laid_internal_strconv_uint64pow10)] w) (λ_ _ _ G h=>h.of_heap G) own started (by kernel_rfl) Tryz.func5
  (ChangeSpec.witness_shaped (enc:=enc) (C:=Tryz.checked) (os:=os) (X:=λw _=>laidMetH Tryz.prog [("math/bits.deBruijn32tab",Rows.laid_math_bits_deBruijn32tab),("math/bits.deBruijn64tab",Rows.laid_math_bits_deBruijn64tab),("internal/strconv.uint64pow10",Rows.laid_internal_strconv_uint64pow10)] w) false (World.doorLaid Tryz.prog 24 os) #[.slice none 0 0] 8 rfl (World.shaped_of_RefB (by kernel_rfl) (by kernel_rfl)) (by kernel_rfl) (by kernel_rfl) (by kernel_rfl) (J7 os _)) ?_
 intro W base args ds gs before a z hcnd d I _;have B:=Ep I;have g:(DataW.weightsEach Tryz.prog (Tryz.f5.params.toList++Rows.neverSmallSpec.plain.varTypes Tryz.prog) (ds++gs)).all (· <=reachBytes)=true:=d;have hval:∀(j:Nat) t v,Tryz.f5.params[j]? =some t->args[j]? =some v->Value.okWide Tryz.prog W .any base t v:=a;have l:=z;obtain⟨p,q,i,J,rfl,K,L⟩:=z;have hA:DataW.TrodAll enc Tryz.prog W 0 (λ_=>true) true Tryz.f5.params.toList args.toList ds p:=i;rw[Tryz.params5]at hA hval g;obtain⟨v0,M,d0,N,O,Q,n,rfl,rfl,D,P⟩:=trodAll_cons hA;obtain⟨rfl,rfl,rfl⟩:=trodAll_nil P;obtain rfl:args=#[v0]:=by cases args;simp_all
 obtain⟨rfl,rfl⟩:=trodVars_none J;have E:=D;have o:Small Tryz.prog 22 d0:=EM g (j:=0) rfl rfl;have r:∀x∈O,x.block<W.1.size:=by obtain⟨m,hm⟩:=E;exact DataW.trod_lt m _ _ _ hm
 obtain⟨a0,F,k,rfl⟩:=okWide_slice Tryz.underlying22 (hval 0 22 v0 rfl rfl);obtain⟨s,u⟩:=D;obtain⟨A0,R,f0,c,y,w0,b⟩:=Hf Tryz.underlying22 Tryz.underlying44 (by kernel_rfl) (by kernel_rfl) Tryz.underlying3 Tryz.underlying3 u o;rw[show Tryz.prog.bytesOf 44=16 from by kernel_rfl]at b;simp only[reachBytes]at b;replace b:f0.length<=8796093022208:=by omega
 simp[Value.cells]at c;obtain⟨rfl,rfl,rfl⟩:=c;clear i a;refine(QO a0 k f0 W y b B (OU B)).mono λe W' ⟨he,xq⟩=>?_
 subst he;exact⟨_,rfl,_,_,_,[],_,[],l,trodAll_mk1 (shut_bool Tryz.underlying4 _),(trodAll_cons_mk (Below.trod laidOut (by kernel_rfl) (kD (by kernel_rfl)) E xq r) trodAll_mk0),rfl,xq.frame _,λh=>by cases h⟩
theorem MX:Rows.NeverSmallSaid:=
 OpenClaim.holds_of_wide 5 Tryz.f5 rfl rfl rfl rfl rfl rfl rfl ⟨rfl,rfl,rfl,rfl,rfl⟩ rfl rfl rfl rfl rfl (by kernel_rfl) Tryz.func5 (by kernel_rfl)
  (kD (by kernel_rfl)) (by unfold Func.isWrapper;first|(rw[jd (by decide +kernel)];kernel_rfl)|(rw[d9 (by decide +kernel)];exact⟨rfl,rfl⟩))
  (λos started H enc _=>LK os started H enc)
theorem NeverSmall_card:Rows.NeverSmallCardSaid:=
 Claim7.holds_tied_plain_at .later [] [.data,.data,.data] true _ false
  MX (λ_ h=>by cases h) (by kernel_rfl) (λ_ h=>by cases h) neverSmall_row_tie rfl ⟨rfl,rfl⟩ (by kernel_rfl) rfl
  (λf fn hf a=>by
   obtain rfl:f=5:=jY ((show Tryz.prog.funcNamed "lariat/lariatlaw34.NeverSmall" =some 5 by kernel_rfl).symm.trans hf) |>.symm;obtain rfl:fn=Tryz.f5:=(jY (Tryz.func5.symm.trans a)).symm
   exact⟨by kernel_rfl,λj t b=>by
    rw[Tryz.params5]at b;have hm:=pY b;exact Hq hm (by kernel_rfl)⟩)
  (by kernel_rfl)
#print axioms NeverSmall_card
end Go.Proofs.YtdmeoldcifddiaaGreatDoor
