/- A part of the proof. -/
import Derived.Test.YtdmeoldcifddiaaGreatDoorZam
import Derived.Test.YtdmeoldcifddiaaGreatDoorZao
import Derived.Test.YtdmeoldcifddiaaGreatDoorZan
import Derived.Test.YtdmeoldcifddiaaGreatDoorZai
import Derived.Test.YtdmeoldcifddiaaGreatDoorZad
import Derived.Test.YtdmeoldcifddiaaGreatDoorZae
import Derived.IntWalk
import Derived.Test.YtdmeoldcifddiaaGreatDoorShort
import Derived.ScopeJumps
import Derived.WalkMore
import Derived.WalkKit
import Derived.Deep.RegionHeld3
import Derived.LoopN
import Derived.Laws.EntriesVeiled
import Derived.Test.YtdmeoldcifddiaaGreatDoorMk
/- What Trim leaves of any automaton. Plain. -/
namespace Go.Proofs.YtdmeoldcifddiaaGreatDoor
open Go.Value renaming slice -> iX, int -> iY, pointer -> jH, bool -> jI
open Go.IntKind renaming i64 -> iZ, u64 -> jA
open Option renaming some -> jB, none -> jC
open Bool renaming true -> jD, false -> jE
open Go renaming World -> jF
open Go.Obj renaming cells -> jG
open Go.Proofs.Tryz renaming prog -> jJ
open List renaming length -> η, range -> ζ, getD -> θ
variable {a:rQ}{st:List (List Nd)}{L:List (Nat×Nat)}{ns:List BM}{W:List Nat}{f h l r:List Nd}{xs ys:List Value}{B KE b base c c2 cap ci cn g j k kb lp n n0 n1 ni nn size t:Nat}{S:Nat->Prop}{A A2 Ai An:Option Addr}{v vs:Value}{w' w1 w2 wr:jF}{P:jF->Prop}
theorem Rw (h:tO a=0):trimF a=BN a:=by unfold trimF;rw[jd h]
set_option maxHeartbeats 4000000
set_option maxRecDepth 100000
open Go.RowKit
structure Gf (a:rQ)(KE:Nat):Prop where
 nd:∀x∈a.nodes,x.need<2^64/\x.ban<2^64
 inn:∀x∈a.nodes,x.inn<2^64
 rows:∀x∈a.nodes,η x.to<=KE
 init:η a.init<=1000000
theorem Gf.gen (h:Gf a KE){p:Nat->Bool}{F:List Int->List Int}(hF:∀l,η (F l)<=η l):Gf (Cj a p F) KE:=by
 have hm:∀x∈(Cj a p F).nodes,∃y∈a.nodes,x=y.put (F y.to):=λx b=>by
  obtain⟨i,hi,rfl⟩:=jg.1 b;exact⟨a.at i,at_mem (jl.1 (jL.1 hi).1),rfl⟩
 refine⟨λx b=>?_,λx b=>?_,λx b=>?_,Nat.le_trans (hF _) h.init⟩
 ·obtain⟨y,hy,rfl⟩:=hm x b;exact h.nd y hy
 ·obtain⟨y,hy,rfl⟩:=hm x b;exact h.inn y hy
 ·obtain⟨y,hy,rfl⟩:=hm x b;exact Nat.le_trans (hF _) (h.rows y hy)
theorem Gf.trim (h:Gf a KE):Gf (BN a) KE:=h.gen (p:=λi=>(CB a).getD i jE) (F:=sV (CB a)) (λ_=>H7)
theorem Gf.merge (h:Gf a KE):Gf (xA a) KE:=h.gen (p:=λi=>(za (iF a) (η a.nodes)).getD i jE) (F:=iy (zf (iF a) (η a.nodes))) (λl=>EY _ l)
theorem Gf.prune (h:Gf a KE):Gf (vH a) KE:=by
 unfold vH;rw[Bq];exact h.gen (λl=>Lc _ l)
noncomputable def K4 (a:rQ):rQ:=if tO a=0 then NN a else rQ.zero
theorem Gw.uQ {w:jF}(h:Gw n0 w a Ai ni ci An nn cn)(c:qW S w w')(hS:∀g,S g->∃cs,w.1[g]? =jB (jG cs 32 (0,0))):Gw n0 w' a Ai ni ci An nn cn:=λT f d i=>
 h (λg=>S g\/T g) f ((c.wide (λ_ e=>.inl e)).then_ (d.wide (λ_ e=>.inr e))) (λg b hl=>by
  by_cases hs:S g
  ·exact .inr (hS g hs)
  ·rcases b with b|b
   ·exact .inr (hS g b)
   ·rcases i g b (jh hl c.size)with j|⟨cs,hc⟩
    ·exact .inl j
    ·exact .inr ⟨cs,(c.block g hl hs).symm.trans hc⟩)
theorem ajG (a Ai ni ci An nn cn w B)(h:sW w B a Ai ni ci An nn cn)(I:B<=w.1.size)(g:¬tO a=0)(KE)(F:∀x∈a.nodes,η x.to<=KE)(J:η a.init<=1000000)(K:KE<=1000000):
  Calls jJ 33 #[.agg #[iY iZ a.sets,iX Ai ni ci,iX An nn cn]] w (AV w rQ.zero):=by
 obtain⟨i,x0,n,z0⟩:=uS w (jG #[iY iZ a.sets,iX Ai ni ci,iX An nn cn] 32) (jG #[iY iZ 0,iX jC 0 0,iX jC 0 0] 32);obtain⟨p,l⟩:=xQ ((w.alloc (jG #[iY iZ a.sets,iX Ai ni ci,iX An nn cn] 32)).alloc (jG #[iY iZ 0,iX jC 0 0,iX jC 0 0] 32));rw[l]at i x0 n z0;have q:=dh (h.below i I);have r:=dh (aac a Ai ni ci An nn cn p B q ω ω (λx L=>by have:=F x L;omega));have M:((tO a)==0)=jE:=by rw[kF];exact g
 have G:((tO a)!=0)=jD:=by rw[bne_iff_ne];exact g
 have H:=decide_eq_false g;obtain⟨s,u,z⟩:=iA l i n;have C:w.1.size+1<p.1.size:=ω;obtain⟨N,O,P⟩:=sQ x0;clear l i x0 n z0 h F g;go_enter Tryz.func33,Tryz.ntmps33;go_upto_region 1 with fail
 rw[s.o];go_wp2_with fail
 refine r.mono ?_;rintro e w1 ⟨rfl,j⟩;have d:=(j.block (w.1.size+1) C).trans z.o;have D:=dh (u.trans (j.mono (show w.1.size<=p.1.size by omega)));have Q:=j.size;obtain⟨n,T,U⟩:=sQ d;have f0:=frozen_of_row w1 _ 0 _ _ d;have f1:=frozen_of_row w1 _ 1 _ _ d;have f2:=frozen_of_row w1 _ 2 _ _ d;have V:=(aI.1 d).1;have R:=dh d;clear d j N O P;go_wp2_with fail
 have k:=Cu (a:=iY iZ 0) (b:=iX jC 0 0) (c:=iX jC 0 0) R rfl;have m:=Ct w1 (w.1.size+1) (iY iZ 0) (iX jC 0 0) (iX jC 0 0);obtain⟨Y,S⟩:=xQ (((w1.setCell ⟨w.1.size+1,0,jC⟩ (iY iZ 0)).setCell ⟨w.1.size+1,1,jC⟩ (iX jC 0 0)).setCell ⟨w.1.size+1,2,jC⟩ (iX jC 0 0));rw[S]at k m⊢;have E:=D.trans (m.below (show w.1.size<=w1.1.size by omega) (λy hy e=>by have e:y=w.1.size+1:=e;omega));obtain⟨g0,g1,g2⟩:=sQ k;refine bodyPost_ret (v:=.agg #[iY iZ 0,iX jC 0 0,iX jC 0 0]) ?_ rfl ⟨jC,0,0,jC,0,0,rfl,xI Y _,E,FL Y⟩;simp[results,Tryz.results33,go_sem,g0,g1,g2]
theorem ajd (E)(asks:List (Nat->Bool)):∃z,X4 E asks z:=by
 suffices h:∀(n:Nat) z,Cm z<=n->GInv E asks z->∃z,X4 E asks z from h _ _ lR (GInv.start E asks)
 intro n;induction n with
 |zero=>
  intro z a h;by_cases e:wS E asks z=z
  ·exact⟨z,h.done (by rw[e];exact BF.refl _)⟩
  ·have:=J9 h.1 e;omega
 |succ n b=>
  intro z a h;by_cases e:wS E asks z=z
  ·exact⟨z,h.done (by rw[e];exact BF.refl _)⟩
  ·have:=J9 h.1 e;exact b _ ω h.round
theorem ac4 {g k:List Nd}(h:UR f g)(a:UR f k):g=k:=by
 obtain⟨⟨i,rfl⟩,hi⟩:=h;obtain⟨⟨j,rfl⟩,b⟩:=a
 have go:∀d m,uD (iter m f)=iter m f->iter (m+d) f=iter m f:=by
  intro d;induction d with
  |zero=>intro m _;rfl
  |succ d c=>
   intro m hm;show uD (iter (m+d) f)= _;rw[c m hm,hm]
 rcases Nat.le_total i j with h|h
 ·obtain⟨d,rfl⟩:∃d,j=i+d:=⟨j-i,ω⟩;have:=go d (i+1) hi;rw[show i+d+1=i+1+d by omega,this]
 ·obtain⟨d,rfl⟩:∃d,i=j+d:=⟨i-j,ω⟩;have:=go d (j+1) b;rw[show j+d+1=j+1+d by omega,this]
noncomputable def Js (f:List Nd):List Nd:= @dite _ (∃g,UR f g) (Classical.propDecidable _) (λh=>h.choose) (λ_=>[])
theorem KL {g:List Nd}(h:UR f g):Js f=g:=by
 have hex:∃g,UR f g:=⟨g,h⟩;unfold Js;rw[dif_pos hex];exact ac4 hex.choose_spec h
theorem Ql (f):∀j,η (iter (j+1) f)<=η (iter 1 f)
 |0=>lR
 |j+1=>Nat.le_trans (left_step (Fe f j)).1 (Ql f j)
theorem ahI (f):∃g,UR f g:=by
 have key:∀n j,η (iter (j+1) f)<=n->∃i,uD (iter (i+1) f)=iter (i+1) f:=by
  intro n;induction n with
  |zero=>
   intro j h;obtain⟨b,a⟩:=left_step (Fe f j);exact⟨j,a ω⟩
  |succ n c=>
   intro j h;obtain⟨b,a⟩:=left_step (Fe f j);by_cases e:η (uD (iter (j+1) f))=η (iter (j+1) f)
   ·exact⟨j,a e⟩
   ·exact c (j+1) (by show η (uD (iter (j+1) f))<=n;omega)
 obtain⟨i,hi⟩:=key _ 0 lR;exact⟨_,⟨i,rfl⟩,hi⟩
theorem VB (f):UR f (Js f):=by
 obtain⟨g,h⟩:=ahI f;rw[KL h];exact h
def Nj (f:List Nd):List Nd:=xD (neg f) jD
noncomputable def Km (f:List Nd):List Nd:=Js (Nj f)
def JY (a:rQ):Int:=if tO a=0 then(match ML a with|none=>11|some _=>0)else tO a
def JZ (a:rQ):rQ:=if tO a=0 then(ML a).getD rQ.zero else rQ.zero
noncomputable def Ew (f:List Nd):Int:=if check f=0 then(if Kj (Km f)=0 then JY (Kl (Km f))else Kj (Km f))else check f
noncomputable def LP (f:List Nd):rQ:=JZ (Kl (Km f))
noncomputable def Dx (f:List Nd)(small:Bool):rQ:=if Ew f=0 then(if small=jD then K4 (LP f)else LP f)else rQ.zero
section
variable {f:List Nd}
theorem yT (h:check f=0):wrong f=0/\η f<=24:=by
 unfold check at h;split at h
 ·cases h
 ·exact⟨h,ω⟩
theorem neg_eq (h:wrong f=0):neg f=f++[⟨4,0⟩]:=by unfold neg;rw[jd h]
theorem afi (h:wrong f=0):Nj f=xD f jE:=by unfold Nj;rw[neg_eq h,adi h];rfl
theorem Wl (h:wrong f=0):yh (Nj f)=jD:=by rw[afi h];exact(ZI h jE).2
theorem ahu (h:check f=0):η (Nj f)<=50:=by
 have a:=adj (neg f) jD;have b:=Y9 f;have c:=(yT h).2;unfold Nj;omega
theorem aaD (h:wrong f=0):η (Km f)<=η (Nj f):=by
 obtain⟨⟨j,e⟩, -⟩:=VB (Nj f);obtain⟨t,a,b,e2⟩:=Fg (Wl h);have c:=Ql (Nj f) j
 have d:η (iter 1 (Nj f))<=η (Nj f):=by
  show η (uD (Nj f))<=_;rw[e2,Dt a b,Tr.rU,Tr.rU];exact(uV t a b).size
 show η (Js (Nj f))<=_;rw[e];exact Nat.le_trans c d
theorem afh (h:wrong f=0):Kept (Nj f) (Km f):=(ahm (Wl h) (VB _)).1
theorem I5 (h:JY a=0):tO a=0/\∃b,ML a=jB b/\JZ a=b:=by
 unfold JY at h;split at h
 ·next hc=>
  cases hd:ML a with
  |none=>rw[hd]at h;cases h
  |some b=>exact⟨hc,b,rfl,by unfold JZ;rw[jd hc,hd];rfl⟩
 ·next hc=>exact absurd h hc
theorem zk (h:Ew f=0):check f=0/\Kj (Km f)=0/\JY (Kl (Km f))=0:=by
 unfold Ew at h;split at h
 ·next hc=>
  split at h
  ·next a=>exact⟨hc,a,h⟩
  ·next a=>exact absurd h a
 ·next hc=>exact absurd h hc
theorem aiL (he:Kj h=0)(b:lp<η W):Acc (Kl h) W lp↔sat (yu W) (η W) lp (sF h) 0=jD:=by
 obtain⟨L,rows,a,j,k,e⟩:=Oh he;rw[e];have g:=Yp a (F8 a) k;obtain⟨z,i⟩:=ajd (vX (vW h L rows (ζ (η (tC h)))) W lp) (DT (vW h L rows (ζ (η (tC h)))) (η W));rw[<-Ry (TI g) b i,abF a g (by rw[<-JF a];omega) (F8 a) b i];have hw:=zm a;obtain⟨c,d⟩:=yY hw;have hp:=F8 a;have f:=Cb c;rw[d]at f
 have l:(sF h).size=η h:=by
  have:=jM List.length d;rwa [Tr.rU]at this
 rw[xU c f ω ω 0]
theorem O4 (he:Kj h=0):uE (Kl h):=by
 obtain⟨L,rows,b,a,c,e⟩:=Oh he;rw[e];exact vY.1 (ahY b a c)
theorem K5 (h:Ew f=0):uE (LP f)/\(LP f).sets=1:=by
 obtain⟨hc,c,d⟩:=zk h;obtain⟨i,b,hb,e⟩:=I5 d;obtain⟨L,a⟩:=UC (O4 c).ok hb;have g:LP f=b:=e;rw[g];exact⟨a.good,a.sets⟩
theorem ahv (h:Ew f=0)(a:lp<η W):Acc (LP f) W lp↔sat (yu W) (η W) lp (sF f) 0=jE:=by
 obtain⟨hc,i,j⟩:=zk h;obtain⟨n,b,hb,e⟩:=I5 j;have g:=O4 i;obtain⟨L,k⟩:=UC g.ok hb;have hw:=(yT hc).1;have l:LP f=b:=e;rw[l,ahT g.ok g.sets.1 k,aiL i a];have hv:=(afh hw).tree (yu W) (η W) lp a;unfold sat;rw[hv,afi hw];obtain⟨c,m⟩:=yY hw
 have d:sF (xD f jE)=nn (sF f) jE:=by
  unfold xD;rw[jd hw,xO (Nn _ jE c).1]
 rw[d,LY a _ _ c];have hl:0<η (val (yu W) (η W) lp (sF f)):=by rw[xW _ c];omega
 simp only[mW,nI];rw[zn hl];simp
theorem I8 (h:Ew f=0)(small:Bool):Dx f small=if small=jD then NN (LP f)else LP f:=by
 unfold Dx;rw[jd h];split
 ·exact jd (vY.2 (K5 h).1)
 ·rfl
theorem zl (h:Ew f=0)(small:Bool):uE (Dx f small)/\(Dx f small).sets=1:=by
 obtain⟨a,hs⟩:=K5 h;rw[I8 h];split
 ·exact⟨(ae8 a).1,by rw[ae7 a];exact hs⟩
 ·exact⟨a,hs⟩
theorem K6 (h:Ew f=0)(small:Bool):Acc (Dx f small) W lp↔Acc (LP f) W lp:=by
 rw[I8 h];split
 ·rw[ahp (K5 h).1]
 ·exact Iff.rfl
theorem ahy (h:Ew f=0)(small:Bool)(a:lp<η W):Acc (Dx f small) W lp↔sat (yu W) (η W) lp (sF f) 0=jE:=by
 rw[K6 h,ahv h a]
theorem ahx (h:Ew f=0):(Dx f jD).nodes.length<=(Dx f jE).nodes.length:=by
 rw[I8 h,I8 h,jd rfl,d9 δ];exact(R6 (K5 h).1).nodes
theorem ag3 (h:wrong f=0){bits:Int->Nat->Bool}(c:0<n):wrong (neg f)=0/\sat bits n lp (sF (neg f)) 0= !sat bits n lp (sF f) 0:=by
 have d:wrong (neg f)=0:=by rw[neg_eq h];exact afq h
 obtain⟨a,b⟩:=yY h
 have e:sF (neg f)=.un ⟨4,0⟩ (sF f):=by
  have:neg f=(Tr.un ⟨4,0⟩ (sF f)).flat:=by rw[neg_eq h,Tr.flat,b]
  rw[this,xO (t:=.un ⟨4,0⟩ (sF f)) ⟨rfl,a⟩]
 rw[e];exact⟨d,TP c⟩
end
set_option maxHeartbeats 8000000
set_option maxRecDepth 100000
open Go.Maps
attribute [local go_sem] Oper.semAt_some
theorem Co {P:Program}{ops:Array Oper}{Q:Exit->Act->jF->Prop}{md:Region.Mode}{S:jF->Prop}{z fuel:Nat}{listed:Array Bool}{a:Act}{w:jF}{i:Nat}{d:Option Tmp}{op:Op}{ty:TypeId}{pos:String}{after:Array Edge}{gd:Option (Nat×Bool)}{rs:List Nat}(e:ops[i]? =jB ⟨d,op,ty,pos,after,gd⟩)(k:(i !=z&& !(listed.getD z jD))=jE)
  (h:∀b:Act->jF->Prop,Shut (∀a w,tZ P md ops Q S z fuel (listed.setIfInBounds i jD) a w->b a w)->if Region.wanted ⟨d,op,ty,pos,after,gd⟩ (yielded ops a.tmps)=jD then Oper.wp P ⟨d,op,ty,pos,after,gd⟩ a w b Q else b (a.put d undef) w)
  (hs:xL P md ops Q S z fuel listed a w rs):xL P md ops Q S z fuel listed a w (i::rs):=by
 intro j c;rcases jk.1 c with rfl|c
 ·refine wpOp_step e (λb f=>h _ (λa w g=>f a w ⟨λ⟨l,m⟩=>?_,g⟩))
  grind
 ·exact hs j c
def agD (n0 B kb nb ob:Nat)(a:rQ)(Ai:Option Addr)(ni ci:Nat)(An:Option Addr)(nn cn:Nat)(V:jF)(vi:Value)(k:Nat)(W:jF):Prop:=
 ∃L ns vp vn xs,NK n0 B kb nb a Ai ni ci An nn cn W L vp/\yN n0 ob 1 vi (vF (xE a) a.init 0) vn ns xs W/\EG a L ns/\η ns=k/\Fp a (257-k) L ns=Fp a 257 (xE a) []/\qW (λj=>n0<=j) V W
theorem Qu {q:Nat×Nat}(d:η ns=k)(c:k<η L)(b:η L<=256)(f:L[k]? =jB q):
  Fp a (257-k) L ns=Fp a (257-(k+1)) (uF (uP (a.at q.1).to (rY a q)) L) (ns++[Gg a q (uF (uP (a.at q.1).to (rY a q)) L)]):=by
 have e:257-k=(257-(k+1))+1:=ω;have g:L.getD (η ns) (0,0)=q:=γ;rw[e]
 conv=>lhs;unfold Fp
 grind
theorem af0 (h:256<η L)(b:k<=256):Fp a (257-k) L ns=jC:=by
 have e:257-k=(256-k)+1:=ω;rw[e];unfold Fp;grind
theorem ahS (h:η L<=256)(b:k<=256)(c:η ns=η L):Fp a (257-k) L ns=jB (L,ns):=by
 have e:257-k=(256-k)+1:=ω;rw[e];unfold Fp;grind
theorem acG (a Ai ni ci An nn cn w B)(h:sW w B a Ai ni ci An nn cn)(hB:B<=w.1.size)(KE)(hd:Gf a KE)(ca:KE<=1000):
  Calls jJ 32 #[.agg #[iY iZ a.sets,iX Ai ni ci,iX An nn cn]] w (UW w (JZ a) (JY a)):=by
 have hr:=hd.rows;have cb:=hd.init;obtain⟨az,x0,y0,z0⟩:=uS w (jG #[iY iZ a.sets,iX Ai ni ci,iX An nn cn] 32) (jG #[iY iZ 0,iX jC 0 0,iX jC 0 0] 32);obtain⟨W0,aM⟩:=xQ ((w.alloc (jG #[iY iZ a.sets,iX Ai ni ci,iX An nn cn] 32)).alloc (jG #[iY iZ 0,iX jC 0 0,iX jC 0 0] 32));rw[aM]at az x0 y0 z0;have aV:=dh (h.below az hB);obtain⟨bB,bE,aW,bF,bG,aX,aG,aH⟩:=dh8 (aac a Ai ni ci An nn cn W0 B aV ω ω (λx hx=>γ)) aM az x0 y0 hr h.eni h.Ov;have bH:w.1.size+1<W0.1.size:=ω;obtain⟨q0,q1,q2⟩:=sQ x0;clear aM az x0 y0 z0 h hr hd;go_enter Tryz.func32,Tryz.ntmps32;go_upto_region 1 with fail
 rw[bE.o];go_wp2_with fail
 apply bB.mono;rintro e w1 ⟨rfl,ag⟩;have cd:=ag.size;obtain⟨aN,aY,aZ⟩:=iA ag ((ag.block w.1.size ω).trans bF.o) ((ag.block _ bH).trans bG.o);clear q0 q1 q2 ag;by_cases a8:tO a=0
 ·have aA:=dh a8;have C:=vY.1 a8;have X:=dh C;rw[a8];have b5:=aV.below aN ω;obtain⟨Z,kN,kK,z2⟩:=uS w1 (.map #[] 0) (jG #[iY iZ a.sets,iX Ai ni ci,iX An nn cn,.map (jB w1.1.size),iX jC 0 0] 95);obtain⟨W2,aO⟩:=xQ ((w1.alloc (.map #[] 0)).alloc (jG #[iY iZ a.sets,iX Ai ni ci,iX An nn cn,.map (jB w1.1.size),iX jC 0 0] 95));rw[aO]at Z kN kK z2;have bI:=Z.size
  have aP:NK w1.1.size B (w1.1.size+1) w1.1.size a Ai ni ci An nn cn W2 [] (iX jC 0 0):=
   ⟨kK,Ri.nil kN,by simpa[qP]using jF.ownsRow_nil _ _ _ 2,λp hp=>γ,⟨ω,ω,ω,ω⟩,b5.below Z ω⟩
  have aJ:∀q∈a.init,∃k:Nat,q=k/\k<=1000000:=λq hq=>by
   obtain⟨k,rfl,cg⟩:=rO (C.ok.1 q hq);exact⟨k,rfl,by have:=C.n256;omega⟩
  have bJ:=dh (VN w1.1.size B (w1.1.size+1) w1.1.size a Ai ni ci An nn cn W2 [] (iX jC 0 0) a.init 0 Ai ni ci aG aP aP.rd.init aJ ω (by simp;have:=aG.o;omega));obtain⟨q0,q1,q2⟩:=sQ aY.o;have bK:=run_makeMap (P:=jJ) 92;obtain⟨bL,bM,bN,bO⟩:=iB aO Z ((Z.block _ ω).trans aY.o) ((Z.block _ ω).trans aZ.o);clear aO kN kK z2 aP aJ Z b5 C a8;go_upto_region 5 with fail
  rw[bL.o];clear q0 q1 q2 bK;obtain⟨q0,q1,q2⟩:=sQ bN.o;go_wp2_with fail
  apply bJ.mono;rintro e w3 ⟨v3,rfl,bP⟩;obtain⟨ch,aB,ah,aQ,bQ⟩:=bP;replace ah:w3.ownsRow _ 3 1 _ (η (vF (xE a) _ 0)) (qO (vF (xE a) _ 0)):=ah;replace aB:NK _ B _ _ a _ _ _ _ _ _ _ (xE a) _:=aB;obtain⟨A3,c3,rfl, -⟩:=qX ah;obtain⟨V,hV⟩:=xQ (w3.alloc (jG #[iY iZ 1,iX A3 (η (vF (xE a) a.init 0)) c3,iX jC 0 0] 32));have aj:Below w3.1.size w3 V:=by rw[<-hV];exact bR.alloc lR _
  have kV:V.1[w3.1.size]? =jB (jG #[iY iZ 1,iX A3 (η (vF (xE a) a.init 0)) c3,iX jC 0 0] 32 (0,0)):=by rw[<-hV];exact heap_alloc_new _ _
  have cj:=aQ.size;have ck:=aj.size;have aK:yN _ _ 1 _ _ _ _ _ V:=⟨kV,rC (own_below ah aj) bI,yg.nil _ _⟩;have b6:agD _ B _ _ _ a _ _ _ _ _ _ V _ 0 V:=⟨_,_,_,_,_,aB.below aj,aK,EG.start X.ok,rfl,rfl,qW.refl _ _⟩;have b9:=dh b6;have aR:qW (λj=>w1.1.size<=j) W2 V:=(aQ.mono (λi hi e=>by rcases e with e|e|e;omega;omega;exact absurd e (by simp[Value.ownBlock]))).trans (qW.of_below aj) (λi hi e=>ω);obtain⟨bc,bS,HV⟩:=iA (((aW.trans (aN.mono ω)).trans (bM.mono ω)).trans (aR.below ω (λy hy e=>ω))) (aR.blk bO ω) hV;clear aB ah aQ bQ hV aj kV aK b6 aR q0 q1 q2;go_wp2
  rw[HV.o];go_loopw [23] (λi wr=>∃k:Nat,k<=256/\i=iY iZ k/\Hd (agD w1.1.size B (w1.1.size+1) w1.1.size w3.1.size a Ai ni ci An nn cn V (iX A3 (η (vF (xE a) a.init 0)) c3) k wr)) (λi _=>257-(intOf i).toNat)
  case atStart=>exact⟨0,ω,rfl,b9⟩
  case round=>
   obtain⟨k,hk,rfl,HL⟩:=hrel;clear b9;obtain⟨L,ns,vp,vn,xs,aC,ak,hinv,bd,bh,D⟩:=HL.o;obtain⟨Ap,cp,rfl,ao⟩:=qX aC.own;obtain⟨Av,cv,rfl, -⟩:=qX ak.nodes.own;have cm:=ak.lt;have cq:=hinv.le;obtain⟨-, -, -, -,b4⟩:=Lv aC.bk;obtain⟨m0,m1,m2⟩:=ak.cells;have l:=D.blk bS ω;have bj:=dh l;have ct:=D.size;have bT:(k:Int)<257:=ω;obtain⟨ad,aS,a6,M⟩:=iB aC ak hinv bd;have c0:η ns<=k:=ω;have c4:k<=η ns:=ω;obtain⟨aq,ar⟩:=iw bh D;clear aC ak hinv bh D HL l bd;by_cases a7:η L<=256
   ·have bU:¬(256<(η L:Int)):=ω;by_cases aD:k<η L
    ·have bm:(k==(η L:Int))=jE:=kF.2 ω;obtain⟨q,hq⟩:∃q,L[k]? =jB q:=⟨_,gE aD⟩;have HQ:=dh hq;have bn:=jy hq;obtain⟨bV,bq⟩:=a6.pr q bn;have aT:(L.map prN)[k]? =jB (prN q):=by rw[kR,hq];rfl
     obtain⟨bp,op,rfl,bW,p0⟩:=ao.rd.at_ (u:=.int _ q.1) (by rw[Oq,aT];rfl);obtain⟨cu,cw,he, -,p1⟩:=ao.rd.at_ (u:=.int _ q.2) (by rw[Ur,aT];rfl);cases he;rw[<-mD]at p1
     have br:=dh (λW' hb=>
      acO w1.1.size B (w1.1.size+1) w1.1.size a Ai ni ci An nn cn W' L (iX (jB ⟨bp,op,jC⟩) (η L) cp) q KE (ad.below hb) X.ok (by have:=aH.o;omega) bq X.sets (by have:=aH.o;have:=X.n256;omega) aX ω)
     have I:=aS.below (Below.drew (Below.refl _ _));have J:=ad.below (Below.drew (Below.refl _ _))
     have aE:Hd (∀{e} {size n} {v} {ys} {b'},wr.drew.ownsRow b' e size v n ys->e≠99->e≠95->∀g,v.ownBlock=jB g->¬Tz _ _ _ g):=dh (λho h1 h2 g C e'=>by
      rcases e' with e'|e'|e'
      ·exact qQ ho J.bk h2 (by rw[C,e'])
      ·obtain⟨cs,hc⟩:=sK ho C;exact J.tQ hc e'
      ·exact own_ne ho J.own h1 g C e')
     have bu:Hd (¬Tz _ _ _ w3.1.size):=dh (λe'=>by
      rcases e' with e'|e'|e'
      ·have h2:=I.blk;rw[e',J.bk]at h2;injection h2 with h2;injection h2 with _ e2;exact absurd e2 δ
      ·exact J.tQ I.blk e'
      ·exact qQ J.own I.blk δ e')
     have cx:0<=(k:Int):=ω;have cy:k<(η L:Int):=ω;have cz:=ad.lt.2.1;clear hq bn aT bV bq ao bW J;go_upto_region 12 with fail
     refine vP (S:=λw'=>q9 w' _ 2 _/\q9 w' _ 4 _/\q9 w' _ _ _/\q9 w' _ _ _) 10 rfl (⟨m2,b4,p0,p1⟩) (λhS=>?_);apply tkW 0;apply tF 2 [];apply tF 3 [9,8,6,5,4];apply tF 4 [9,8,6,5];apply tF 5 [9,8,6];apply tF 6 [9,8];apply tF 7 [9,8];apply tF 8 [9];apply tF 9 [];apply Cy (rs:=[1,10]) κ ς;refine(yx rfl rfl (λK r=>?_) (Co rfl rfl (λK r=>?_) xL.nil))
     ·skip
      go_simp;refine r _ _ ⟨hS.1,hS.2.1,hS.2.2.1,hS.2.2.2⟩ (λhS=>?_);clear r;refine rM (i:=10) rfl κ rfl (λK r=>?_);go_simp;apply (br _ (Below.drew bR)).mono;rintro e w5 ⟨vr,rfl,aU⟩;obtain⟨bX,aF,af,O,bY⟩:=aU;obtain⟨Ar,cr,rfl, -⟩:=qX af;have bZ:wr.1.size<=w5.1.size:=O.size;have N:=I.keep O bu (aE I.nodes.own δ δ) (λu n ys ho=>aE ho δ δ);obtain⟨m0,m1,m2⟩:=N.cells;apply r.out;clear r;refine rM (i:=11) rfl κ rfl (λK r=>?_);go_simp;have tb:=heap_alloc_new w5 (jG #[iY jA (a.at q.1).need,iY jA (a.at q.1).ban,iY jA (NZ a q),iX Ar (η (vF (uF (uP (a.at q.1).to (rY a q)) L) (a.at q.1).to (rY a q))) cr] 53);obtain⟨w6,E⟩:=xQ (w5.alloc (jG #[iY jA (a.at q.1).need,iY jA (a.at q.1).ban,iY jA (NZ a q),iX Ar (η (vF (uF (uP (a.at q.1).to (rY a q)) L) (a.at q.1).to (rY a q))) cr] 53));have F:Below w5.1.size w5 w6:=by rw[<-E];exact bR.alloc lR _
      rw[E]at tb⊢;have au:=dh E;have d:=N.below F;obtain⟨m0,m1,m2⟩:=d.cells;clear E;apply r.out;clear r;refine rM (i:=12) rfl κ rfl (λK r=>?_);apply su rfl _ _ _ rfl _ _ 4 _ Dh _ _ _ d.nodes.own rfl _ _ rfl tb rfl (by simp[Value.oneCell']) ω ω (by have:=F.size;omega);intro v7 w7 Q G aL _;obtain⟨g7,c7,rfl⟩:=ownsRow_succ Q;have av:=N.push (x:=Gg a q _) (rC af (by show _<=wr.1.size;omega)) (by exact Q) (by rw[au.o];exact G);obtain⟨⟨f2,bw,c2⟩,R⟩:=av;apply r.out;clear r;apply gU 13;refine rM (i:=14) rfl κ rfl (λK r=>?_);go_simp;apply r.out;clear r;apply tX rfl;clear hS;have s:=aF.below F
      have z:=s.keep G (λg C=>⟨by have:=(d.nodes.own.lt g C).1;omega,λe=>by
       rcases e with e|e|e
       ·exact qQ d.nodes.own s.bk δ (by rw[C,e])
       ·obtain⟨cs,hc⟩:=sK d.nodes.own C;exact s.tQ hc e
       ·exact own_ne d.nodes.own s.own δ g C e⟩)
      have m:=G.blk d.blk (qQ d.nodes.own d.blk δ)
      have T:=z.keep (sD w3.1.size 2 (iX (jB ⟨g7,0,jC⟩) (η ns+1) c7)) (λg C=>⟨ω,λe=>by
       subst C;rcases e with e|e|e
       ·rw[e,z.bk]at m;injection m with m;injection m with _ e2;exact absurd e2 δ
       ·exact z.tQ m e
       ·exact qQ z.own m δ e⟩)
      have U:qW (λj=>w1.1.size<=j) V (w7.setCell ⟨w3.1.size,2,jC⟩ (iX (jB ⟨g7,0,jC⟩) (η ns+1) c7)):=by
       have t1:=ar.trans (qW.of_below (Below.drew (Below.refl _ _))) (λi hi e=>ω);have t2:=t1.trans O (λi hi e=>ad.Ve e);have t3:=t2.trans (qW.of_below F) (λi hi e=>ω);have t4:=t3.trans G (λi hi e=>(d.nodes.own.lt i e).1);exact t4.trans (sD _ 2 _) (λi hi e=>ω)
      have W:=dh (show agD _ B _ _ _ a _ _ _ _ _ _ V _ (k+1) _ from
       ⟨_,_,_,_,_,T,R,a6.step X.ok ω (by rw[M.o];exact HQ.o) rfl,by rw[lA,M.o];rfl,by rw[<-Qu M aD a7 HQ.o];exact aq.o,U⟩)
      have wk:IntKind.i64.wrap (k+1)=k+1:=by rw[wI];omega
      clear s z m T U R;go_wp2
      go_roundw
      case rel=>exact⟨_,ω,jM _ ω,W⟩
      case measure=>simp[intOf];omega
     ·skip
      go_simp;apply (br _ (Below.drew bR)).mono;rintro e w5 ⟨vr,rfl,aU⟩;obtain⟨bX,aF,af,O,bY⟩:=aU;obtain⟨Ar,cr,rfl, -⟩:=qX af;have bZ:wr.1.size<=w5.1.size:=O.size;have N:=I.keep O bu (aE I.nodes.own δ δ) (λu n ys ho=>aE ho δ δ);obtain⟨m0,m1,m2⟩:=N.cells;apply r.out;clear r;apply Cy (rs:=[1,11]) κ ς;refine(Co rfl rfl (λK r=>?_) (Co rfl rfl (λK r=>?_) xL.nil))
      ·skip
       go_simp;apply r.out;clear r;refine rM (i:=11) rfl κ rfl (λK r=>?_);go_simp;have tb:=heap_alloc_new w5 (jG #[iY jA (a.at q.1).need,iY jA (a.at q.1).ban,iY jA (NZ a q),iX Ar (η (vF (uF (uP (a.at q.1).to (rY a q)) L) (a.at q.1).to (rY a q))) cr] 53);obtain⟨w6,E⟩:=xQ (w5.alloc (jG #[iY jA (a.at q.1).need,iY jA (a.at q.1).ban,iY jA (NZ a q),iX Ar (η (vF (uF (uP (a.at q.1).to (rY a q)) L) (a.at q.1).to (rY a q))) cr] 53));have F:Below w5.1.size w5 w6:=by rw[<-E];exact bR.alloc lR _
       rw[E]at tb⊢;have au:=dh E;have d:=N.below F;obtain⟨m0,m1,m2⟩:=d.cells;clear E;apply r.out;clear r;refine rM (i:=12) rfl κ rfl (λK r=>?_);apply su rfl _ _ _ rfl _ _ 4 _ Dh _ _ _ d.nodes.own rfl _ _ rfl tb rfl (by simp[Value.oneCell']) ω ω (by have:=F.size;omega);intro v7 w7 Q G aL _;obtain⟨g7,c7,rfl⟩:=ownsRow_succ Q;have av:=N.push (x:=Gg a q _) (rC af (by show _<=wr.1.size;omega)) (by exact Q) (by rw[au.o];exact G);obtain⟨⟨f2,bw,c2⟩,R⟩:=av;apply r.out;clear r;apply gU 13;refine rM (i:=14) rfl κ rfl (λK r=>?_);go_simp;apply r.out;clear r;apply tX rfl;clear hS;have s:=aF.below F
       have z:=s.keep G (λg C=>⟨by have:=(d.nodes.own.lt g C).1;omega,λe=>by
        rcases e with e|e|e
        ·exact qQ d.nodes.own s.bk δ (by rw[C,e])
        ·obtain⟨cs,hc⟩:=sK d.nodes.own C;exact s.tQ hc e
        ·exact own_ne d.nodes.own s.own δ g C e⟩)
       have m:=G.blk d.blk (qQ d.nodes.own d.blk δ)
       have T:=z.keep (sD w3.1.size 2 (iX (jB ⟨g7,0,jC⟩) (η ns+1) c7)) (λg C=>⟨ω,λe=>by
        subst C;rcases e with e|e|e
        ·rw[e,z.bk]at m;injection m with m;injection m with _ e2;exact absurd e2 δ
        ·exact z.tQ m e
        ·exact qQ z.own m δ e⟩)
       have U:qW (λj=>w1.1.size<=j) V (w7.setCell ⟨w3.1.size,2,jC⟩ (iX (jB ⟨g7,0,jC⟩) (η ns+1) c7)):=by
        have t1:=ar.trans (qW.of_below (Below.drew (Below.refl _ _))) (λi hi e=>ω);have t2:=t1.trans O (λi hi e=>ad.Ve e);have t3:=t2.trans (qW.of_below F) (λi hi e=>ω);have t4:=t3.trans G (λi hi e=>(d.nodes.own.lt i e).1);exact t4.trans (sD _ 2 _) (λi hi e=>ω)
       have W:=dh (show agD _ B _ _ _ a _ _ _ _ _ _ V _ (k+1) _ from
        ⟨_,_,_,_,_,T,R,a6.step X.ok ω (by rw[M.o];exact HQ.o) rfl,by rw[lA,M.o];rfl,by rw[<-Qu M aD a7 HQ.o];exact aq.o,U⟩)
       have wk:IntKind.i64.wrap (k+1)=k+1:=by rw[wI];omega
       clear s z m T U R;go_wp2
       go_roundw
       case rel=>exact⟨_,ω,jM _ ω,W⟩
       case measure=>simp[intOf];omega
      ·skip
       go_simp;have tb:=heap_alloc_new w5 (jG #[iY jA (a.at q.1).need,iY jA (a.at q.1).ban,iY jA (NZ a q),iX Ar (η (vF (uF (uP (a.at q.1).to (rY a q)) L) (a.at q.1).to (rY a q))) cr] 53);obtain⟨w6,E⟩:=xQ (w5.alloc (jG #[iY jA (a.at q.1).need,iY jA (a.at q.1).ban,iY jA (NZ a q),iX Ar (η (vF (uF (uP (a.at q.1).to (rY a q)) L) (a.at q.1).to (rY a q))) cr] 53));have F:Below w5.1.size w5 w6:=by rw[<-E];exact bR.alloc lR _
       rw[E]at tb⊢;have au:=dh E;have d:=N.below F;obtain⟨m0,m1,m2⟩:=d.cells;clear E;apply r.out;clear r;refine rM (i:=1) rfl κ rfl (λK r=>?_);go_simp;apply r.out;clear r;refine rM (i:=12) rfl κ rfl (λK r=>?_);apply su rfl _ _ _ rfl _ _ 4 _ Dh _ _ _ d.nodes.own rfl _ _ rfl tb rfl (by simp[Value.oneCell']) ω ω (by have:=F.size;omega);intro v7 w7 Q G aL _;obtain⟨g7,c7,rfl⟩:=ownsRow_succ Q;have av:=N.push (x:=Gg a q _) (rC af (by show _<=wr.1.size;omega)) (by exact Q) (by rw[au.o];exact G);obtain⟨⟨f2,bw,c2⟩,R⟩:=av;apply r.out;clear r;apply gU 13;refine rM (i:=14) rfl κ rfl (λK r=>?_);go_simp;apply r.out;clear r;apply tX rfl;clear hS;have s:=aF.below F
       have z:=s.keep G (λg C=>⟨by have:=(d.nodes.own.lt g C).1;omega,λe=>by
        rcases e with e|e|e
        ·exact qQ d.nodes.own s.bk δ (by rw[C,e])
        ·obtain⟨cs,hc⟩:=sK d.nodes.own C;exact s.tQ hc e
        ·exact own_ne d.nodes.own s.own δ g C e⟩)
       have m:=G.blk d.blk (qQ d.nodes.own d.blk δ)
       have T:=z.keep (sD w3.1.size 2 (iX (jB ⟨g7,0,jC⟩) (η ns+1) c7)) (λg C=>⟨ω,λe=>by
        subst C;rcases e with e|e|e
        ·rw[e,z.bk]at m;injection m with m;injection m with _ e2;exact absurd e2 δ
        ·exact z.tQ m e
        ·exact qQ z.own m δ e⟩)
       have U:qW (λj=>w1.1.size<=j) V (w7.setCell ⟨w3.1.size,2,jC⟩ (iX (jB ⟨g7,0,jC⟩) (η ns+1) c7)):=by
        have t1:=ar.trans (qW.of_below (Below.drew (Below.refl _ _))) (λi hi e=>ω);have t2:=t1.trans O (λi hi e=>ad.Ve e);have t3:=t2.trans (qW.of_below F) (λi hi e=>ω);have t4:=t3.trans G (λi hi e=>(d.nodes.own.lt i e).1);exact t4.trans (sD _ 2 _) (λi hi e=>ω)
       have W:=dh (show agD _ B _ _ _ a _ _ _ _ _ _ V _ (k+1) _ from
        ⟨_,_,_,_,_,T,R,a6.step X.ok ω (by rw[M.o];exact HQ.o) rfl,by rw[lA,M.o];rfl,by rw[<-Qu M aD a7 HQ.o];exact aq.o,U⟩)
       have wk:IntKind.i64.wrap (k+1)=k+1:=by rw[wI];omega
       clear s z m T U R;go_wp2
       go_roundw
       case rel=>exact⟨_,ω,jM _ ω,W⟩
       case measure=>simp[intOf];omega
    ·have cC:k=η L:=ω;have bm:(k==(η L:Int))=jD:=lV.2 ω
     have a1:ML a=jB ⟨1,vF (xE a) a.init 0,ns⟩:=by
      unfold ML;rw[<-aq.o,ahS a7 hk ω];rfl
     have aw:Hd (JY a=0):=dh (by unfold JY;rw[jd aA.o,a1]);have ax:Hd (JZ a=⟨1,_,_⟩):=dh (by unfold JZ;rw[jd aA.o,a1];rfl);have l:=bj.o;have bz:w3.1.size≠w.1.size+1:=ω;clear a1 ao;obtain⟨y0,y1,y2⟩:=sQ l;have f0:=frozen_of_row _ _ 0 _ _ l;have f1:=frozen_of_row _ _ 1 _ _ l;have f2:=frozen_of_row _ _ 2 _ _ l;have yl:=rX l;go_wp2
     have H:=Cu (a:=(iY iZ 1)) (b:=((iX A3 (η (vF (xE a) a.init 0)) c3))) (c:=(iX Av (η ns) cv)) l rfl;have D:=Ct wr (w.1.size+1) (iY iZ 1) ((iX A3 (η (vF (xE a) a.init 0)) c3)) (iX Av (η ns) cv);obtain⟨Y,hY⟩:=xQ (((wr.setCell ⟨w.1.size+1,0,jC⟩ (iY iZ 1)).setCell ⟨w.1.size+1,1,jC⟩ ((iX A3 (η (vF (xE a) a.init 0)) c3))).setCell ⟨w.1.size+1,2,jC⟩ (iX Av (η ns) cv));rw[hY]at H D⊢;have ay:=(bc.trans (ar.below (show w.1.size<=V.1.size by omega) (λy hy e=>ω))).trans (D.below (show w.1.size<=wr.1.size by omega) (λy hy e=>ω));obtain⟨g0,g1,g2⟩:=sQ H;have bA:=aS.keep D bz (λg C e=>by exact qQ aS.nodes.own l δ (by rw[C,e])) (λu' n ys ho g C e=>by exact qQ ho l δ (by rw[C,e]));refine bodyPost_ret (v:=.tuple #[.agg #[(iY iZ 1),((iX A3 (η (vF (xE a) a.init 0)) c3)),(iX Av (η ns) cv)],iY iZ 0]) ?_ rfl ?_
     ·simp[results,Tryz.results32,go_sem,g0,g1,g2]
     ·rw[ax.o,aw.o];exact⟨_,_,_,_,_,_,rfl,bA.sep.rd,ay,bA.sep.mono ω⟩
   ·have bU:256<(η L:Int):=ω
    have a1:ML a=jC:=by
     unfold ML;rw[<-aq.o,af0 ω hk];rfl
    have aw:Hd (JY a=11):=dh (by unfold JY;rw[jd aA.o,a1]);have ax:Hd (JZ a=rQ.zero):=dh (by unfold JZ;rw[jd aA.o,a1];rfl);have l:=bj.o;clear a1 ao m0 m1 m2;obtain⟨y0,y1,y2⟩:=sQ l;have f0:=frozen_of_row _ _ 0 _ _ l;have f1:=frozen_of_row _ _ 1 _ _ l;have f2:=frozen_of_row _ _ 2 _ _ l;have yl:=rX l;go_wp2
    have H:=Cu (a:=(iY iZ 0)) (b:=(iX jC 0 0)) (c:=(iX jC 0 0)) l rfl;have D:=Ct wr (w.1.size+1) (iY iZ 0) (iX jC 0 0) (iX jC 0 0);obtain⟨Y,hY⟩:=xQ (((wr.setCell ⟨w.1.size+1,0,jC⟩ (iY iZ 0)).setCell ⟨w.1.size+1,1,jC⟩ (iX jC 0 0)).setCell ⟨w.1.size+1,2,jC⟩ (iX jC 0 0));rw[hY]at H D⊢;have ay:=(bc.trans (ar.below (show w.1.size<=V.1.size by omega) (λy hy e=>ω))).trans (D.below (show w.1.size<=wr.1.size by omega) (λy hy e=>ω));obtain⟨g0,g1,g2⟩:=sQ H;refine bodyPost_ret (v:=.tuple #[.agg #[(iY iZ 0),(iX jC 0 0),(iX jC 0 0)],iY iZ 11]) ?_ rfl ?_
    ·simp[results,Tryz.results32,go_sem,g0,g1,g2]
    ·rw[ax.o,aw.o];exact⟨_,0,0,_,0,0,rfl,xI Y _,ay,FL Y⟩
 ·have bm:((tO a)==0)=jE:=γ;have c5:((tO a)!=0)=jD:=γ;have c9:=decide_eq_false a8;have aw:Hd (JY a=tO a):=dh (by unfold JY;omega);have ax:Hd (JZ a=rQ.zero):=dh (by unfold JZ;grind);have l:=aZ.o;clear a8;obtain⟨y0,y1,y2⟩:=sQ l;have f0:=frozen_of_row _ _ 0 _ _ l;have f1:=frozen_of_row _ _ 1 _ _ l;have f2:=frozen_of_row _ _ 2 _ _ l;have yl:=rX l;go_wp2
  have H:=Cu (a:=(iY iZ 0)) (b:=(iX jC 0 0)) (c:=(iX jC 0 0)) l rfl;have D:=Ct w1 (w.1.size+1) (iY iZ 0) (iX jC 0 0) (iX jC 0 0);obtain⟨Y,hY⟩:=xQ (((w1.setCell ⟨w.1.size+1,0,jC⟩ (iY iZ 0)).setCell ⟨w.1.size+1,1,jC⟩ (iX jC 0 0)).setCell ⟨w.1.size+1,2,jC⟩ (iX jC 0 0));rw[hY]at H D⊢;have ay:=(aW.trans (aN.mono ω)).trans (D.below (show w.1.size<=w1.1.size by omega) (λy hy e=>ω));obtain⟨g0,g1,g2⟩:=sQ H;refine bodyPost_ret (v:=.tuple #[.agg #[(iY iZ 0),(iX jC 0 0),(iX jC 0 0)],iY iZ (tO a)]) ?_ rfl ?_
  ·simp[results,Tryz.results32,go_sem,g0,g1,g2]
  ·rw[ax.o,aw.o];exact⟨_,0,0,_,0,0,rfl,xI Y _,ay,FL Y⟩
set_option maxHeartbeats 1000000
theorem ZQ (A1 A2 n1 c1 n2 c2 xs ys w D B2)(E:Sl w D 2 A1 n1 c1 (qP xs))(hy:Sl w B2 2 A2 n2 c2 (qP ys))(c:n1=η xs)(d:n2=η ys)(hl:n1<=1000000000):
  Calls jJ 169 #[iX A1 n1 c1,iX A2 n2 c2] w (Said w (decide (xs=ys))):=by
 have j:=Hr;by_cases l:n1=n2
 ·subst l;obtain⟨e,g⟩:=iw c d;clear c d;have hd:((n1:Int)!=(n1:Int))=jE:=ς;go_enter Tryz.func169,Tryz.ntmps169;go_wp2
  go_loopw [13] (λi wr=>∃k m:Nat,k<=n1/\i=iY iZ k/\wr=w.drewN m/\Hd (xs.take k=ys.take k)) (λi _=>n1-(intOf i).toNat)
  case atStart=>exact⟨0,0,ω,rfl,rfl,rfl⟩
  case round=>
   obtain⟨k,m,L,rfl,rfl,z⟩:=hrel;by_cases p:k<n1
   ·have q:k<η xs:=by rw[<-e.o];exact p
    have r:k<η ys:=by rw[<-g.o];exact p
    obtain⟨b,o,rfl,_,hc,hd⟩:=vZ E.rd q;obtain⟨b',M,rfl,_,F,G⟩:=vZ hy.rd r;have hs:=λh=>FJ z.out q r h
    generalize B:xs[k]=x at *;generalize C:ys[k]=y at *;obtain⟨H,I,J⟩:=iA B C hs;clear B C hs;have N:(0:Int)<=(k:Int):=ω;have O:(k:Int)<(n1:Int):=ω;go_wp2_with fail
    by_cases he:x=y
    ·have a:decide (x≠y)=jE:=by simp[he]
     have s:=dh he;have u:∀w,(binOp .neq 44 (.agg #[iY iZ x.op,iY iZ x.n]) (.agg #[iY iZ y.op,iY iZ y.n])).run jJ w=.ok (jI jE) w:=λw=>by rw[Hr,a]
     clear he a j;go_quiet (fail)
     go_wp2
     go_roundw
     case rel=>exact⟨k+1,_,ω,by go_num,by first|rfl|rw[jF.drewN_drewN],J s.o⟩
     case measure=>simp[intOf];omega
    ·have a:decide (x≠y)=jD:=by simp[he]
     have s:=dh he;have u:∀w,(binOp .neq 44 (.agg #[iY iZ x.op,iY iZ x.n]) (.agg #[iY iZ y.op,iY iZ y.n])).run jJ w=.ok (jI jD) w:=λw=>by rw[Hr,a]
     clear he a j;go_quiet (fail)
     go_wp2
     go_ret
     refine⟨rH ?_,?_⟩
     ·symm;rw[mQ]
      rintro rfl;exact s (H.symm.trans I.o)
     ·exact⟨_,by rw[jF.drewN_drewN]⟩
   ·have v:k=n1:=ω;subst v;go_wp2
    go_ret
    refine⟨rH ?_,_,rfl⟩;have:=z.out;rw[tL (by rw[<-e.o];exact lR),tL (by rw[<-g.o];exact lR)]at this;simp[this]
 ·have hd:((n1:Int)!=(n2:Int))=jD:=by simp;omega
  obtain⟨K,e,g⟩:=iA l c d;clear l c d;go_enter Tryz.func169,Tryz.ntmps169;go_wp2
  go_ret
  refine⟨rH ?_,0,rfl⟩
  symm;rw[mQ]
  intro h;exact K (by rw[e.o,g.o,h])
set_option maxHeartbeats 400000
theorem adM (A c f w B)(hf:Sl w B 2 A (η f) c (qP f))(d:B<=w.1.size)(hl:η f<=1000000000):
  Calls jJ 27 #[iX A (η f) c] w (Num w (check f)):=by
 by_cases h:24<η f
 ·go_enter Tryz.func27,Tryz.ntmps27;go_wp2
  go_ret
  exact⟨BI (by rw[check,jd h]),bR⟩
 ·go_enter Tryz.func27,Tryz.ntmps27;go_wp2_with fail
  refine(RG A c f w B hf d hl).mono ?_;rintro e w1 ⟨v,rfl,a,hb,b⟩;go_wp2
  go_ret
  exact⟨BI (by rw[check,d9 h]),hb⟩
set_option maxHeartbeats 1000000
theorem aik (A c f w B)(hf:Sl w B 2 A (η f) c (qP f))(z:B<=w.1.size)(hl:η f<=1000000):
  Calls jJ 29 #[iX A (η f) c] w (sI w 44 2 (η (neg f)) (qP (neg f)) (neg f=[])):=by
 have heq:=λ(w:jF) (a:Option Addr) (l c:Nat)=>Lib.run_eql_slice_nil (P:=jJ) w 29 3 a l c 0 0 Tryz.underlying29
 go_enter Tryz.func29,Tryz.ntmps29;go_wp2_with fail
 refine(CZ A c f w B hf z ω).mono ?_;rintro e w1 ⟨v,rfl,b,hb,d⟩;have x:=hf.below hb z;have m:=hb.size;by_cases hw:wrong f=0
 ·have n:¬spans f=[]:=by rw[vQ];simp[hw]
  have p:=nT.2 n;obtain⟨g,cap,rfl,_⟩:=sP b p;have y:=dh hw;clear hw n d b;go_wp2_with fail
  refine(Xq A (η f) c (qP f) _ B x (FX f) ω ω).mono ?_;rintro e w2 ⟨v2,rfl,i,q,_⟩;have D:=q.size;go_wp2_with (at_builtin;refine rD rfl (.tmp 7) (.tmp 9) 22 rfl w1.1.size 44 2 16 FK _ _ _ (i.alloc _) rfl w2.1.size #[iY iZ 4,iY iZ 0] rfl (heap_alloc_new w2 _) rfl (by simp[Value.oneCell']) ω ω (by simp;omega) ?_;intro v3 w3 j r C s)
  go_ret
  have u:neg f=f++[⟨4,0⟩]:=by rw[neg,jd y.o]
  refine⟨v3,rfl,?_,?_,?_⟩
  ·rw[u,uY,lA];exact rC j m
  ·have E:=r.size;exact(hb.trans (q.mono m)).trans (((Below.refl w.1.size w2).alloc ω _).trans (r.below (by simp;omega) (λk F h=>by have:=(i.lt k h).1;omega)))
  ·rw[u];simp[s]
 ·have hv:=d.2 ((vQ f).2 hw);subst hv;have y:=dh hw;clear hw d b;go_wp2
  go_ret
  have u:neg f=[]:=by rw[neg,d9 y.o]
  exact⟨_,rfl,by rw[u];exact jF.ownsRow_nil _ _ _ _,hb,by simp[u]⟩
def Kp (kb:Nat)(vs:Value)(w:jF)(P:jF->Prop)(b:Nat:=0):Prop:=
 ∀(S:Nat->Prop) (W2:jF),qW S w W2->(∀g,S g->g<w.1.size->g<b\/g=kb\/vs.ownBlock=jB g)->P W2
theorem Kp.go {vs':Value}{w:jF}(h:Kp kb vs w P b)(j:qW S w w')(hS:∀g,S g->g<w.1.size->g=kb\/vs.ownBlock=jB g)
  (hv:∀i,vs'.ownBlock=jB i->i<w.1.size->vs.ownBlock=jB i):Kp kb vs' w' P b:=λS' k c d=>
 h (λg=>S g\/S' g) k (qW.trans (j.mono (λ_ _ e=>.inl e)) c (λ_ _ e=>.inr e)) (λg a hl=>by
  rcases a with a|a
  ·exact .inr (hS g a hl)
  ·rcases d g a (jh hl j.size)with l|f|f
   ·exact .inl l
   ·exact .inr (.inl f)
   ·exact .inr (.inr (hv g f hl)))
theorem Kp.got {w:jF}(h:Kp kb vs w P b):P w:=h (λ_=>False) w (qW.refl _ w) (λ_ e=>e.elim)
theorem ai3 {w:jF}(h:∀W,P W):Kp kb vs w P b:=λ_ a _ _=>h a
theorem ahH {w:jF}(d:w.ownsRow n0 44 2 (iX A n c) n xs)(i:∀g,(Value.slice A n c).ownBlock=jB g->g≠kb/\vs.ownBlock≠jB g):
  Kp kb vs w (λW=>Sl W W.1.size 2 A n c xs):=λS l j hS=>by
 have a:=qR d j (λg f e=>by
  obtain⟨k,a⟩:=i g f;rcases hS g e (d.lt g f).2 with m|b|b
  ·omega
  ·exact k b
  ·exact a b)
 obtain⟨_,_,e,h⟩:=qX a;cases e;exact h
theorem ai1 {w:jF}(h:Sl w n0 2 A n c xs)(f:n0<=w.1.size)(i:n0<=kb)(hv:∀g,vs.ownBlock=jB g->n0<=g):
  Kp kb vs w (λW=>Sl W W.1.size 2 A n c xs):=λS j a hS=>
 (h.uQ a f (λb hb e=>by
  rcases hS b e ω with k|d|d
  ·omega
  ·omega
  ·have:=hv b d;omega)).up (by have:=a.size;omega)
theorem ai2 {w:jF}(h:Gw n1 w a Ai ni ci An nn cn)(f:kb<n1)(i:n0<=kb)(hv:∀g,vs.ownBlock=jB g->g<n1):
  Kp kb vs w (λW=>sW W W.1.size a Ai ni ci An nn cn) n0:=λS c d hS=>
 h S c d (λg e hl=>by
  rcases hS g e hl with b|b|b
  ·exact .inl ω
  ·exact .inl ω
  ·exact .inl (hv g b))
structure Jl (n0 kb:Nat)(vs:Value)(w:jF)(f:List Nd)(a:rQ)(sz:List Int)(why:Int)(A:Option Addr)(c:Nat)(Ai:Option Addr)(ni ci:Nat)(An:Option Addr)(nn cn:Nat):Prop where
 bk:w.1[kb]? =jB (jG #[iX A (η f) c,iY iZ a.sets,iX Ai ni ci,iX An nn cn,vs,iY iZ why] 51 (0,0))
 Xc:Kp kb vs w (λW=>Sl W W.1.size 2 A (η f) c (qP f))
 aut:Kp kb vs w (λW=>sW W W.1.size a Ai ni ci An nn cn) n0
 own:w.ownsRow n0 3 1 vs (η sz) (qO sz)
 lt:n0<=kb
theorem wO {w:jF}{p q r s u:Value}(h:w.1[b]? =jB (jG #[p,q,r,s,u,v] t (0,0))):w.cell? ⟨b,0,jC⟩=jB p/\w.cell? ⟨b,1,jC⟩=jB q/\w.cell? ⟨b,2,jC⟩=jB r/\w.cell? ⟨b,3,jC⟩=jB s/\w.cell? ⟨b,4,jC⟩=jB u/\w.cell? ⟨b,5,jC⟩=jB v:=by
 refine⟨?_,?_,?_,?_,?_,?_⟩<;>(rw[cell_of_row _ _ _ _ _ (0,0) h];rfl)
def Nz (kb:Nat)(vs:Value)(k:Nat):Prop:=k=kb\/vs.ownBlock=jB k
def NvR (vs vs':Value)(w:jF):Prop:=∀i,vs'.ownBlock=jB i->i<w.1.size->vs.ownBlock=jB i
section
variable {n0 kb:Nat}{vs:Value}{w:jF}{f:List Nd}{a:rQ}{sz:List Int}{why:Int}{A:Option Addr}{c:Nat}{Ai An:Option Addr}{ni ci nn cn:Nat}
theorem Jl.gK (h:Jl n0 kb vs w f a sz why A c Ai ni ci An nn cn):kb<w.1.size:=rX h.bk
theorem Jl.nk (h:Jl n0 kb vs w f a sz why A c Ai ni ci An nn cn):vs.ownBlock≠jB kb:=qQ h.own h.bk δ
theorem Jl.below (h:Jl n0 kb vs w f a sz why A c Ai ni ci An nn cn)(hb:Below w.1.size w w1):Jl n0 kb vs w1 f a sz why A c Ai ni ci An nn cn:=by
 have b:=qW.of_below hb;have hS:∀g,w.1.size<=g->g<w.1.size->g=kb\/vs.ownBlock=jB g:=λg i j=>ω
 exact⟨(hb.block kb h.gK).trans h.bk,h.Xc.go b hS (λ_ e _=>e),h.aut.go b hS (λ_ e _=>e),qR h.own b (λg d e=>by have:=(h.own.lt g d).2;omega),h.lt⟩
theorem Jl.form {g:List Nd}(h:Jl n0 kb vs w f a sz why A c Ai ni ci An nn cn)(hb:Below w.1.size w w1)(d:w1.ownsRow w.1.size 44 2 (iX A2 (η g) c2) (η g) (qP g)):
  Jl n0 kb vs (w1.setCell ⟨kb,0,jC⟩ (iX A2 (η g) c2)) g a sz why A2 c2 Ai ni ci An nn cn/\qW (Nz kb vs) w (w1.setCell ⟨kb,0,jC⟩ (iX A2 (η g) c2)):=by
 have b:=h.below hb;have l:=h.gK;have hs:=hb.size;have s:qW (λk=>k=kb) w1 (w1.setCell ⟨kb,0,jC⟩ (iX A2 (η g) c2)):=(qW.refl (λk=>k=kb) w1).setCell (p:=⟨kb,0,jC⟩) (λ_=>rfl) _;have hS:∀g,g=kb->g<w1.1.size->g=kb\/vs.ownBlock=jB g:=λg e _=>.inl e
 refine⟨⟨?_,?_,b.aut.go s hS (λ_ e _=>e),qR b.own s (λg j e=>b.nk (e▸j)),h.lt⟩,?_⟩
 ·have:=heap_setCell_same w1 kb 0 _ _ (iX A2 (η g) c2) b.bk;simpa using this
 ·exact(ahH (kb:=kb) (vs:=vs) d (λi hi=>⟨λe=>by have:=(d.lt i hi).1;omega,λe=>by have:=(d.lt i hi).1;have:=(h.own.lt i e).2;omega⟩)).go s hS (λ_ e _=>e)
 ·exact qW.trans ((qW.of_below hb).mono (λi hi e=>ω)) s (λi _ e=>.inl e)
theorem Jl.auto {b:rQ}{d j:Option Addr}{l m mn dn:Nat}(h:Jl n0 kb vs w f a sz why A c Ai ni ci An nn cn)(hb:Below w.1.size w w1)(o:Gw w.1.size w1 b d l m j mn dn):
  Jl n0 kb vs (((w1.setCell ⟨kb,1,jC⟩ (iY iZ b.sets)).setCell ⟨kb,2,jC⟩ (iX d l m)).setCell ⟨kb,3,jC⟩ (iX j mn dn)) f b sz why A c d l m j mn dn/\qW (Nz kb vs) w (((w1.setCell ⟨kb,1,jC⟩ (iY iZ b.sets)).setCell ⟨kb,2,jC⟩ (iX d l m)).setCell ⟨kb,3,jC⟩ (iX j mn dn)):=by
 have n:=h.below hb;have q:=h.gK;have hs:=hb.size
 have s:qW (λk=>k=kb) w1 (((w1.setCell ⟨kb,1,jC⟩ (iY iZ b.sets)).setCell ⟨kb,2,jC⟩ (iX d l m)).setCell ⟨kb,3,jC⟩ (iX j mn dn)):=
  (((qW.refl (λk=>k=kb) w1).setCell (p:=⟨kb,1,jC⟩) (λ_=>rfl) _).setCell (p:=⟨kb,2,jC⟩) (λ_=>rfl) _).setCell (p:=⟨kb,3,jC⟩) (λ_=>rfl) _
 have hS:∀g,g=kb->g<w1.1.size->g=kb\/vs.ownBlock=jB g:=λg e _=>.inl e
 refine⟨⟨?_,n.Xc.go s hS (λ_ e _=>e),?_,qR n.own s (λg r e=>n.nk (e▸r)),h.lt⟩,?_⟩
 ·have t1:=heap_setCell_same w1 kb 1 _ _ (iY iZ b.sets) n.bk;have t2:=heap_setCell_same _ kb 2 _ _ (iX d l m) t1;have t3:=heap_setCell_same _ kb 3 _ _ (iX j mn dn) t2;simpa using t3
 ·exact(ai2 (kb:=kb) (vs:=vs) o q h.lt (λi hi=>(h.own.lt i hi).2)).go s hS (λ_ e _=>e)
 ·exact qW.trans ((qW.of_below hb).mono (λi hi e=>ω)) s (λi _ e=>.inl e)
theorem Jl.aek (h:Jl n0 kb vs w f a sz why A c Ai ni ci An nn cn)(e):Jl n0 kb vs (w.setCell ⟨kb,5,jC⟩ (iY iZ e)) f a sz e A c Ai ni ci An nn cn/\qW (Nz kb vs) w (w.setCell ⟨kb,5,jC⟩ (iY iZ e)):=by
 have s:qW (λk=>k=kb) w (w.setCell ⟨kb,5,jC⟩ (iY iZ e)):=(qW.refl (λk=>k=kb) w).setCell (p:=⟨kb,5,jC⟩) (λ_=>rfl) _;have hS:∀g,g=kb->g<w.1.size->g=kb\/vs.ownBlock=jB g:=λg e _=>.inl e
 refine⟨⟨?_,h.Xc.go s hS (λ_ e _=>e),h.aut.go s hS (λ_ e _=>e),qR h.own s (λg b e=>h.nk (e▸b)),h.lt⟩,s.mono (λi _ e=>.inl e)⟩;have:=heap_setCell_same w kb 5 _ _ (iY iZ e) h.bk;simpa using this
theorem Jl.push {m d:jF}{b:Value}{x:Int}(h:Jl n0 kb vs w f a sz why A c Ai ni ci An nn cn)(hb:Below w.1.size w m)(o:d.ownsRow n0 3 1 b (η sz+1) (qO sz++[iY iZ x]))(q:qW (λk=>vs.ownBlock=jB k) m d)
  (hv:b.ownBlock=vs.ownBlock\/b.ownBlock=jB m.1.size):
  Jl n0 kb b (d.setCell ⟨kb,4,jC⟩ b) f a (sz++[x]) why A c Ai ni ci An nn cn/\qW (Nz kb vs) w (d.setCell ⟨kb,4,jC⟩ b)/\NvR vs b w:=by
 have n:=h.below hb;have u:=h.gK;have hs:=hb.size
 have l:∀i,b.ownBlock=jB i->i<m.1.size->vs.ownBlock=jB i:=λi hi hl=>by
  rcases hv with e|e
  ·rw[<-e];exact hi
  ·rw[e]at hi;injection hi with hi;omega
 have t:=qW.setCell (S:=Nz kb vs) (q.mono (λ_ _ e=>Or.inr e)) (p:=⟨kb,4,jC⟩) (λ_=>.inl rfl) b;have hS:∀g,Nz kb vs g->g<m.1.size->g=kb\/vs.ownBlock=jB g:=λ_ e _=>e
 have j:=q.blk n.bk n.nk;have s:qW (λk=>k=kb) d (d.setCell ⟨kb,4,jC⟩ b):=(qW.refl (λk=>k=kb) d).setCell (p:=⟨kb,4,jC⟩) (λ_=>rfl) _;refine⟨⟨?_,n.Xc.go t hS l,n.aut.go t hS l,?_,h.lt⟩,qW.trans ((qW.of_below hb).mono (λi hi e=>ω)) t (λi _ e=>e),λi hi hl=>l i hi ω⟩
 ·have:=heap_setCell_same d kb 4 _ _ b j;simpa using this
 ·have e:qO (sz++[x])=qO sz++[iY iZ x]:=by simp[qO]
  rw[e,lA,jU];exact qR o s (λg r e=>qQ o j δ (by rw[r,e]))
end
set_option maxHeartbeats 1000000
theorem ae2 (h:η l=k+1):∃b:k<η l,Ni l=l[k].op:=by
 refine⟨ω,?_⟩;have a:l≠[]:=by rintro rfl;simp at h
 have e:η l-1=k:=ω;rw[Ni,List.getLast?_eq_getElem?,e,gE ω];rfl
theorem Jg (A n c l w B)(hs:Sl w B 2 A n c (qP l))(a:n=η l)(g:0<n)(hl:n<=1000000000):
  Calls jJ 132 #[iX A n c] w λe w'=>e=.returned (iY iZ (Ni l))/\w=w':=by
 obtain⟨k,rfl⟩:∃k,n=k+1:=⟨n-1,ω⟩;obtain⟨i,d⟩:=ae2 a.symm;obtain⟨b,o,rfl,_,hc,hd⟩:=vZ hs.rd i;rw[d];clear d a;generalize l[k]=x at *;go_enter Tryz.func132,Tryz.ntmps132;go_wp2
 go_ret
 exact⟨rfl,rfl⟩
theorem CX (A1 A2 n1 c1 n2 c2 xs ys w c B2)(d:Sl w c 2 A1 n1 c1 (qP xs))(hy:Sl w B2 2 A2 n2 c2 (qP ys))(a:n1=η xs)(b:n2=η ys)(hl:n1<=1000000000):
  Calls jJ 156 #[iX A1 n1 c1,iX A2 n2 c2] w (Said w (decide (xs=ys))):=by
 have h:=ZQ A1 A2 n1 c1 n2 c2 xs ys w c B2 d hy a b hl;have H:=dh h;clear h a b;go_enter Tryz.func156,Tryz.ntmps156;go_wp2_with fail
 refine Calls.mono H ?_;rintro e w1 ⟨rfl,m,hw⟩;have g:=dh hw;clear hw;go_wp2
 go_ret
 exact⟨rfl,m,g.o⟩
def F4 (l:List Nd):Int×Bool×Bool:=match Jq l with|some (n,b)=>(n,b,jD)|none=>(0,jE,jE)
def OC (l:List Nd)(w:jF)(e:Ending)(w':jF):Prop:=e=.returned (.tuple #[iY iZ (F4 l).1,jI (F4 l).2.1,jI (F4 l).2.2])/\w=w'
theorem MC {n:Int}{a b:Bool}(h:F4 l=(n,a,b))(w):OC l w (.returned (.tuple #[iY iZ n,jI a,jI b])) w:=by rw[OC,h];exact⟨rfl,rfl⟩
theorem Np (A n c l w B)(hs:Sl w B 2 A n c (qP l))(a:n=η l)(hl:n<=1000000000):
  Calls jJ 170 #[iX A n c] w (OC l w):=by
 by_cases e:n=1
 ·obtain⟨x,rfl⟩:=List.length_eq_one_iff.1 (a.symm.trans e);subst e;clear a;obtain⟨b,o,rfl,_,hc,hd⟩:=vZ hs.rd (k:=0) ς;simp only[om,Nat.zero_mul,nG]at hc hd;obtain⟨op,m⟩:=x;dsimp only at hc hd;have t:((1:Int)==1)=jD:=rfl;by_cases d:op=3
  ·subst d;have r:((3:Int)==3)=jD:=rfl;go_enter Tryz.func170,Tryz.ntmps170;go_wp2
   exact bodyPost_ret (v:=.tuple #[iY iZ m,jI jE,jI jD]) (by simp[results,Tryz.results170,go_sem]) rfl (MC (by simp[F4,Jq]) _)
  ·have u:(op==3)=jE:=by simpa using d
   have z:((1:Int)==2)=jE:=rfl;have s:=dh d;clear d;go_enter Tryz.func170,Tryz.ntmps170;go_wp2
   exact bodyPost_ret (v:=.tuple #[iY iZ 0,jI jE,jI jE]) (by simp[results,Tryz.results170,go_sem]) rfl (MC (by simp[F4,Jq,s.o]) _)
 by_cases p:n=2
 ·obtain⟨x,y,rfl⟩:∃x y,l=[x,y]:=by
   match l,a.symm.trans p with
   |[x,y],_=>exact⟨x,y,rfl⟩
  subst p;clear a e;obtain⟨b,o,rfl,_,hc,hd⟩:=vZ hs.rd (k:=0) ς;obtain⟨b',I,C,_,g,i⟩:=vZ hs.rd (k:=1) ς;cases C;simp only[om,List.getElem_cons_succ,Nat.zero_mul,nG,Nat.one_mul]at hc hd g i;obtain⟨op,m⟩:=x;obtain⟨j,m'⟩:=y;dsimp only at hc hd g i;have D:((2:Int)==1)=jE:=rfl;have E:((2:Int)==2)=jD:=rfl;by_cases d:op=3
  ·subst d;have r:((3:Int)==3)=jD:=rfl;by_cases q:j=4
   ·subst q;have F:((4:Int)==4)=jD:=rfl;go_enter Tryz.func170,Tryz.ntmps170;go_wp2
    exact bodyPost_ret (v:=.tuple #[iY iZ m,jI jD,jI jD]) (by simp[results,Tryz.results170,go_sem]) rfl (MC (by simp[F4,Jq]) _)
   ·have J:(j==4)=jE:=by simpa using q
    have G:=dh q;clear q;go_enter Tryz.func170,Tryz.ntmps170;go_wp2
    exact bodyPost_ret (v:=.tuple #[iY iZ 0,jI jE,jI jE]) (by simp[results,Tryz.results170,go_sem]) rfl (MC (by simp[F4,Jq,G.o]) _)
  ·have u:(op==3)=jE:=by simpa using d
   have s:=dh d;clear d;go_enter Tryz.func170,Tryz.ntmps170;go_wp2
   exact bodyPost_ret (v:=.tuple #[iY iZ 0,jI jE,jI jE]) (by simp[results,Tryz.results170,go_sem]) rfl (MC (by simp[F4,Jq,s.o]) _)
 ·have e1:((n:Int)==1)=jE:=by simpa using(by omega:¬((n:Int)=1))
  have e2:((n:Int)==2)=jE:=by simpa using(by omega:¬((n:Int)=2))
  have hv:F4 l=(0,jE,jE):=by
   match l,a with
   |[],_=>rfl
   |[_],a=>exact absurd a e
   |[_,_],a=>exact absurd a p
   | _::_::_::_,_=>rfl
  have H:=dh hv;clear hv e p a;go_enter Tryz.func170,Tryz.ntmps170;go_wp2
  exact bodyPost_ret (v:=.tuple #[iY iZ 0,jI jE,jI jE]) (by simp[results,Tryz.results170,go_sem]) rfl (MC H _)
theorem YX (a b):FU a b=((F4 a).2.2&&(F4 b).2.2&&((F4 a).1==(F4 b).1)&&((F4 a).2.1 !=(F4 b).2.1)):=by
 unfold FU F4;cases Jq a<;>cases Jq b<;>rfl
theorem acD (A1 A2 n1 c1 n2 c2 xs ys w l B2)(n:Sl w l 2 A1 n1 c1 (qP xs))(hy:Sl w B2 2 A2 n2 c2 (qP ys))(c:n1=η xs)(g:n2=η ys)(hl:n1<=1000000000)(i:n2<=1000000000):
  Calls jJ 157 #[iX A1 n1 c1,iX A2 n2 c2] w λe w'=>e=.returned (jI (FU xs ys))/\w=w':=by
 have j:=Np A1 n1 c1 xs w l n c hl;have k:=Np A2 n2 c2 ys w B2 hy g i;rw[YX];unfold OC at j k;generalize F4 xs=p at *;generalize F4 ys=q at *;obtain⟨a,b,d⟩:=p;obtain⟨a',b',d'⟩:=q;dsimp only at *;obtain⟨H1,m⟩:=iw j k;clear j k c g;cases d<;>cases d'
 all_goals
  first
   |(go_enter Tryz.func157,Tryz.ntmps157
     go_wp2_with fail
     refine Calls.mono H1 ?_;rintro e w1 ⟨rfl,rfl⟩;go_wp2_with fail
     refine Calls.mono m ?_;rintro e w1 ⟨rfl,rfl⟩;go_wp2
     go_ret
     exact⟨rfl,rfl⟩)
   |(cases e:(a==a')<;>cases b<;>cases b'
     all_goals
      have o:=dh e;go_enter Tryz.func157,Tryz.ntmps157;go_wp2_with fail
      refine Calls.mono H1 ?_;rintro e w1 ⟨rfl,rfl⟩;go_wp2_with fail
      refine Calls.mono m ?_;rintro e w1 ⟨rfl,rfl⟩;go_wp2
      go_ret
      exact⟨rfl,rfl⟩)
theorem XB (A n c l w B)(hs:Sl w B 2 A n c (qP l))(b:n=η l)(a:0<n)(hl:n<=1000000000):
  Calls jJ 104 #[iX A n c] w λe w'=>e=.returned (jI (Ii l))/\w=w':=by
 have h:=Jg A n c l w B hs b a hl;unfold Ii;generalize Ni l=x at *;have H:=dh h;clear h b;cases e1:(x==1)
 all_goals
  go_enter Tryz.func104,Tryz.ntmps104;go_wp2_with (go_at_call 132;refine Calls.mono H ?_;rintro e w1 ⟨rfl,rfl⟩)
  go_ret
  exact⟨ς,rfl⟩
set_option maxHeartbeats 1000000
def X3 (n:Nat)(p:Int×Int):Prop:=p=(-1, -1)\/∃a:Nat,a+1<n/\(p=((a:Int), -1)\/∃b:Nat,a<b/\b+1<n/\p=((a:Int),(b:Int)))
theorem WH {t:Tr}(h:t.ok):X3 (η t.flat) (kids t.flat ((η t.flat:Int)-1)):=by
 have hw:=Tr.Bd h;have hl:=t.rU;have hp:=t.size_pos;obtain⟨k,e⟩:∃k,k+1=t.size:=⟨t.size-1,ω⟩;have f:k<η t.flat:=ω;have g:=Jd hw f;have c:=Cb h;have d:=(at_root c (k:=k) ω).1;have i:t.flat[k]=t.root:=(gB.1 d).2;rw[show((η t.flat:Int)-1)=(k:Int) by omega,g,i,hl]
 match t,h,e,c with
 | .leaf x,⟨h,_⟩,e,_=>left;simp[Tr.root,h]
 | .un x a,⟨h,j⟩,e,_=>
  simp only[Tr.size]at e;have hs:=a.size_pos;right;refine⟨k-1,by simp only[Tr.size];omega,.inl ?_⟩;simp only[Tr.root,h,pz];congr 1;omega
 | .bin x a b,⟨h,j,hb⟩,e,c=>
  simp only[Tr.size]at e;have hs:=a.size_pos;have l:=b.size_pos;have m:=(at_root c.2.1 (k:=k-1) ω).2;right;refine⟨a.size-1,by simp only[Tr.size];omega,.inr ⟨k-1,ω,by simp only[Tr.size];omega,?_⟩⟩;simp only[Tr.root,h,show ¬((2:Int)=1) by decide,nI,pz];rw[m];simp only[jS];congr 1<;>omega
def aa6 (w:jF)(p:List Nd×List Nd)(e:Ending)(w':jF):Prop:=
 ∃A1 c1 A2 c2,e=.returned (.tuple #[iX A1 (η p.1) c1,iX A2 (η p.2) c2])/\Sl w' w'.1.size 2 A1 (η p.1) c1 (qP p.1)/\Sl w' w'.1.size 2 A2 (η p.2) c2 (qP p.2)/\Below w.1.size w w'
theorem Yh {w:jF}{p:List Nd×List Nd}{a b:List Nd}{n2 c1:Nat}{A1:Option Addr}(hp:p=(a,b))(e:η a=n1)(f:η b=n2)(c:Sl w' w'.1.size 2 A1 n1 c1 (qP a))(d:Sl w' w'.1.size 2 A2 n2 c2 (qP b))(hb:Below w.1.size w w'):
  aa6 w p (.returned (.tuple #[iX A1 n1 c1,iX A2 n2 c2])) w':=by
 subst e;subst f;subst hp;exact⟨A1,c1,A2,c2,rfl,c,d,hb⟩
theorem Eh (l k):qP (l.take k)=(qP l).take (k*2):=by
 induction l generalizing k with
 |nil=>simp[qP]
 |cons x l a=>
  rcases k with _|k
  ·simp[qP]
  ·have:=a k;simp only[qP]at this;simp only[qP,List.take_succ_cons,l8,this,show(k+1)*2=k*2+2 by omega];simp
theorem Ws (l k):qP (l.drop k)=(qP l).drop (k*2):=by
 induction l generalizing k with
 |nil=>simp[qP]
 |cons x l a=>
  rcases k with _|k
  ·simp[qP]
  ·have:=a k;simp only[qP]at this;simp only[qP,List.drop_succ_cons,l8,this,show(k+1)*2=k*2+2 by omega];simp
theorem Na (A:Option Addr)(n c:Nat)(l:List Nd)(w:jF)(B:Nat)(hs:Sl w B 2 A n c (qP l))(m:n=η l)(E:0<n)(q:B<=w.1.size)(hl:n<=1000000)(F:X3 n (kids l ((n:Int)-1))):
  Calls jJ 159 #[iX A n c] w (aa6 w (wU l)):=by
 have x:=QU A c l ((n:Int)-1) w B (by rw[<-m];exact hs) q ω ω;rw[<-m]at x
 have j:wU l=(if(kids l ((n:Int)-1)).1<0 then([],[])
  else if(kids l ((n:Int)-1)).2<0 then(l.take ((kids l ((n:Int)-1)).1+1).toNat,[])
  else(l.take ((kids l ((n:Int)-1)).1+1).toNat,(l.take ((kids l ((n:Int)-1)).2+1).toNat).drop ((kids l ((n:Int)-1)).1+1).toNat)):=by rw[m];rfl
 generalize kids l ((n:Int)-1)=p at *;obtain⟨H,y⟩:=iw x m;clear x m;have C:=hs.cap;have D:c<=9223372036854775807:=by have:=hs.max;unfold maxLen at this;omega
 rcases F with rfl|⟨a,K,rfl|⟨b,G,hb,rfl⟩⟩
 ·have hp:wU l=([],[]):=j;have r:=dh hp;clear hp j;go_enter Tryz.func159,Tryz.ntmps159;go_wp2_with fail
  refine Calls.mono H ?_;rintro e w1 ⟨rfl,d⟩;go_wp2
  go_ret2
  exact Yh r rfl rfl (Sl.none_ _ _ _) (Sl.none_ _ _ _) d
 ·have hp:wU l=(l.take (a+1),[]):=by rw[j];simp only[show ¬((a:Int)<0) by omega,nI];rfl
  have r:=dh hp;clear hp j;go_enter Tryz.func159,Tryz.ntmps159;go_wp2_with fail
  refine Calls.mono H ?_;rintro e w1 ⟨rfl,d⟩;go_wp2
  go_ret2
  have g:=((hs.below d q).up (Nat.le_trans q d.size)).take (k:=a+1) ω;rw[<-Eh]at g;exact Yh r (by rw[jq];have:=y.o;omega) rfl g (Sl.none_ _ _ _) d
 ·have hp:wU l=(l.take (a+1),(l.take (b+1)).drop (a+1)):=by
   rw[j];simp only[show ¬((a:Int)<0) by omega,show ¬((b:Int)<0) by omega,nI];rfl
  have r:=dh hp;clear hp j;have z:¬c=a+1:=ω;have e1:IntKind.i64.wrap ((a:Int)+1)=(a:Int)+1:=IntWalk.i64_in _ ω;have e2:IntKind.i64.wrap ((b:Int)+1)=(b:Int)+1:=IntWalk.i64_in _ ω;have u:((a:Int)+1).toNat=a+1:=ω;have v:((b:Int)+1).toNat=b+1:=ω;obtain⟨E1,E2,I,J⟩:=iB e1 e2 u v;clear e1 e2 u v;have i0:(0:Int)<=(a:Int)+1:=ω;have i1:(a:Int)+1<=(b:Int)+1:=ω;have i2:(b:Int)+1<=(c:Int):=ω;have i3:(0:Int)<=(b:Int)+1:=ω;have i4:(a:Int)+1<=(c:Int):=ω;go_enter Tryz.func159,Tryz.ntmps159;go_wp2_with fail
  refine Calls.mono H ?_;rintro e w1 ⟨rfl,d⟩;go_wp2
  have e1:=E1.o;have e2:=E2.o;have u:=I.o;have v:=J.o;go_quiet (fail)
  clear e1 e2 u v;go_wp2
  go_ret2
  have i:=below_drewN d nq;have s:=(hs.below i q).up (Nat.le_trans q i.size);have g:=s.take (k:=a+1) ω;have t:=(s.take (k:=b+1) ω).drop (k:=a+1) ω;rw[d9 z,<-Eh,<-Ws,show b+1-(a+1)=b-a by omega]at t;rw[<-Eh]at g;exact Yh r (by rw[jq];have:=y.o;omega) (by rw[List.length_drop,jq];have:=y.o;omega) g t i
set_option maxHeartbeats 1000000
theorem RI (A A2:Option Addr)(n c n2 c2:Nat)(l g:List Nd)(op:Int)(w:jF)(B B2:Nat)(hs:Sl w B 2 A n c (qP l))(s:Sl w B2 2 A2 n2 c2 (qP g))(t:n=η l)(i:n2=η g)(j:0<n)(J:B<=w.1.size)(u:B2<=w.1.size)
  (hl:n<=1000000)(K:X3 n (kids l ((n:Int)-1))):
  Calls jJ 158 #[iX A n c,iY iZ op,iX A2 n2 c2] w (AX w (NP l op g)):=by
 have D:=Jg A n c l w B hs t j ω;have E:=Na A n c l w B hs t j J hl K
 have hpl:(wU l).1.length<=1000000/\(wU l).2.length<=1000000:=by
  unfold wU;split
  ·simp
  split
  ·simp;omega
  ·simp;omega
 have F:∀b1 b2 b3,(Ni l==op)=b1->decide ((wU l).1=g)=b2->decide ((wU l).2=g)=b3->NP l op g=(b1&&(b2||b3)):=by rintro b1 b2 b3 rfl rfl rfl;rfl
 generalize wU l=p at *;generalize Ni l=x at *;obtain⟨G,L,v,y⟩:=iB D E i F;clear D E t i F;cases d:(x==op)
 ·have z:(x !=op)=jD:=by simp[bne,d]
  have q:=dh d;clear d;go_enter Tryz.func158,Tryz.ntmps158;go_wp2_with fail
  refine Calls.mono G ?_;rintro e w1 ⟨rfl,rfl⟩;go_wp2
  go_ret
  exact⟨rH (by rw[y _ _ _ q rfl rfl];rfl),bR⟩
 ·have z:(x !=op)=jE:=by simp[bne,d]
  have q:=dh d;clear d;go_enter Tryz.func158,Tryz.ntmps158;go_wp2_with fail
  refine Calls.mono G ?_;rintro e w1 ⟨rfl,rfl⟩;go_wp2_with fail
  refine Calls.mono L ?_;rintro e w1 ⟨A3,c3,M,N,rfl,k,C,a⟩;have b:=s.below a u;cases r:decide (p.1=g)
  ·have H1:=dh r;clear r;cases H:decide (p.2=g)
   all_goals
    have I:=dh H;clear H;go_wp2_with fail
    refine(CX A3 A2 _ c3 _ c2 p.1 g _ _ _ k b rfl v ω).mono ?_;rw[H1.o];rintro e w2 ⟨rfl,m,rfl⟩;go_wp2_with fail
    refine(CX M A2 _ N _ c2 p.2 g _ _ _ (C.below (below_drewN bR m) lR) (b.below (below_drewN (Below.refl B2 _) m) lR) rfl v ω).mono ?_;rw[I.o];rintro e w2 ⟨rfl,O,rfl⟩;go_wp2
    go_ret
    exact⟨rH (by rw[y _ _ _ q H1 I.o];rfl),below_drewN a _⟩
  ·have H1:=dh r;clear r;go_wp2_with fail
   refine(CX A3 A2 _ c3 _ c2 p.1 g _ _ _ k b rfl v ω).mono ?_;rw[H1.o];rintro e w2 ⟨rfl,m,rfl⟩;go_wp2
   go_ret
   exact⟨rH (by rw[y _ _ _ q H1 rfl];rfl),below_drewN a _⟩
def Nb (w:jF)(A:Option Addr):Prop:=∀a,A=jB a->∃cs,w.1[a.block]? =jB (jG cs 44 (0,0))
theorem Nb.below {w:jF}(h:Nb w A)(hb:Below w.1.size w w'):Nb w' A:=λa b=>by
 obtain⟨cs,hc⟩:=h a b;exact⟨cs,(hb.block _ (lt_of_block hc)).trans hc⟩
theorem aiN {w:jF}{m:Nat}(h:w.ownsRow base 44 size (iX A m c) n xs):Nb w A:=λa b=>by
 rcases h.2 with⟨d,_⟩|⟨g,cap,cur,hv,_,e,_⟩
 ·cases d;cases b
 ·cases hv;cases b;exact⟨cur,e⟩
def xK (w:jF)(l:List Nd)(e:Ending)(w':jF):Prop:=
 ∃A c,e=.returned (iX A (η l) c)/\Sl w' w'.1.size 2 A (η l) c (qP l)/\Nb w' A/\Below w.1.size w w'
theorem zB (A n c L op w B)(hs:Gx w B 2 A n c (L.map qP))(r:B<=w.1.size)(hl:zA L<=1000000):
  Calls jJ 68 #[iY iZ op,iX A n c] w (xK w (vJ op L.flatten)):=by
 have hC:=Xp A n c L w B hs r ω;have hlen:η (vJ op L.flatten)=zA L+1:=by rw[vJ,lA,abB];rfl
 have a:qP (vJ op L.flatten)=qP L.flatten++[iY iZ op,iY iZ 0]:=by simp[vJ,qP]
 unfold xK;rw[hlen,a];have H:=dh hC;clear hC hlen a;generalize zA L=t at *;go_enter Tryz.func68,Tryz.ntmps68;go_wp2_with fail
 refine Calls.mono H ?_;rintro e w1 ⟨v1,rfl,b,i,j⟩;clear j;have k:=i.size;go_wp2_with (at_builtin;refine rD rfl (.tmp 6) (.tmp 9) 114 rfl w.1.size 44 2 16 Yw v1 t _ (b.alloc _) rfl w1.1.size #[iY iZ op,iY iZ 0] rfl (heap_alloc_new w1 _) rfl (by simp[Value.oneCell']) ω ω (by simp;omega) ?_;intro v2 w2 d l p q)
 go_ret
 obtain⟨A2,c2,rfl,m⟩:=qX d;refine⟨A2,c2,rfl,m,aiN d,?_⟩;exact(i.alloc k _).trans (l.below (by simp;omega) (λg s o=>by have:=(b.lt g o).1;omega))
theorem TM {w:jF}(d:w.1[g]? =jB (jG #[iX A n c] t (0,0)))(a:g<B)(hs:Sl w B size A n c ys):Gx w B size (jB ⟨g,0,jC⟩) 1 1 [ys]:=by
 refine⟨[iX A n c],⟨rfl,lR,by unfold maxLen;omega,ς,.inr ⟨g,0,rfl,a,λj u hu=>?_⟩⟩,rfl,λj e b=>?_⟩
 ·rcases j with _|j
  ·simp at hu;subst hu;rw[cell_of_row w g _ _ _ (0,0) d];rfl
  ·simp at hu
 ·rcases j with _|j
  ·simp at b;subst b;exact⟨A,n,c,rfl,hs⟩
  ·simp at b
theorem Ob {w:jF}{n' c':Nat}{A':Option Addr}{e:List Value}(f:w.1[g]? =jB (jG #[iX A n c,iX A' n' c'] t (0,0)))(b:g<B)(hs:Sl w B size A n c ys)(d:Sl w B size A' n' c' e):Gx w B size (jB ⟨g,0,jC⟩) 2 2 [ys,e]:=by
 refine⟨[iX A n c,iX A' n' c'],⟨rfl,lR,by unfold maxLen;omega,ς,.inr ⟨g,0,rfl,b,λj u hu=>?_⟩⟩,rfl,λj xs a=>?_⟩
 ·rcases j with _| _|j
  ·simp at hu;subst hu;rw[cell_of_row w g _ _ _ (0,0) f];rfl
  ·simp at hu;subst hu;rw[cell_of_row w g _ _ _ (0,0) f];rfl
  ·simp at hu
 ·rcases j with _| _|j
  ·simp at a;subst a;exact⟨A,n,c,rfl,hs⟩
  ·simp at a;subst a;exact⟨A',n',c',rfl,d⟩
  ·simp at a
theorem abR (A n c l w B)(hs:Sl w B 2 A n c (qP l))(hA:Nb w A)(d:n=η l)(g:0<n)(p:B<=w.1.size)(hl:n<=1000000):
  Calls jJ 69 #[iX A n c] w (xK w (La l)):=by
 have hb:=XB A n c l w B hs d g ω;obtain⟨q,r⟩:=iw hb d;clear hb d;cases e:Ii l
 ·have a:La l=vJ 8 l:=by simp[La,e]
  have s:zA [l]<=1000000:=by have:=r.o;simp[zA];omega
  rw[a];have E:=dh e;clear e a;have b:Below w.1.size w (w.alloc (jG #[iX A n c] 114)):=bR.alloc lR _;have i:=(hs.below b p).up (B':=w.1.size+1) ω;have hw:=zB _ 1 1 [l] 8 (w.alloc (jG #[iX A n c] 114)) (w.1.size+1) (TM (heap_alloc_new w _) (nW _) i) ς s;rw[show[l].flatten=l by simp]at hw;have u:=dh hw;clear hw;go_enter Tryz.func69,Tryz.ntmps69;go_wp2_with fail
  refine Calls.mono q ?_;rw[E.o];rintro e w1 ⟨rfl,rfl⟩;go_wp2_with fail
  refine Calls.mono u ?_;rintro e w2 ⟨A2,c2,rfl,j,k,m⟩;go_wp2
  go_ret
  exact⟨A2,c2,rfl,j,k,b.trans (m.mono ς)⟩
 ·have a:La l=l:=by simp[La,e]
  rw[a];have E:=dh e;clear e a;go_enter Tryz.func69,Tryz.ntmps69;go_wp2_with fail
  refine Calls.mono q ?_;rw[E.o];rintro e w1 ⟨rfl,rfl⟩;go_wp2
  go_ret
  have:=r.o;subst this;exact⟨A,c,rfl,hs.up p,hA,bR⟩
open Go
section
variable {P:Program}{a:Act}{w:jF}{Q:Exit->Act->jF->Prop}{l:Nat}{J:Act->jF->Prop}
@[go_sem] theorem yR : Exit.jump l J Q .ret a w = Q .ret a w := rfl
@[go_sem] theorem aiq : Exit.jump l J Q .normal a w = Q .normal a w := rfl
@[go_sem] theorem ajC (id : Nat) : Exit.jump l J Q (.exit id) a w = Q (.exit id) a w := rfl
@[go_sem] theorem ai6 (ch : List PanicEntry) : Exit.jump l J Q (.panic ch) a w = Q (.panic ch) a w := rfl
def EF (P:Program)(l:Nat)(rest:Code)(Q:Exit->Act->jF->Prop)(a:Act)(w:jF):Prop:=rest.wp P (Exit.jump l (λ_ _=>False) Q) a w
theorem QY {c rest:Code}(l)(hf:findLabel c l=jB rest)(first:c.wp P (Exit.jump l (EF P l rest Q) Q) a w):(Code.scope c).wp P Q a w:=by
 refine wp_scope_jumps l (EF P l rest Q) (λ_ _=>0) hf first (λa' w' h=>Code.wp_mono (λe a w q=>?_) h)
 cases e with
 |goto b=>exact q.2.elim
 |normal=>exact q
 |exit id=>exact q
 |ret=>exact q
 |panic d=>exact q
 |outgrown=>exact q
end
set_option maxHeartbeats 4000000
set_option maxRecDepth 100000
def Em (op x y:Int)(s o h1 h2:Bool)(a b:List Nd):List Nd:=
 if(x==yG op)=jD then[⟨yG op,0⟩]else if(y==yG op)=jD then[⟨yG op,0⟩]else if(x==y8 op)=jD then b else if(y==y8 op)=jD then a else if s=jD then a
 else if o=jD then[⟨yG op,0⟩]else if h1=jD then a else if h2=jD then b
 else if(x==8)=jD then(if(y==8)=jD then vJ 8 (vJ op (a.dropLast++b.dropLast))else vJ op (a++b))else vJ op (a++b)
theorem ah5 (op a b):NG op a b=Em op (Ni a) (Ni b) (decide (a=b)) (FU a b) (NP b (zH op) a) (NP a (zH op) b) a b:=by
 have c:∀(p q) [Decidable p] [Decidable q] (u v:List Nd),(if p\/q then u else v)=if p then u else if q then u else v:=by
  intro p q _ _ u v;grind
 have d:∀(p q) [Decidable p] [Decidable q] (u v:List Nd),(if p/\q then u else v)=if p then(if q then u else v)else v:=by
  intro p q _ _ u v;grind
 unfold NG Em;simp[c,d]
theorem y7 {w:jF}(hA:Nb w A)(b:r=l)(hs:Sl w B 2 A n c (qP l))(d:n=η l)(a:B<=w.1.size)(hb:Below w.1.size w w'):xK w r (.returned (iX A n c)) w':=by
 subst b;subst d;exact⟨A,c,rfl,(hs.below hb a).up (Nat.le_trans a hb.size),hA.below hb,hb⟩
theorem Ia {w b:jF}{op:Int}(c:r=[⟨op,0⟩])(hb:Below w.1.size w b):xK w r (.returned (iX (jB ⟨b.1.size,0,jC⟩) 1 1)) (b.alloc (jG #[iY iZ op,iY iZ 0] 44)):=by
 subst c;refine⟨_,1,rfl,⟨rfl,lR,by unfold maxLen;simp,ς,.inr ⟨_,0,rfl,ς,λj u hu=>?_⟩⟩,λa d=>by cases d;exact⟨_,heap_alloc_new _ _⟩,hb.alloc hb.size _⟩;simpa[qP]using hu
theorem AJ {w:jF}(hA:Nb w' A)(a:r=l)(b:n=η l)(hs:Sl w' w'.1.size 2 A n c (qP l))(hb:Below w.1.size w w'):xK w r (.returned (iX A n c)) w':=by
 subst a;subst b;exact⟨A,c,rfl,hs,hA,hb⟩
theorem Gm (h:η l=n):qP l.dropLast=(qP l).take ((n-1)*2):=by
 rw[List.dropLast_eq_take,Eh,h]
theorem Xt (op dl p1 p2:Int)(he:op=5/\dl=6/\p1=2/\p2=1\/op=6/\dl=5/\p1=1/\p2=2)(A A2:Option Addr)(n c n2 c2:Nat)(a b:List Nd)(w:jF)(B B2:Nat)(hs:Sl w B 2 A n c (qP a))(j:Sl w B2 2 A2 n2 c2 (qP b))(hA:Nb w A)(ah:Nb w A2)(U:n=η a)(v:n2=η b)(aj:0<n)(R:0<n2)(E:B<=w.1.size)(l:B2<=w.1.size)
  (hl:n+n2<=100000)(hk:X3 n (kids a ((n:Int)-1)))(az:X3 n2 (kids b ((n2:Int)-1))):
  Calls jJ 133 #[iY iZ op,iX A n c,iX A2 n2 c2] w (xK w (NG op a b)):=by
 have ak:=λw' hb=>Jg A n c a w' B (hs.below hb E) U aj ω
 have ao:=λw' hb=>Jg _ _ _ b w' _ (j.below hb l) v R ω
 have aq:=λw' hb=>CX A _ n c _ _ a b w' B _ (hs.below hb E) (j.below hb l) U v ω
 have ar:=λw' hb=>acD A _ n c _ _ a b w' B _ (hs.below hb E) (j.below hb l) U v ω ω
 have au:=λw' hb=>RI _ A _ _ n c b a dl w' _ B (j.below hb l) (hs.below hb E) v U R (Nat.le_trans l hb.size) (Nat.le_trans E hb.size) ω az
 have av:=λw' hb=>RI A _ n c _ _ a b dl w' B _ (hs.below hb E) (j.below hb l) U v aj (Nat.le_trans E hb.size) (Nat.le_trans l hb.size) ω hk
 have N:Below _ w (w.alloc (jG #[iX A n c,iX A2 n2 c2] 114)):=bR.alloc lR _;have hW:=zB _ 2 2 [a,b] op (w.alloc (jG #[iX A n c,iX A2 n2 c2] 114)) (w.1.size+1) (Ob (heap_alloc_new w _) (nW _) ((hs.below N E).up ω) ((j.below N l).up ω)) ς (by simp[zA];omega);rw[show[a,b].flatten=a++b by simp]at hW;have hlen:η (vJ op (a++b))=n+n2+1:=by simp[vJ];omega
 have hV:=ah5 op a b;rw[show zH _ =dl by rcases he with⟨rfl,rfl, -⟩|⟨rfl,rfl, -⟩<;>rfl]at hV;generalize Ni a=x at *;generalize Ni b=y at *;generalize decide (a=b)=s at *;generalize FU a b=o at *;generalize NP b _ a=p at *;generalize NP a _ b=q at *;obtain⟨z,C,V,W,O,P,HW,F,HN⟩:=dh9 ak ao aq ar au av hW hV U;obtain⟨H,HL⟩:=iw v hlen;clear ak ao aq ar au av hW hV U v hlen;have aO:=hs.cap;have aA:=j.cap;have aP:c<=9223372036854775807:=by have:=hs.max;unfold maxLen at this;omega
 have aB:c2<=9223372036854775807:=by have:=j.max;unfold maxLen at this;omega
 rcases he with⟨u1,u2,u3,u4⟩|⟨u1,u2,u3,u4⟩
 all_goals
  rw[u1];rw[u1]at HW F HL;rw[u2]at O P;go_enter Tryz.func133,Tryz.ntmps133;go_wp2
  refine QY 0 rfl ?_;go_wp2_with fail
  refine Calls.mono HW ?_;rintro e w1 ⟨A3,c3,rfl,X,aw,S⟩;rw[HL.o]at X⊢;have d:Below w.1.size w w1:=N.trans (S.mono ς);clear S N;have g:Below w1.1.size w1 w1:=bR;cases Y:(x==p1)<;>rw[u3]at Y;rotate_left 1
  ·have D:=dh Y;go_wp2_with fail
   refine Calls.mono (z _ d) ?_;rintro e w' ⟨rfl,rfl⟩;go_wp2
   go_step3
   refine⟨rfl,?_⟩;unfold EF;go_wp2
   rw[yR];go_ret
   exact Ia (by rw[F.o];simp[Em,yG,D.o]) d
  have D:=dh Y;go_wp2_with fail
  refine Calls.mono (z _ d) ?_;rintro e w' ⟨rfl,rfl⟩;cases Z:(y==p1)<;>rw[u3]at Z;rotate_left 1
  ·have G:=dh Z;go_wp2_with fail
   refine Calls.mono (C _ d) ?_;rintro e w' ⟨rfl,rfl⟩;go_wp2
   go_step3
   refine⟨rfl,?_⟩;unfold EF;go_wp2
   rw[yR];go_ret
   exact Ia (by rw[F.o];simp[Em,yG,D.o,G.o]) d
  have G:=dh Z;go_wp2_with fail
  refine Calls.mono (C _ d) ?_;rintro e w' ⟨rfl,rfl⟩;cases a1:(x==p2)<;>rw[u4]at a1;rotate_left 1
  ·have I:=dh a1;go_wp2_with fail
   refine Calls.mono (z _ d) ?_;rintro e w' ⟨rfl,rfl⟩;go_wp2
   go_step3
   refine⟨rfl,?_⟩;unfold EF;go_wp2
   rw[yR];go_ret
   exact y7 ah (by rw[F.o];simp[Em,yG,y8,D.o,G.o,I.o]) j H l d
  have I:=dh a1;go_wp2_with fail
  refine Calls.mono (z _ d) ?_;rintro e w' ⟨rfl,rfl⟩;cases a6:(y==p2)<;>rw[u4]at a6;rotate_left 1
  ·have M:=dh a6;go_wp2_with fail
   refine Calls.mono (C _ d) ?_;rintro e w' ⟨rfl,rfl⟩;go_wp2
   go_step3
   refine⟨rfl,?_⟩;unfold EF;go_wp2
   rw[yR];go_ret
   exact y7 hA (by rw[F.o];simp[Em,yG,y8,D.o,G.o,I.o,M.o]) hs HN E d
  have M:=dh a6;go_wp2_with fail
  refine Calls.mono (C _ d) ?_;rintro e w' ⟨rfl,rfl⟩;cases s;rotate_left 1
  ·
   go_wp2_with fail
   refine Calls.mono (V _ d) ?_;rintro e w2 ⟨rfl,m,rfl⟩;go_wp2
   go_step3
   refine⟨rfl,?_⟩;unfold EF;go_wp2
   rw[yR];go_ret
   exact y7 hA (by rw[F.o];simp[Em,yG,y8,D.o,G.o,I.o,M.o]) hs HN E (below_drewN d m)
  go_wp2_with fail
  refine Calls.mono (V _ d) ?_;rintro e w2 ⟨rfl,m,a7⟩;have r:Below w.1.size w w2:=by rw[a7];exact below_drewN d m
  have g:Below w1.1.size w1 w2:=by rw[a7];exact below_drewN bR m
  clear a7;cases o;rotate_left 1
  ·
   go_wp2_with fail
   refine Calls.mono (W _ r) ?_;rintro e w' ⟨rfl,rfl⟩;go_wp2
   go_step3
   refine⟨rfl,?_⟩;unfold EF;go_wp2
   rw[yR];go_ret
   exact Ia (by rw[F.o];simp[Em,yG,y8,D.o,G.o,I.o,M.o]) r
  go_wp2_with fail
  refine Calls.mono (W _ r) ?_;rintro e w' ⟨rfl,rfl⟩;cases p;rotate_left 1
  ·
   go_wp2_with fail
   refine Calls.mono (O _ r) ?_;rintro e w3 ⟨rfl,u⟩;go_wp2
   go_step3
   refine⟨rfl,?_⟩;unfold EF;go_wp2
   rw[yR];go_ret
   exact y7 hA (by rw[F.o];simp[Em,yG,y8,D.o,G.o,I.o,M.o]) hs HN E (r.trans (u.mono r.size))
  go_wp2_with fail
  refine Calls.mono (O _ r) ?_;rintro e w3 ⟨rfl,J⟩;have u:Below w.1.size w w3:=r.trans (J.mono r.size);replace g:Below w1.1.size w1 w3:=g.trans (J.mono g.size);clear J;cases q;rotate_left 1
  ·
   go_wp2_with fail
   refine Calls.mono (P _ u) ?_;rintro e w4 ⟨rfl,i⟩;go_wp2
   go_step3
   refine⟨rfl,?_⟩;unfold EF;go_wp2
   rw[yR];go_ret
   exact y7 ah (by rw[F.o];simp[Em,yG,y8,D.o,G.o,I.o,M.o]) j H l (u.trans (i.mono u.size))
  go_wp2_with fail
  refine Calls.mono (P _ u) ?_;rintro e w4 ⟨rfl,K⟩;have i:Below w.1.size w w4:=u.trans (K.mono u.size);replace g:Below w1.1.size w1 w4:=g.trans (K.mono g.size);clear K;cases ax:(x==8)
  ·have F5:=dh ax;go_wp2_with fail
   refine Calls.mono (z _ i) ?_;rintro e w' ⟨rfl,rfl⟩;go_wp2
   go_step3
   go_wp2
   rw[yR];go_ret
   exact AJ (aw.below g) (by rw[F.o];simp[Em,yG,y8,D.o,G.o,I.o,M.o,F5.o]) HL.symm (X.below g lR |>.up g.size) i
  have F5:=dh ax;go_wp2_with fail
  refine Calls.mono (z _ i) ?_;rintro e w' ⟨rfl,rfl⟩;cases ay:(y==8)
  ·have F6:=dh ay;go_wp2_with fail
   refine Calls.mono (C _ i) ?_;rintro e w' ⟨rfl,rfl⟩;go_wp2
   go_step3
   go_wp2
   rw[yR];go_ret
   exact AJ (aw.below g) (by rw[F.o];simp[Em,yG,y8,D.o,G.o,I.o,M.o,F5.o,F6.o]) HL.symm (X.below g lR |>.up g.size) i
  have F6:=dh ay;go_wp2_with fail
  refine Calls.mono (C _ i) ?_;rintro e w' ⟨rfl,rfl⟩;go_wp2_with fail
  obtain⟨m1,a8⟩:=xR (n-1);obtain⟨m2,ad⟩:=xR (n2-1);have t1:=(hs.below i E).take (k:=m1) ω;have t2:=(j.below i l).take (k:=m2) ω;rw[a8,<-Gm HN.symm,<-a8]at t1;rw[ad,<-Gm H.symm,<-ad]at t2;have aC:=i.size;have af:Below w4.1.size w4 (w4.drew.alloc (jG #[iX A m1 c,iX A2 m2 c2] 114)):=(bR.drew).alloc lR _;have T:Below w.1.size w (w4.drew.alloc (jG #[iX A m1 c,iX A2 m2 c2] 114)):=i.trans (af.mono aC);have Q:=zB _ 2 2 [a.dropLast,b.dropLast] op (w4.drew.alloc (jG #[iX A m1 c,iX A2 m2 c2] 114)) (w4.1.size+1) (Ob (heap_alloc_new w4.drew _) (nW _) ((t1.below af ω).up ω) ((t2.below af ω).up ω)) ς (by have:=HN.o;have:=H.o;simp[zA];omega);rw[show[a.dropLast,b.dropLast].flatten=a.dropLast++b.dropLast by simp]at Q;have aD:η (vJ op (a.dropLast++b.dropLast))<=200000:=by have:=HN.o;have:=H.o;simp[vJ];omega
  have ag:Em op x y jE jE jE jE a b=vJ 8 (vJ op (a.dropLast++b.dropLast)):=by rw[u1];simp[Em,yG,y8,D.o,G.o,I.o,M.o,F5.o,F6.o]
  generalize vJ op (a.dropLast++b.dropLast)=r5 at *;rw[u1]at Q ag;obtain⟨aE,aF⟩:=iw Q ag;have e1:IntKind.i64.wrap ((n:Int)-1)=(m1:Int):=by rw[IntWalk.i64_in _ ω];omega
  have e2:IntKind.i64.wrap ((n2:Int)-1)=(m2:Int):=by rw[IntWalk.i64_in _ ω];omega
  have i2:(m1:Int)<=(c:Int):=ω;have i4:(m2:Int)<=(c2:Int):=ω;clear Q t1 t2 ag a8 ad D G I M F5 F6 z C V W O P HW;go_region_held3 (λ_=>True) (trivial) (first|(go_at_call_of 68 w4.1.size;refine Calls.mono aE ?_;rintro e w6 ⟨A6,c6,rfl,aG,aQ,aH⟩;have L:=T.trans (aH.mono T.size);have aJ:Below w6.1.size w6 (w6.alloc (jG #[iX A6 (η r5) c6] 114)):=bR.alloc lR _;have aK:=dh (zB _ 1 1 [r5] 8 (w6.alloc (jG #[iX A6 (η r5) c6] 114)) (w6.1.size+1) (TM (heap_alloc_new w6 _) (nW _) ((aG.below aJ lR).up ω)) ς (by simp[zA];omega)))|(go_at_call 68;refine Calls.mono aK.out ?_;rw[show[r5].flatten=r5 by simp];rintro e w8 ⟨A8,c8,rfl,aL,aM,aN⟩))
  clear e1 e2;go_wp2
  go_step3
  go_wp2
  rw[yR];go_ret
  exact AJ aM (by rw[F.o,aF.o]) rfl aL ((L.alloc L.size _).trans (aN.mono (by have:=L.size;simp;omega)))
set_option maxHeartbeats 4000000
set_option maxRecDepth 100000
def Nt (op x y:Int)(u s q:Bool)(a b:List Nd):List Nd:=
 if u=jD then b else if(x==BD op)=jD then b else if s=jD then b else if(y==op)=jD then(if q=jD then b else vJ op (a++b))else vJ op (a++b)
theorem ahG (op:Int)(a b:List Nd):Nu op a b=Nt op (Ni a) (Ni b) (Ii b) (decide (a=b)) (decide ((wU b).1=a)) a b:=by
 have d:∀(p q:Prop) [Decidable p] [Decidable q] (u v:List Nd),(if p\/q then u else v)=if p then u else if q then u else v:=by
  intro p q _ _ u v;by_cases hp:p<;>by_cases c:q<;>simp[hp,c]
 have e:∀(p q:Prop) [Decidable p] [Decidable q] (u v:List Nd),(if p/\q then u else v)=if p then(if q then u else v)else v:=by
  intro p q _ _ u v;by_cases hp:p<;>by_cases c:q<;>simp[hp,c]
 unfold Nu Nt;simp only[d,e,lV,jN]
theorem WB (op p1:Int)(he:op=9/\p1=2\/op=10/\p1=1)(A A2:Option Addr)(n c n2 c2:Nat)(a b:List Nd)(w:jF)(B B2:Nat)(hs:Sl w B 2 A n c (qP a))(g:Sl w B2 2 A2 n2 c2 (qP b))(_hA:Nb w A)(E:Nb w A2)(Q:n=η a)(r:n2=η b)(ad:0<n)(z:0<n2)(R:B<=w.1.size)(d:B2<=w.1.size)
  (hl:n+n2<=100000)(af:X3 n2 (kids b ((n2:Int)-1))):
  Calls jJ 134 #[iY iZ op,iX A n c,iX A2 n2 c2] w (xK w (Nu op a b)):=by
 have S:=λ(w':jF) (hb:Below w.1.size w w')=>Jg A n c a w' B (hs.below hb R) Q ad ω
 have T:=λ(w':jF) (hb:Below w.1.size w w')=>Jg A2 n2 c2 b w' B2 (g.below hb d) r z ω
 have U:=λ(w':jF) (hb:Below w.1.size w w')=>CX A A2 n c n2 c2 a b w' B B2 (hs.below hb R) (g.below hb d) Q r ω
 have V:=λ(w':jF) (hb:Below w.1.size w w')=>XB A2 n2 c2 b w' B2 (g.below hb d) r z ω
 have W:=λ(w':jF) (hb:Below w.1.size w w')=>Na A2 n2 c2 b w' B2 (g.below hb d) r z (Nat.le_trans d hb.size) ω af
 have X:=λ(w':jF) (hb:Below w.1.size w w') (A3:Option Addr) (c3:Nat) (l:List Nd) (I:Sl w' w'.1.size 2 A3 (η l) c3 (qP l)) (ag:η l<=1000000000)=>CX A3 A (η l) c3 n c l a w' _ B I (hs.below hb R) rfl Q ag
 have hpl:(wU b).1.length<=1000000000:=by
  unfold wU;split
  ·simp
  split<;>(simp only[jq];omega)
 have hlen:η (vJ op (a++b))=n+n2+1:=by simp[vJ];omega
 have hV:=ahG op a b;generalize Ii b=u at *;generalize Ni a=x at *;generalize Ni b=y at *;generalize decide (a=b)=s at *;generalize wU b=p at *;generalize hq:decide (p.1=a)=q at *;obtain⟨HQ,Y,Z,a1,a6,ah,aj,J,HN⟩:=dh9 hq S T U V W X hV Q;obtain⟨v,HL⟩:=iw r hlen;clear S T U V W X hV Q r hlen hq;have i:Below w.1.size w w:=bR;rcases he with⟨u1,u3⟩|⟨u1,u3⟩
 all_goals
  rw[u1];rw[u1]at J HL;go_enter Tryz.func134,Tryz.ntmps134;cases u;rotate_left 1
  ·
   go_wp2_with fail
   refine Calls.mono (a6 _ i) ?_;rintro e w' ⟨rfl,rfl⟩;go_wp2
   go_ret
   exact y7 E (by rw[J.o];simp[Nt]) g v d i
  go_wp2_with fail
  refine Calls.mono (a6 _ i) ?_;rintro e w' ⟨rfl,rfl⟩;cases K:(x==p1)<;>rw[u3]at K;rotate_left 1
  ·have P:=dh K;go_wp2_with fail
   refine Calls.mono (Y _ i) ?_;rintro e w' ⟨rfl,rfl⟩;go_wp2
   go_ret
   exact y7 E (by rw[J.o];simp[Nt,BD,P.o]) g v d i
  have P:=dh K;go_wp2_with fail
  refine Calls.mono (Y _ i) ?_;rintro e w' ⟨rfl,rfl⟩;cases s;rotate_left 1
  ·
   go_wp2_with fail
   refine Calls.mono (a1 _ i) ?_;rintro e w2 ⟨rfl,m,rfl⟩;go_wp2
   go_ret
   exact y7 E (by rw[J.o];simp[Nt,BD,P.o]) g v d (below_drewN i m)
  go_wp2_with fail
  refine Calls.mono (a1 _ i) ?_;rintro e w2 ⟨rfl,m,a7⟩;have j:Below w.1.size w w2:=by rw[a7];exact below_drewN i m
  clear a7;cases hy:(y==op)<;>rw[u1]at hy
  ·have F2:=dh hy;go_wp2_with fail
   refine Calls.mono (Z _ j) ?_;rintro e w' ⟨rfl,rfl⟩;have hz:=j.size;go_wp2_with fail
   have k:Below w.1.size w (_:jF):=j.alloc hz (jG #[iX A n c,iX A2 n2 c2] 114);have F:=zB _ 2 2 [a,b] op _ _ (Ob (heap_alloc_new _ _) (nW _) ((hs.below k R).up ω) ((g.below k d).up ω)) ς (by have:=HN.o;have:=v.o;simp[zA];omega);rw[u1]at F;rw[show[a,b].flatten=a++b by simp]at F;refine Calls.mono F ?_;clear F;rintro e w9 ⟨A9,c9,rfl,C,L,M⟩;rw[HL.o]at C⊢;go_wp2
   go_ret
   exact AJ L (by rw[J.o];simp[Nt,BD,P.o,F2.o]) HL.symm C (k.trans (M.mono (by simp;omega)))
  have F2:=dh hy;go_wp2_with fail
  refine Calls.mono (Z _ j) ?_;rintro e w' ⟨rfl,rfl⟩;go_wp2_with fail
  refine Calls.mono (ah _ j) ?_;rintro e w3 ⟨A3,c3,A4,c4,rfl,I,ak,H⟩;have N:Below w.1.size w w3:=j.trans (H.mono j.size);clear H ak;have O:=aj _ N _ _ _ I hpl;rw[HQ.o]at O;have a8:=dh O;clear O;cases q;rotate_left 1
  ·
   go_wp2_with fail
   refine Calls.mono a8 ?_;rintro e w4 ⟨rfl,m4,D⟩;have G:Below w.1.size w w4:=by rw[D];exact below_drewN N m4
   clear D;go_wp2
   go_ret
   exact y7 E (by rw[J.o];simp[Nt,BD,P.o,F2.o]) g v d G
  go_wp2_with fail
  refine Calls.mono a8 ?_;rintro e w4 ⟨rfl,m4,D⟩;have G:Below w.1.size w w4:=by rw[D];exact below_drewN N m4
  clear D;have hz:=G.size;go_wp2_with fail
  have k:Below w.1.size w (_:jF):=G.alloc hz (jG #[iX A n c,iX A2 n2 c2] 114);have F:=zB _ 2 2 [a,b] op _ _ (Ob (heap_alloc_new _ _) (nW _) ((hs.below k R).up ω) ((g.below k d).up ω)) ς (by have:=HN.o;have:=v.o;simp[zA];omega);rw[u1]at F;rw[show[a,b].flatten=a++b by simp]at F;refine Calls.mono F ?_;clear F;rintro e w9 ⟨A9,c9,rfl,C,L,M⟩;rw[HL.o]at C⊢;go_wp2
  go_ret
  exact AJ L (by rw[J.o];simp[Nt,BD,P.o,F2.o]) HL.symm C (k.trans (M.mono (by simp;omega)))
def aa7 (g:Nat)(w:jF):Prop:=w.1[g]? =jB (jG #[iY iZ 5,.func (.func 133) #[] #[],iY iZ 6,.func (.func 133) #[] #[],iY iZ 9,.func (.func 134) #[] #[],iY iZ 10,.func (.func 134) #[] #[]] 157 (0,0))
theorem IU (w:jF):Calls jJ 105 #[] w λe w'=>e=.returned (iX (jB ⟨w.1.size,0,jC⟩) 4 4)/\aa7 w.1.size w'/\Below w.1.size w w':=by
 go_enter Tryz.func105,Tryz.ntmps105;go_wp2
 go_ret
 exact⟨rfl,heap_alloc_new w _,bR.alloc lR _⟩
set_option maxHeartbeats 4000000
theorem UF {w:jF}(h:aa7 g w):g<w.1.size/\w.cell? ⟨g,0,jC⟩=jB (iY iZ 5)/\w.cell? ⟨g,1,jC⟩=jB (.func (.func 133) #[] #[])/\w.cell? ⟨g,2,jC⟩=jB (iY iZ 6)/\w.cell? ⟨g,3,jC⟩=jB (.func (.func 133) #[] #[])/\
  w.cell? ⟨g,4,jC⟩=jB (iY iZ 9)/\w.cell? ⟨g,5,jC⟩=jB (.func (.func 134) #[] #[])/\w.cell? ⟨g,6,jC⟩=jB (iY iZ 10)/\w.cell? ⟨g,7,jC⟩=jB (.func (.func 134) #[] #[]):=by
 refine⟨lt_of_block h,?_,?_,?_,?_,?_,?_,?_,?_⟩<;>(rw[cell_of_row w g _ _ _ (0,0) h];rfl)
theorem ahN (op:Int)(A:Option Addr)(n c:Nat)(A2:Option Addr)(n2 c2:Nat)(a b:List Nd)(w:jF)(B B2:Nat)(hs:Sl w B 2 A n c (qP a))(o:Sl w B2 2 A2 n2 c2 (qP b))(hA:Nb w A)(p:Nb w A2)(D:n=η a)(v:n2=η b)(q:0<n)(l:0<n2)(u:B<=w.1.size)(g:B2<=w.1.size)
  (hl:n+n2<=100000)(E:X3 n (kids a ((n:Int)-1)))(r:X3 n2 (kids b ((n2:Int)-1)))(F:op=5\/op=6\/op=9\/op=10):
  Calls jJ 70 #[iY iZ op,iX A n c,iX A2 n2 c2] w (xK w (Gt op a b)):=by
 obtain⟨x,s⟩:=iw D v;clear D v;go_enter Tryz.func70,Tryz.ntmps70;go_wp2_with fail
 refine(IU w).mono ?_;rintro e w1 ⟨rfl,G,m⟩;obtain⟨M,N,c1,H,c3,O,P,c6,c7⟩:=UF G;have I:=m.size;have J:w.1.size<w1.1.size+1:=ω;have K:w.1.size<w1.1.size+1+1:=ω;have L:w.1.size<w1.1.size+1+1+1:=ω;go_wp2
 rcases F with rfl|rfl|rfl|rfl
 ·refine wp_loop_rounds 1 ?_;rw[rounds_succ];go_wp2_with fail
  have d:=(m.alloc ω (jG #[iY iZ 5,.func (.func 133) #[] #[]] 157));refine Calls.mono (Xt 5 6 2 1 (.inl ⟨rfl,rfl,rfl,rfl⟩) A A2 n c n2 c2 a b _ B B2 (hs.below d u) (o.below d g) (hA.below d) (p.below d) x s q l (Nat.le_trans u d.size) (Nat.le_trans g d.size) hl E r) ?_;rintro e y ⟨z,C,rfl,i,j,k⟩;go_wp2
  go_ret
  exact AJ j (by simp[Gt]) rfl i (d.trans (k.mono (by simp;omega)))
 ·refine wp_loop_rounds 2 ?_;rw[rounds_succ];go_wp2
  rw[rounds_succ];go_wp2_with fail
  have d:=((m.alloc ω (jG #[iY iZ 5,.func (.func 133) #[] #[]] 157)).alloc (by simp;omega) (jG #[iY iZ 6,.func (.func 133) #[] #[]] 157));refine Calls.mono (Xt 6 5 1 2 (.inr ⟨rfl,rfl,rfl,rfl⟩) A A2 n c n2 c2 a b _ B B2 (hs.below d u) (o.below d g) (hA.below d) (p.below d) x s q l (Nat.le_trans u d.size) (Nat.le_trans g d.size) hl E r) ?_;rintro e y ⟨z,C,rfl,i,j,k⟩;go_wp2
  go_ret
  exact AJ j (by simp[Gt]) rfl i (d.trans (k.mono (by simp;omega)))
 ·refine wp_loop_rounds 3 ?_;rw[rounds_succ];go_wp2
  rw[rounds_succ];go_wp2
  rw[rounds_succ];go_wp2_with fail
  have d:=(((m.alloc ω (jG #[iY iZ 5,.func (.func 133) #[] #[]] 157)).alloc (by simp;omega) (jG #[iY iZ 6,.func (.func 133) #[] #[]] 157)).alloc (by simp;omega) (jG #[iY iZ 9,.func (.func 134) #[] #[]] 157));refine Calls.mono (WB 9 2 (.inl ⟨rfl,rfl⟩) A A2 n c n2 c2 a b _ B B2 (hs.below d u) (o.below d g) (hA.below d) (p.below d) x s q l (Nat.le_trans u d.size) (Nat.le_trans g d.size) hl r) ?_;rintro e y ⟨z,C,rfl,i,j,k⟩;go_wp2
  go_ret
  exact AJ j (by simp[Gt]) rfl i (d.trans (k.mono (by simp;omega)))
 ·refine wp_loop_rounds 4 ?_;rw[rounds_succ];go_wp2
  rw[rounds_succ];go_wp2
  rw[rounds_succ];go_wp2
  rw[rounds_succ];go_wp2_with fail
  have d:=((((m.alloc ω (jG #[iY iZ 5,.func (.func 133) #[] #[]] 157)).alloc (by simp;omega) (jG #[iY iZ 6,.func (.func 133) #[] #[]] 157)).alloc (by simp;omega) (jG #[iY iZ 9,.func (.func 134) #[] #[]] 157)).alloc (by simp;omega) (jG #[iY iZ 10,.func (.func 134) #[] #[]] 157));refine Calls.mono (WB 10 1 (.inr ⟨rfl,rfl⟩) A A2 n c n2 c2 a b _ B B2 (hs.below d u) (o.below d g) (hA.below d) (p.below d) x s q l (Nat.le_trans u d.size) (Nat.le_trans g d.size) hl r) ?_;rintro e y ⟨z,C,rfl,i,j,k⟩;go_wp2
  go_ret
  exact AJ j (by simp[Gt]) rfl i (d.trans (k.mono (by simp;omega)))
theorem WK:∀(ts:List Tr) (p:Int),(∀t∈ts,t.ok)->BU p (ts.flatMap Tr.flat)=jD->∀t∈ts,t.nnf
 |[],_,_,_=>ς
 |t::ts,p,a,h=>by
  rw[l8,xS,jm]at h;intro u hu;rcases jk.1 hu with rfl|hu
  ·exact(CW u p (a u ji)).1 h.1
  ·exact WK ts _ (λt b=>a t (jc _ b)) h.2 u hu
theorem ac5 {p:Int}(h:BU p f=jD)(k):BU p (f.take k)=jD:=by
 rw[<-lK k f,xS,jm]at h;exact h.1
theorem Nh:∀(ts:List Tr) (st:List (List Nd)),(∀t∈ts,t.ok/\t.nnf)->(ts.flatMap Tr.flat).foldl zi st=st++ts.map λt=>(u7 t).flat
 |[],st,_=>ς
 |t::ts,st,h=>by
  have a:=h t ji;rw[l8,jK,zF t st a.1 a.2,Nh ts _ (λu hu=>h u (jc _ hu))];simp
theorem VA:∀(ts:List Tr) t,t∈ts->t.size<=η (ts.flatMap Tr.flat)
 |u::ts,t,h=>by
  rw[l8,lA,u.rU];rcases jk.1 h with rfl|h
  ·omega
  ·have:=VA ts t h;omega
def Q5 (f:List Nd)(k:Nat):List (List Nd):=(f.take k).foldl zi []
theorem abM (a:k<η f):Q5 f (k+1)=zi (Q5 f k) f[k]:=by
 rw[Q5,rE f k a,jK];rfl
structure aix (f:List Nd)(k:Nat)(st:List (List Nd)):Prop where
 tree:∀r∈st,∃t:Tr,FE t/\r=t.flat/\η r<=k
 len:scan (f.take k) 0=(0,η st)
 le:η st<=k
theorem agV (h:yh f=jD)(j:k<=η f):aix f k (Q5 f k):=by
 have hw:=zm h;have hs:=Me hw;obtain⟨ts,a,b,d⟩:=P7 f (by rw[hs]) k j;have l:BU 0 f=jD:=by simp[yh,hw]at h;exact h
 have e:=WK ts 0 a (by rw[<-b];exact ac5 l k)
 have he:Q5 f k=ts.map λt=>(u7 t).flat:=by
  rw[Q5,b,Nh ts [] (λt c=>⟨a t c,e t c⟩)];rfl
 have hlen:η (ts.flatMap Tr.flat)<=k:=by rw[<-b,jq];omega
 refine⟨λr g=>?_,?_,?_⟩
 ·rw[he]at g;obtain⟨t,c,rfl⟩:=jg.1 g;have i:=uV t (a t c) (e t c);refine⟨_,i.fine,rfl,?_⟩;rw[Tr.rU];have:=i.size;have:=VA ts t c;omega
 ·rw[he,d,jr]
 ·have g:=Dj d;have:=GY (f.take k);rw[jq]at this;rw[he,jr];omega
structure ajw (f:List Nd)(k:Nat)(x:Nd)(d:Nat):Prop where
 op:x.op=1\/x.op=2\/x.op=3\/(x.op=4/\1<=d)\/(x.op=8/\1<=d)\/((x.op=5\/x.op=6\/x.op=9\/x.op=10)/\2<=d)
theorem ahA (h:yh f=jD)(d:k<η f)(hs:aix f k st):ajw f k f[k] (η st):=by
 have hw:=zm h
 have hb:bad f[k] (η st)=0:=by
  rcases Decidable.em (bad f[k] (η st)=0)with b|b
  ·exact b
  ·have:=(GR d hs.len b).1;rw[hw]at this;exact absurd this.symm b
 obtain⟨i,hle,_⟩:=x9 hb;have j:BU 0 f=jD:=by simp[yh,hw]at h;exact h
 have c:Wh (Ak 0 (f.take k)) f[k]=jD:=by
  rcases Bool.eq_false_or_eq_true (Wh (Ak 0 (f.take k)) f[k])with b|b
  ·exact b
  ·have:=aaL d b;rw[this]at h;cases h
 refine⟨?_⟩;have g:=zY f[k].op;have a:takes f[k].op=0\/takes f[k].op=1\/takes f[k].op=2:=ω;generalize f[k]=x at *;rcases a with a|a|a
 ·rcases vV a with e|e|e<;>simp[e]
 ·rcases Bh a with e|e|e|e
  ·rw[a]at hle;simp[e];omega
  ·rw[a]at hle;simp[e];omega
  ·simp[Wh,e]at c
  ·simp[Wh,e]at c
 ·rcases zM a with e|e|e|e|e
  ·rw[a]at hle;simp[e];omega
  ·rw[a]at hle;simp[e];omega
  ·simp[Wh,e]at c
  ·rw[a]at hle;simp[e];omega
  ·rw[a]at hle;simp[e];omega
theorem O8 (h:yh f=jD):Q5 f (η f)=[uD f]:=by
 obtain⟨t,a,b,rfl⟩:=Fg h;rw[Q5,tL lR,zF t [] a b,Dt a b];rfl
theorem Ie {t:Tr}:0<η t.flat:=by rw[Tr.rU];exact t.size_pos
theorem TL:uq jJ 113 114 1 24:=
 uq.mk (z:=iX jC 0 0) Tryz.underlying113 κ δ δ
theorem af6 {w:jF}{o:Nat}(h:w'.1[b]? =w.1[b]?):w'.cell? ⟨b,o,jC⟩=w.cell? ⟨b,o,jC⟩:=by
 simp[jF.cell?,h]
theorem Sl.blk {w:jF}{B':Nat}(h:Sl w B size A n c xs)(d:qW S w w')(hs:∀a,A=jB a->¬S a.block)(i:B<=w.1.size)(e:B<=B'):Sl w' B' size A n c xs:=by
 refine {h with rd:=?_};rcases h.rd with f|⟨b,off,hA,hb,hc⟩
 ·exact .inl f
 ·refine .inr ⟨b,off,hA,ω,λj u g=>?_⟩;rw[af6 (d.block b ω (hs _ hA))];exact hc j u g
def MU (w:jF)(B:Nat)(v:Value)(st:List (List Nd))(vs:List Value):Prop:=
 w.ownsRow B 114 1 v (η st) vs/\∀(j:Nat) r,st[j]? =jB r->∃A c,vs[j]? =jB (iX A (η r) c)/\Sl w w.1.size 2 A (η r) c (qP r)/\Nb w A
section
variable {w w1 w2:jF}{B n c g cap:Nat}{v v2:Value}{st:List (List Nd)}{vs:List Value}{A:Option Addr}{r:List Nd}
theorem MU.below (h:MU w B v st vs)(hb:Below w.1.size w w1):MU w1 B v st vs:=by
 refine⟨own_below h.1 hb,λj r a=>?_⟩;obtain⟨A,c,b,d,e⟩:=h.2 j r a;exact⟨A,c,b,(d.below hb lR).up hb.size,e.below hb⟩
theorem MU.nil (w B):MU w B (iX jC 0 0) [] []:=⟨jF.ownsRow_nil _ _ _ _,ς⟩
theorem MU.cut (h:MU w B (iX A n c) st vs)(g:k<=η st):MU w B (iX A k c) (st.take k) (vs.take k):=by
 have l:n=η st:=by
  obtain⟨A',c',hv,_⟩:=CF h.1;cases hv;rfl
 subst l;have i:=Eb h.1 g;rw[mU]at i;refine⟨by rw[jq,mg g];exact i,λj r e=>?_⟩;rw[nX]at e;split at e
 ·rename_i f;obtain⟨A',c',a,b,d⟩:=h.2 j r e;exact⟨A',c',by rw[nX,jd f];exact a,b,d⟩
 ·cases e
theorem MU.apart (h:MU w B v st vs)(hA:Nb w A):∀a,A=jB a->v.ownBlock≠jB a.block:=λa b c=>by
 obtain⟨cs,hc⟩:=hA a b;exact qQ h.1 hc δ c
theorem MU.push (h:MU w B v st vs)(n:Sl w w.1.size 2 A (η r) c (qP r))(hA:Nb w A)(f:w2.ownsRow B 114 1 v2 (η st+1) (vs++[iX A (η r) c]))(g:qW (λk=>v.ownBlock=jB k) w w2):
  MU w2 B v2 (st++[r]) (vs++[iX A (η r) c]):=by
 have hlen:η vs=η st:=by rw[h.1.1];simp
 have keep:∀(A':Option Addr) c' (r':List Nd),Sl w w.1.size 2 A' (η r') c' (qP r')->Nb w A'->Sl w2 w2.1.size 2 A' (η r') c' (qP r')/\Nb w2 A':=λA' c' r' hs i=>by
  refine⟨hs.blk g (h.apart i) lR g.size,λa o=>?_⟩;obtain⟨cs,hc⟩:=i a o;exact⟨cs,g.blk hc (h.apart i a o)⟩
 refine⟨by simpa using f,λj r' e=>?_⟩;by_cases l:j<η st
 ·rw[gC l]at e;obtain⟨A',c',a,b,d⟩:=h.2 j r' e;exact⟨A',c',by rw[gC ω];exact a,(keep A' c' r' b d).1,(keep A' c' r' b d).2⟩
 ·have m:j=η st:=by
   have:=(gB.1 e).1;simp at this;omega
  subst m;rw[gR lR]at e;simp at e;subst e;exact⟨A,c,by rw[gR ω,hlen];simp,(keep A c r n hA).1,(keep A c r n hA).2⟩
theorem MU.set (h:MU w B (iX (jB ⟨g,0,jC⟩) n cap) st vs)(j)(s:Sl w w.1.size 2 A (η r) c (qP r))(hA:Nb w A):
  MU (w.setCell ⟨g,j,jC⟩ (iX A (η r) c)) B (iX (jB ⟨g,0,jC⟩) n cap) (st.set j r) (vs.set j (iX A (η r) c)):=by
 have l:n=η st:=by
  obtain⟨A',c',hv,_⟩:=CF h.1;cases hv;rfl
 subst l;have o:qW (λk=>k=g) w (w.setCell ⟨g,j,jC⟩ (iX A (η r) c)):=qW.setCell (S:=λk=>k=g) (p:=⟨g,j,jC⟩) (qW.refl _ w) (λ_=>rfl) _
 have keep:∀(A':Option Addr) c' (r':List Nd),Sl w w.1.size 2 A' (η r') c' (qP r')->Nb w A'->Sl (w.setCell ⟨g,j,jC⟩ (iX A (η r) c)) (w.setCell ⟨g,j,jC⟩ (iX A (η r) c)).1.size 2 A' (η r') c' (qP r')/\Nb (w.setCell ⟨g,j,jC⟩ (iX A (η r) c)) A':=λA' c' r' hs l=>by
  have f:∀a,A'=jB a->¬(a.block=g):=λa m e=>h.apart l a m (by rw[e];rfl)
  refine⟨hs.blk o f lR o.size,λa m=>?_⟩;obtain⟨cs,hc⟩:=l a m;exact⟨cs,o.blk hc (f a m)⟩
 refine⟨by rw[nE];exact(h.1.stored j _).1,λi r' hi=>?_⟩;have hlen:η vs=η st:=by rw[h.1.1];simp
 by_cases e:j=i
 ·subst e;have q:j<η st:=by have:=(gB.1 hi).1;simpa using this
  rw[l7 q]at hi;cases hi;exact⟨A,c,l7 ω,(keep A c r s hA).1,(keep A c r s hA).2⟩
 ·rw[kG e]at hi;obtain⟨A',c',a,b,d⟩:=h.2 i r' hi;exact⟨A',c',by rw[kG e];exact a,(keep A' c' r' b d).1,(keep A' c' r' b d).2⟩
theorem MU.at_ (h:MU w B (iX (jB ⟨g,0,jC⟩) n cap) st vs)(e:j<η st):∃A c,w.cell? ⟨g,j,jC⟩=jB (iX A st[j].length c)/\Sl w w.1.size 2 A st[j].length c (qP st[j])/\Nb w A:=by
 obtain⟨A,c,a,b,d⟩:=h.2 j st[j] (by simp[e])
 have f:n=η st:=by
  obtain⟨A',c',hv,_⟩:=CF h.1;cases hv;rfl
 subst f;exact⟨A,c,by rw[h.1.cellAt j ω];exact a,b,d⟩
theorem MU.form (h:MU w B v st vs)(a:0<η st):∃g cap,v=iX (jB ⟨g,0,jC⟩) (η st) cap/\B<=g/\g<w.1.size/\η st<=cap/\cap<=maxLen:=sP h.1 a
end
set_option maxHeartbeats 8000000
set_option maxRecDepth 100000
def Z8 (w:jF)(st:List (List Nd))(v:Value)(wr:jF):Prop:=∃vs,MU wr w.1.size v st vs/\Below w.1.size w wr
theorem I4 {w w3:jF}{v3:Value}{vs:List Value}(hS:MU wr w.1.size v st vs)(a:Below w.1.size w wr)(hb:Below wr.1.size wr w2)(h:n=η r)
  (i:Sl w2 w2.1.size 2 A n c (qP r))(hA:Nb w2 A)(b:w3.ownsRow w.1.size 114 1 v3 (η st+1) (vs++[iX A n c]))(f:qW (λk=>v.ownBlock=jB k) (w2.alloc (jG #[iX A n c] 114)) w3):
  Z8 w (st++[r]) v3 w3:=by
 subst h;have d:Below _ _ (w2.alloc (jG #[iX A (η r) c] 114)):=bR.alloc lR _;refine⟨_,(hS.below hb).push i hA b (qW.trans ((qW.refl _ _).alloc _) f ς),?_⟩;have j:=a.size;have l:=hb.size;exact a.trans ((hb.mono j).trans ((d.mono ω).trans (f.below (by simp;omega) (λg m e=>by have:=(hS.1.lt g e).1;omega))))
theorem V6 {w:jF}{vs:List Value}(hS:MU wr w.1.size (iX (jB ⟨g,0,jC⟩) n cap) st vs)(a:Below w.1.size w wr)(hb:Below wr.1.size wr w2)
  (b:Sl w2 w2.1.size 2 A (η r) c (qP r))(hA:Nb w2 A):Z8 w (st.set j r) (iX (jB ⟨g,0,jC⟩) n cap) (w2.setCell ⟨g,j,jC⟩ (iX A (η r) c)):=by
 refine⟨_,(hS.below hb).set j b hA,?_⟩;have d:=a.size;exact(a.trans (hb.mono d)).setCell ((hS.1.lt g rfl).1) _
structure ajB (w:jF)(B k:Nat)(v:Value)(st:List (List Nd))(vs:List Value):Prop where
 stk:MU w B v (st.take k) (vs.take k)
 len:η (st.take k)=k
theorem ajB.below {w:jF}{vs:List Value}(h:ajB w B k v st vs)(hb:Below w.1.size w w1):Hd (MU w B v (st.take k) (vs.take k)/\w1.ownsRow B 114 1 v k (vs.take k)):=by
 have a:=(h.stk.below hb).1;rw[h.len]at a;exact dh ⟨h.stk,a⟩
theorem Uh {w:jF}{vs:List Value}(h:MU w B (iX (jB ⟨g,0,jC⟩) n cap) st vs)(a:k<=η st):ajB w B k (iX (jB ⟨g,0,jC⟩) k cap) st vs:=
 ⟨h.cut a,γ⟩
theorem abb (A:Option Addr)(c:Nat)(f:List Nd)(w:jF)(B:Nat)(hf:Sl w B 2 A (η f) c (qP f))(hB:B<=w.1.size)(hl:η f<=10000):
  Calls jJ 46 #[iX A (η f) c] w (sI w 44 2 (η (uD f)) (qP (uD f)) (uD f=[])):=by
 have hI:=UQ A c f w B hf hB ω;by_cases hN:yh f=jD;rotate_left 1
 ·have aX:=by simpa using hN
  have ho:=FV aX;rw[ho];have HI:=dh hI;go_enter Tryz.func46,Tryz.ntmps46;go_wp2_with fail
  apply Calls.mono ω;rintro e w1 ⟨rfl,af⟩;go_wp2
  go_ret
  exact⟨_,rfl,by simpa[qP]using jF.ownsRow_nil _ _ _ 2,af,ς⟩
 rw[hN]at hI;obtain⟨HI,HN⟩:=iw hI hN;clear hI hN;go_enter Tryz.func46,Tryz.ntmps46;go_wp2_with fail
 apply Calls.mono HI.o;rintro e w1 ⟨rfl,af⟩;go_wp2
 go_loopw [3,12] (λv i wr=>∃k:Nat,k<=η f/\i=iY iZ k/\Z8 w (Q5 f k) v wr) (λ_ i _=>η f-(intOf i).toNat)
 case atStart=>exact⟨0,ω,rfl,_,MU.nil _ _,af⟩
 case round=>
  clear af;obtain⟨k,hk,rfl,hrel⟩:=hrel;have H:=dh (agV HN hk);by_cases M:k<η f
  ·obtain⟨vs,hS,y⟩:=hrel;obtain⟨b,o,rfl,bH,bI,az⟩:=vZ (hf.rd.below y hB) M;have Q:=dh (abM M);have aY:=(ahA HN M H.o).op;generalize f[k]=x at *;obtain⟨op,m⟩:=x;dsimp at *;generalize Q5 f k=st at *;have bJ:=H.le;have aq:=y.size;have s:Below _ _ (wr.alloc (jG #[iY iZ op,iY iZ m] 44)):=bR.alloc lR _;rcases aY with rfl|rfl|rfl|⟨rfl,hd⟩|⟨rfl,hd⟩|⟨h4,hd⟩
   ·obtain⟨Av,cv,rfl,aA⟩:=qX hS.1;have q:=hS.below s;have I:Below _ _ ((wr.alloc _).alloc (jG #[iY iZ 1,iY iZ 0] 44)):=s.alloc ς _;have z:=hS.below I;have J:=own_below z.1 (bR.alloc lR (jG #[iX (jB ⟨wr.1.size+1,0,jC⟩) 1 1] 114));have C:=dh J;have d:((wr.alloc (jG #[iY iZ 1,iY iZ m] 44)).alloc (jG #[iY iZ 1,iY iZ 0] 44)).1.size=wr.1.size+1+1:=by rw[jF.size_alloc,jF.size_alloc]
    have l:=heap_alloc_new ((wr.alloc (jG #[iY iZ 1,iY iZ m] 44)).alloc (jG #[iY iZ 1,iY iZ 0] 44)) (jG #[iX (jB ⟨wr.1.size+1,0,jC⟩) 1 1] 114);rw[d]at l;have D:=dh l;clear q z J d l;go_wp2_with (at_builtin;refine rD rfl (.tmp 42) (.tmp 47) 113 rfl w.1.size 114 1 24 TL _ _ _ C.out rfl (wr.1.size+1+1) #[iX (jB ⟨wr.1.size+1,0,jC⟩) 1 1] rfl D rfl (by simp[Value.oneCell']) ω ω (by simp;omega) ?_;intro v4 w4 E R aj _)
    go_roundw
    case rel=>
     refine⟨k+1,ω,by go_num,?_⟩;rw[Q.o,show zi _ _ =st++[[⟨1,0⟩]] by simp[zi]];obtain⟨A9,c9,ar,T,U,_⟩:=Ia (w:=wr.alloc (jG #[iY iZ 1,iY iZ m] 44)) (r:=[⟨1,0⟩]) rfl bR;cases ar;exact I4 hS y I rfl (by simpa using T) (by simpa using U) (by simpa using E) (by simpa using R)
    case measure=>simp[intOf];omega
   ·obtain⟨Av,cv,rfl,aA⟩:=qX hS.1;have q:=hS.below s;have I:Below _ _ ((wr.alloc _).alloc (jG #[iY iZ 2,iY iZ 0] 44)):=s.alloc ς _;have z:=hS.below I;have J:=own_below z.1 (bR.alloc lR (jG #[iX (jB ⟨wr.1.size+1,0,jC⟩) 1 1] 114));have C:=dh J;have d:((wr.alloc (jG #[iY iZ 2,iY iZ m] 44)).alloc (jG #[iY iZ 2,iY iZ 0] 44)).1.size=wr.1.size+1+1:=by rw[jF.size_alloc,jF.size_alloc]
    have l:=heap_alloc_new ((wr.alloc (jG #[iY iZ 2,iY iZ m] 44)).alloc (jG #[iY iZ 2,iY iZ 0] 44)) (jG #[iX (jB ⟨wr.1.size+1,0,jC⟩) 1 1] 114);rw[d]at l;have D:=dh l;clear q z J d l;go_wp2_with (at_builtin;refine rD rfl (.tmp 42) (.tmp 47) 113 rfl w.1.size 114 1 24 TL _ _ _ C.out rfl (wr.1.size+1+1) #[iX (jB ⟨wr.1.size+1,0,jC⟩) 1 1] rfl D rfl (by simp[Value.oneCell']) ω ω (by simp;omega) ?_;intro v4 w4 E R aj _)
    go_roundw
    case rel=>
     refine⟨k+1,ω,by go_num,?_⟩;rw[Q.o,show zi _ _ =st++[[⟨2,0⟩]] by simp[zi]];obtain⟨A9,c9,ar,T,U,_⟩:=Ia (w:=wr.alloc (jG #[iY iZ 2,iY iZ m] 44)) (r:=[⟨2,0⟩]) rfl bR;cases ar;exact I4 hS y I rfl (by simpa using T) (by simpa using U) (by simpa using E) (by simpa using R)
    case measure=>simp[intOf];omega
   ·obtain⟨Av,cv,rfl,aA⟩:=qX hS.1;have q:=hS.below s;have I:Below _ _ ((wr.alloc _).alloc (jG #[iY iZ 3,iY iZ m] 44)):=s.alloc ς _;have z:=hS.below I;have J:=own_below z.1 (bR.alloc lR (jG #[iX (jB ⟨wr.1.size+1,0,jC⟩) 1 1] 114));have C:=dh J;have d:((wr.alloc (jG #[iY iZ 3,iY iZ m] 44)).alloc (jG #[iY iZ 3,iY iZ m] 44)).1.size=wr.1.size+1+1:=by rw[jF.size_alloc,jF.size_alloc]
    have l:=heap_alloc_new ((wr.alloc (jG #[iY iZ 3,iY iZ m] 44)).alloc (jG #[iY iZ 3,iY iZ m] 44)) (jG #[iX (jB ⟨wr.1.size+1,0,jC⟩) 1 1] 114);rw[d]at l;have D:=dh l;clear q z J d l;go_wp2_with (at_builtin;refine rD rfl (.tmp 51) (.tmp 54) 113 rfl w.1.size 114 1 24 TL _ _ _ C.out rfl (wr.1.size+1+1) #[iX (jB ⟨wr.1.size+1,0,jC⟩) 1 1] rfl D rfl (by simp[Value.oneCell']) ω ω (by simp;omega) ?_;intro v4 w4 E R aj _)
    go_roundw
    case rel=>
     refine⟨k+1,ω,by go_num,?_⟩;rw[Q.o,show zi _ _ =st++[[⟨3,m⟩]] by simp[zi]]
     have T:Sl ((wr.alloc (jG #[iY iZ 3,iY iZ m] 44)).alloc (jG #[iY iZ 3,iY iZ m] 44)) ((wr.alloc (jG #[iY iZ 3,iY iZ m] 44)).alloc (jG #[iY iZ 3,iY iZ m] 44)).1.size 2 (jB ⟨wr.1.size+1,0,jC⟩) 1 1 (qP [⟨3,m⟩]):=by
      refine⟨rfl,lR,by unfold maxLen;simp,ς,.inr ⟨_,0,rfl,ς,λj u hu=>?_⟩⟩;have d:=heap_alloc_new (wr.alloc (jG #[iY iZ 3,iY iZ m] 44)) (jG #[iY iZ 3,iY iZ m] 44);rw[show(wr.alloc (jG #[iY iZ 3,iY iZ m] 44)).1.size=wr.1.size+1 by simp]at d;rw[cell_of_row _ _ _ _ _ (0,0) d,ng];simpa[qP]using hu
     have U:Nb ((wr.alloc (jG #[iY iZ 3,iY iZ m] 44)).alloc (jG #[iY iZ 3,iY iZ m] 44)) (jB ⟨wr.1.size+1,0,jC⟩):=λa ha=>by
      cases ha;have d:=heap_alloc_new (wr.alloc (jG #[iY iZ 3,iY iZ m] 44)) (jG #[iY iZ 3,iY iZ m] 44);rw[show(wr.alloc (jG #[iY iZ 3,iY iZ m] 44)).1.size=wr.1.size+1 by simp]at d;exact⟨_,d⟩
     exact I4 (n:=1) hS y I rfl T U (by simpa using E) (by simpa using R)
    case measure=>simp[intOf];omega
   ·obtain⟨g,cap,rfl,aB,F,ak,V⟩:=hS.form ω;have hj:η st-1<η st:=ω;obtain⟨A1,c1,hcs,q,N⟩:=hS.at_ hj;obtain⟨t,O,W,aZ⟩:=H.tree _ (mM hj);have aC:0<st[η st-1].length:=by rw[W];exact Ie
    have G:zi st ⟨4,m⟩=st.set (η st-1) (vJ 4 st[η st-1]):=by simp[zi,θ,hj]
    clear W O;generalize st[η st-1]=r at *;have ao:cap<=9223372036854775807:=by unfold maxLen at V;omega
    have ag:1<=(η st:Int):=ω;have X:=dh G;clear G;have ah:Below _ _ ((wr.alloc _).alloc (jG #[iX A1 (η r) c1] 114)):=s.alloc ς _;have d:=heap_alloc_new (wr.alloc (jG #[iY iZ 4,iY iZ m] 44)) (jG #[iX A1 (η r) c1] 114);rw[jF.size_alloc]at d;have hW:=zB _ 1 1 [r] 4 ((wr.alloc (jG #[iY iZ 4,iY iZ m] 44)).alloc (jG #[iX A1 (η r) c1] 114)) (wr.1.size+1+1) (TM d (nW _) ((q.below ah lR).up ω)) ς (by simp[zA];omega);rw[show[r].flatten=r by simp]at hW;have HW:=dh hW;clear hW d;go_wp2_with fail
    apply Calls.mono HW.o;rintro e w5 ⟨A5,c5,rfl,Y,Z,P⟩;have p:=ah.trans (P.mono (by simp<;>omega));have a1:=hS.below p;have b4:=bC p F hcs;have b5:=a1.1.frozenAt (η st-1);have au:=dh (V6 (j:=η st-1) hS y p Y Z);clear a1;go_wp2
    go_roundw
    case rel=>
     refine⟨k+1,ω,by go_num,?_⟩;rwa [Q.o,X.o]
    case measure=>simp[intOf];omega
   ·obtain⟨g,cap,rfl,aB,F,ak,V⟩:=hS.form ω;have hj:η st-1<η st:=ω;let⟨A1,c1,hcs,q,N⟩:=hS.at_ hj
    let⟨t,O,W,aZ⟩:=H.tree _ (mM hj)
    have aC:0<st[η st-1].length:=by rw[W];exact Ie
    have G:zi st ⟨8,m⟩=st.set (η st-1) (La st[η st-1]):=by simp[zi,θ,hj]
    clear W O;generalize st[η st-1]=r at *;have ao:cap<=9223372036854775807:=by unfold maxLen at V;omega
    have ag:1<=(η st:Int):=ω;have X:=dh G;clear G;have ah:=s;have hW:=abR _ _ _ r _ _ (q.below s lR) (N.below s) rfl aC ς ω;have HW:=dh hW;clear hW;go_wp2_with fail
    apply Calls.mono HW.o;rintro e w5 ⟨A5,c5,rfl,Y,Z,P⟩;have p:=ah.trans (P.mono (by simp<;>omega));have a1:=hS.below p;have b4:=bC p F hcs;have b5:=a1.1.frozenAt (η st-1);have au:=dh (V6 (j:=η st-1) hS y p Y Z);clear a1;go_wp2
    go_roundw
    case rel=>
     refine⟨k+1,ω,by go_num,?_⟩;rwa [Q.o,X.o]
    case measure=>simp[intOf];omega
   ·obtain⟨g,cap,rfl,aB,F,ak,V⟩:=hS.form ω;have av:η st-1<η st:=ω;have aw:η st-2<η st:=ω;let⟨A1,c1,a6,q,N⟩:=hS.at_ av
    let⟨A2,c2,a7,z,aD⟩:=hS.at_ aw
    let⟨t1,aE,a8,bz⟩:=H.tree _ (mM av)
    let⟨t2,aF,ad,bA⟩:=H.tree _ (mM aw)
    have aG:0<st[η st-1].length:=by rw[a8];exact Ie
    have aH:0<st[η st-2].length:=by rw[ad];exact Ie
    have aJ:X3 st[η st-1].length (kids st[η st-1] (st[η st-1].length-1)):=by rw[a8];exact WH aE.1
    have aK:X3 st[η st-2].length (kids st[η st-2] (st[η st-2].length-1)):=by rw[ad];exact WH aF.1
    have G:zi st ⟨op,m⟩=st.take (η st-2)++[Gt op st[η st-2] st[η st-1]]:=by
     have h1:op≠1/\op≠2/\op≠3/\op≠4/\op≠8:=ω;simp[zi,θ,av,aw,h1]
    clear a8 ad aE aF;generalize st[η st-1]=r1 at *;generalize st[η st-2]=r2 at *;have ao:cap<=9223372036854775807:=by unfold maxLen at V;omega
    have M:=Uh hS (show η st-2<=η st by omega);let⟨d2,aL⟩:=xR (η st-2)
    let⟨d1,ag⟩:=xR (η st-1)
    have e1:IntKind.i64.wrap ((η st:Int)-2)=(d2:Int):=by rw[IntWalk.i64_in _ ω];omega
    have e2:IntKind.i64.wrap ((η st:Int)-1)=(d1:Int):=by rw[IntWalk.i64_in _ ω];omega
    have i1:d2<(η st:Int):=ω;have i2:d1<(η st:Int):=ω;have i3:d2<=(cap:Int):=ω;rw[<-aL]at a7 M G;rw[<-ag]at a6;obtain⟨X,b6,b9⟩:=iA G e1 e2;have bB:d2<=10000:=ω;clear G e1 e2 ag aL;have L:=s.drew;have aM:=bC s F a6;have aN:=bC s F a7;have aO:(wr.alloc (jG #[.int _ _,iY iZ m] 44)).cell? ⟨_,0,_⟩=jB (iY iZ op):=cR (heap_alloc_new _ _);have hT:=ahN _ _ _ _ _ _ _ _ _ _ _ _ (z.below L lR) (q.below L lR) (aD.below L) (N.below L) rfl rfl aH aG ς ς ω aK aJ h4;obtain⟨HT,bK⟩:=iw hT hS;have aP:op≠1/\op≠2/\op≠3/\op≠4/\op≠8:=ω;obtain⟨n1,n2,n3,n4,n8⟩:=aP;have q1:(op==1)=jE:=by simpa using n1
    have q2:(op==2)=jE:=by simpa using n2
    have q3:(op==3)=jE:=by simpa using n3
    have q4:(op==4)=jE:=by simpa using n4
    have q8:(op==8)=jE:=by simpa using n8
    clear hT aJ aK N aD q z n1 n2 n3 n4 n8 h4 a6 a7 hS;go_wp2
    have e1:=b6.o;have e2:=b9.o;refine vP (S:=λw'=>q9 w' g _ _/\q9 w' g _ _/\q9 w' _ 0 _) 18 rfl ⟨aM,aN,aO⟩ (λhS=>?_);apply tF 0 [3];apply tF 1 [3,2];apply tF 2 [3];apply tF 3 [];apply tF 4 [17,16,5];apply tF 5 [17,16];apply tF 6 [17,16,10,9];apply tF 7 [17,16,10,9,8];apply tF 8 [17,16,10,9];apply tF 9 [17,16,10];apply tF 10 [17,16];apply tF 11 [17,16,15,14];apply tF 12 [17,16,15,14,13];apply tF 13 [17,16,15,14];apply tF 14 [17,16,15];apply tF 15 [17,16];refine rZ (i:=16) rfl κ (λK hK=>?_);go_simp;apply Calls.mono HT.o;rintro e w5 ⟨A5,c5,rfl,Y,Z,P⟩;have p:=L.trans (P.mono ς);have aQ:=bC p F ((s.cell F).symm.trans aM);have aR:=bC p F ((s.cell F).symm.trans aN);have aS:=bC P ς aO;refine hK _ _ ⟨aQ,aR,aS⟩ (λhS=>?_);clear hK;have bc:wr.1.size<w5.1.size:=by have:=P.size;simp at this;omega
    generalize aT:Gt _ _ _ =r5 at *;have bL:=dh aT;clear aT;have bd:=bC ((Below.refl _ _).alloc lR (jG #[iX A5 (η r5) c5] 114)) ω aQ;have bh:=bC ((Below.refl _ _).alloc lR (jG #[iX A5 (η r5) c5] 114)) ω aR;have bj:=bC ((Below.refl _ _).alloc lR (jG #[iX A5 (η r5) c5] 114)) bc aS;refine rZ (i:=17) rfl κ (λK hK=>?_);go_simp;refine hK _ _ ⟨bd,bh,bj⟩ (λhS=>?_);clear hK;have aU:=M.below p;refine rM (i:=18) rfl κ rfl (λK hK=>?_);apply su rfl _ _ _ rfl _ _ 1 _ TL _ _ _ (aU.out.2.alloc _) rfl _ _ rfl (heap_alloc_new _ _) rfl (by simp[Value.oneCell']) ω ω (by simp;omega);intro v6 w6 bm bn bE _;apply hK.out;clear hK;refine rM (i:=19) rfl κ rfl (λK hK=>?_);go_simp;apply hK.out;clear hK;apply tX rfl;clear e1 e2;have bF:=dh (I4 aU.out.1 y p rfl Y Z (by rwa [M.len]) bn);go_wp2
    go_roundw
    case rel=>
     refine⟨k+1,ω,by go_num,?_⟩;rwa [Q.o,X.o]
    case measure=>simp[intOf];omega
  ·have bp:k=η f:=ω;subst bp;rw[O8 HN.o]at hrel;obtain⟨vs,hS,y⟩:=hrel;obtain⟨g,cap,rfl,_⟩:=hS.form ς;let⟨A1,c1,az,q,_⟩:=hS.at_ (j:=0) ς
   simp at az q
   have hlen:η (uD f)<=10000:=by
    have:=H.tree (uD f) (by rw[O8 HN.o];simp);omega
   have aV:=ZW _ _ _ _ _ _ q (FX _) lR ω
   have ax:uD f≠[]:=by
    obtain⟨t,_,h,_⟩:=H.tree (uD f) (by rw[O8 HN.o];simp);rw[h];have:= @Ie t;intro e;rw[e]at this;simp at this
   have bG:=nT.2 ax;have N:A1≠jC:=λh=>by have h1:=q.nil h;have:=q.cap;omega
   obtain⟨bq,br⟩:=iw aV ax;clear aV ax;go_wp2_with fail
   apply Calls.mono bq.o;rintro e w2 ⟨v2,rfl,ay,bu,aW⟩;have bw:=dh aW;clear aW;have aq:=y.size;go_wp2
   go_ret
   exact⟨v2,rfl,rC ay aq,y.trans (bu.mono aq),by rw[bw.o];simp[N,br.o]⟩
set_option maxHeartbeats 1000000
def ajn (f:List Nd)(w:jF)(e:Ending)(w':jF):Prop:=
 ∃g A c,UR f g/\e=.returned (iX A (η g) c)/\w'.ownsRow w.1.size 44 2 (iX A (η g) c) (η g) (qP g)/\Below w.1.size w w'
def ajY (f:List Nd)(w:jF)(v:Value)(wr:jF):Prop:=
 ∃(j:Nat) (A:Option Addr) (c:Nat),v=iX A (η (iter (j+1) f)) c/\wr.ownsRow w.1.size 44 2 (iX A (η (iter (j+1) f)) c) (η (iter (j+1) f)) (qP (iter (j+1) f))/\Below w.1.size w wr
def ajI:Value->Nat
 |iX _ n _=>n
 | _=>0
theorem Ph (f):∀j,η (iter (j+1) f)<=η f
 |0=>by
  show η (uD f)<=η f;by_cases h:yh f=jD
  ·exact(Mr h).len
  ·rw[FV (by simpa using h)];simp
 |j+1=>by
  have a:=Ph f j;have:=(left_step (Fe f j)).1;show η (uD (iter (j+1) f))<=_;omega
theorem aeg (A c f w B)(hf:Sl w B 2 A (η f) c (qP f))(C:B<=w.1.size)(hl:η f<=10000):
  Calls jJ 30 #[iX A (η f) c] w (ajn f w):=by
 go_enter Tryz.func30,Tryz.ntmps30;go_wp2_with fail
 refine(abb A c f w B hf C hl).mono ?_;rintro e w1 ⟨v1,rfl,a,i,_⟩;obtain⟨A1,c1,rfl,x⟩:=qX a;go_wp2
 go_loopw [3] (λv wr=>ajY f w v wr) (λv _=>ajI v)
 case atStart=>exact⟨0,A1,c1,rfl,a,i⟩
 case round=>
  clear i x a;obtain⟨j,A2,c2,rfl,k,n⟩:=hrel;have p:Sl wr wr.1.size 2 A2 (η (iter (j+1) f)) c2 (qP (iter (j+1) f)):=by obtain⟨_,_,e,h⟩:=qX k;cases e;exact h
  have hlen:=Ph f j;have q:=left_step (Fe f j);have hit:iter (j+2) f=uD (iter (j+1) f):=rfl;have r:=dh hit;have D:Hd (∃j',iter (j+1) f=iter (j'+1) f):=dh ⟨j,rfl⟩;clear hit;have E:=dh (abb A2 c2 (iter (j+1) f) wr wr.1.size p lR ω);generalize hl:iter (j+1) f=l at *;have H:=dh hl;clear hl;have s:=n.size;go_wp2_with fail
  refine Calls.mono E ?_;rintro e w3 ⟨v3,rfl,b,g,_⟩;obtain⟨A3,c3,rfl,y⟩:=qX b;have d:=n.trans (g.mono s);have t:=p.below g lR;have u:=own_below k g;go_wp2_with fail
  refine(Xj A2 A3 _ c2 _ c3 l (uD l) _ _ _ t y rfl rfl ω).mono ?_;rintro e w4 ⟨rfl,m,rfl⟩;by_cases he:l=uD l
  ·have hd:decide (l=uD l)=jD:=by simpa using he
   have F:=dh he;clear he;go_wp2
   go_ret
   obtain⟨j',z⟩:=D.o;exact⟨l,A2,c2,⟨⟨j',z⟩,F.symm⟩,rfl,own_below u (below_drewN bR m),below_drewN d m⟩
  ·have hd:decide (l=uD l)=jE:=by simpa using he
   have G:η (uD l)<η l:=by
    have I:=q.1;rcases oG (η (uD l)) (η l)with h|h
    ·exact h
    ·exact absurd (q.2 ω).symm he
   clear he;go_wp2
   go_roundw
   case rel=>
    refine⟨j+1,A3,c3,?_,?_,below_drewN d m⟩
    ·rw[show iter (j+1+1) f=uD l from r.o]
    ·rw[show iter (j+1+1) f=uD l from r.o];exact own_below (rC b s) (below_drewN bR m)
   case measure=>simp[ajI];omega
set_option maxHeartbeats 4000000
set_option maxRecDepth 100000
def QL (n0 kb:Nat)(vs:Value)(w:jF)(f:List Nd)(a:rQ)(sz:List Int)(why:Int)(en:Ending)(w':jF):Prop:=
 en=.returned (.tuple #[])/\∃vs' A c Ai ni ci An nn cn,Jl n0 kb vs' w' f a sz why A c Ai ni ci An nn cn/\qW (Nz kb vs) w w'/\NvR vs vs' w
theorem Y7 (n0 kb vs w f a sz why A c Ai ni ci An nn cn)(h:Jl n0 kb vs w f a sz why A c Ai ni ci An nn cn)(hl:η f<=1000)(U:η sz<=1000):
  Calls jJ 16 #[jH (jB ⟨kb,0,jC⟩)] w (QL n0 kb vs w (Nj f) a (sz++[(η (Nj f):Int)]) why):=by
 obtain⟨G,p⟩:=xQ (Nj f);rw[p];obtain⟨m0,q,r,s,d,u⟩:=wO h.bk;have D:=frozen_of_row _ _ 0 _ _ h.bk;obtain⟨H,O⟩:=iw h h.Xc.got;clear h;go_enter Tryz.func16,Tryz.ntmps16;go_wp2_with fail
 refine(aik A c f w w.1.size O lR ω).mono ?_;rintro e w1 ⟨v1,rfl,E,m, -⟩;obtain⟨A1,c1,rfl,F⟩:=qX E;go_wp2_with fail
 have L:=ajs A1 c1 (neg f) w1 w1.1.size F lR (by have:=Y9 f;omega);have p:xD (neg f) jD=G:=p;rw[p]at L;clear p;refine L.mono ?_;rintro e P ⟨v2,rfl,v,g, -⟩;obtain⟨A2,c2,rfl, -⟩:=qX v;have I:=rC v m.size;have g:=m.trans (g.mono m.size);clear m0 q r s d u;obtain⟨o,t3⟩:=H.form g I;have k:=(H.below g).bk;obtain⟨m0,q,r,s,d,u⟩:=wO k;have D:=frozen_of_row _ _ 0 _ _ k;go_upto_region 1 with fail
 generalize P.setCell ⟨kb,0,jC⟩ (iX A2 (η G) c2)=x at *;obtain⟨m0,q,r,s,d,u⟩:=wO o.bk;obtain⟨As,cs,rfl, -⟩:=qX o.own;refine sM (S:=λw'=>q9 w' kb 4 (iX As (η sz) cs)/\q9 w' kb 0 (iX A2 (η G) c2)) 14 κ (⟨d,m0⟩) (λhS=>?_);refine rT 0 ?_;refine rT 1 ?_;refine rT 2 ?_;refine rT 3 ?_;refine rT 4 ?_;refine rT 5 ?_;refine rT 6 ?_;refine rT 7 ?_;refine rT 8 ?_;refine rT 9 ?_;refine qZ (i:=10) rfl κ δ (λK b=>?_);go_simp;obtain⟨M,j⟩:=xR (x.alloc (jG #[iY iZ (η G:Int)] 3)).drew;have n:Below x.1.size x M:=by rw[j];exact Below.drew (bR.alloc lR _)
 have J:M.1[x.1.size]? =jB (jG #[iY iZ (η G:Int)] 3 (0,0)):=by rw[j];exact heap_alloc_new _ _
 rw[<-j];clear j;have C:=o.below n;obtain⟨m0,q,r,s,d,u⟩:=wO C.bk;refine b _ _ ⟨d,m0⟩ (λhS=>?_);clear b;refine qZ (i:=11) rfl κ δ (λK b=>?_);refine su rfl (.tmp 15) (.tmp 21) 29 rfl n0 3 1 8 rW _ _ _ C.own rfl x.1.size #[iY iZ (η G:Int)] rfl J rfl (by simp[Value.oneCell']) ω ω (by have:=n.size;have:=o.gK;have:=o.lt;omega) ?_;intro V W y z B N;obtain⟨X,c8,rfl, -⟩:=qX y;have l:=z.blk C.bk C.nk;have Q:=frozen_of_row _ _ 4 _ _ l;obtain⟨m0,q,r,s,d,u⟩:=wO l;obtain⟨R,t9,T⟩:=o.push n y z B;refine b _ _ ⟨d,m0⟩ (λhS=>?_);clear b;refine qZ (i:=12) rfl κ δ (λK b=>?_);go_simp;refine b _ _ ⟨d,m0⟩ (λhS=>?_);clear b;refine qZ (i:=13) rfl κ δ (λK b=>?_);go_simp;refine b _ _ ⟨d,m0⟩ (λhS=>?_);clear b;refine sN rfl κ κ (λK b=>?_);go_simp;refine b _ _ ?_;clear b;go_wp2_with fail
 refine vC rfl rfl ?_;exact⟨rfl,_,_,_,_,_,_,_,_,_,R,qW.trans t3 t9 (λi _ e=>e),λi hi hl=>T i hi (jh hl t3.size)⟩
theorem Vw (n0 kb vs w f a sz why A c Ai ni ci An nn cn)(h:Jl n0 kb vs w f a sz why A c Ai ni ci An nn cn)(hl:η f<=1000)(Q:η sz<=1000):
  Calls jJ 17 #[jH (jB ⟨kb,0,jC⟩)] w (QL n0 kb vs w (Js f) a (sz++[(η (Js f):Int)]) why):=by
 obtain⟨G,B⟩:=xQ (Js f);rw[B];obtain⟨m0,o,p,q,d,r⟩:=wO h.bk;have C:=frozen_of_row _ _ 0 _ _ h.bk;obtain⟨H,L⟩:=iw h h.Xc.got;clear h;go_enter Tryz.func17,Tryz.ntmps17;go_wp2_with fail
 refine(aeg A c f w w.1.size L lR ω).mono ?_;rintro e M ⟨g,A2,c2,D,rfl,E,s⟩;have D:=B.symm.trans (KL D);subst D;clear B;clear m0 o p q d r;obtain⟨n,t3⟩:=H.form s E;have k:=(H.below s).bk;obtain⟨m0,o,p,q,d,r⟩:=wO k;have C:=frozen_of_row _ _ 0 _ _ k;go_upto_region 1 with fail
 generalize M.setCell ⟨kb,0,jC⟩ (iX A2 (η G) c2)=u at *;obtain⟨m0,o,p,q,d,r⟩:=wO n.bk;obtain⟨As,cs,rfl, -⟩:=qX n.own;refine sM (S:=λw'=>q9 w' kb 4 (iX As (η sz) cs)/\q9 w' kb 0 (iX A2 (η G) c2)) 14 κ (⟨d,m0⟩) (λhS=>?_);refine rT 0 ?_;refine rT 1 ?_;refine rT 2 ?_;refine rT 3 ?_;refine rT 4 ?_;refine rT 5 ?_;refine rT 6 ?_;refine rT 7 ?_;refine rT 8 ?_;refine rT 9 ?_;refine qZ (i:=10) rfl κ δ (λK b=>?_);go_simp;obtain⟨I,j⟩:=xR (u.alloc (jG #[iY iZ (η G:Int)] 3)).drew;have m:Below u.1.size u I:=by rw[j];exact Below.drew (bR.alloc lR _)
 have F:I.1[u.1.size]? =jB (jG #[iY iZ (η G:Int)] 3 (0,0)):=by rw[j];exact heap_alloc_new _ _
 rw[<-j];clear j;have z:=n.below m;obtain⟨m0,o,p,q,d,r⟩:=wO z.bk;refine b _ _ ⟨d,m0⟩ (λhS=>?_);clear b;refine qZ (i:=11) rfl κ δ (λK b=>?_);refine su rfl (.tmp 14) (.tmp 20) 29 rfl n0 3 1 8 rW _ _ _ z.own rfl u.1.size #[iY iZ (η G:Int)] rfl F rfl (by simp[Value.oneCell']) ω ω (by have:=m.size;have:=n.gK;have:=n.lt;omega) ?_;intro R T v x y J;obtain⟨U,c8,rfl, -⟩:=qX v;have l:=x.blk z.bk z.nk;have N:=frozen_of_row _ _ 4 _ _ l;obtain⟨m0,o,p,q,d,r⟩:=wO l;obtain⟨O,t9,P⟩:=n.push m v x y;refine b _ _ ⟨d,m0⟩ (λhS=>?_);clear b;refine qZ (i:=12) rfl κ δ (λK b=>?_);go_simp;refine b _ _ ⟨d,m0⟩ (λhS=>?_);clear b;refine qZ (i:=13) rfl κ δ (λK b=>?_);go_simp;refine b _ _ ⟨d,m0⟩ (λhS=>?_);clear b;refine sN rfl κ κ (λK b=>?_);go_simp;refine b _ _ ?_;clear b;go_wp2_with fail
 refine vC rfl rfl ?_;exact⟨rfl,_,_,_,_,_,_,_,_,_,O,qW.trans t3 t9 (λi _ e=>e),λi hi hl=>P i hi (jh hl t3.size)⟩
set_option maxHeartbeats 8000000
set_option maxRecDepth 100000
theorem aiT (a Ai ni ci An nn cn w B)(h:sW w B a Ai ni ci An nn cn)(hB:B<=w.1.size)(a7:tO a=0)(hT:TabAt 0 Lib.deBruijn64tab w)(G:0<w.1.size)(KE)(hd:Gf a KE)(P:KE<=1000000):
  Calls jJ 33 #[.agg #[iY iZ a.sets,iX Ai ni ci,iX An nn cn]] w (AV w (NN a)):=by
 have hr:=hd.rows;have aV:=hd.init;obtain⟨Q,x0,y0,z0⟩:=uS w (jG #[iY iZ a.sets,iX Ai ni ci,iX An nn cn] 32) (jG #[iY iZ 0,iX jC 0 0,iX jC 0 0] 32);obtain⟨W0,a8⟩:=xQ ((w.alloc (jG #[iY iZ a.sets,iX Ai ni ci,iX An nn cn] 32)).alloc (jG #[iY iZ 0,iX jC 0 0,iX jC 0 0] 32));rw[a8]at Q x0 y0 z0;have ao:=dh (h.below Q hB);have aW:=dh (aac a Ai ni ci An nn cn W0 B ao ω ω (λx hx=>by have:=hr x hx;omega));obtain⟨aX,HD,aY,aZ,b5,b6,b9⟩:=iD (vY.1 a7) hd a8 Q x0 y0 a7;have bO:=hB;have bc:w.1.size+1<W0.1.size:=ω;have R:Hd (∀W',Below w.1.size w W'->TabAt 0 Lib.deBruijn64tab W'/\0<W'.1.size):=dh (λW' hb=>⟨λx hx=>bC hb G (hT x hx),jh G hb.size⟩);obtain⟨q0,q1,q2⟩:=sQ x0;clear a8 Q x0 y0 z0 h hr aV hd a7 hT G;go_enter Tryz.func33,Tryz.ntmps33;go_upto_region 1 with fail
 rw[aY.o];go_wp2_with fail
 refine aW.mono ?_;rintro e w1 ⟨rfl,m⟩;rw[b9.o];have bP:=m.size;have aq:=dh ((m.block w.1.size ω).trans b5.o);have ar:Hd (qW (λk=>k=w.1.size) W0 w1):=dh (xG m)
 have au:Hd (∀O,qW (λk=>k=w.1.size) w1 O->sW O O.1.size a Ai ni ci An nn cn):=dh (λO ht=>by
  have h:=((ao.below m ω).aiJ ht ω (λb hb e=>by have e:b=w.1.size:=e;omega));exact h.up (by have:=ht.size;omega))
 clear q0 q1 q2 m;go_wp2_with fail
 go_loopg [3] (mu a) (λgk _ wr=>∃(b:rQ) (Bi:Option Addr) (mi di:Nat) (Bn:Option Addr) (mn dn:Nat),mu b<=gk/\Hd (uE b)/\Hd (Gf b KE)/\Hd (NN b=NN a)/\Hd (wr.1[w.1.size]? =jB (jG #[iY iZ b.sets,iX Bi mi di,iX Bn mn dn] 32 (0,0)))/\Hd (∀O,qW (λk=>k=w.1.size) wr O->sW O O.1.size b Bi mi di Bn mn dn)/\Hd (qW (λk=>k=w.1.size) W0 wr))
 case atStart=>exact⟨a,Ai,ni,ci,An,nn,cn,lR,aX,HD,dh rfl,aq,au,ar⟩
 case round=>
  obtain⟨b,Bi,mi,di,Bn,mn,dn,bQ,u,p,av,ad,aw,S⟩:=hrel;clear aq au ar;have bS:=S.size;have H:=dh (aZ.trans (S.below (show w.1.size<=W0.1.size by omega) (λx hx e=>by have e:x=w.1.size:=e;omega)));have ax:=H.size;obtain⟨b1,m⟩:=xQ (BN b);obtain⟨b2,I⟩:=xQ (xA b1);obtain⟨b3,J⟩:=xQ (vH b2);obtain⟨q,K⟩:=xQ (BN b3);have L:Hd (vK b=q):=dh (by unfold vK;rw[m,I,J,K]);have g1:=m▸u.trim;have g2:=I▸g1.merge;have g3:=J▸g2.prune;have g4:=K▸g3.trim;have d1:=m▸p.trim;have d2:=I▸d1.merge;have d3:=J▸d2.prune;have d4:=K▸d3.trim;have ay:=aw wr (qW.refl _ wr);have az:=dh (Ru b Bi mi di Bn mn dn wr wr.1.size ay lR (R wr H.o).1 (R wr H.o).2 p.nd p.inn KE p.rows (by have:=p.init;omega) P);rw[Rw (vY.2 u.o),m]at az;have M:=Rw (vY.2 g3);rw[K]at M;obtain⟨bd,bh,bT,aA,T,U,W,af,bj⟩:=dh9 g1 g2 g3 g4 d1 d2 d3 d4 I;obtain⟨bm,bn⟩:=iw J M;obtain⟨q0,q1,q2⟩:=sQ ad.o;clear m I J K g1 g2 g3 g4 d1 d2 d3 d4 ay M;go_wp2_with fail
  refine az.mono ?_;rintro e v1 ⟨Ci,oi,pi,Cn,on,pn,rfl,aB,aC, -⟩;have HM:=dh (Zb b1 Ci oi pi Cn on pn v1 v1.1.size aB lR (vY.2 bd.o) T.nd T.inn KE T.rows T.init P);rw[bj.o]at HM;have aD:=dh aC;clear q0 q1 q2 aB aC;go_wp2_with fail
  refine HM.mono ?_;rintro e v2 ⟨Di,bp,bq,Dn,br,bu,rfl,aE,aF, -⟩;have HP:=dh (YQ b2 Di bp bq Dn br bu v2 v2.1.size aE lR (vY.2 bh.o) U.nd U.inn KE U.rows U.init P);rw[bm.o]at HP;have aG:=dh (aD.trans (aF.mono aD.size));clear aE aF;go_wp2_with fail
  refine HP.mono ?_;rintro e v3 ⟨Fi,bw,bz,Fn,bA,bB,rfl,aH,aJ, -⟩;have X:=dh (aG.trans (aJ.mono aG.size));have N:=H.trans (X.mono ax);have aK:=dh (Ru b3 Fi bw bz Fn bA bB v3 v3.1.size aH lR (R v3 N).1 (R v3 N).2 W.nd W.inn KE W.rows (by have:=W.init;omega) P);rw[bn.o]at aK;clear aH aJ N;go_wp2_with fail
  refine aK.mono ?_;rintro e v4 ⟨E,d,i,F,j,l,rfl,bE,aL,aM⟩;obtain⟨V,hV⟩:=xQ (v4.alloc (jG #[iY iZ q.sets,iX E d i,iX F j l] 32));have ag:Below v4.1.size v4 V:=by rw[<-hV];exact bR.alloc lR _
  have kV:V.1[v4.1.size]? =jB (jG #[iY iZ q.sets,iX E d i,iX F j l] 32 (0,0)):=by rw[<-hV];exact heap_alloc_new v4 _
  have Z:=dh (X.trans (aL.mono X.size));obtain⟨z,aN⟩:=iw (Z.trans (ag.mono Z.size)) (aM.below ag);have aO:=dh ((z.block w.1.size ω).trans ad.o);have bF:=dh ((z.block (w.1.size+1) ω).trans ((S.block (w.1.size+1) bc (λe=>by have e:w.1.size+1=w.1.size:=e;omega)).trans b6.o));obtain⟨ah,HV⟩:=iw kV hV;have a1:=aw V (xG z.o);have a6:=aN.rd;have bU:=u.n256;have bV:=aA.n256;have aP:=dh (UM b q Bi mi di Bn mn dn E d i F j l V V.1.size a1 a6 lR (by have:=p.init;have:=af.init;omega) (by have:=p.init;have:=af.init;omega) (λx hx=>by have:=p.rows x hx;omega));obtain⟨eb,aj⟩:=xQ (decide (b=q));rw[aj]at aP;have aQ:=dh aj;have bG:=z.size;clear bE aL aM hV ag kV a1 a6 aj;have bW:w.1.size<v4.1.size:=by have:=Z.size;omega
  obtain⟨q0,q1,q2⟩:=sQ ((Z.block w.1.size ω).trans ad.o);go_upto_region 4 with fail
  show Code.wp _ _ _ _ (v4.alloc (jG #[iY iZ q.sets,iX E d i,iX F j l] 32));rw[HV.o];clear q0 q1 q2;obtain⟨q0,q1,q2⟩:=sQ aO.o;obtain⟨r0,r1,r2⟩:=sQ ah.o;go_wp2_with fail
  refine aP.mono ?_;rintro e u1 ⟨rfl,r⟩;have bH:=dh r;have bX:=r.size;obtain⟨aR,C,D⟩:=iA (aN.below r) ((r.block w.1.size ω).trans aO.o) ((r.block (w.1.size+1) ω).trans bF.o);have aS:=(r.block v4.1.size (aI.1 ah.o).1).trans ah.o;have bI:=dh (H.trans ((z.trans (r.mono bG)).mono ax));clear q0 q1 q2 r0 r1 r2 r;obtain⟨r0,r1,r2⟩:=sQ aS;clear aS;cases eb
  ·obtain⟨y0,y1,y2⟩:=sQ C.o;have f0:=frozen_of_row u1 _ 0 _ _ C.o;have f1:=frozen_of_row u1 _ 1 _ _ C.o;have f2:=frozen_of_row u1 _ 2 _ _ C.o;have yl:w.1.size<u1.1.size:=ω
   have ak:vK b≠b:=λe=>by
    have:=aQ.o;rw[mQ]at this;exact this (by rw[<-L.o,e])
   have bJ:Hd (NN q=NN a):=dh (by rw[<-av.o,P9 u ak,L.o])
   have bK:=dh (by
    obtain⟨m1,m2⟩:=wK u.o;rw[L.o]at m1 m2;rcases Nat.lt_or_eq_of_le m1 with h|h
    ·exact h
    ·exact absurd (L.trans (m2 h)) ak)
   have n:=Cu (a:=iY iZ q.sets) (b:=iX E d i) (c:=iX F j l) C rfl;have s:=Ct u1 (w.1.size) (iY iZ q.sets) (iX E d i) (iX F j l);obtain⟨Y,hY⟩:=xQ (((u1.setCell ⟨w.1.size,0,jC⟩ (iY iZ q.sets)).setCell ⟨w.1.size,1,jC⟩ (iX E d i)).setCell ⟨w.1.size,2,jC⟩ (iX F j l));rw[hY]at n s;have aT:=dh n;have bL:=dh (λO ht=>aR _ O (s.then_ ht) (λg G _=>by have G:g=w.1.size:=G;rw[G];exact .inr ⟨_,C.o⟩));obtain⟨bM,HY⟩:=iw (((S.then_ (xG z.o)).then_ (xG bH.o)).then_ s) hY;clear n s ak hY;go_wp2_with fail
   try rw[HY.o]
   go_roundg (mu q)
   case rel=>exact⟨q,E,d,i,F,j,l,lR,aA,af,bJ,aT,bL,bM⟩
   case measure=>have:=bK.o;omega
  ·obtain⟨y0,y1,y2⟩:=sQ D.o;have f0:=frozen_of_row u1 _ 0 _ _ D.o;have f1:=frozen_of_row u1 _ 1 _ _ D.o;have f2:=frozen_of_row u1 _ 2 _ _ D.o;have yl:w.1.size+1<u1.1.size:=ω
   have HQ:Hd (NN a=q):=dh (by
    have e:=kD aQ.o;rw[<-av.o,KZ u (by rw[L.o,e]),e])
   go_wp2_with fail
   have n:=Cu (a:=iY iZ q.sets) (b:=iX E d i) (c:=iX F j l) D rfl;have s:=Ct u1 (w.1.size+1) (iY iZ q.sets) (iX E d i) (iX F j l);obtain⟨Y,hY⟩:=xQ (((u1.setCell ⟨w.1.size+1,0,jC⟩ (iY iZ q.sets)).setCell ⟨w.1.size+1,1,jC⟩ (iX E d i)).setCell ⟨w.1.size+1,2,jC⟩ (iX F j l));rw[hY]at n s⊢;have bN:=bI.trans (s.below (show w.1.size<=u1.1.size by omega) (λy hy e=>by have e:y=w.1.size+1:=e;omega));have aU:=aR.uQ s (λg G=>by have G:g=w.1.size+1:=G;rw[G];exact⟨_,D.o⟩);obtain⟨g0,g1,g2⟩:=sQ n;refine bodyPost_ret (v:=.agg #[iY iZ q.sets,iX E d i,iX F j l]) ?_ rfl ?_
   ·simp[results,Tryz.results33,go_sem,g0,g1,g2]
   ·rw[HQ.o];exact⟨_,_,_,_,_,_,rfl,aU.rd,bN,aU.mono (by have:=X.size;omega)⟩
theorem ahq (a Ai ni ci An nn cn w B)(h:sW w B a Ai ni ci An nn cn)(d:B<=w.1.size)(e:TabAt 0 Lib.deBruijn64tab w)(i:0<w.1.size)(KE)(hd:Gf a KE)(c:KE<=1000000):Calls jJ 33 #[.agg #[iY iZ a.sets,iX Ai ni ci,iX An nn cn]] w (AV w (K4 a)):=by
 unfold K4;by_cases b:tO a=0
 ·rw[jd b];exact aiT a Ai ni ci An nn cn w B h d b e i KE hd c
 ·rw[d9 b];exact ajG a Ai ni ci An nn cn w B h d b KE hd.rows hd.init c
set_option maxHeartbeats 4000000
set_option maxRecDepth 100000
theorem abE (n0 kb vs w f a sz why A c Ai ni ci An nn cn)(h:Jl n0 kb vs w f a sz why A c Ai ni ci An nn cn)(hz:η sz<=1000)(hl:η f<=1000)(P:xJ w):
  Calls jJ 18 #[jH (jB ⟨kb,0,jC⟩)] w (QL n0 kb vs w f (Kl f) (sz++[((Kl f).nodes.length:Int)]) (Kj f)):=by
 obtain⟨m0,r,s,j,k,u⟩:=wO h.bk;have H:=dh h;have q:=abI A c f w h.Xc.got P hl;obtain⟨b,J⟩:=xQ (Kl f);rw[J]at q⊢;obtain⟨ee,L⟩:=xQ (Kj f);rw[L]at q⊢;clear L;have q:=dh q;clear h J;go_enter Tryz.func18,Tryz.ntmps18;go_wp2_with fail
 refine q.mono ?_;rintro e Q ⟨R,T,U,M,mn,dn,rfl,E,v,F⟩;clear q;clear m0 r s j k u;have x:=E.Ov;obtain⟨m,t3⟩:=H.auto v F;obtain⟨m,t4⟩:=m.aek ee;have t3:=qW.trans t3 t4 (λi _ e=>e);have d:=(H.below v).bk;obtain⟨m0,r,s,j,k,u⟩:=wO d;have V:=frozen_of_row _ _ 1 _ _ d;have W:=frozen_of_row _ _ 2 _ _ d;have X:=frozen_of_row _ _ 3 _ _ d;have Y:=frozen_of_row _ _ 5 _ _ d;have G:=dh x;clear x;go_upto_region 1 with fail
 generalize (((Q.setCell ⟨kb,1,jC⟩ (iY iZ b.sets)).setCell ⟨kb,2,jC⟩ (iX R T U)).setCell ⟨kb,3,jC⟩ (iX M mn dn)).setCell ⟨kb,5,jC⟩ (iY iZ ee)=y at *;obtain⟨m0,r,s,j,k,u⟩:=wO m.bk;obtain⟨As,cs,rfl, -⟩:=qX m.own;refine sM (S:=λw'=>q9 w' kb 4 (iX As (η sz) cs)/\q9 w' kb 3 (iX M mn dn)) 15 κ (⟨k,j⟩) (λhS=>?_);refine rT 0 ?_;refine rT 1 ?_;refine rT 2 ?_;refine rT 3 ?_;refine rT 4 ?_;refine rT 5 ?_;refine rT 6 ?_;refine rT 7 ?_;refine rT 8 ?_;refine rT 9 ?_;refine rT 10 ?_;refine qZ (i:=11) rfl κ δ (λK g=>?_);go_simp;obtain⟨N,l⟩:=xR (y.alloc (jG #[iY iZ (mn:Int)] 3)).drew;have p:Below y.1.size y N:=by rw[l];exact Below.drew (bR.alloc lR _)
 have I:N.1[y.1.size]? =jB (jG #[iY iZ (mn:Int)] 3 (0,0)):=by rw[l];exact heap_alloc_new _ _
 rw[<-l];clear l;have D:=m.below p;obtain⟨m0,r,s,j,k,u⟩:=wO D.bk;refine g _ _ ⟨k,j⟩ (λhS=>?_);clear g;refine qZ (i:=12) rfl κ δ (λK g=>?_);refine su rfl (.tmp 20) (.tmp 27) 29 rfl n0 3 1 8 rW _ _ _ D.own rfl y.1.size #[iY iZ (mn:Int)] rfl I rfl (by simp[Value.oneCell']) ω ω (by have:=p.size;have:=m.gK;have:=m.lt;omega) ?_;intro v8 W8 z B C O;obtain⟨A8,c8,rfl, -⟩:=qX z;have n:=B.blk D.bk D.nk;have Z:=frozen_of_row _ _ 4 _ _ n;obtain⟨m0,r,s,j,k,u⟩:=wO n;obtain⟨h9,t9,r9⟩:=m.push p z B C;refine g _ _ ⟨k,j⟩ (λhS=>?_);clear g;refine qZ (i:=13) rfl κ δ (λK g=>?_);go_simp;refine g _ _ ⟨k,j⟩ (λhS=>?_);clear g;refine qZ (i:=14) rfl κ δ (λK g=>?_);go_simp;refine g _ _ ⟨k,j⟩ (λhS=>?_);clear g;refine sN rfl κ κ (λK g=>?_);go_simp;refine g _ _ ?_;clear g;go_wp2_with fail
 refine vC rfl rfl ?_;rw[<-G.o];exact⟨rfl,_,_,_,_,_,_,_,_,_,h9,qW.trans t3 t9 (λi _ e=>e),λi hi hl=>r9 i hi (jh hl t3.size)⟩
theorem acF (n0 kb vs w f a sz why A c Ai ni ci An nn cn)(h:Jl n0 kb vs w f a sz why A c Ai ni ci An nn cn)(hz:η sz<=1000)(KE)(hd:Gf a KE)(E:KE<=1000):
  Calls jJ 19 #[jH (jB ⟨kb,0,jC⟩)] w (QL n0 kb vs w f (JZ a) (sz++[((JZ a).nodes.length:Int)]) (JY a)):=by
 obtain⟨m0,r,s,j,k,u⟩:=wO h.bk;have H:=dh h;have q:=acG a Ai ni ci An nn cn w w.1.size h.aut.got lR KE hd E;obtain⟨b,L⟩:=xQ (JZ a);rw[L]at q⊢;obtain⟨ee,M⟩:=xQ (JY a);rw[M]at q⊢;clear M;have q:=dh q;clear h L;go_enter Tryz.func19,Tryz.ntmps19;go_wp2_with fail
 refine q.mono ?_;rintro e Q ⟨R,T,U,N,mn,dn,rfl,F,v,G⟩;clear q;clear m0 r s j k u;have x:=F.Ov;obtain⟨m,t3⟩:=H.auto v G;obtain⟨m,t4⟩:=m.aek ee;have t3:=qW.trans t3 t4 (λi _ e=>e);have d:=(H.below v).bk;obtain⟨m0,r,s,j,k,u⟩:=wO d;have V:=frozen_of_row _ _ 1 _ _ d;have W:=frozen_of_row _ _ 2 _ _ d;have X:=frozen_of_row _ _ 3 _ _ d;have Y:=frozen_of_row _ _ 5 _ _ d;have I:=dh x;clear x;go_upto_region 1 with fail
 generalize (((Q.setCell ⟨kb,1,jC⟩ (iY iZ b.sets)).setCell ⟨kb,2,jC⟩ (iX R T U)).setCell ⟨kb,3,jC⟩ (iX N mn dn)).setCell ⟨kb,5,jC⟩ (iY iZ ee)=y at *;obtain⟨m0,r,s,j,k,u⟩:=wO m.bk;obtain⟨As,cs,rfl, -⟩:=qX m.own;refine sM (S:=λw'=>q9 w' kb 4 (iX As (η sz) cs)/\q9 w' kb 3 (iX N mn dn)) 15 κ (⟨k,j⟩) (λhS=>?_);refine rT 0 ?_;refine rT 1 ?_;refine rT 2 ?_;refine rT 3 ?_;refine rT 4 ?_;refine rT 5 ?_;refine rT 6 ?_;refine rT 7 ?_;refine rT 8 ?_;refine rT 9 ?_;refine rT 10 ?_;refine qZ (i:=11) rfl κ δ (λK g=>?_);go_simp;obtain⟨O,l⟩:=xR (y.alloc (jG #[iY iZ (mn:Int)] 3)).drew;have p:Below y.1.size y O:=by rw[l];exact Below.drew (bR.alloc lR _)
 have J:O.1[y.1.size]? =jB (jG #[iY iZ (mn:Int)] 3 (0,0)):=by rw[l];exact heap_alloc_new _ _
 rw[<-l];clear l;have D:=m.below p;obtain⟨m0,r,s,j,k,u⟩:=wO D.bk;refine g _ _ ⟨k,j⟩ (λhS=>?_);clear g;refine qZ (i:=12) rfl κ δ (λK g=>?_);refine su rfl (.tmp 20) (.tmp 27) 29 rfl n0 3 1 8 rW _ _ _ D.own rfl y.1.size #[iY iZ (mn:Int)] rfl J rfl (by simp[Value.oneCell']) ω ω (by have:=p.size;have:=m.gK;have:=m.lt;omega) ?_;intro v8 W8 z B C P;obtain⟨A8,c8,rfl, -⟩:=qX z;have n:=B.blk D.bk D.nk;have Z:=frozen_of_row _ _ 4 _ _ n;obtain⟨m0,r,s,j,k,u⟩:=wO n;obtain⟨h9,t9,r9⟩:=m.push p z B C;refine g _ _ ⟨k,j⟩ (λhS=>?_);clear g;refine qZ (i:=13) rfl κ δ (λK g=>?_);go_simp;refine g _ _ ⟨k,j⟩ (λhS=>?_);clear g;refine qZ (i:=14) rfl κ δ (λK g=>?_);go_simp;refine g _ _ ⟨k,j⟩ (λhS=>?_);clear g;refine sN rfl κ κ (λK g=>?_);go_simp;refine g _ _ ?_;clear g;go_wp2_with fail
 refine vC rfl rfl ?_;rw[<-I.o];exact⟨rfl,_,_,_,_,_,_,_,_,_,h9,qW.trans t3 t9 (λi _ e=>e),λi hi hl=>r9 i hi (jh hl t3.size)⟩
theorem Wu (n0 kb vs w f a sz why A c Ai ni ci An nn cn)(h:Jl n0 kb vs w f a sz why A c Ai ni ci An nn cn)(hz:η sz<=1000)(Q:TabAt 0 Lib.deBruijn64tab w)(R:0<w.1.size)(KE)(hd:Gf a KE)(F:KE<=1000000):
  Calls jJ 20 #[jH (jB ⟨kb,0,jC⟩)] w (QL n0 kb vs w f (K4 a) (sz++[((K4 a).nodes.length:Int)]) why):=by
 obtain⟨m0,r,s,k,l,u⟩:=wO h.bk;have H:=dh h;have v:=ahq a Ai ni ci An nn cn w w.1.size h.aut.got lR Q R KE hd F;obtain⟨b,M⟩:=xQ (K4 a);rw[M]at v⊢;have v:=dh v;clear h M;go_enter Tryz.func20,Tryz.ntmps20;go_wp2_with fail
 refine v.mono ?_;rintro e T ⟨U,V,W,N,mn,dn,rfl,G,x,I⟩;clear v;clear m0 r s k l u;have y:=G.Ov;obtain⟨q,t3⟩:=H.auto x I;have d:=(H.below x).bk;obtain⟨m0,r,s,k,l,u⟩:=wO d;have X:=frozen_of_row _ _ 1 _ _ d;have Y:=frozen_of_row _ _ 2 _ _ d;have Z:=frozen_of_row _ _ 3 _ _ d;have a1:=frozen_of_row _ _ 5 _ _ d;have J:=dh y;clear y;go_upto_region 1 with fail
 generalize ((T.setCell ⟨kb,1,jC⟩ (iY iZ b.sets)).setCell ⟨kb,2,jC⟩ (iX U V W)).setCell ⟨kb,3,jC⟩ (iX N mn dn)=z at *;obtain⟨m0,r,s,k,l,u⟩:=wO q.bk;obtain⟨As,cs,rfl, -⟩:=qX q.own;refine sM (S:=λw'=>q9 w' kb 4 (iX As (η sz) cs)/\q9 w' kb 3 (iX N mn dn)) 15 κ (⟨l,k⟩) (λhS=>?_);refine rT 0 ?_;refine rT 1 ?_;refine rT 2 ?_;refine rT 3 ?_;refine rT 4 ?_;refine rT 5 ?_;refine rT 6 ?_;refine rT 7 ?_;refine rT 8 ?_;refine rT 9 ?_;refine rT 10 ?_;refine qZ (i:=11) rfl κ δ (λK j=>?_);go_simp;obtain⟨O,m⟩:=xR (z.alloc (jG #[iY iZ (mn:Int)] 3)).drew;have p:Below z.1.size z O:=by rw[m];exact Below.drew (bR.alloc lR _)
 have L:O.1[z.1.size]? =jB (jG #[iY iZ (mn:Int)] 3 (0,0)):=by rw[m];exact heap_alloc_new _ _
 rw[<-m];clear m;have E:=q.below p;obtain⟨m0,r,s,k,l,u⟩:=wO E.bk;refine j _ _ ⟨l,k⟩ (λhS=>?_);clear j;refine qZ (i:=12) rfl κ δ (λK j=>?_);refine su rfl (.tmp 14) (.tmp 21) 29 rfl n0 3 1 8 rW _ _ _ E.own rfl z.1.size #[iY iZ (mn:Int)] rfl L rfl (by simp[Value.oneCell']) ω ω (by have:=p.size;have:=q.gK;have:=q.lt;omega) ?_;intro v8 W8 B C D P;obtain⟨A8,c8,rfl, -⟩:=qX B;have n:=C.blk E.bk E.nk;have a6:=frozen_of_row _ _ 4 _ _ n;obtain⟨m0,r,s,k,l,u⟩:=wO n;obtain⟨h9,t9,r9⟩:=q.push p B C D;refine j _ _ ⟨l,k⟩ (λhS=>?_);clear j;refine qZ (i:=13) rfl κ δ (λK j=>?_);go_simp;refine j _ _ ⟨l,k⟩ (λhS=>?_);clear j;refine qZ (i:=14) rfl κ δ (λK j=>?_);go_simp;refine j _ _ ⟨l,k⟩ (λhS=>?_);clear j;refine sN rfl κ κ (λK j=>?_);go_simp;refine j _ _ ?_;clear j;go_wp2_with fail
 refine vC rfl rfl ?_;rw[<-J.o];exact⟨rfl,_,_,_,_,_,_,_,_,_,h9,qW.trans t3 t9 (λi _ e=>e),λi hi hl=>r9 i hi (jh hl t3.size)⟩
set_option maxHeartbeats 8000000
set_option maxRecDepth 100000
abbrev gW:=List Nd×rQ×List Int×Int
noncomputable def Mx (k:Nat)(s:gW):gW:=
 if s.2.2.2=0 then(match k with
  |0=>(Nj s.1,s.2.1,s.2.2.1++[(η (Nj s.1):Int)],s.2.2.2)
  |1=>(Js s.1,s.2.1,s.2.2.1++[(η (Js s.1):Int)],s.2.2.2)
  |2=>(s.1,Kl s.1,s.2.2.1++[((Kl s.1).nodes.length:Int)],Kj s.1)
  |3=>(s.1,JZ s.2.1,s.2.2.1++[((JZ s.2.1).nodes.length:Int)],JY s.2.1)
  | _=>(s.1,K4 s.2.1,s.2.2.1++[((K4 s.2.1).nodes.length:Int)],s.2.2.2))else s
noncomputable def sj (lo:Nat):Nat->gW->gW
 |0,s=>s
 |j+1,s=>Mx (lo+j) (sj lo j s)
theorem Dw {lo:Nat}{s:gW}{j:Nat}(h:¬(sj lo j s).2.2.2=0):∀d,sj lo (j+d) s=sj lo j s
 |0=>rfl
 |d+1=>by
  have e:=Dw h d;show Mx (lo+(j+d)) (sj lo (j+d) s)= _;rw[e];unfold Mx;rw[d9 h]
def Kn (k:Nat):Value:=match k with
 |0=>.func (.func 16) #[] #[]
 |1=>.func (.func 17) #[] #[]
 |2=>.func (.func 18) #[] #[]
 |3=>.func (.func 19) #[] #[]
 | _=>.func (.func 20) #[] #[]
def QT (k:Nat)(s:gW):Prop:=η s.2.2.1<=1000/\(match k with
 |0=>η s.1<=1000
 |1=>η s.1<=1000
 |2=>η s.1<=1000
 |3=>∃KE,Gf s.2.1 KE/\KE<=1000
 | _=>∃KE,Gf s.2.1 KE/\KE<=1000000)
def NvW (n0 kb:Nat)(vs:Value)(w0 w:jF)(s:gW):Prop:=
 ∃vs' A c Ai ni ci An nn cn,Jl n0 kb vs' w s.1 s.2.1 s.2.2.1 s.2.2.2 A c Ai ni ci An nn cn/\qW (Nz kb vs) w0 w/\NvR vs vs' w0
theorem QL.w {b:Value}{w0 w:jF}{sz:List Int}{why:Int}{en:Ending}(h:QL n0 kb vs w f a sz why en w')(d:qW (Nz kb b) w0 w)(g:NvR b vs w0):
  en=.returned (.tuple #[])/\NvW n0 kb b w0 w' (f,a,sz,why):=by
 obtain⟨rfl,vs',A,c,Ai,ni,ci,An,nn,cn,j,k,l⟩:=h;refine⟨rfl,vs',A,c,Ai,ni,ci,An,nn,cn,j,qW.trans d k (λi hi e=>?_),λi hi hl=>g i (l i hi (jh hl d.size)) hl⟩;rcases e with e|e
 ·exact .inl e
 ·exact .inr (g i e hi)
theorem acA {w:jF}{e:Nat}(hb:base<=w.1.size):(w.alloc (jG #[v] e)).ownsRow base e 1 (iX (jB ⟨w.1.size,0,jC⟩) 1 1) 1 [v]:=
 ⟨ς,.inr ⟨w.1.size,1,#[v],rfl,hb,heap_alloc_new w _,lR,by unfold maxLen;omega,ς,ς⟩⟩
theorem SQ (A:Option Addr)(c:Nat)(f:List Nd)(w:jF)(hf:Sl w w.1.size 2 A (η f) c (qP f))(hl:η f<=1000000000):
  Calls jJ 14 #[iX A (η f) c] w (λen w'=>∃kb vs,en=.returned (jH (jB ⟨kb,0,jC⟩))/\Jl w.1.size kb vs w' f ⟨0,[],[]⟩ [(η f:Int)] (check f) A c jC 0 0 jC 0 0/\Below w.1.size w w'):=by
 obtain⟨W1,b⟩:=xQ (w.alloc (jG #[iY iZ (η f:Int)] 3));have d:Below w.1.size w W1:=by rw[<-b];exact bR.alloc lR _
 have j:W1.ownsRow w.1.size 3 1 (iX (jB ⟨w.1.size,0,jC⟩) 1 1) 1 [iY iZ (η f:Int)]:=by rw[<-b];exact acA lR
 obtain⟨p,q,r⟩:=iA (adM A c f W1 w.1.size (hf.below d lR) d.size hl) b hf;clear b hf;go_enter Tryz.func14,Tryz.ntmps14;go_wp2_with fail
 rw[q.o];refine p.mono ?_;rintro e n ⟨rfl,k⟩;have a:=d.trans (k.mono d.size);have l:=qR j (qW.of_below k) (λg m e=>by have:=(j.lt g m).2;omega);have i:=a.size;go_wp2_with fail
 go_ret
 have s:=heap_alloc_new n (jG #[iX A (η f) c,iY iZ 0,iX jC 0 0,iX jC 0 0,iX (jB ⟨w.1.size,0,jC⟩) 1 1,iY iZ (check f)] 51);refine⟨n.1.size,iX (jB ⟨w.1.size,0,jC⟩) 1 1,rfl,⟨s,?_,ai3 (λW=>xI W _),yF l,i⟩,a.trans (bR.alloc i _)⟩;exact ai1 (r.below (a.trans (bR.alloc i _)) lR) (by simp;omega) i (λg m=>by simp[Value.ownBlock]at m;omega)
theorem ag5 (n0 kb X lo n:Nat)(vs:Value)(w:jF)(s:gW)(A:Option Addr)(c:Nat)(Ai:Option Addr)(ni ci:Nat)(An:Option Addr)(nn cn:Nat)(h:Jl n0 kb vs w s.1 s.2.1 s.2.2.1 s.2.2.2 A c Ai ni ci An nn cn)(U:n0<=w.1.size)(af:lo+n<=5)
  (hX:∀j,j<n->w.cell? ⟨X,j,jC⟩=jB (Kn (lo+j)))(J:X≠kb/\vs.ownBlock≠jB X/\X<w.1.size)(hT:∀W,Below n0 w W->xJ W/\TabAt 0 Lib.deBruijn64tab W/\0<W.1.size)
  (hN:∀j,j<n->(sj lo j s).2.2.2=0->QT (lo+j) (sj lo j s)):
  Calls jJ 15 #[jH (jB ⟨kb,0,jC⟩),iX (jB ⟨X,0,jC⟩) n n] w (λen w'=>en=.returned (.tuple #[])/\NvW n0 kb vs w w' (sj lo n s)):=by
 have H0:Hd (NvW n0 kb vs w w (sj lo 0 s)):=dh ⟨vs,A,c,Ai,ni,ci,An,nn,cn,h,qW.refl _ w,λi hi _=>hi⟩;obtain⟨HX,G,HT,HN⟩:=iB hX J hT hN;have K:Hd (n0<=kb/\∀g,vs.ownBlock=jB g->n0<=g):=dh ⟨h.lt,λg hg=>(h.own.lt g hg).1⟩;clear hX J hT hN h;go_enter Tryz.func15,Tryz.ntmps15;go_wp2_with fail
 go_loopw [8] (λi wr=>∃j:Nat,j<=n/\i=iY iZ (j:Int)/\Hd (NvW n0 kb vs w wr (sj lo j s))) (λi _=>6-(intOf i).toNat)
 case atStart=>exact⟨0,mR _,rfl,H0⟩
 case round=>
  obtain⟨j,hj,rfl,L⟩:=hrel;clear H0;obtain⟨x,A1,c1,M,N,O,P,mn,dn,I,D,z⟩:=L.o;by_cases Q:j<n
  ·obtain⟨m0,m1,m2,m3,m4,V⟩:=wO I.bk;have hx:=HX j Q
   have l:wr.cell? ⟨X,j,jC⟩=jB (Kn (lo+j)):=by
    rw[<-hx]
    exact D.cell (p:=⟨X,j,jC⟩) G.2.2 (λe=>by
     rcases e with e|e
     ·exact G.1 e
     ·exact G.2.1 e)
   clear hx;by_cases hw:(sj lo j s).2.2.2=0
   ·have a:=HN j Q hw
    have Y:=D.below U (λk d e=>by
     rcases e with e|e
     ·have:=K.1;omega
     ·have:=K.2 k e;omega)
    obtain⟨Z,a6,a7⟩:=HT wr Y;have u:sj lo (j+1) s=Mx (lo+j) (sj lo j s):=rfl;generalize sj lo j s=t at *;obtain⟨f1,R,S,y1⟩:=t;dsimp only at I hw a m0 m1 m2 m3 m4 V u;subst hw;obtain⟨H1,B,C⟩:=iA I D u;have a8:(0:Int)<=(j:Int):=ω;have T:(j:Int)<(n:Int):=ω;have wi:IntKind.i64.wrap ((j:Int)+1)=j+1:=by rw[wI];omega
    have d:lo+j=0\/lo+j=1\/lo+j=2\/lo+j=3\/lo+j=4:=ω;clear u I D L;rcases d with d|d|d|d|d
    ·rw[d]at l a;have b:=C.o;rw[d]at b;obtain⟨m,E⟩:=iw b a;dsimp only[Kn]at l;clear d b C a;go_wp2_with fail
     have a:=E.o;refine(Y7 n0 kb x wr f1 R S 0 A1 c1 M N O P mn dn H1 a.2 a.1).mono ?_;rintro e w3 q;obtain⟨rfl,r⟩:=q.w B z;go_wp2_with fail
     go_roundw
     case rel=>exact⟨j+1,ω,by go_num,dh (by rw[m.o];exact r)⟩
     case measure=>simp[intOf];omega
    ·rw[d]at l a;have b:=C.o;rw[d]at b;obtain⟨m,E⟩:=iw b a;dsimp only[Kn]at l;clear d b C a;go_wp2_with fail
     have a:=E.o;refine(Vw n0 kb x wr f1 R S 0 A1 c1 M N O P mn dn H1 a.2 a.1).mono ?_;rintro e w3 q;obtain⟨rfl,r⟩:=q.w B z;go_wp2_with fail
     go_roundw
     case rel=>exact⟨j+1,ω,by go_num,dh (by rw[m.o];exact r)⟩
     case measure=>simp[intOf];omega
    ·rw[d]at l a;have b:=C.o;rw[d]at b;obtain⟨m,E⟩:=iw b a;dsimp only[Kn]at l;clear d b C a;go_wp2_with fail
     have a:=E.o;refine(abE n0 kb x wr f1 R S 0 A1 c1 M N O P mn dn H1 a.1 a.2 Z).mono ?_;rintro e w3 q;obtain⟨rfl,r⟩:=q.w B z;go_wp2_with fail
     go_roundw
     case rel=>exact⟨j+1,ω,by go_num,dh (by rw[m.o];exact r)⟩
     case measure=>simp[intOf];omega
    ·rw[d]at l a;have b:=C.o;rw[d]at b;obtain⟨m,E⟩:=iw b a;dsimp only[Kn]at l;clear d b C a;go_wp2_with fail
     have a:=E.o;obtain⟨KE,hd,H⟩:=a.2;refine(acF n0 kb x wr f1 R S 0 A1 c1 M N O P mn dn H1 a.1 KE hd H).mono ?_;rintro e w3 q;obtain⟨rfl,r⟩:=q.w B z;go_wp2_with fail
     go_roundw
     case rel=>exact⟨j+1,ω,by go_num,dh (by rw[m.o];exact r)⟩
     case measure=>simp[intOf];omega
    ·rw[d]at l a;have b:=C.o;rw[d]at b;obtain⟨m,E⟩:=iw b a;dsimp only[Kn]at l;clear d b C a;go_wp2_with fail
     have a:=E.o;obtain⟨KE,hd,H⟩:=a.2;refine(Wu n0 kb x wr f1 R S 0 A1 c1 M N O P mn dn H1 a.1 a6 a7 KE hd H).mono ?_;rintro e w3 q;obtain⟨rfl,r⟩:=q.w B z;go_wp2_with fail
     go_roundw
     case rel=>exact⟨j+1,ω,by go_num,dh (by rw[m.o];exact r)⟩
     case measure=>simp[intOf];omega
   ·have F:sj lo n s=sj lo j s:=by
     have:=Dw (lo:=lo) (s:=s) hw (n-j);rwa [show j+(n-j)=n by omega]at this
    rw[<-F]at L hw V;have a8:(0:Int)<=(j:Int):=ω;have T:(j:Int)<(n:Int):=ω;clear F I;obtain⟨y,hy⟩:=xQ (sj lo n s).2.2.2;rw[hy]at V hw;clear hy;go_wp2_with fail
    refine bodyPost_ret (v:=.tuple #[]) ?_ rfl ⟨rfl,L.o⟩;simp[results,Tryz.results15]
  ·have ad:j=n:=ω;subst ad;clear I;go_wp2_with fail
   refine vC rfl rfl ?_;exact⟨rfl,L.o⟩
set_option maxHeartbeats 4000000
set_option maxRecDepth 100000
theorem D7 {a:List Nat}{A B:jF}(h:TabAt g a A)(b:g<A.1.size)(hb:Below A.1.size A B):TabAt g a B:=λj c=>bC hb b (h j c)
noncomputable def vO (f:List Nd):gW:=(f,⟨0,[],[]⟩,[(η f:Int)],check f)
def ajo (w:jF)(s:gW)(en:Ending)(w':jF):Prop:=
 ∃v,en=.returned (.tuple #[v,iY iZ s.2.2.2])/\(s.2.2.2=0->w'.ownsRow w.1.size 3 1 v (η s.2.2.1) (qO s.2.2.1))/\(¬s.2.2.2=0->v=iX jC 0 0)/\Below w.1.size w w'
theorem Jl.steps {w:jF}{s:gW}(h:Jl n0 kb vs w s.1 s.2.1 s.2.2.1 s.2.2.2 A c Ai ni ci An nn cn)(a:n0<=w.1.size)(lo n T)(cs:Array Value)(b:lo+n<=5)(hcs:∀j,j<n->cs[j]? =jB (Kn (lo+j)))(i:∀W,Below n0 w W->xJ W/\TabAt 0 Lib.deBruijn64tab W/\0<W.1.size)(k:∀j,j<n->(sj lo j s).2.2.2=0->QT (lo+j) (sj lo j s))(W)(d:w.alloc (jG cs T)=W):
  Calls jJ 15 #[jH (jB ⟨kb,0,jC⟩),iX (jB ⟨w.1.size,0,jC⟩) n n] W (λen w'=>en=.returned (.tuple #[])/\NvW n0 kb vs W w' (sj lo n s))/\Below w.1.size w W/\W.1.size=w.1.size+1:=by
 have hb:Below w.1.size w W:=by rw[<-d];exact bR.alloc lR _
 have l:W.1[w.1.size]? =jB (jG cs T (0,0)):=by rw[<-d];exact heap_alloc_new w _
 have m:W.1.size=w.1.size+1:=by rw[<-d];simp
 have q:=h.gK;refine⟨ag5 n0 kb w.1.size lo n vs W s A c Ai ni ci An nn cn (h.below hb) ω b (λj o=>?_) ⟨ω,λe=>by have:=(h.own.lt _ e).2;omega,ω⟩ (λV p=>i V ((hb.mono a).trans p)) k,hb,m⟩;rw[cell_of_row _ _ _ _ _ (0,0) l];exact hcs j o
theorem Vz (A c f w)(hf:Sl w w.1.size 2 A (η f) c (qP f))(hl:η f<=1000000000)(x:TabAt 0 Lib.deBruijn64tab w)(i:0<w.1.size)(E:∀j,j<5->(sj 0 j (vO f)).2.2.2=0->QT (0+j) (sj 0 j (vO f))):
  Calls jJ 13 #[iX A (η f) c] w (ajo w (sj 0 5 (vO f))):=by
 obtain⟨F,J⟩:=iw (SQ A c f w hf hl) E;have K:Hd (∀W,Below w.1.size w W->xJ W/\TabAt 0 Lib.deBruijn64tab W/\0<W.1.size):=dh (λW z=>⟨D7 x i z,D7 x i z,by have:=z.size;omega⟩);clear hf E x i;go_enter Tryz.func13,Tryz.ntmps13;go_wp2_with fail
 refine F.mono ?_;rintro e w1 ⟨kb,vs,rfl,r,a⟩;clear F;obtain⟨G,d⟩:=xQ (w1.alloc (jG #[Kn 0,Kn 1,Kn 2,Kn 3,Kn 4] 49));obtain⟨b,B,L⟩:=Jl.steps (s:=vO f) r a.size 0 5 49 #[Kn 0,Kn 1,Kn 2,Kn 3,Kn 4] ω (λj T=>by rcases j with _| _| _| _| _|j<;>first|omega|rfl) (λV M=>K V (a.trans M)) J G d;obtain⟨H,N⟩:=iw b d;have l:Hd (w.1.size<=kb/\∀g,vs.ownBlock=jB g->w.1.size<=g):=dh ⟨r.lt,λg i=>(r.own.lt g i).1⟩;have m:=a.size;clear b d r;go_wp2_with fail
 have n:w1.alloc (jG #[.func (.func 16) #[] #[],.func (.func 17) #[] #[],.func (.func 18) #[] #[],.func (.func 19) #[] #[],.func (.func 20) #[] #[]] 49)=G:=N.o;rw[n];clear n;refine H.mono ?_;rintro e w3 ⟨rfl,vs',A3,c3,Ai,ni,ci,An,nn,cn,C,p,D⟩;clear H;obtain⟨m0,O,P,Q,U,I⟩:=wO C.bk
 have q:=(a.trans (B.mono m)).trans (p.below ω (λk X e=>by
  rcases e with e|e
  ·have:=l.1;omega
  ·have:=l.2 k e;omega))
 have R:=dh C.own;clear C p D m0 O P Q;obtain⟨y,hy⟩:=xQ (sj 0 5 (vO f)).2.2.2;rw[hy]at I;have u:=dh hy;clear hy;by_cases hw:y=0
 ·subst hw;go_wp2_with fail
  refine bodyPost_ret (v:=.tuple #[vs',iY iZ 0]) (by simp[results,Tryz.results13]) rfl ?_;exact⟨vs',by rw[u.o],λ_=>R.o,λe=>(e u.o).elim,q⟩
 ·go_upto_region 4 with fail
  refine wp_region_held_drew (S:=λw'=>q9 w' kb 5 (iY iZ y)/\True) κ ⟨I,trivial⟩ (λhS=>?_);refine qU 0 ?_;refine qU 1 ?_;refine qU 2 ?_;refine qU 3 ?_;refine qU 4 ?_;refine qU 5 ?_;refine wpAnyH_done κ ?_ _;go_wp2_with fail
  refine bodyPost_ret (v:=.tuple #[iX jC 0 0,iY iZ y]) (by simp[results,Tryz.results13]) rfl ?_;exact⟨_,by rw[u.o],λe=>(hw (u.symm.trans e)).elim,λ_=>rfl,Below.drew q⟩
