/- A part of the proof. -/
import Derived.Test.YtdmeoldcifddiaaGreatDoorZak
import Derived.WalkMore
import Derived.Test.YtdmeoldcifddiaaGreatDoorZaf
import Derived.RangeFuncNested
import Derived.Test.YtdmeoldcifddiaaGreatDoorZab
import Derived.Test.YtdmeoldcifddiaaGreatDoorShort
import Derived.Lib.TrailingZeros
import Derived.Test.YtdmeoldcifddiaaGreatDoorProg
import Derived.Outline
import Derived.RangeFuncBound
import Derived.RangeFuncCalls
import Derived.RangeFuncLeaves
import Derived.Shelf.Abstract
import Derived.Shelf.RegionOpen
import Derived.OwnWalkIn
import Derived.TacticsInMore
import Derived.LoopNIn
import Derived.LoopIn
import Derived.Shelf.Spec.TrailingZeros
import Derived.Test.YtdmeoldcifddiaaGreatDoorZaj
/- The walks of layer 7 (strongly connected parts): walk. -/
set_option maxHeartbeats 16000000
set_option maxRecDepth 100000
namespace Go.Proofs.YtdmeoldcifddiaaGreatDoor
open Go.RowKit
open Go.Value renaming slice -> iX, int -> iY, pointer -> jH, bool -> jI
open Go.IntKind renaming i64 -> iZ, u64 -> jA
open Option renaming some -> jB, none -> jC
open Bool renaming true -> jD, false -> jE
open Go renaming World -> jF
open Go.Obj renaming cells -> jG
open Go.Proofs.Tryz renaming prog -> jJ
open List renaming length -> η, replicate -> ρ, range -> ζ, getD -> θ
variable {a:Act}{ps:Array Tmp}{args cs lb:Array Value}{assign body:Code}{R:Ending->jF->Prop}{Q:Exit->Act->jF->Prop}{E:List (List Nd)}{I:List Int}{Ds L ins of:List Nat}{vs xs:List Value}{B D N T all base g gf i j k l m n pb size x y:Nat}{M M' M1:Nat->Prop}{o:Obj}{s:Sc}{α β:Type}{e t:TypeId}{u v v':Value}{A C W W' W1 w w0 w1 wr w₀:jF}
def XZ (E:List (List Nd))(s:Sc):Nat:=2*BA E s.uW+η s.way
def agx (X:Nat)(xo:Obj)(E:List (List Nd))(base b:Nat)(EA:Value)(N qn ql qx qi qp:Nat)(aiY:List Nat)(n:Nat)(w:jF)(e:Ending)(w':jF):Prop:=
 (∃v,e=.returned v)/\(∃s vs vw,SI E s/\s.way=[]/\(∀y,0<aiY.getD y 0->0<s.num.getD y 0)/\0<s.num.getD n 0/\yM X xo base b EA N qn ql qx qi qp vs vw s w')/\Below base w w'
theorem aft (y):XZ E (s.come y)=XZ E s+1:=by simp[XZ,Sc.come];omega
theorem ahD (h:SI E s)(a:x∈s.way)(b:s.uW.getD x 0<η (E.getD x [])):XZ E (s.QW x)+2=XZ E s:=by
 have:=Ra (E:=E) h.lx (h.stk x (h.sub x a)).1 b;simp only[XZ,Sc.QW];omega
theorem Si (x v):XZ E (s.lower x v)=XZ E s:=rfl
def Grown (aiY:List Nat)(n:Nat)(s:Sc):Prop:=(∀y,0<aiY.getD y 0->0<s.num.getD y 0)/\0<s.num.getD n 0
theorem Grown.come {a:List Nat}(h:Grown a n s):Grown a n (s.come y):=by
 have key:∀k,0<s.num.getD k 0->0<(s.come y).num.getD k 0:=λk b=>by
  show 0<(s.num.set y (s.cnt+1)).getD k 0;by_cases e:y<η s.num
  ·rw[Gu e];split<;>omega
  ·rw[List.set_eq_of_length_le ω];exact b
 exact⟨λk b=>key k (h.1 k b),key n h.2⟩
theorem SI.pop (h:SI E s){pre:List Nat}(c:s.way=pre++[x])(hd:s.uW.getD x 0=η (E.getD x [])):
  (s.low.getD x 0≠s.num.getD x 0/\∃pr p,pre=pr++[p]/\p≠x/\SI E ({s with way:=pre}.lower p (s.low.getD x 0)))\/
  (s.low.getD x 0=s.num.getD x 0/\(∀pr p,pre=pr++[p]->p≠x/\({s with way:=pre}:Sc).lower p (s.low.getD x 0)={s with way:=pre})/\
   ∃a bb,s.stk=a++x::bb/\x∉bb/\∀m,m∈x::bb->(∀y∈x::bb,m<=y)->SI E ({s with way:=pre}.cut a (x::bb) m)):=by
 have g:x∈s.way:=by rw[c];simp
 have d:=(h.top c).1
 have f:∀pr p,pre=pr++[p]->p≠x:=λpr p e hp=>by
  have:=d p (by rw[e];simp);rw[hp]at this;omega
 by_cases hl:s.low.getD x 0=s.num.getD x 0
 ·right;obtain⟨a,bb,hs⟩:=qL (h.sub x g)
  have j:x∉bb:=λhb=>by
   have hp:=h.srt;rw[hs,mX,pQ]at hp;have:=hp.2.1.1 x hb;omega
  refine⟨hl,λpr p e=>⟨f pr p e,?_⟩,a,bb,hs,j,λm hm b=>(h.part c hd hl hs hm b).1⟩
  have b:s.low.getD p 0<=s.low.getD x 0:=by
   obtain⟨m,hm,hle⟩:∃m,m∈x::bb/\∀y∈x::bb,m<=y:=by
    have:∀l:List Nat,l≠[]->∃m,m∈l/\∀y∈l,m<=y:=by
     intro l;induction l with
     |nil=>intro h;exact absurd rfl h
     |cons z l o=>
      intro _;by_cases e:l=[]
      ·subst e;exact⟨z,ς,λy hy=>by simp at hy;omega⟩
      ·obtain⟨m,n,k⟩:=o e;by_cases e2:z<=m
       ·exact⟨z,ς,λy hy=>by rcases jk.1 hy with rfl|hy;exact lR;exact Nat.le_trans e2 (k y hy)⟩
       ·exact⟨m,jc _ n,λy hy=>by rcases jk.1 hy with rfl|hy;omega;exact k y hy⟩
    exact this _ ς
   exact(h.part c hd hl hs hm hle).2 p (by rw[e];simp)
  have hpl:p<η s.low:=by rw[h.ll];exact(h.stk p (h.sub p (by rw[c,e];simp))).1
  have e2:s.low.set p (min (s.low.getD p 0) (s.low.getD x 0))=s.low:=by
   rw[mg b];refine jw ς (λi n k=>?_);rw[mq];split
   ·next q=>subst q;rw[gD,gE hpl];rfl
   ·rfl
  show({s with way:=pre,low:=s.low.set p (min (s.low.getD p 0) (s.low.getD x 0))}:Sc)= _;rw[e2]
 ·left;obtain⟨pr,p,e,r⟩:=h.stay c hd hl;exact⟨hl,pr,p,e,f pr p e,r⟩
theorem yM.box {X:Nat}{b:Nat}{EA:Value}{qn ql qx qi qp:Nat}{vs vw:Value}(h:yM X (jG #[v] T (0,0)) base b EA N qn ql qx qi qp vs vw s w):w.cell? ⟨X,0,jC⟩=jB v:=by
 rw[cell_of_row _ _ _ _ _ (0,0) h.xo];rfl
theorem adT (X:Nat)(xo:Obj)(E:List (List Nd))(ae:Option Addr)(ce B:Nat)(base b:Nat)(N qn ql qx qi qp:Nat)(vs vw:Value)(s:Sc)(w:jF)(n:Nat)
  (aA:Gx w B 2 ae N ce (E.map qP))(hB:B<=base)(U:yM X xo base b (iX ae N ce) N qn ql qx qi qp vs vw s w)(hX:X<base)(hI:SI E s)(hw:s.way=[])(hn:n<N)(h0:s.num.getD n 0=0)
  (hE:∀r∈E,∀e∈r,sG (η E) e.op=jD)(hN:N<=1000000)(hr:∀r∈E,η r<=1000000):
  Calls jJ 179 #[jH (jB ⟨b,0,jC⟩),iY iZ (n:Int)] w (agx X xo E base b (iX ae N ce) N qn ql qx qi qp s.num n w):=by
 have cg:N=η E:=by have:=aA.len;simpa using this
 have ej:=aA.cap;have ch:=aA.max;unfold maxLen at ch;have bB:base<=w.1.size:=by have:=U.bb;have:=U.far.2.2.2.2.2.2.2;omega
 obtain⟨w1,aU⟩:=xQ (w.alloc (jG #[jH (jB ⟨b,0,jC⟩)] 239));have aB:=U.fresh (jG #[jH (jB ⟨b,0,jC⟩)] 239);have cj:Below base w w1:=by rw[<-aU];exact(Below.refl base w).alloc bB _
 rw[aU]at aB;obtain⟨bx,bE⟩:=xQ w.1.size;have dG:=dh aU;have ck:=U.xo;have cm:s.cnt<=1000000:=by have:=hI.ZU;omega
 have aV:η s.stk<=1000000:=by have:=hI.TJ;omega
 have aj:η s.way<=1000000:=by have:=hI.aaf;omega
 have cp:Hd (∀(aW:Nat) (aX:Obj) (Q:Sc) (vs' M4:Value) (w':jF) (k:Nat),yM aW aX base b (iX ae N ce) N qn ql qx qi qp vs' M4 Q w'->(Q.cnt<=1000000/\η Q.stk<=1000000/\η Q.way<=1000000)->k<N->Calls jJ 187 #[jH (jB ⟨b,0,jC⟩),iY iZ (k:Int)] w' (agA aW aX base b (iX ae N ce) N qn ql qx qi qp (Q.come k) w')):=
  dh (λaW aX Q vs' M4 w' k h hi hk=>af3 aW aX base b (iX ae N ce) N qn ql qx qi qp vs' M4 Q w' k h hk ω ω ω ω)
 have cq:=hI.come ω h0 (λx hx=>by rw[hw]at hx;cases hx)
 have cr:Grown s.num n (s.come n):=by
  have ct:n<η s.num:=by rw[hI.ln];omega
  refine⟨λy hy=>?_,?_⟩
  ·show 0<(s.num.set n (s.cnt+1)).getD y 0;rw[Gu ct];split<;>omega
  ·show 0<(s.num.set n (s.cnt+1)).getD n 0;rw[Gu ct,jd rfl];omega
 have d:=aB.box;rw[bE]at aB d;obtain⟨H1,HI,V,ak,dH,dI,dJ,HE,HR⟩:=dh9 aB hI cq cr cj aA ck hE hr;obtain⟨W,ey⟩:=iw cg bE;clear U hI cq cr aU aB cj aA ck hE hr cg;go_enter Tryz.func179,Tryz.ntmps179;go_wp2_with fail
 go_step3
 rw[dG.o];go_wp2_with fail
 refine(cp bx _ s vs vw w1 n H1 ⟨cm,aV,aj⟩ hn).mono ?_;rintro e w2 ⟨⟨v,rfl⟩,⟨T,ao,bF⟩,cu⟩;have d:=bF.box;have bm:=dH.trans cu;obtain⟨aq,ax⟩:=iw bF bm;clear bF cu bm cm aV aj bE;go_wp2_with fail
 clear d;go_step3
 go_wp2_with fail
 obtain⟨K0,cv⟩:∃K,XZ E (s.come n)<=K:=⟨_,lR⟩;have cx:=dh cv;obtain⟨XO,bG⟩:∃XO:Obj,XO=jG #[jH (jB ⟨b,0,jC⟩)] 239:=⟨_,rfl⟩;have H:=dh bG;rw[<-bG]at aq;clear cv bG;go_loopg [5] K0 (λgk _ wr=>∃(s1:Sc) (bH cy:Value),yM bx XO base b (iX ae N ce) N qn ql qx qi qp bH cy s1 wr/\Hd (SI E s1)/\Hd (Grown s.num n s1)/\Hd (XZ E s1<=gk)/\Below base w wr)
 case atStart=>exact⟨_,_,_,aq.o,V,ak,cx,ax.o⟩
 case round=>
  clear V ak cx aq ax;obtain⟨s1,bH,cy,U,V,ak,cz,hb⟩:=hrel;have d:wr.cell? ⟨bx,0,jC⟩=jB (jH (jB ⟨b,0,jC⟩)):=by have D:=U;rw[H.o]at D;exact D.box
  have c5:=U.cells.2.2.2.2.2.1;obtain⟨Aw,cw,rfl,aY⟩:=qX U.way;have cC:=aY.cap;have dK:=aY.max;unfold maxLen at dK;obtain⟨aZ,HM,HB⟩:=iA aY U hb;clear aY U hb;rcases p9 s1.way with bI|⟨pre,x,cD⟩
  ·have cE:η s1.way=0:=by rw[bI];rfl
   rw[cE]at c5 HM aZ cC;have dL:=dh bI;clear bI cE;go_wp2_with fail
   go_end0
   have dM:=(HB.block X ω).trans dJ.o;exact⟨⟨_,rfl⟩,⟨s1,bH,_,V.o,dL.o,ak.1,ak.2,HM.swap dM hX⟩,HB.o⟩
  ·have Y:s1.way=pre++[x]:=by simpa using cD
   obtain⟨m,hm⟩:=xQ (η pre);have hl:η s1.way=m+1:=by rw[Y,lA,hm];rfl
   rw[hl]at c5 HM aZ cC
   obtain⟨bw,ow,dN,b4,cF⟩:=aZ.rd.at_ (j:=m) (u:=iY iZ (x:Int)) (by
    rw[FY ω,Y,gD,gR ω,hm,mZ];rfl)
   subst dN;have Z:x<N:=by rw[W.o];exact(V.stk x (V.sub x (by rw[Y];simp))).1
   have dO:(0:Int)<=(x:Int):=ω;have ez:(x:Int)<(N:Int):=ω;have dP:(0:Int)<(m:Int)+1:=ω;have wl:IntKind.i64.wrap (m:Int)=(m:Int):=by rw[wI];omega
   have bJ:(0:Int)<=(m:Int):=ω;have dQ:(m:Int)<(m:Int)+1:=ω;obtain⟨cG,L⟩:=iw Y hm;clear cD Y hl hm b4 aZ;go_wp2_with fail
   refine wp_region_held_drew (S:=λw'=>q9 w' bx 0 (jH (jB ⟨b,0,jC⟩))/\q9 w' b 5 (iX (jB ⟨bw,ow,jC⟩) (m+1) cw)/\q9 w' bw (ow+m) (iY iZ (x:Int))) κ ⟨d,c5,cF⟩ (λhS=>?_);refine qU 0 ?_;refine qU 1 ?_;refine qU 2 ?_;refine qU 3 ?_;refine qU 4 ?_;refine qU 5 ?_;refine qU 6 ?_;refine qU 7 ?_;refine qU 8 ?_;refine qU 9 ?_;refine qU 10 ?_;refine qU 11 ?_;refine qU 12 ?_;refine wpAnyH_done κ ?_ _;obtain⟨aq,ax⟩:=iw HM.drew (vM HB.o);obtain⟨w3,C⟩:=xQ wr.drew;rw[C]at aq ax⊢;clear d c5 cF hS dP wl bJ dQ HM HB C;go_wp2_with fail
   obtain⟨go,rfl⟩:=xR gk;obtain⟨K1,cH⟩:∃K,XZ E s1<=K:=⟨_,lR⟩;have cI:=dh cH;have cJ:=cz;clear cH;go_loopg [6] K1 (λgi _ wq=>∃(s2:Sc) (T ao:Value),yM bx XO base b (iX ae N ce) N qn ql qx qi qp T ao s2 wq/\Hd (SI E s2)/\Hd (Grown s.num n s2)/\Hd (s2.way=pre++[x])/\Hd (XZ E s2<=gi)/\Hd (XZ E s2<=go)/\Below base w wq)
   case atStart=>exact⟨_,_,_,aq.o,V,ak,cG,cI,cJ,ax.o⟩
   case round=>
    clear aq V ak cG cI cJ ax cz;obtain⟨s2,T,ao,U,q,ay,M,aC,O,hb⟩:=hrel;have d:wr.cell? ⟨bx,0,jC⟩=jB (jH (jB ⟨b,0,jC⟩)):=by have D:=U;rw[H.o]at D;exact D.box
    have c3:=U.cells.2.2.2.1;have c0:=U.cells.1;have b5:x<η E:=by rw[<-W.o];exact Z
    obtain⟨eb,eo,A',n',c',dR,eA,a6,F⟩:=(dI.below hb hB).at_ (Ej b5);subst dR;have hlen:n'=E[x].length:=by have:=F.len;rw[uz]at this;omega
    have b6:E.getD x []=E[x]:=by rw[gD,gE b5];rfl
    have cK:=HR E[x] (mM b5);obtain⟨er,cL⟩:=xQ (E[x]);rw[cL]at F hlen b6 cK;subst hlen;obtain⟨q1,q2,q3⟩:=uU U.uW Z;obtain⟨nx,b9⟩:=xQ (s2.uW.getD x 0);rw[b9]at q1;have cM:x∈s2.way:=by rw[M.o];simp
    have hle:=q.le x;rw[b9,b6]at hle;have dO:(0:Int)<=(x:Int):=ω;obtain⟨HM,HB,cN,aD,bc,cO,dS⟩:=iD U hb F b9 b6 cM (And.intro F.cap F.max);have dT:=F.cap;have cP:=F.max;unfold maxLen at cP;clear U hb F b9 b6 cL cM b5;by_cases ar:nx<η er
    ·have bn:(nx:Int)<(η er:Int):=ω;have ek:(0:Int)<=(nx:Int):=ω;go_wp2_with fail
     refine wp_region_held_drew (S:=λw'=>q9 w' bx 0 (jH (jB ⟨b,0,jC⟩))/\q9 w' b 3 (iX (jB ⟨qx,0,jC⟩) N N)/\q9 w' b 0 (iX (jB ⟨eb,eo,jC⟩) N ce)/\q9 w' qx x (iY iZ (nx:Int))/\q9 w' eb (eo+x) (iX A' (η er) c')) κ ⟨d,c3,c0,q1,a6⟩ (λhS=>?_);refine qU 0 ?_;refine qU 1 ?_;refine qU 2 ?_;refine qU 3 ?_;refine qU 4 ?_;refine qU 5 ?_;refine qU 6 ?_;refine qU 7 ?_;refine qU 8 ?_;refine qU 9 ?_;refine qU 10 ?_;refine qU 11 ?_;refine qU 12 ?_;refine qU 13 ?_;refine qU 14 ?_;refine qU 15 ?_;refine wpAnyH_done κ ?_ _;obtain⟨bb,oo,dU,ep,cQ,dV⟩:=vZ cN.rd ar;subst dU;have G:=HM.drew;have I:=vM HB.o;obtain⟨w3,C⟩:=xQ wr.drew;have p1:w3.cell? ⟨bx,0,jC⟩=jB (jH (jB ⟨b,0,jC⟩)):=by rw[<-C];exact d
     have p2:w3.cell? ⟨b,3,jC⟩=jB (iX (jB ⟨qx,0,jC⟩) N N):=by rw[<-C];exact c3
     have p3:w3.cell? ⟨b,0,jC⟩=jB (iX (jB ⟨eb,eo,jC⟩) N ce):=by rw[<-C];exact c0
     have p4:w3.cell? ⟨qx,x,jC⟩=jB (iY iZ (nx:Int)):=by rw[<-C];exact q1
     have p5:w3.cell? ⟨eb,eo+x,jC⟩=jB (iX (jB ⟨bb,oo,jC⟩) (η er) c'):=by rw[<-C];exact a6
     have p6:w3.cell? ⟨bb,oo+nx*2,jC⟩=jB (iY iZ er[nx].op):=by rw[<-C];exact cQ
     have cS:sG (η E) er[nx].op=jD:=by
      have h9:=HE (E.getD x []) (by rw[gD,gE (by rw[<-W.o];exact Z)];exact mM _);rw[bc.o]at h9;exact h9 er[nx] (mM ar)
     have bK:(tgts (E.getD x []))[s2.uW.getD x 0]? =jB er[nx].op:=by rw[bc.o,aD.o];simp[tgts,ar]
     obtain⟨y,hy,bd⟩:=rO cS;rw[hy]at p6 bK;rw[<-W.o]at bd;have bL:=dh bK;rw[C]at G I⊢;obtain⟨HD,cT⟩:=iw G I;clear d c3 c0 q1 q2 q3 a6 cQ dV G I cS bK hS HM HB C hy;go_wp2_with fail
     refine wp_region_held_drew (S:=λw'=>q9 w' bx 0 (jH (jB ⟨b,0,jC⟩))/\q9 w' b 3 (iX (jB ⟨qx,0,jC⟩) N N)/\q9 w' b 0 (iX (jB ⟨eb,eo,jC⟩) N ce)/\q9 w' qx x (iY iZ (nx:Int))/\q9 w' eb (eo+x) (iX (jB ⟨bb,oo,jC⟩) (η er) c')/\q9 w' bb (oo+nx*2) (iY iZ (y:Int))) κ ⟨p1,p2,p3,p4,p5,p6⟩ (λhS=>?_);refine qU 0 ?_;refine qU 1 ?_;refine qU 2 ?_;refine qU 3 ?_;refine qU 4 ?_;refine qU 5 ?_;refine qU 6 ?_;refine qU 7 ?_;refine qU 8 ?_;refine qU 9 ?_;refine qU 10 ?_;refine qU 11 ?_;refine qU 12 ?_;refine qU 13 ?_;refine qU 14 ?_;refine qU 15 ?_;refine qU 16 ?_;refine qU 17 ?_;refine wpAnyH_done κ ?_ _;have G:=HD.drew;have I:=vM cT.o;obtain⟨w4,cU⟩:=xQ w3.drew;rw[cU]at G I⊢;clear p1 p2 p3 p4 p5 p6 hS HD cT cU;have d:w4.cell? ⟨bx,0,jC⟩=jB (jH (jB ⟨b,0,jC⟩)):=by have D:=G;rw[H.o]at D;exact D.box
     have c3:=G.cells.2.2.2.1;have c0:=G.cells.1;have c1:=G.cells.2.1;obtain⟨q1,q2,q3⟩:=uU G.uW Z;rw[aD.o]at q1;have wn:IntKind.i64.wrap ((nx:Int)+1)=(nx:Int)+1:=by rw[wI];omega
     have a7:=G.agZ x (nx+1) (x:=(nx:Int)+1) ω;have bp:=I.setCell (p:=⟨qx,x,jC⟩) (G.uW.lt qx rfl).1 (iY iZ ((nx:Int)+1));have aE:(w4.setCell ⟨qx,x,jC⟩ (iY iZ ((nx:Int)+1))).cell? ⟨bx,0,jC⟩=jB (jH (jB ⟨b,0,jC⟩)):=by have D:=a7;rw[H.o]at D;exact D.box
     obtain⟨bM,aF⟩:=iw a7 bp;have eB:(0:Int)<=(y:Int):=ω;have eC:(y:Int)<(N:Int):=ω;obtain⟨m1,m2,m3⟩:=uU a7.num bd;obtain⟨ny,bN⟩:=xQ (s2.num.getD y 0);have e1:({s2 with uW:=s2.uW.set x (nx+1)}:Sc)=s2.QW x:=by rw[Sc.QW,aD.o]
     have e2:({s2 with uW:=s2.uW.set x (nx+1)}:Sc).num.getD y 0=ny:=bN;rw[e2]at m1;have d1:=a7.cells.2.1;have d0:=a7.cells.1;have d6:=a7.cells.2.2.2.2.2.2.1;obtain⟨i1,i2,i3,_⟩:=yj a7.inn bd;have e3:({s2 with uW:=s2.uW.set x (nx+1)}:Sc).inn=s2.inn:=rfl;rw[e3]at i1;obtain⟨bO,bP⟩:=iw e1 bN;have cV:=ahD q cO (by rw[aD.o,bc.o];exact ar);have a8:=dh cV;clear G I a7 bp e1 e2 e3 bN cV;by_cases hz:ny=0
     ·subst hz
      have bq:(s2.QW x).cnt<=1000000/\(s2.QW x).stk.length<=1000000/\(s2.QW x).way.length<=1000000:=by
       have a1:=q.ZU;have a2:=q.TJ;have a3:=q.aaf;have a4:=W.o;show s2.cnt<=_/\η s2.stk<=_/\η s2.way<=_;omega
      have dW:=dh (cp bx XO (s2.QW x) T ao _ y (bO.o▸bM.o) bq bd);clear bq i1 i2 i3 d6;go_wp2_with fail
      refine dW.mono ?_;rintro e w5 ⟨⟨v5,rfl⟩,⟨eD,eE,aG⟩,aH⟩;obtain⟨HT,bQ,bS⟩:=iA (q.tree HE M bL bP.o) (aF.trans aH) aG;clear aG aH aE d1 d0 m1 m2 m3 d c3 c0 c1 q1 q2 q3;go_wp2_with fail
      go_roundg (go-1)
      case rel=>exact⟨_,_,_,bS.o,HT,dh ((show Grown s.num n (s2.QW x)from ay.o).come),dh (by have:=a8.o;have:=O.o;rw[aft];omega),bQ.o⟩
      case measure=>have:=a8.o;have:=O.o;omega
     ·have eF:((ny:Int)==0)=jE:=by simp;omega
      have cW:0<s2.num.getD y 0:=by rw[bP.o];omega
      obtain⟨bi,az⟩:=xQ (s2.inn.getD y jE);rw[az]at i1;cases bi with
      |true=>
       have aJ:=(q.inn y).1 az;obtain⟨dX,dY⟩:=iw (Sq bx XO base b bx (iX (jB ⟨eb,eo,jC⟩) N ce) N qn ql qx qi qp T ao (s2.QW x) _ x ny (bO.o▸bM.o) aE Z) (q.back HE M bL aJ);clear aJ az;go_wp2_with fail
       refine dX.mono ?_;rintro e w5 ⟨⟨v5,rfl⟩,aG,aH⟩;obtain⟨bQ,bS⟩:=iw (aF.trans aH) aG;clear aG aH aE d1 d0 d6 m1 m2 m3 i1 i2 i3 d c3 c0 c1 q1 q2 q3;go_wp2_with fail
       go_roundg (gk-1)
       case rel=>exact⟨(s2.QW x).lower x (s2.num.getD y 0),T,ao,by rw[bP.o];exact bS.o,dY,ay,M,dh (by have:=a8.o;have:=aC.o;rw[Si];omega),dh (by have:=a8.o;have:=O.o;rw[Si];omega),bQ.o⟩
       case measure=>have:=a8.o;have:=aC.o;omega
      |false=>
       have aJ:y∉s2.stk:=λD=>by rw[(q.inn y).2 D]at az;cases az
       have dZ:=dh (q.skip cO bL cW aJ);clear aJ az;go_wp2_with fail
       go_roundg (gk-1)
       case rel=>exact⟨s2.QW x,T,ao,bO.o▸bM.o,dZ,ay,M,dh (by have:=a8.o;have:=aC.o;omega),dh (by have:=a8.o;have:=O.o;omega),aF.o⟩
       case measure=>have:=a8.o;have:=aC.o;omega
    ·have e0:nx=η er:=ω;subst e0;have bn:¬((η er:Int)<(η er:Int)):=ω;have ad:=dh (q.pop M (by rw[aD.o,bc.o]));clear ar hle;go_wp2_with fail
     refine wp_region_held_drew (S:=λw'=>q9 w' bx 0 (jH (jB ⟨b,0,jC⟩))/\q9 w' b 3 (iX (jB ⟨qx,0,jC⟩) N N)/\q9 w' b 0 (iX (jB ⟨eb,eo,jC⟩) N ce)/\q9 w' qx x (iY iZ (η er:Int))/\q9 w' eb (eo+x) (iX A' (η er) c')) κ ⟨d,c3,c0,q1,a6⟩ (λhS=>?_);refine qU 0 ?_;refine qU 1 ?_;refine qU 2 ?_;refine qU 3 ?_;refine qU 4 ?_;refine qU 5 ?_;refine qU 6 ?_;refine qU 7 ?_;refine qU 8 ?_;refine qU 9 ?_;refine qU 10 ?_;refine qU 11 ?_;refine qU 12 ?_;refine qU 13 ?_;refine qU 14 ?_;refine qU 15 ?_;refine wpAnyH_done κ ?_ _;have G:=HM.drew;have I:=vM HB.o;obtain⟨w3,C⟩:=xQ wr.drew;rw[C]at G I⊢;clear d c3 c0 q1 q2 q3 a6 hS HM HB C bn cN dS dT cP cK aC;have d:w3.cell? ⟨bx,0,jC⟩=jB (jH (jB ⟨b,0,jC⟩)):=by have D:=G;rw[H.o]at D;exact D.box
     obtain⟨au,P,e6,aw⟩:=qX G.way;subst e6;have aj:η s2.way=m+1:=by rw[M.o,lA,L.o];rfl
     have c5:=G.cells.2.2.2.2.2.1;have f5:=G.soft 5;have e7:=G.far.2.2.2.2.2.2.2;have aK:=G.way;rw[aj]at c5 aw aK;have cX:=aw.cap;have cY:=aw.max;unfold maxLen at cY;have bT:=Eb aK (k:=m) ω
     have cZ:(qO (iE s2.way)).take (m*1)=qO (iE pre):=by
      rw[M.o,mU,<-L.o];simp[qO,iE]
     rw[cZ]at bT;have da:=λw'=>RJ (A:=au) (n:=m+1) (c:=P) (k:=m) ω w'
     have wm:IntKind.i64.wrap (m:Int)=(m:Int):=by rw[wI];omega
     have bU:=G.drew;rw[aj]at bU;have db:=(bU.ahb (w1:=w3.drew) (M4:=iX au m P) (l:=pre) (qW.refl (λ_=>False) _) (λ_ e=>e.elim) (by rw[L.o];exact qR bT (zq w3) (λ_ _ e=>e)) (λg e=>.inl (by rw[G9 au (m+1) m P P];exact e))).2.2.2;have b4:=(vM I).setCell (p:=⟨b,5,jC⟩) G.bb (iX au m P);obtain⟨dc,dd,e8⟩:=iA db b4 aj;clear G I aw aj aK bT cZ bU db b4;go_wp2_with fail
     refine vP (S:=λw'=>q9 w' bx 0 (jH (jB ⟨b,0,jC⟩))/\q9 w' b 5 (iX au (m+1) P)) 14 κ (⟨d,c5⟩) (λhS=>?_);refine tF 0 [] ?_;refine tF 1 [] ?_;refine tF 2 [] ?_;refine tF 3 [] ?_;refine tF 4 [] ?_;refine tF 5 [] ?_;refine tF 6 [] ?_;refine tF 7 [] ?_;refine tF 8 [] ?_;refine tF 9 [] ?_;refine tF 10 [] ?_;refine tF 11 [] ?_;refine tF 12 [13] ?_;refine tF 13 [] ?_;refine rM (i:=14) rfl κ κ (λK hK=>?_);go_simp;refine hK _ _ ?_;clear hK;refine tX κ ?_;obtain⟨w5,bh⟩:=xQ (w3.setCell ⟨b,5,jC⟩ (iX au m P)).drew;have hP:yM bx XO base b (iX (jB ⟨eb,eo,jC⟩) N ce) N qn ql qx qi qp T (iX au m P) {s2 with way:=pre} w5:=by rw[<-bh];exact dc.o
     have de:Below base w w5:=by rw[<-bh];exact dd.o
     rw[bh];clear d c5 f5 e7 hS da cX dc dd bh;have d:w5.cell? ⟨bx,0,jC⟩=jB (jH (jB ⟨b,0,jC⟩)):=by have D:=hP;rw[H.o]at D;exact D.box
     have c5:=hP.cells.2.2.2.2.2.1;obtain⟨lx,df⟩:=xQ (s2.low.getD x 0);obtain⟨bV,HP,bW⟩:=iA df hP de;have br:XZ E s2=2*BA E s2.uW+(m+1):=by rw[XZ,e8.o]
     have R:=dh br;have di:Hd (∀z∈s2.stk,z<N):=dh (λz hz=>by rw[W.o];exact(q.stk z hz).1);have dj:Hd (η s2.stk<=1000000000):=dh (by have:=q.TJ;have:=q.ZU;have:=W.o;omega);have bj:=dh (λ(Q:Sc) (vs' M4:Value) (w':jF) (D:yM bx XO base b (iX (jB ⟨eb,eo,jC⟩) N ce) N qn ql qx qi qp vs' M4 Q w') (hd:Q.low.getD x 0≠Q.num.getD x 0)=>Zq bx XO base b (iX (jB ⟨eb,eo,jC⟩) N ce) N qn ql qx qi qp vs' M4 Q w' x D Z hd)
     have aL:=dh (λ(Q:Sc) (vs' M4:Value) (w':jF) (D:yM bx XO base b (iX (jB ⟨eb,eo,jC⟩) N ce) N qn ql qx qi qp vs' M4 Q w') (a bb:List Nat) (hd:Q.low.getD x 0=Q.num.getD x 0) (hs:Q.stk=a++x::bb) (av:x∉bb) (ar:∀z∈Q.stk,z<N) (aV:η Q.stk<=1000000000)=>
      acZ bx XO base b (iX (jB ⟨eb,eo,jC⟩) N ce) N qn ql qx qi qp vs' M4 Q w' x D Z a bb hd hs av ar ω aV)
     clear hP de df br;rcases p9 pre with bX|⟨pr,pp,dk⟩
     ·have bJ:m=0:=by rw[<-L.o,bX];rfl
      subst bJ
      obtain⟨aM,_,a,bb,hs,av,af⟩:s2.low.getD x 0=s2.num.getD x 0/\True/\∃a bb,s2.stk=a++x::bb/\x∉bb/\∀m,m∈x::bb->(∀y∈x::bb,m<=y)->SI E ({s2 with way:=pre}.cut a (x::bb) m):=by
       rcases ad.o with⟨_,pr,p,e,_⟩|⟨h1,_,h3⟩
       ·rw[bX]at e;simp at e
       ·exact⟨h1,trivial,h3⟩
      obtain⟨aN,aO⟩:=iw af (aL _ _ _ w5 HP a bb aM hs av di dj.o);clear aM hs av af bX aL bj ad;go_wp2_with fail
      refine aO.mono ?_;rintro e w6 ⟨⟨v6,rfl⟩,⟨mm,eG,ag,ah,dm⟩,dp⟩;obtain⟨e9,ea,ec⟩:=iA dm (aN mm ag ah) (bW.trans dp);clear ag ah dm dp d c5;go_wp2_with fail
      go_roundg (go-1)
      case rel=>exact⟨_,_,_,e9.o,ea,ay,dh (by have:=R.o;have:=O.o;have:=L.o;show 2*BA E s2.uW+η pre<=_;omega),ec.o⟩
      case measure=>have:=R.o;have:=O.o;omega
     ·have J:pre=pr++[pp]:=by simpa using dk
      obtain⟨mp,ef⟩:∃k,m=k+1:=⟨η pr,by rw[<-L.o,J];simp⟩;subst ef;have aP:=HP.way;have hpl:=L.o;have e4:({s2 with way:=pre}:Sc).way.length=mp+1:=L.o;rw[e4]at aP;obtain⟨_,_,eg,_,_,bu⟩:=CF aP;cases eg
      obtain⟨bY,bZ,dr,dt,bz⟩:=bu.at_ (j:=mp) (u:=iY iZ (pp:Int)) (by
       show(qO (iE pre))[mp]? = _;rw[FY ω,J,gD,gR (by have:=hpl;rw[J]at this;simp at this;omega),show mp-η pr=0 by have:=hpl;rw[J]at this;simp at this;omega];rfl)
      subst dr
      have bA:pp<N:=by
       rw[W.o];exact(q.stk pp (q.sub pp (by rw[M.o,J];simp))).1
      have c2:=HP.cells.2.2.1;obtain⟨l1,l2,l3⟩:=uU HP.low Z;have e5:({s2 with way:=pre}:Sc).low.getD x 0=lx:=bV.o;rw[e5]at l1;have eH:IntKind.i64.wrap (mp:Int)=(mp:Int):=by rw[wI];omega
      have et:(0:Int)<=(mp:Int):=ω;have eu:(mp:Int)<(mp:Int)+1:=ω;have ev:(0:Int)<(mp:Int)+1:=ω;obtain⟨du,c4⟩:=iw (Sq bx XO base b bx (iX (jB ⟨eb,eo,jC⟩) N ce) N qn ql qx qi qp T (iX (jB ⟨bY,bZ,jC⟩) (mp+1) P) {s2 with way:=pre} w5.drew pp lx HP.drew d bA) J;clear dk J aP e4 bu dt hpl bA l2 l3 e5;go_wp2_with fail
      refine vP (S:=λw'=>q9 w' bx 0 (jH (jB ⟨b,0,jC⟩))/\q9 w' b 5 (iX (jB ⟨bY,bZ,jC⟩) (mp+1) P)/\q9 w' b 2 (iX (jB ⟨ql,0,jC⟩) N N)/\q9 w' ql x (iY iZ (lx:Int))/\q9 w' bY (bZ+mp) (iY iZ (pp:Int))) 20 κ (⟨d,c5,c2,l1,bz⟩) (λhS=>?_);refine tF 0 [] ?_;refine tF 1 [12,11,4,3,2] ?_;refine tF 2 [12,11,4,3] ?_;refine tF 3 [12,11,4] ?_;refine tF 4 [12,11] ?_;refine tF 5 [12,11,10,9,8,7,6] ?_;refine tF 6 [12,11,10,9,8,7] ?_;refine tF 7 [12,11,10,9,8] ?_;refine tF 8 [12,11,10,9] ?_;refine tF 9 [12,11,10] ?_;refine tF 10 [12,11] ?_;refine tF 11 [12] ?_;refine tF 12 [] ?_;refine tF 13 [19,18,16,15,14] ?_;refine tF 14 [19,18,16,15] ?_;refine tF 15 [19,18,16] ?_;refine tF 16 [19,18] ?_;refine tF 17 [19,18] ?_;refine tF 18 [19] ?_;refine tF 19 [] ?_;refine rM (i:=20) rfl κ κ (λK hK=>?_);go_simp;refine du.mono ?_;rintro e w7 ⟨⟨v7,rfl⟩,c9,dv⟩;go_wp2_with fail
      refine hK _ _ ?_;clear hK;refine tX κ ?_;have ca:=dh c9;have ew:w7.cell? ⟨bx,0,jC⟩=jB (jH (jB ⟨b,0,jC⟩)):=by have D:=c9;rw[H.o]at D;exact D.box
      have dx:=dh ((vM bW.o).trans dv);clear c9 dv d c5 c2 l1 bz hS HP bW du;rcases ad.o with⟨dy,eI,p',dz,dA,dB⟩|⟨aM,dC,a,bb,hs,av,af⟩
      ·have dD:pp=p':=by
        have h1:=jM List.getLast? (c4.symm.trans dz);rw[qo,qo]at h1;injection h1
       subst dD;have dE:pp<η s2.low:=by rw[q.ll];exact(q.stk pp (q.sub pp (by rw[M.o,c4.o];simp))).1
       have dF:(({s2 with way:=pre}:Sc).lower pp lx).low.getD x 0≠(({s2 with way:=pre}:Sc).lower pp lx).num.getD x 0:=by
        show(s2.low.set pp (min (s2.low.getD pp 0) lx)).getD x 0≠s2.num.getD x 0;rw[Gu dE,d9 dA];exact dy
       obtain⟨eh,aO⟩:=iw (bV.o▸dB) (bj _ _ _ w7 ca dF);clear dy dz dA dB dE dF aL bj ad;go_wp2_with fail
       refine aO.mono ?_;rintro e w8 ⟨⟨v8,rfl⟩,aQ,aR⟩;obtain⟨cb,cd⟩:=iw aQ (dx.trans aR);clear aQ aR;go_wp2_with fail
       go_roundg (go-1)
       case rel=>exact⟨_,_,_,cb.o,eh,ay,dh (by have:=R.o;have:=O.o;have:=L.o;show 2*BA E s2.uW+η pre<=_;omega),cd.o⟩
       case measure=>have:=R.o;have:=O.o;omega
      ·have aS:=(dC pr pp c4.o).2;rw[bV.o]at aS;have aT:=ca.o;rw[aS]at aT;obtain⟨aN,aO⟩:=iw af (aL _ _ _ w7 aT a bb aM hs av di dj.o);clear aM dC hs av af aS aT aL bj ad ca;go_wp2_with fail
       refine aO.mono ?_;rintro e w8 ⟨⟨v8,rfl⟩,⟨mm,eJ,ag,ah,aQ⟩,aR⟩;obtain⟨cb,ei,cd⟩:=iA aQ (aN mm ag ah) (dx.trans aR);clear ag ah aQ aR;go_wp2_with fail
       go_roundg (go-1)
       case rel=>exact⟨_,_,_,cb.o,ei,ay,dh (by have:=R.o;have:=O.o;have:=L.o;show 2*BA E s2.uW+η pre<=_;omega),cd.o⟩
       case measure=>have:=R.o;have:=O.o;omega
set_option maxHeartbeats 8000000
set_option maxRecDepth 100000
theorem y5 {q:Nat}{z:Value}(a:w.1[q]? =jB (jG (madeCells #[z] n) e))(hb:base<=q)(b:n<=maxLen):w.ownsRow base e 1 (iX (jB ⟨q,0,jC⟩) n n) n (ρ n z):=by
 have hm:(madeCells #[z] n).toList=ρ n z:=toList_madeCells_one _ _;have hs:(madeCells #[z] n).size=n:=by have:=jM List.length hm;simpa using this
 refine⟨ς,.inr ⟨q,n,_,rfl,hb,a,lR,b,by rw[hs,mU],?_⟩⟩;rw[tL (by rw[mI,hs];omega)];exact hm
def ajt (E:List (List Nd))(N:Nat)(w:jF)(e:Ending)(w':jF):Prop:=
 ∃of v,DV E of/\e=.returned v/\w'.ownsRow w.1.size 3 1 v N (qO (iE of))/\Below w.1.size w w'
theorem ahn (E vi vl ae N ce B w)(G:Gx w B 2 ae N ce (E.map qP))(hB:B<=w.1.size)(hE:∀r∈E,∀e∈r,sG (η E) e.op=jD)(hN:N<=1000000)(hr:∀r∈E,η r<=1000000):
  Calls jJ 165 #[.agg #[vi,iX ae N ce,vl]] w (ajt E N w):=by
 have af:N=η E:=by have:=G.len;simpa using this
 have H:=run_make_row' (P:=jJ) 29 3 (iY iZ 0) 8 Tryz.underlying29 Lh rfl iZ iZ N ω ω;have ag:=run_make_row' (P:=jJ) 64 4 (jI jE) 1 Tryz.underlying64 wN rfl iZ iZ N ω ω;obtain⟨w0,I⟩:=xQ (w.alloc (jG #[vi,iX ae N ce,vl] 63));have V:Below w.1.size w w0:=by rw[<-I];exact bR.alloc lR _
 have W:w0.1[w.1.size]? =jB (jG #[vi,iX ae N ce,vl] 63):=by rw[<-I];exact heap_alloc_new w _
 have ah:w0.1.size=w.1.size+1:=by rw[<-I];simp
 have J:w0.cell? ⟨w.1.size,1,jC⟩=jB (iX ae N ce):=cR W;obtain⟨aG,aH,HE,HR,X,aJ,Y⟩:=iD I (G.below V hB) hE hr af V W;have l:w.1.size<w0.1.size:=ω;have aY:=G.cap;have aj:=G.max;unfold maxLen at aj;obtain⟨gb,Z⟩:=xQ w.1.size;have aZ:=dh Z;rw[Z]at J l Y hB;have ak:=dh ah;clear I G hE hr af V W ah;go_enter Tryz.func165,Tryz.ntmps165;go_wp2_with fail
 rw[aG.o];clear Z;refine wp_region_held_drew (S:=λw'=>q9 w' gb 1 (iX ae N ce)) κ J (λhS=>?_);refine qU 0 ?_;refine qU 1 ?_;refine qU 2 ?_;refine qU 4 ?_;refine qU 6 ?_;refine qU 8 ?_;refine qU 10 ?_;refine Kz N 5 [⟨3,12,29,11,11,(jG (madeCells #[iY iZ 0] N) 3)⟩,⟨5,14,29,13,13,(jG (madeCells #[iY iZ 0] N) 3)⟩,⟨7,16,29,15,15,(jG (madeCells #[iY iZ 0] N) 3)⟩,⟨9,18,64,17,17,(jG (madeCells #[jI jE] N) 4)⟩,⟨11,20,29,19,19,(jG (madeCells #[iY iZ 0] N) 3)⟩] rfl 3 _ _ _ ς ς ?_ ?_ (ae3 κ) (λw' hb=>bC hb l J) ?_
 ·simp
 ·intro m hm;simp only[jk,kC,nA]at hm;rcases hm with rfl|rfl|rfl|rfl|rfl
  ·exact⟨⟨_,_,_,rfl⟩,rfl,rfl,H⟩
  ·exact⟨⟨_,_,_,rfl⟩,rfl,rfl,H⟩
  ·exact⟨⟨_,_,_,rfl⟩,rfl,rfl,H⟩
  ·exact⟨⟨_,_,_,rfl⟩,rfl,rfl,ag⟩
  ·exact⟨⟨_,_,_,rfl⟩,rfl,rfl,H⟩
 intro q w1 n hq ao;simp only[G6,xk,kE,l5,jZ,nO,Mk.val];obtain⟨z,h3⟩:=xQ (q 3);obtain⟨C,h5⟩:=xQ (q 5);obtain⟨D,h7⟩:=xQ (q 7);obtain⟨O,h9⟩:=xQ (q 9);obtain⟨a,Q⟩:=xQ (q 11);have a3:=hq ⟨3,12,29,11,11,(jG (madeCells #[iY iZ 0] N) 3)⟩ ς;have a5:=hq ⟨5,14,29,13,13,(jG (madeCells #[iY iZ 0] N) 3)⟩ ς;have a7:=hq ⟨7,16,29,15,15,(jG (madeCells #[iY iZ 0] N) 3)⟩ ς;have a9:=hq ⟨9,18,64,17,17,(jG (madeCells #[jI jE] N) 4)⟩ ς;have L:=hq ⟨11,20,29,19,19,(jG (madeCells #[iY iZ 0] N) 3)⟩ ς
 have aq:z≠C/\z≠D/\z≠a/\C≠D/\C≠a/\D≠a:=by
  have h:=λ(i j:Nat) (m m':Mk) hm aK (e1:m.i=i) (e2:m'.i=j) (aL:i≠j)=>e1▸e2▸ao m hm m' aK (by rw[e1,e2];exact aL)
  rw[<-h3,<-h5,<-h7,<-Q];refine⟨?_,?_,?_,?_,?_,?_⟩
  ·exact h 3 5 _ _ (ji ..) (jc _ (ji ..)) rfl rfl δ
  ·exact h 3 7 _ _ (ji ..) (jc _ (jc _ (ji ..))) rfl rfl δ
  ·exact h 3 11 _ _ (ji ..) (jc _ (jc _ (jc _ (jc _ (ji ..))))) rfl rfl δ
  ·exact h 5 7 _ _ (jc _ (ji ..)) (jc _ (jc _ (ji ..))) rfl rfl δ
  ·exact h 5 11 _ _ (jc _ (ji ..)) (jc _ (jc _ (jc _ (jc _ (ji ..))))) rfl rfl δ
  ·exact h 7 11 _ _ (jc _ (jc _ (ji ..))) (jc _ (jc _ (jc _ (jc _ (ji ..))))) rfl rfl δ
 dsimp only at a3 a5 a7 a9 L;rw[h3]at a3;rw[h5]at a5;rw[h7]at a7;rw[h9]at a9;rw[Q]at L;rw[h3,h5,h7,h9,Q];change w0.1.size<=z/\w1.1[z]? = _ at a3;change w0.1.size<=C/\w1.1[C]? = _ at a5;change w0.1.size<=D/\w1.1[D]? = _ at a7;change w0.1.size<=O/\w1.1[O]? = _ at a9;change w0.1.size<=a/\w1.1[a]? = _ at L;clear hq ao h3 h5 h7 h9 Q;have k:Below w0.1.size w0 w1:=⟨n.os,n.tape,n.output,n.size,n.block⟩;have ar:=k.size;have k1:=bC k l J;obtain⟨F,HD,au⟩:=iA (And.intro a3 (And.intro a5 (And.intro a7 (And.intro a9 L)))) aq k;clear a3 a5 a7 a9 L aq n k J H ag;refine Cz (i:=12) (v:=?_) rfl κ κ κ (λ_ _ _ h=>h) (Or.inl ⟨κ,?_⟩) k1 ?_;rotate_left 1
 ·(intro w' a1;(try dsimp only at a1);go_simp;try (with_reducible rfl))
 refine rR 13 (λK hK=>?_);go_simp;have M:Below w0.1.size w0 (w1.alloc (jG #[iX ae N ce,iX (jB ⟨z,0,jC⟩) N N,iX (jB ⟨C,0,jC⟩) N N,iX (jB ⟨D,0,jC⟩) N N,iX jC 0 0,iX jC 0 0,iX (jB ⟨O,0,jC⟩) N N,iX (jB ⟨a,0,jC⟩) N N,iY iZ 0] 241)):=au.alloc ar _;have R:=heap_alloc_new w1 (jG #[iX ae N ce,iX (jB ⟨z,0,jC⟩) N N,iX (jB ⟨C,0,jC⟩) N N,iX (jB ⟨D,0,jC⟩) N N,iX jC 0 0,iX jC 0 0,iX (jB ⟨O,0,jC⟩) N N,iX (jB ⟨a,0,jC⟩) N N,iY iZ 0] 241);have hO:∀{b:Nat} {o:Obj},w1.1[b]? =jB o->(w1.alloc (jG #[iX ae N ce,iX (jB ⟨z,0,jC⟩) N N,iX (jB ⟨C,0,jC⟩) N N,iX (jB ⟨D,0,jC⟩) N N,iX jC 0 0,iX jC 0 0,iX (jB ⟨O,0,jC⟩) N N,iX (jB ⟨a,0,jC⟩) N N,iY iZ 0] 241)).1[b]? =jB o:=λh=>tH (aI.1 h).1 h
 have b3:=hO F.1.2;have b5:=hO F.2.1.2;have b7:=hO F.2.2.1.2;have b9:=hO F.2.2.2.1.2;have a6:=hO F.2.2.2.2.2;obtain⟨w2,av⟩:=xQ (w1.alloc (jG #[iX ae N ce,iX (jB ⟨z,0,jC⟩) N N,iX (jB ⟨C,0,jC⟩) N N,iX (jB ⟨D,0,jC⟩) N N,iX jC 0 0,iX jC 0 0,iX (jB ⟨O,0,jC⟩) N N,iX (jB ⟨a,0,jC⟩) N N,iY iZ 0] 241));rw[av]at M R b3 b5 b7 b9 a6⊢;clear hO av;have aw:=ar;obtain⟨bs,ax⟩:=xQ w1.1.size;rw[ax]at R aw⊢;have k2:w2.cell? ⟨gb,1,jC⟩=jB (iX ae N ce):=(M.cell (p:=⟨gb,1,jC⟩) l).trans (cR Y.o);have u:N<=maxLen:=by unfold maxLen;omega
 have T:∀{b:Nat} {o:Obj},w2.1[b]? =jB o->b<w2.1.size:=λh=>(aI.1 h).1
 have c:qO (iE (ρ N 0))=ρ N (iY iZ 0):=by simp[qO,iE]
 have ay:yM gb (jG #[vi,iX ae N ce,vl] 63) w0.1.size bs (iX ae N ce) N z C D O a (iX jC 0 0) (iX jC 0 0) (Sc.start N) w2:=by
  have d:=HD.o;refine⟨R,by rw[show(Sc.start N).num=ρ N 0 from rfl,c];exact y5 b3 F.1.1 u,by rw[show(Sc.start N).low=ρ N 0 from rfl,c];exact y5 b5 F.2.1.1 u,by rw[show(Sc.start N).uW=ρ N 0 from rfl,c];exact y5 b7 F.2.2.1.1 u,by rw[show(Sc.start N).prt=ρ N 0 from rfl,c];exact y5 a6 F.2.2.2.2.1 u,?_,?_,?_,aw,d,λg e=>by simp[Value.ownBlock]at e,λg e=>by simp[Value.ownBlock]at e,(M.block gb l).trans Y.o,?_⟩
  ·have:=y5 b9 F.2.2.2.1.1 u;rw[show qV (Sc.start N).inn=ρ N (jI jE)from by simp[qV,Sc.start]];exact this
  ·simpa[qO,iE,Sc.start]using jF.ownsRow_nil w2 w0.1.size 3 1
  ·simpa[qO,iE,Sc.start]using jF.ownsRow_nil w2 w0.1.size 3 1
  ·have:=F.o;refine⟨ω,ω,ω,ω,ω,ω,by simp[Value.ownBlock],by simp[Value.ownBlock]⟩
 obtain⟨az,aA⟩:=iw ay M;clear ay M R b3 b5 b7 b9 a6 F HD au c u T k1;refine hK _ _ k2 (λhS=>?_);clear hK;refine Cz (i:=14) (v:=?_) rfl κ κ κ (λ_ _ _ h=>h) (Or.inl ⟨κ,?_⟩) k2 ?_;rotate_left 1
 ·(intro w' a1;(try dsimp only at a1);go_simp;try (with_reducible rfl))
 refine wpAnyH_done κ ?_ _;have aB:Hd (SI E (Sc.start N)):=dh (by rw[X.o];exact SI.start E);have aM:=X.symm;go_wp2_with fail
 clear k2 hS ax aM;go_loopw [26] (λv wr=>∃(i:Nat) (s:Sc) (vs vw:Value),i<=N/\v=iY iZ i/\Hd (SI E s)/\Hd (s.way=[])/\Hd (∀y,y<i->0<s.num.getD y 0)/\yM gb (jG #[vi,iX ae N ce,vl] 63) w0.1.size bs (iX ae N ce) N z C D O a vs vw s wr/\Below w0.1.size w0 wr) (λv _=>N-(intOf v).toNat)
 case atStart=>exact⟨0,_,_,_,ω,rfl,aB,dh rfl,dh (λy hy=>ω),az.o,aA.o⟩
 case round=>
  clear az aB aA;obtain⟨i,s,vs,vw,hi,rfl,HI,HW,HV,hM,hb⟩:=hrel;have c1:=hM.cells.2.1;have c7:=hM.cells.2.2.2.2.2.2.2.1;by_cases T:i<N
  ·have b4:(0:Int)<=(i:Int):=ω;have b6:(i:Int)<(N:Int):=ω;have wi:IntKind.i64.wrap ((i:Int)+1)=(i:Int)+1:=by rw[wI];omega
   obtain⟨n1,n2,n3⟩:=uU hM.num T;obtain⟨ny,a8⟩:=xQ (s.num.getD i 0);rw[a8]at n1;obtain⟨HM,HB,aC⟩:=iA hM hb a8;clear hM hb a8;by_cases hz:ny=0
   ·subst hz;have aN:=dh (adT gb _ E ae ce B w0.1.size bs N z C D O a vs vw s wr i (aH.below HB ω) ω HM l HI HW T aC HE hN HR.o);go_wp2_with fail
    refine aN.mono ?_;rintro e w5 ⟨⟨v5,rfl⟩,⟨s5,aO,aP,h1,h2,h3,h4,aD⟩,aE⟩;obtain⟨aQ,aR,aS,aT⟩:=iB aD (HB.trans aE) h1 h2
    have ad:Hd (∀y,y<i+1->0<s5.num.getD y 0):=dh (λy hy=>by
     by_cases e:y=i
     ·subst e;exact h4
     ·exact h3 y (HV y ω))
    clear aD aE h1 h2 h3 h4 c1 c7 n1 n2 n3;go_wp2_with fail
    exact⟨⟨i+1,s5,aO,aP,ω,jM (Value.int iZ) ω,aS,aT,ad,aQ.o,aR.o⟩,by simp[intOf];omega⟩
   ·have bc:((ny:Int)==0)=jE:=by simp;omega
    have ad:Hd (∀y,y<i+1->0<s.num.getD y 0):=dh (λy hy=>by
     by_cases e:y=i
     ·subst e;rw[aC.o];omega
     ·exact HV y ω)
    go_wp2_with fail
    exact⟨⟨i+1,s,vs,vw,ω,jM (Value.int iZ) ω,HI,HW,ad,HM.o,HB.o⟩,by simp[intOf];omega⟩
  ·have aU:i=N:=ω;subst aU;have U:=HI.all HW (λx hx=>HV x (by rw[X.o];exact hx));have aV:Hd (DV E s.prt):=dh ⟨HI.lp,U⟩;have aF:=rC hM.prt (show w.1.size<=w0.1.size by have:=ak.o;omega);have aW:=dh aF;have aX:=dh (aJ.trans (hb.mono (by have:=ak.o;omega)));clear hM hb U aF c1;go_wp2_with fail
   go_ret
   exact⟨s.prt,_,aV.o,rfl,aW.o,aX.o⟩
set_option maxHeartbeats 8000000
set_option maxRecDepth 100000
theorem Vy:uq jJ 213 29 1 24:=
 uq.mk (z:=iX jC 0 0) Tryz.underlying213 κ δ δ
theorem Own2.push {te tr:Nat}{L:List (List Value)}{ys:List Value}(h:Own2 w base te tr size v L vs)(f:te≠tr)(hu:w.ownsRow base te size u n ys)
  (t:∀(j:Nat) x g,vs[j]? =jB x->x.ownBlock=jB g->u.ownBlock≠jB g)(hm:w1.ownsRow base tr 1 v' (η L+1) (vs++[u]))(y:qW (λk=>v.ownBlock=jB k) (w.alloc o) w1):Own2 w1 base te tr size v' (L++[ys]) (vs++[u]):=by
 have l:=qW.trans ((qW.refl _ w).alloc o) y (λ_ _ e=>e);have d:∀{u} {n} {ys},w.ownsRow _ _ _ u n _->w1.ownsRow base _ size u n ys:=λr=>qR r l (λg m e=>own_ne r h.main f g m e)
 refine⟨γ,by simp[h.len],λj z c=>?_,λi j a b g p s hb m=>?_⟩
 ·by_cases hl:j<η L
  ·rw[gC hl]at c;obtain⟨u',n',A,B⟩:=h.row j _ c
   grind
  ·have q:j=η L:=by
    grind
   subst q;simp at c;subst c;exact⟨u,n,by rw[<-h.len,gR lR,mZ];rfl,d hu⟩
 ·by_cases hi:i<η vs
  ·rw[gC hi]at s;by_cases c:j<η vs
   ·rw[gC c]at hb;exact h.U0 i j a b g p s hb m
   ·grind
  ·grind
def uT (L:List (List Nat)):List (List Value):=L.map (λr=>qO (iE r))
def Tf (E:List (List Nd))(w:jF)(e:Ending)(w':jF):Prop:=
 ∃of v vs,DV E of/\e=.returned v/\Own2 w' w.1.size 3 29 1 v (uT (sO of)) vs/\Below w.1.size w w'
structure agC (w1:jF)(of:List Nat)(N k:Nat)(u:Value)(wr:jF)(place:List Nat)(vs:List Value):Prop where
 rows:Own2 wr (w1.1.size+1) 3 29 1 u (uT (wD of k)) vs
 pl:wr.ownsRow w1.1.size 3 1 (iX (jB ⟨w1.1.size,0,jC⟩) N N) N (qO (iE place))
 ok:Jk of place k
 xq:Below w1.1.size w1 wr
theorem agC.drew {place:List Nat}(h:agC w1 of N k u wr place vs):agC w1 of N k u wr.drew place vs:=
 ⟨h.rows.uQ (zq wr) (λ_ _ e=>e) (λ_ _ _ _ _ e=>e),qR h.pl (zq wr) (λ_ _ e=>e),h.ok,vM h.xq⟩
theorem acy (E vi vl ae N ce B w)(aH:Gx w B 2 ae N ce (E.map qP))(hB:B<=w.1.size)(hE:∀r∈E,∀e∈r,sG (η E) e.op=jD)(hN:N<=1000000)(hr:∀r∈E,η r<=1000000):
  Calls jJ 149 #[.agg #[vi,iX ae N ce,vl]] w (Tf E w):=by
 have bh:N=η E:=by have:=aH.len;simpa using this
 have bP:=run_make_row' (P:=jJ) 29 3 (iY iZ 0) 8 Tryz.underlying29 Lh rfl iZ iZ N ω ω;obtain⟨w0,a7⟩:=xQ (w.alloc (jG #[vi,iX ae N ce,vl] 63));have aJ:Below w.1.size w w0:=by rw[<-a7];exact bR.alloc lR _
 have az:w0.1[w.1.size]? =jB (jG #[vi,iX ae N ce,vl] 63):=by rw[<-a7];exact heap_alloc_new w _
 have bj:w0.1.size=w.1.size+1:=by rw[<-a7];simp
 have bQ:w0.cell? ⟨w.1.size,0,jC⟩=jB vi:=cR az;have aA:w0.cell? ⟨w.1.size,1,jC⟩=jB (iX ae N ce):=cR az;have bS:w0.cell? ⟨w.1.size,2,jC⟩=jB vl:=cR az;obtain⟨bT,bU,bV,aK,aL⟩:=iC (ahn E vi vl ae N ce B w0 (aH.below aJ hB) ω hE hN hr) a7 aJ bh bj;clear a7 aH hE hr bh aJ az bj;go_enter Tryz.func149,Tryz.ntmps149;go_wp2_with fail
 rw[bU.o];go_wp2_with fail
 refine bT.mono ?_;rintro e w1 ⟨of,v,bm,rfl,l,aM⟩;obtain⟨A1,c1,rfl,a8⟩:=qX l;have cg:=a8.cap;have bn:=a8.max;unfold maxLen at bn;have bp:η of=N:=by have:=a8.len;rw[xY,Ah]at this;omega
 obtain⟨bW,aB,bq,aN⟩:=iB a8 bm bp aM;clear bm l a8 bp aM bQ aA bS;go_wp2_with fail
 clear bP
 have aO:agC w1 of N 0 (iX jC 0 0) (w1.alloc (jG (madeCells #[iY iZ 0] N) 3)) (ρ N 0) []:=by
  refine⟨?_,?_,λj m hj=>by simp[DZ]at hj,bR.alloc lR _⟩
  ·have:uT (wD of 0)=[]:=rfl;rw[this];exact Own2.nil _ _ _ _ _
  ·have:=y5 (base:=w1.1.size) (heap_alloc_new w1 (jG (madeCells #[iY iZ 0] N) 3)) lR (by unfold maxLen;omega);simpa[qO,iE]using this
 obtain⟨w2,br⟩:=xQ (w1.alloc (jG (madeCells #[iY iZ 0] N) 3));rw[br]at aO⊢;have bu:=dh aO;clear aO br;obtain⟨qp,aP⟩:=xQ w1.1.size;have x:=dh aP;rw[aP];clear aP;go_loopw [5,15] (λu v wr=>∃(k:Nat) (place:List Nat) (vs:List Value),k<=N/\v=iY iZ k/\agC w1 of N k u wr place vs) (λ_ v _=>N-(intOf v).toNat)
 case atStart=>exact⟨0,_,_,ω,rfl,bu.o⟩
 case round=>
  clear bu;obtain⟨k,place,vs,hk,rfl,hP⟩:=hrel;by_cases y:k<N
  ·have cj:(0:Int)<=(k:Int):=ω;have ck:(k:Int)<(N:Int):=ω;have wk:IntKind.i64.wrap ((k:Int)+1)=(k:Int)+1:=by rw[wI];omega
   obtain⟨b1,o1,bX,aM,aA⟩:=(bW.rd.below hP.xq lR).at_ (FY (by rw[bq.o];exact y));subst bX;obtain⟨p,hp⟩:=xQ (of.getD k 0);rw[hp]at aA;have cm:p<=k:=by rw[<-hp];exact aB.le (by rw[<-aK.o];exact y)
   have hpl:=ahe hP.pl;obtain⟨AU,cu,hu,aQ⟩:=hP.rows.sl2;have aR:η (uT (wD of k))=η (DZ of k):=by simp[uT,wD]
   rw[aR]at hu;subst hu;have bY:=aeB of k;obtain⟨b,aC⟩:=xQ (η (DZ of k));rw[aC]at bY hP⊢;have bZ:=aQ.cap;have c0:=aQ.max;unfold maxLen at c0;rw[aR,aC]at bZ;obtain⟨ad,Y,aD,aS⟩:=iB hp hP aC hpl;clear hP hp aQ aR aC hpl;have bw:η (uT (wD of k))=b:=by simp[uT,wD,aD.o]
   have Z:=dh bw;clear bw;by_cases bz:p=k
   ·subst bz;obtain⟨q1,q2,q3⟩:=uU Y.pl y;obtain⟨ov,bA⟩:=xQ (place.getD p 0);rw[bA,x.o]at q1;rw[x.o]at q2 q3
    have aT:Own2 (wr.setCell ⟨qp,p,jC⟩ (iY iZ (b:Int))) (w1.1.size+1) 3 29 1 (iX AU b cu) (uT (wD of p)) vs:=
     Y.rows.uQ (sD qp p _) (λg F e=>by have:=(Y.rows.main.lt g F).1;have:=x.o;omega) (λj u g hu F e=>by have:=(Y.rows.Dk hu g F).1;have:=x.o;omega)
    have aF:(wr.setCell ⟨qp,p,_⟩ (.int _ b)).ownsRow w1.1.size 3 1 _ N (qO (iE (place.set p _))):=G8 (x.o▸Y.pl);have bB:Below _ _ (wr.setCell _ (iY iZ b)):=Y.xq.setCell (p:=⟨_,p,jC⟩) (by have:=x.o;show w1.1.size<=qp;omega) _
    have aG:=by
     have:=VZ Y.ok (by rwa [aS.o]) ad.o;rwa [aD.o]at this
    have aU:=aT.main;rw[Z.o]at aU;obtain⟨bE,bF,aV,c4,bG⟩:=iC aT aF bB aG aU;clear aT aF bB aG aU bA;go_wp2_with (at_builtin;refine rD rfl (.tmp 28) (.tmp 29) 213 rfl (w1.1.size+1) 29 1 24 Vy _ b _ (bG.alloc _) rfl wr.1.size #[iX jC 0 0] rfl (by have:=heap_alloc_new (wr.setCell ⟨qp,p,jC⟩ (iY iZ (b:Int))) (jG #[iX jC 0 0] 29);simpa[jF.setCell]using this) rfl (by simp[Value.oneCell']) ω ω (by have:=aV.size;have:=(bF.lt qp rfl).2;have:=x.o;simp only[jF.size_alloc];omega) ?_;intro v9 w9 af aW bH _;obtain⟨n,cU,rfl⟩:=ownsRow_succ af)
    have aX:=λg e=>(bG.lt g e).1
    have q:=bE.push (o:=jG _ 29) δ (jF.ownsRow_nil _ _ _ _) (λ_ _ _ _ _ e=>by simp[Value.ownBlock]at e) (by rwa [Z.o]) aW;have ag:=qW.trans ((qW.refl _ _).alloc _) aW (λ_ _ e=>e);have aE:=qR bF ag (λg F e=>by simp[Value.ownBlock]at F;have:=aX g e;have:=x.o;omega);have aY:=aV.trans (ag.below aV.size (λk hk e=>by have:=aX k e;omega));have bI:η vs=b:=by rw[bE.len,Z.o]
    let⟨wX,L⟩:=xQ w9
    rw[L]at q aE aY⊢
    have cq:wX.cell? ⟨qp,p,jC⟩=jB (iY iZ b):=by
     rw[(uU (x.o▸aE) y).1,Gu (by rwa [aS.o]),jd rfl]
    have M:(vs++[Value.slice jC 0 0])[b]? =jB (Value.slice jC 0 0):=by rw[gR ω,bI,mZ];rfl
    have a1:=q.cell M;have a6:(place.set p b).getD p 0=b:=by rw[Gu (by rwa [aS.o]),jd rfl]
    have ah:(uT (wD of p)++[[]]).set b ([]++[Value.int iZ p])=uT (wD of (p+1)):=by
     rw[YU aB (by rwa [<-aK.o]) ad.o,aD.o];simp[uT,qO,iE]
    have bJ:η (uT (wD of p)++[[]])=b+1:=by rw[lA,Z.o];rfl
    have aj:=dh q;have ak:Hd (wX.ownsRow w1.1.size 3 1 (iX (jB ⟨qp,0,jC⟩) N N) N (qO (iE (place.set p b)))):=dh (x.o▸aE);have ao:=dh aY;have aZ:=c4;have aq:=dh M;have ar:Hd (wX.ownsRow (w1.1.size+1) 3 1 _ 0 _):=dh (jF.ownsRow_nil _ _ _ _);obtain⟨b4,b5,G⟩:=iA ah a6 bJ;clear q aE aY M a6 ah bJ aW ag bH af aX bI L q1 q2 q3;have c5:0<=(b:Int):=ω;have c9:b<(b:Int)+1:=ω;go_wp2
    refine vP (S:=λw'=>q9 w' _ p _/\q9 w' _ _ _) 16 rfl ⟨cq,a1⟩ (λhS=>?_);have O:=aj.uQ (zq _) (λ_ _ e=>e) (λ_ _ _ _ _ e=>e);have Q:=qR ak (zq _) (λ_ _ e=>e);have R:=vM ao.o;have T:=qR ar (zq _) (λ_ _ e=>e);let⟨wE,au⟩:=xQ wX.drew
    rw[au]at O Q R T hS⊢;obtain⟨c,z,C,D⟩:=iB O Q R T;clear O Q R T au cq a1 aj ak ao ar;apply tF 0 [];apply tF 1 [];apply tF 2 [];apply tF 3 [];apply tF 4 [];apply tF 5 [];apply tF 6 [];apply tF 7 [];apply tF 8 [];apply tF 9 [];apply tF 10 [];apply tF 11 [];apply tF 12 [];refine rZ (i:=13) rfl κ (λK H=>?_);go_simp;have tb:=heap_alloc_new wE (jG #[iY iZ p] 3);have tw:=yF (o:=(jG #[iY iZ p] 3)) D.o;have tq:=(jF.cell?_alloc_lt _ (jG #[iY iZ p] 3) _ (z.lt qp rfl).2).trans hS.1;have tu:=(jF.cell?_alloc_lt _ (jG #[iY iZ p] 3) _ (c.main.lt n rfl).2).trans hS.2;let⟨wY,U⟩:=xQ (wE.alloc (jG #[iY iZ p] 3))
    rw[U]at tb tw tq tu⊢;have V:=dh U;clear U;refine H _ _ ⟨tq,tu⟩ (λhS=>?_);clear H;refine rZ (i:=14) rfl κ (λK H=>?_);apply su rfl _ _ _ rfl _ 3 1 8 rW _ _ _ tw rfl _ _ rfl tb rfl (by simp[Value.oneCell']) ω ω (by rw[<-V.o];have:=C.size;have:=(z.lt qp rfl).2;have:=x.o;simp only[jF.size_alloc];omega) ?_;intro uZ wZ a av I _;obtain⟨gZ,cZ,rfl⟩:=ownsRow_succ a;have s:=qW.trans (by rw[<-V.o];exact(qW.refl _ wE).alloc _) av (λ_ _ h=>h);have W:=qR z s (λg F e=>by simp[Value.ownBlock]at F;have:=(D.lt g e).1;have:=x.o;omega);have d:=qR c.main s (λg F e=>own_ne D c.main δ g e F);have kq:=(uU W y).1;rw[b5.o]at kq;have kU:wZ.cell? ⟨n,b,jC⟩=jB (iX jC 0 0):=by rw[G.o]at d;rw[d.cellAt b ω];exact aq.o
    have fU:wZ.frozen? ⟨n,b,jC⟩=jE:=by rw[G.o]at d;exact d.frozenAt b
    have zU:=(d.lt n rfl).2;have J:=(c.put δ aq (by have:=C.size;have:=(z.lt qp rfl).2;have:=x.o;omega) a s (λg e=>by rcases I with h'|h';exact .inl (h'▸e);(rw[h']at e;cases e;exact .inr (by rw[<-V.o];simp)))).1;have aw:=qR W (sD (w:=wZ) n b (iX (jB ⟨gZ,0,jC⟩) (0+1) cZ)) (λg F e=>by simp[Value.ownBlock]at F;have:=(c.main.lt n rfl).1;have:=x.o;omega);have ax:Below w1.1.size w1 (wZ.setCell ⟨n,b,jC⟩ (iX (jB ⟨gZ,0,jC⟩) (0+1) cZ)):=(C.trans (s.below C.size (λk hk e=>by have:=(D.lt k e).1;omega))).setCell (p:=⟨n,b,jC⟩) (by have:=(c.main.lt n rfl).1;show w1.1.size<=n;omega) _;obtain⟨ay,b6,b9⟩:=iA J aw ax;clear J aw ax a av I s W d tb tw tq tu;refine H _ _ ⟨kq,kU⟩ (λhS=>?_);clear H;refine tF 15 [] ?_;refine rM (i:=16) rfl κ κ (λK H=>?_);go_simp;refine H _ _ ?_;clear H;refine tX κ ?_;clear kq kU fU zU hS;have hR:=ay.o;change Own2 _ _ _ _ _ _ (List.set _ _ (_++[_])) _ at hR;rw[b4.o]at hR;have bc:=dh hR;clear hR;go_wp2_with fail
    exact⟨⟨p+1,place.set p b,_,ω,jM (Value.int iZ) ω,⟨bc.o,by have h9:=b6.o;rw[x.o]at h9⊢;exact h9,aZ.o,b9.o⟩⟩,by simp[intOf];omega⟩
   ·have bK:k<η E:=by rw[<-aK.o];exact y
    obtain⟨j,hj,bd⟩:=YT aB bK (by rw[ad.o];exact bz);rw[ad.o]at hj bd;have cp:j<b:=by have:=(gB.1 hj).1;rw[aD.o]at this;exact this
    have a6:=Y.ok j p hj;have bL:p<N:=ω;have q:=Y.rows;have X:=q.main;rw[Z.o]at X;obtain⟨nq,rfl⟩:∃t,b=t+1:=⟨b-1,ω⟩;obtain⟨n,ct,ca⟩:=ownsRow_succ X;cases ca
    have bM:(uT (wD of k))[j]? =jB (qO (iE (JQ of k p))):=by
     unfold uT;rw[kR,acz hj];rfl
    obtain⟨uj,nj,M,l⟩:=q.row j _ bM;obtain⟨Ar,cr,rfl,bN⟩:=qX l;have cb:η (JQ of k p)=nj:=by have:=bN.len;rw[xY,Ah]at this;omega
    have cv:nj<=1000000:=by have:=aey of k p;omega
    have cq:wr.cell? ⟨qp,p,jC⟩=jB (iY iZ (j:Int)):=by
     rw[(uU (x.o▸Y.pl) bL).1,a6]
    have a1:=q.cell M
    have ah:(uT (wD of k)).set j (qO (iE (JQ of k p))++[Value.int iZ (k:Int)])=uT (wD of (k+1)):=by
     rw[bd];simp[uT,qO,iE]
    have cw:(p==(k:Int))=jE:=by simp;omega
    have cx:0<=(p:Int):=ω;have cy:p<(N:Int):=ω;have c5:0<=(j:Int):=ω;have c9:j<(nq:Int)+1:=ω;let⟨wX,L⟩:=xQ wr
    rw[L]at q l cq a1 aA⊢;have aj:=dh q;have ak:Hd (wX.ownsRow _ 3 1 (iX (jB ⟨qp,0,_⟩) N N) N _):=dh (by rw[<-L,<-x.o];exact Y.pl);have ao:Hd (Below _ _ wX):=dh (by rw[<-L];exact Y.xq);obtain⟨aZ,aq,ar,b4,b5⟩:=iC (VY Y.ok (show of.getD k 0≠k by rwa [ad.o])) M l ah a6;have G:=Z;clear q l M a6 ah X bM bN cb hj bd bK L;have ch:=y;replace y:=bL;go_wp2
    refine vP (S:=λw'=>q9 w' _ p (iY iZ (j:Int))/\q9 w' n j (iX Ar nj cr)) 16 κ ⟨cq,a1⟩ (λhS=>?_);have O:=aj.uQ (zq wX) (λ_ _ e=>e) (λ_ _ _ _ _ e=>e);have Q:=qR ak (zq wX) (λ_ _ e=>e);have R:=vM ao.o;have T:=qR ar (zq wX) (λ_ _ e=>e);obtain⟨wE,au⟩:=xQ wX.drew;rw[au]at O Q R T hS⊢;obtain⟨c,z,C,D⟩:=iB O Q R T;clear O Q R T au cq a1 aj ak ao ar;refine tF 0 [] ?_;refine tF 1 [] ?_;refine tF 2 [] ?_;refine tF 3 [] ?_;refine tF 4 [] ?_;refine tF 5 [] ?_;refine tF 6 [] ?_;refine tF 7 [] ?_;refine tF 8 [] ?_;refine tF 9 [] ?_;refine tF 10 [] ?_;refine tF 11 [] ?_;refine tF 12 [] ?_;refine rZ (i:=13) rfl κ (λK H=>?_);go_simp;have tb:=heap_alloc_new wE (jG #[iY iZ (k:Int)] 3);have tw:=yF (o:=(jG #[iY iZ (k:Int)] 3)) D.o;have tq:=(jF.cell?_alloc_lt wE (jG #[iY iZ (k:Int)] 3) ⟨qp,p,jC⟩ (z.lt qp rfl).2).trans hS.1;have tu:=(jF.cell?_alloc_lt wE (jG #[iY iZ (k:Int)] 3) ⟨n,j,jC⟩ (c.main.lt n rfl).2).trans hS.2;obtain⟨wY,U⟩:=xQ (wE.alloc (jG #[iY iZ (k:Int)] 3));rw[U]at tb tw tq tu⊢;have V:=dh U;clear U;refine H _ _ ⟨tq,tu⟩ (λhS=>?_);clear H;refine rZ (i:=14) rfl κ (λK H=>?_);refine su rfl (.tmp 42) (.tmp 44) 29 rfl (w1.1.size+1) 3 1 8 rW _ _ _ tw rfl wE.1.size #[iY iZ (k:Int)] rfl tb rfl (by simp[Value.oneCell']) ω ω (by rw[<-V.o];have:=C.size;have:=(z.lt qp rfl).2;have:=x.o;simp only[jF.size_alloc];omega) ?_;intro uZ wZ a av I _;obtain⟨gZ,cZ,rfl⟩:=ownsRow_succ a;have s:=qW.trans (by rw[<-V.o];exact(qW.refl _ wE).alloc _) av (λ_ _ h=>h);have W:=qR z s (λg F e=>by simp[Value.ownBlock]at F;have:=(D.lt g e).1;have:=x.o;omega);have d:=qR c.main s (λg F e=>own_ne D c.main δ g e F);have kq:=(uU W y).1;rw[b5.o]at kq;have kU:wZ.cell? ⟨n,j,jC⟩=jB (iX Ar nj cr):=by rw[G.o]at d;rw[d.cellAt j ω];exact aq.o
    have fU:wZ.frozen? ⟨n,j,jC⟩=jE:=by rw[G.o]at d;exact d.frozenAt j
    have zU:=(d.lt n rfl).2;have J:=(c.put δ aq (by have:=C.size;have:=(z.lt qp rfl).2;have:=x.o;omega) a s (λg e=>by rcases I with h'|h';exact .inl (h'▸e);(rw[h']at e;cases e;exact .inr (by rw[<-V.o];simp)))).1;have aw:=qR W (sD (w:=wZ) n j (iX (jB ⟨gZ,0,jC⟩) (nj+1) cZ)) (λg F e=>by simp[Value.ownBlock]at F;have:=(c.main.lt n rfl).1;have:=x.o;omega);have ax:Below w1.1.size w1 (wZ.setCell ⟨n,j,jC⟩ (iX (jB ⟨gZ,0,jC⟩) (nj+1) cZ)):=(C.trans (s.below C.size (λk hk e=>by have:=(D.lt k e).1;omega))).setCell (p:=⟨n,j,jC⟩) (by have:=(c.main.lt n rfl).1;show w1.1.size<=n;omega) _;obtain⟨ay,b6,b9⟩:=iA J aw ax;clear J aw ax a av I s W d tb tw tq tu;refine H _ _ ⟨kq,kU⟩ (λhS=>?_);clear H;refine tF 15 [] ?_;refine rM (i:=16) rfl κ κ (λK H=>?_);go_simp;apply H.out;clear H;apply tX rfl;clear kq kU fU zU hS;have hR:=ay.o;change Own2 _ _ _ _ _ _ (List.set _ _ (_++[_])) _ at hR;rw[b4.o]at hR;have bc:=dh hR;clear hR;go_wp2
    exact⟨⟨_,_,_,ω,jM _ ω,⟨bc.o,by have h9:=b6.o;rwa [x.o]at h9⊢,aZ.o,b9.o⟩⟩,by simp[intOf];omega⟩
  ·have cd:k=N:=ω;subst cd
   have bO:Tf E w (.returned u5) wr:=by
    refine⟨_,_,vs,aB.o,rfl,?_,(bV.trans (aN.mono (by have:=aL.o;omega))).trans (hP.xq.mono (by have:=aN.size;have:=aL.o;omega))⟩;have:=hP.rows.PK (show w.1.size<=w1.1.size+1 by have:=aN.size;have:=aL.o;omega);rwa [<-bq.o,YV]at this
   have HF:=dh bO;go_wp2
   go_ret
   exact HF.o
def um (l:List Nat):List Value:=l.map (λ(x:Nat)=>iY jA (x:Int))
theorem M5 (l):η (um l)=η l:=by simp[um]
theorem M6 (l m):um (l++m)=um l++um m:=by simp[um]
structure Ko (base pb:Nat)(vi:Value)(I:List Int)(ve:Value)(E:List (List Nd))(vs:List Value)(vl:Value)(L:List Nat)(vn:Value)(ins:List Nat)(all:Nat)(w:jF):Prop where
 blk:w.1[pb]? =jB (jG #[vi,ve,vl,vn,iY jA (all:Int)] 128 (0,0))
 init:w.ownsRow base 3 1 vi (η I) (qO I)
 edges:Own2 w base 61 59 2 ve (E.map qP) vs
 labels:w.ownsRow base 45 1 vl (η L) (um L)
 ins:w.ownsRow base 45 1 vn (η ins) (um ins)
 U0:∀g,vl.ownBlock=jB g->vn.ownBlock≠jB g
 bb:base<=pb
section
variable {base pb:Nat}{vi:Value}{I:List Int}{ve:Value}{E:List (List Nd)}{vs:List Value}{vl:Value}{L:List Nat}{vn:Value}{ins:List Nat}{all:Nat}{w w1:jF}{o:Obj}
theorem Ko.lt (h:Ko base pb vi I ve E vs vl L vn ins all w):pb<w.1.size:=(aI.1 h.blk).1
theorem Ko.cells (h:Ko base pb vi I ve E vs vl L vn ins all w):w.cell? ⟨pb,0,jC⟩=jB vi/\w.cell? ⟨pb,1,jC⟩=jB ve/\w.cell? ⟨pb,2,jC⟩=jB vl/\w.cell? ⟨pb,3,jC⟩=jB vn/\w.cell? ⟨pb,4,jC⟩=jB (iY jA (all:Int)):=by
 refine⟨?_,?_,?_,?_,?_⟩<;>(rw[cell_of_row _ _ _ _ _ (0,0) h.blk];rfl)
theorem Ko.below (h:Ko base pb vi I ve E vs vl L vn ins all w)(hb:Below w.1.size w w1):Ko base pb vi I ve E vs vl L vn ins all w1:=
 ⟨(hb.block pb h.lt).trans h.blk,own_below h.init hb,h.edges.below hb,own_below h.labels hb,own_below h.ins hb,h.U0,h.bb⟩
theorem Ko.far (h:Ko base pb vi I ve E vs vl L vn ins all w)(k v):(w.setCell ⟨pb,k,jC⟩ v).ownsRow base 3 1 vi (η I) (qO I)/\Own2 (w.setCell ⟨pb,k,jC⟩ v) base 61 59 2 ve (E.map qP) vs/\
  (w.setCell ⟨pb,k,jC⟩ v).ownsRow base 45 1 vl (η L) (um L)/\(w.setCell ⟨pb,k,jC⟩ v).ownsRow base 45 1 vn (η ins) (um ins):=by
 have c:=sD (w:=w) pb k v;refine⟨qR h.init c (λg a e=>qQ h.init h.blk δ (by rw[a,e])),h.edges.uQ c (λg a e=>qQ h.edges.main h.blk δ (by rw[a,e])) (λj u g hu a e=>?_),qR h.labels c (λg a e=>qQ h.labels h.blk δ (by rw[a,e])),qR h.ins c (λg a e=>qQ h.ins h.blk δ (by rw[a,e]))⟩;have d:j<η (E.map qP):=by rw[<-h.edges.len];exact(gB.1 hu).1
 obtain⟨u',n,b,f⟩:=h.edges.row j _ (gE d);rw[hu]at b;cases b;exact qQ f h.blk δ (by rw[a,e])
theorem Ko.TV (h:Ko base pb vi I ve E vs vl L vn ins all w){b':Nat}(hv:w.ownsRow b' e size v n xs)(b:e≠61):∀(j:Nat) u g,vs[j]? =jB u->u.ownBlock=jB g->v.ownBlock≠jB g:=by
 intro j u g hu c e2;have d:j<η (E.map qP):=by rw[<-h.edges.len];exact(gB.1 hu).1
 obtain⟨u',n',a,f⟩:=h.edges.row j _ (gE d);rw[hu]at a;cases a;exact own_ne f hv (λh=>b h.symm) g c e2
theorem Ko.agp (h:Ko base pb vi I ve E vs vl L vn ins all w){x:Int}(l:w1.ownsRow base 3 1 v' (η I+1) (qO I++[iY iZ x]))(q:qW (λk=>vi.ownBlock=jB k) (w.alloc o) w1)(_hat:v'.ownBlock=vi.ownBlock\/v'.ownBlock=jB (w.alloc o).1.size):
  w1.cell? ⟨pb,0,jC⟩=jB vi/\w1.frozen? ⟨pb,0,jC⟩=jE/\pb<w1.1.size/\Ko base pb v' (I++[x]) ve E vs vl L vn ins all (w1.setCell ⟨pb,0,jC⟩ v'):=by
 have d:=qW.trans ((qW.refl _ w).alloc o) q (λ_ _ e=>e);have a:w1.1[pb]? = _:=d.blk h.blk (λe=>qQ h.init h.blk δ e);have c:∀{e:TypeId} {size n:Nat} {v:Value} {xs:List Value} {b':Nat},w1.ownsRow b' e size v n xs->e≠128->(w1.setCell ⟨pb,0,jC⟩ v').ownsRow b' e size v n xs:=λf p=>qR f (sD (w:=w1) pb 0 v') (λg b e=>qQ f a p (by rw[b,e]))
 have i:Own2 w1 base 61 59 2 ve (E.map qP) vs->Own2 (w1.setCell ⟨pb,0,jC⟩ v') base 61 59 2 ve (E.map qP) vs:=λf=>f.uQ (sD (w:=w1) pb 0 v') (λg b e=>qQ f.main a δ (by rw[b,e])) (λj u g hu b e=>by
  have r:j<η (E.map qP):=by rw[<-f.len];exact(gB.1 hu).1
  obtain⟨u',n,m,s⟩:=f.row j _ (gE r);rw[hu]at m;cases m;exact qQ s a δ (by rw[b,e]))
 refine⟨cR a,frozen_of_row w1 pb 0 _ _ a,(aI.1 a).1,?_,c (show w1.ownsRow base 3 1 v' (η (I++[x])) (qO (I++[x])) by rw[lA,sJ];exact l) δ,i (h.edges.uQ d (λg b e=>own_ne h.edges.main h.init δ g b e) (λj u g hu b e=>h.TV h.init δ j u g hu b e)),c (qR h.labels d (λg b e=>own_ne h.labels h.init δ g b e)) δ,c (qR h.ins d (λg b e=>own_ne h.ins h.init δ g b e)) δ,h.U0,h.bb⟩;rw[heap_setCell_same w1 pb 0 _ _ v' a];rfl
theorem Ko.Z7 (h:Ko base pb vi I ve E vs vl L vn ins all w)(l:w1.ownsRow base 45 1 v' (η L+1) (um L++[iY jA (x:Int)]))(y:qW (λk=>vl.ownBlock=jB k) (w.alloc o) w1)(q:v'.ownBlock=vl.ownBlock\/v'.ownBlock=jB (w.alloc o).1.size):
  w1.cell? ⟨pb,2,jC⟩=jB vl/\w1.frozen? ⟨pb,2,jC⟩=jE/\pb<w1.1.size/\Ko base pb vi I ve E vs v' (L++[x]) vn ins all (w1.setCell ⟨pb,2,jC⟩ v'):=by
 have d:=qW.trans ((qW.refl _ w).alloc o) y (λ_ _ e=>e);have a:w1.1[pb]? = _:=d.blk h.blk (λe=>qQ h.labels h.blk δ e)
 have m:∀g,v'.ownBlock=jB g->vl.ownBlock=jB g\/w.1.size<=g:=λg b=>by
  rcases q with e|e
  ·exact .inl (e▸b)
  ·rw[e]at b;cases b;exact .inr ς
 have c:∀{e:TypeId} {size n:Nat} {v:Value} {xs:List Value} {b':Nat},w1.ownsRow b' e size v n xs->e≠128->(w1.setCell ⟨pb,2,jC⟩ v').ownsRow b' e size v n xs:=λf r=>qR f (sD (w:=w1) pb 2 v') (λg b e=>qQ f a r (by rw[b,e]))
 have i:Own2 w1 base 61 59 2 ve (E.map qP) vs->Own2 (w1.setCell ⟨pb,2,jC⟩ v') base 61 59 2 ve (E.map qP) vs:=λf=>f.uQ (sD (w:=w1) pb 2 v') (λg b e=>qQ f.main a δ (by rw[b,e])) (λj u g hu b e=>by
  have z:j<η (E.map qP):=by rw[<-f.len];exact(gB.1 hu).1
  obtain⟨u',n,p,A⟩:=f.row j _ (gE z);rw[hu]at p;cases p;exact qQ A a δ (by rw[b,e]))
 refine⟨cR a,frozen_of_row w1 pb 2 _ _ a,(aI.1 a).1,?_,c (qR h.init d (λg b e=>own_ne h.init h.labels δ g b e)) δ,i (h.edges.uQ d (λg b e=>own_ne h.edges.main h.labels δ g b e) (λj u g hu b e=>h.TV h.labels δ j u g hu b e)),c (show w1.ownsRow base 45 1 v' (η (L++[x])) (um (L++[x])) by rw[lA,M6];exact l) δ,c (qR h.ins d (λg b e=>h.U0 g e b)) δ,λg b e=>by rcases m g b with s|s;exact h.U0 g s e;(have:=(h.ins.lt g e).2;omega),h.bb⟩;rw[heap_setCell_same w1 pb 2 _ _ v' a];rfl
theorem Ko.aib (h:Ko base pb vi I ve E vs vl L vn ins all w)(l:w1.ownsRow base 45 1 v' (η ins+1) (um ins++[iY jA (x:Int)]))(y:qW (λk=>vn.ownBlock=jB k) (w.alloc o) w1)(q:v'.ownBlock=vn.ownBlock\/v'.ownBlock=jB (w.alloc o).1.size):
  w1.cell? ⟨pb,3,jC⟩=jB vn/\w1.frozen? ⟨pb,3,jC⟩=jE/\pb<w1.1.size/\Ko base pb vi I ve E vs vl L v' (ins++[x]) all (w1.setCell ⟨pb,3,jC⟩ v'):=by
 have d:=qW.trans ((qW.refl _ w).alloc o) y (λ_ _ e=>e);have a:w1.1[pb]? = _:=d.blk h.blk (λe=>qQ h.ins h.blk δ e)
 have m:∀g,v'.ownBlock=jB g->vn.ownBlock=jB g\/w.1.size<=g:=λg b=>by
  rcases q with e|e
  ·exact .inl (e▸b)
  ·rw[e]at b;cases b;exact .inr ς
 have c:∀{e:TypeId} {size n:Nat} {v:Value} {xs:List Value} {b':Nat},w1.ownsRow b' e size v n xs->e≠128->(w1.setCell ⟨pb,3,jC⟩ v').ownsRow b' e size v n xs:=λf r=>qR f (sD (w:=w1) pb 3 v') (λg b e=>qQ f a r (by rw[b,e]))
 have i:Own2 w1 base 61 59 2 ve (E.map qP) vs->Own2 (w1.setCell ⟨pb,3,jC⟩ v') base 61 59 2 ve (E.map qP) vs:=λf=>f.uQ (sD (w:=w1) pb 3 v') (λg b e=>qQ f.main a δ (by rw[b,e])) (λj u g hu b e=>by
  have z:j<η (E.map qP):=by rw[<-f.len];exact(gB.1 hu).1
  obtain⟨u',n,p,A⟩:=f.row j _ (gE z);rw[hu]at p;cases p;exact qQ A a δ (by rw[b,e]))
 refine⟨cR a,frozen_of_row w1 pb 3 _ _ a,(aI.1 a).1,?_,c (qR h.init d (λg b e=>own_ne h.init h.ins δ g b e)) δ,i (h.edges.uQ d (λg b e=>own_ne h.edges.main h.ins δ g b e) (λj u g hu b e=>h.TV h.ins δ j u g hu b e)),c (qR h.labels d (λg b e=>h.U0 g b e)) δ,c (show w1.ownsRow base 45 1 v' (η (ins++[x])) (um (ins++[x])) by rw[lA,M6];exact l) δ,λg b e=>by rcases m g e with s|s;exact h.U0 g b s;(have:=(h.labels.lt g b).2;omega),h.bb⟩;rw[heap_setCell_same w1 pb 3 _ _ v' a];rfl
theorem Ko.adB (h:Ko base pb vi I ve E vs vl L vn ins all w){ys:List Nd}(hu:w.ownsRow base 61 2 u n (qP ys))(p:∀(j:Nat) y g,vs[j]? =jB y->y.ownBlock=jB g->u.ownBlock≠jB g)(l:w1.ownsRow base 59 1 v' (η (E.map qP)+1) (vs++[u]))(r:qW (λk=>ve.ownBlock=jB k) (w.alloc o) w1)(_hat:v'.ownBlock=ve.ownBlock\/v'.ownBlock=jB (w.alloc o).1.size):
  w1.cell? ⟨pb,1,jC⟩=jB ve/\w1.frozen? ⟨pb,1,jC⟩=jE/\pb<w1.1.size/\Ko base pb vi I v' (E++[ys]) (vs++[u]) vl L vn ins all (w1.setCell ⟨pb,1,jC⟩ v'):=by
 have d:=qW.trans ((qW.refl _ w).alloc o) r (λ_ _ e=>e);have a:w1.1[pb]? = _:=d.blk h.blk (λe=>qQ h.edges.main h.blk δ e);have b:∀{e:TypeId} {size n:Nat} {v:Value} {xs:List Value} {b':Nat},w1.ownsRow b' e size v n xs->e≠128->(w1.setCell ⟨pb,1,jC⟩ v').ownsRow b' e size v n xs:=λf q=>qR f (sD (w:=w1) pb 1 v') (λg c e=>qQ f a q (by rw[c,e]))
 have i:Own2 w1 base 61 59 2 v' ((E++[ys]).map qP) (vs++[u])->Own2 (w1.setCell ⟨pb,1,jC⟩ v') base 61 59 2 v' ((E++[ys]).map qP) (vs++[u]):=λf=>f.uQ (sD (w:=w1) pb 1 v') (λg c e=>qQ f.main a δ (by rw[c,e])) (λj u g hu c e=>by
  have s:j<η ((E++[ys]).map qP):=by rw[<-f.len];exact(gB.1 hu).1
  obtain⟨u',n,m,x⟩:=f.row j _ (gE s);rw[hu]at m;cases m;exact qQ x a δ (by rw[c,e]))
 refine⟨cR a,frozen_of_row w1 pb 1 _ _ a,(aI.1 a).1,?_,b (qR h.init d (λg c e=>own_ne h.init h.edges.main δ g c e)) δ,i (show Own2 w1 base 61 59 2 v' ((E++[ys]).map qP) (vs++[u]) by rw[jT];exact h.edges.push δ hu p l r),b (qR h.labels d (λg c e=>own_ne h.labels h.edges.main δ g c e)) δ,b (qR h.ins d (λg c e=>own_ne h.ins h.edges.main δ g c e)) δ,h.U0,h.bb⟩;rw[heap_setCell_same w1 pb 1 _ _ v' a];rfl
end
set_option maxHeartbeats 16000000
set_option maxRecDepth 100000
def LG (I:List Int)(E:List (List Nd))(L ins:List Nat)(all:Nat)(w:jF)(e:Ending)(w':jF):Prop:=
 ∃vi ve vs vl vn,e=.returned (.agg #[vi,ve,vl,vn,iY jA (all:Int)])/\w'.ownsRow w.1.size 3 1 vi (η I) (qO I)/\Own2 w' w.1.size 61 59 2 ve (E.map qP) vs/\
  w'.ownsRow w.1.size 45 1 vl (η L) (um L)/\w'.ownsRow w.1.size 45 1 vn (η ins) (um ins)/\Below w.1.size w w'
theorem Ow (hb:Below w0.1.size w0 w)(a:w.ownsRow w0.1.size e size v n xs)(b:qW (λk=>v.ownBlock=jB k) (w.alloc o) w1)(hp:w0.1.size<=pb)(k v'):
  Below w0.1.size w0 (w1.setCell ⟨pb,k,jC⟩ v'):=
 (hb.trans ((qW.trans ((qW.refl _ w).alloc o) b (λ_ _ h=>h)).below hb.size (λk c e=>by have:=(a.lt k e).1;omega))).setCell (p:=⟨pb,k,jC⟩) hp v'
theorem aaX {b:Nat}(d:w.1[b]? =jB (jG cs t (0,0)))(a:w.ownsRow base e size v n xs)(c:e≠t)(f:qW (λk=>v.ownBlock=jB k) (w.alloc o) w1)(hp:b≠pb)(k v'):
  (w1.setCell ⟨pb,k,jC⟩ v').1[b]? =jB (jG cs t (0,0)):=
 (sD (w:=w1) pb k v').blk ((qW.trans ((qW.refl _ w).alloc o) f (λ_ _ h=>h)).blk d (λe=>qQ a d c e)) hp
def Jt (a:rQ)(l:List Int):List Int:=l.filter (λt=>EB (a.at t.toNat))
theorem Y1 (a){l:List Int}(hi:i<η l):Jt a (l.take (i+1))=Jt a (l.take i)++(if EB (a.at l[i].toNat)=jD then[l[i]]else[]):=by
 unfold Jt;rw[rE l i hi,ku]
 grind
def JO (a:rQ)(q:Nat)(l:List Int):List Nd:=(l.filter (λt=>EB (a.at q)&&EB (a.at t.toNat))).map (λt=>⟨t,0⟩)
theorem ab8 (a q){l:List Int}(hi:i<η l):JO a q (l.take (i+1))=JO a q (l.take i)++(if(EB (a.at q)&&EB (a.at l[i].toNat))=jD then[⟨l[i],0⟩]else[]):=by
 unfold JO;rw[rE l i hi,ku,jT]
 grind
theorem ag7 (a q l):η (JO a q l)<=η l:=by
 unfold JO
 grind
theorem acs {wF:jF}{rb:Nat}{vi ve vl vn:Value}(h:Ko w0.1.size pb vi I ve E vs vl L vn ins all wr)(b:qW (λk=>k=rb) wr wF)(i:rb<w0.1.size)(hw:w.1.size<=rb)(c:Below w.1.size w w0)(hb:Below w0.1.size w0 wr):
  LG I E L ins all w (.returned (.agg #[vi,ve,vl,vn,iY jA (all:Int)])) wF:=by
 have d:w.1.size<=w0.1.size:=ω
 have hm:∀{e} {size n} {v} {xs},wr.ownsRow _ e _ v n _->wF.ownsRow _ e size v n xs:=λf=>
  rC (qR f b (λg a e=>by have:=(f.lt g a).1;omega)) d
 refine⟨_,_,vs,_,_,rfl,hm h.init,?_,hm h.labels,hm h.ins,(c.trans (hb.mono d)).trans (b.below (by have:=hb.size;omega) ω)⟩;refine(h.edges.uQ b (λg a e=>by have:=(h.edges.main.lt g a).1;omega) (λj u g hu a e=>by have:=(h.edges.Dk hu g a).1;omega)).PK d
theorem ajE {a b c d e:Value}(h:w.1[g]? =jB (jG cs T (0,0)))(hc:cs.size=5):
  (((((w.setCell ⟨g,0,jC⟩ a).setCell ⟨g,1,jC⟩ b).setCell ⟨g,2,jC⟩ c).setCell ⟨g,3,jC⟩ d).setCell ⟨g,4,jC⟩ e).1[g]? =jB (jG #[a,b,c,d,e] T (0,0)):=by
 have f:=heap_setCell_same w g 0 _ _ a h;have i:=heap_setCell_same _ g 1 _ _ b f;have j:=heap_setCell_same _ g 2 _ _ c i;have k:=heap_setCell_same _ g 3 _ _ d j;have m:=heap_setCell_same _ g 4 _ _ e k;rw[m];clear f i j k m h;obtain⟨l⟩:=cs
 match l,hc with
 |[p,q,r,s,u],_=>simp
def zG (a:rQ):List Nat:=a.nodes.map (·.need)
theorem aeX (a)(s:Nat)(Ai)(ni ci:Nat)(An)(nn cn:Nat)(w)(B:Nat)(h:sW w B a Ai ni ci An nn cn)(hB:B<=w.1.size)(hA:a.Ok)(hs:s<=16)(bz:∀x∈a.nodes,x.need<2^64/\x.ban<2^64)(J:η a.init<=100000000)(cy:η a.nodes<=100000000)(aH:∀x∈a.nodes,η x.to<=100000000):
  Calls jJ 79 #[.agg #[iY iZ (s:Int),iX Ai ni ci,iX An nn cn]] w (LG (Dr a) (wL a) (zG a) (Bv a) (uH s) w):=by
 obtain⟨ao,x0,y0,z0⟩:=uS w (jG #[iY iZ s,iX Ai ni ci,iX An nn cn] 32) (jG #[iX jC 0 0,iX jC 0 0,iX jC 0 0,iX jC 0 0,iY jA 0] 128);obtain⟨V,aJ⟩:=xQ ((w.alloc (jG #[iY iZ s,iX Ai ni ci,iX An nn cn] 32)).alloc (jG #[iX jC 0 0,iX jC 0 0,iX jC 0 0,iX jC 0 0,iY jA 0] 128));rw[aJ]at ao x0 y0 z0;have HR:=dh (h.below ao hB);have bA:=h.eni;have bB:=h.Ov;have dt:=h.init.cap;have cz:=h.init.max;obtain⟨du,aK, -⟩:=h.nodes;have dv:=aK.cap;have cC:=aK.max;unfold maxLen at cz cC;obtain⟨cD,aL,cE,P,cF,bE,C,HA,cG⟩:=dh9 aJ x0 y0 z0 ao bA bB hA bz;have cH:=dh aH;have dk:ni<=100000000:=ω;have dm:nn<=100000000:=ω;have bF:=dh (adr (iX Ai ni ci) (iX An nn cn) s V hs);have aM:B<=V.1.size:=ω;let⟨k0,k1,k2⟩:=sQ x0
 clear h aK aJ x0 y0 z0 ao hA bz aH J bA bB cy;go_enter Tryz.func79,Tryz.ntmps79;go_upto_region 1 with fail
 rw[cD.o];go_wp2_with fail
 apply bF.mono;rintro e w1 ⟨rfl,aq⟩;have a1:=dh aq;have cI:=bC aq (by have:=P.o;omega) k0;have cJ:=bC aq (by have:=P.o;omega) k1;clear aq k0 k1 k2;let⟨wP,ar⟩:=xQ (w1.alloc (jG #[iX jC 0 0,iX jC 0 0,iX jC 0 0,iX jC 0 0,iY jA (uH s)] 128))
 have cK:=dh ar;go_upto_region 2 with fail
 have a6:=dh (λw' q hb hq=>
  ahZ a _ _ _ _ _ _ w' B _ q (HR.below hb aM) ((hb.cell (by show w.1.size<V.1.size;have:=P.o;omega)).trans (cR aL.o)) hq cG.o)
 have aA:Below w1.1.size w1 wP:=by rw[<-ar];exact bR.alloc lR _
 have aN:=dh (a1.trans (aA.mono a1.size));have bG:Hd (wP.1[w1.1.size]? =jB _):=dh (by rw[<-ar];exact heap_alloc_new _ _);have aO:Hd (Ko _ _ _ [] _ [] _ _ [] _ [] _ _):=dh ⟨bG.o,jF.ownsRow_nil _ _ _ _,Own2.nil _ _ _ _ _,jF.ownsRow_nil _ _ _ _,jF.ownsRow_nil _ _ _ _,λg hg=>by simp[Value.ownBlock]at hg,a1.size⟩;have a7:=dh a1.size;let⟨pb,bH⟩:=xQ w1.1.size
 rw[bH]at aO a7⊢;have bI:w.1.size<V.1.size:=by have:=P.o;omega
 have cL:wP.cell? _ =jB (iX _ _ _):=(aN.cell (p:=⟨w.1.size,1,_⟩) bI).trans (cR aL.o);clear ar aA bH cK a1 bG bF cI cJ;go_wp2
 go_loopw [19] (λv wr=>∃(i:Nat) (vi:Value),i<=ni/\v=iY iZ i/\Hd (Ko V.1.size pb vi (Jt a (a.init.take i)) (iX jC 0 0) [] [] (iX jC 0 0) [] (iX jC 0 0) [] (uH s) wr)/\Hd (Below V.1.size V wr)) (λv _=>ni-(intOf v).toNat)
 case atStart=>exact⟨0,_,ω,rfl,aO,aN⟩
 case round=>
  clear aO aN cL;obtain⟨i,vi,hi,rfl,O,Q⟩:=hrel;have D:=Q.size;by_cases aP:i<ni
  ·have bJ:i<(ni:Int):=ω;have dx:0<=(i:Int):=ω;have J:i<η a.init:=by rwa [<-bE.o]
   obtain⟨b,o,rfl,cM,c0⟩:=BJ (HR.init.below Q aM) J;let⟨q,bK,hq⟩:=HA.first (mM J)
   have cN:q<nn:=by rwa [C.o]
   have F:=dh (Y1 a J);rw[bK]at c0 F;have HC:=dh (a6 _ q Q cN);have wi:IntKind.i64.wrap (i+1)=i+1:=by rw[wI];omega
   clear bK hq;go_wp2_with fail
   apply HC.mono;cases hc:EB _
   ·rintro e w2 ⟨rfl,l⟩;have G:Hd (Jt a _ =Jt a (a.init.take i)):=dh (by rw[F.o,tN,hc];simp);obtain⟨r,n⟩:=iw (O.below l) (Q.trans (l.mono D));go_wp2
    exact⟨⟨i+1,_,ω,jM _ rfl,dh (by rwa [G.o]),n⟩,by simp[intOf];omega⟩
   ·rintro e w2 ⟨rfl,l⟩;have G:Hd (Jt a _ =Jt a (a.init.take i)++[(q:Int)]):=dh (by rw[F.o,tN,hc];simp);obtain⟨r,n⟩:=iw (O.below l) (Q.trans (l.mono D));have hle:η (Jt a (a.init.take i))<=i:=Nat.le_trans (jO _ _) (by rw[jq];omega);have aQ:=n.size;generalize Jt a _ =I at *;obtain⟨Av,cv,rfl, -⟩:=qX r.init;let⟨p0,p1,p2,p3,p4⟩:=r.cells
    obtain⟨aR,HO⟩:=iw (heap_alloc_new w2 (jG #[iY iZ q] 3)) r.init;clear l hc c0 p1 p2 p3 p4;go_wp2_with (at_builtin;refine rD rfl (.tmp 28) (.tmp 30) 29 rfl V.1.size 3 1 8 rW _ _ _ (HO.alloc _) rfl w2.1.size #[iY iZ (q:Int)] rfl aR.out rfl (by simp[Value.oneCell']) ω ω (by simp;omega) ?_;intro u' wA z R W aB;obtain⟨g',aC,rfl,_⟩:=sP z ω;have au:=dh (r.agp z R W);have aS:=dh (Ow n HO R a7 0 (iX (jB ⟨g',0,jC⟩) (η I+1) aC));have r1:=au.1;have r2:=au.2.1;have r3:=au.2.2.1)
    exact⟨⟨i+1,_,ω,jM _ rfl,dh (by rw[G.o];exact au.2.2.2),aS⟩,by simp[intOf];omega⟩
  ·have cO:i=ni:=ω;subst cO;have bL:Hd (Ko _ _ _ (Dr a) _ _ _ _ _ _ _ _ _):=dh (by have:=O.o;rwa [bE.o,kH]at this);have cP:wr.cell? _ =jB (iX _ _ _):=(Q.cell (p:=⟨w.1.size,2,_⟩) bI).trans (cR aL.o);clear O;obtain⟨wq,rfl⟩:=xR wr;go_wp2
   go_loopw [38] (λv wr=>∃(q:Nat) (ve:Value) (vs:List Value) (vl vn:Value),q<=nn/\v=iY iZ q/\Hd (Ko V.1.size pb vi (Dr a) ve ((ζ q).map (Ee a)) vs vl ((zG a).take q) vn ((Bv a).take q) (uH s) wr)/\Hd (Below V.1.size V wr)) (λv _=>nn-(intOf v).toNat)
   case atStart=>exact⟨0,_,_,_,_,ω,rfl,bL,Q⟩
   case round=>
    clear bL Q cP D;obtain⟨q,ve,vs,vl,vn,hq,rfl,O,Q⟩:=hrel;have D:=Q.size;by_cases aP:q<nn
    ·have bJ:q<(nn:Int):=ω;have dy:0<=(q:Int):=ω;obtain⟨b,o,x,At,ct,rfl,cM,hx,c0,c1,c2,c3,av⟩:=wh (HR.below Q aM) aP;have bM:a.at q=x:=by unfold rQ.at;rw[gD,hx];rfl
     have aT:=jy hx;have aH:=cH x aT;have cQ:=av.max;have dz:=av.cap;unfold maxLen at cQ;have wi:IntKind.i64.wrap (q+1)=q+1:=by rw[wI];omega
     have aU:=dh bM;have a8:Below _ _ (wr.alloc (jG #[iY jA x.need,iY jA x.ban,iY jA x.inn,iX At (η x.to) ct] 53)):=bR.alloc lR _;have aV:=heap_alloc_new wr (jG #[iY jA x.need,iY jA x.ban,iY jA x.inn,iX At (η x.to) ct] 53);have aW:(wr.alloc (jG #[iY jA x.need,iY jA x.ban,iY jA x.inn,iX At (η x.to) ct] 53)).1.size=wr.1.size+1:=ς;let⟨wx,aX⟩:=xQ (wr.alloc (jG #[iY jA x.need,iY jA x.ban,iY jA x.inn,iX At (η x.to) ct] 53))
     rw[aX]at a8 aV aW;obtain⟨cS,aY,bN,cT,aZ,b4⟩:=dh6 aX aV aW (av.below a8 ω) (O.below a8) (Q.trans (a8.mono D));have b5:wr.1.size≠pb:=by have:=O.lt;omega
     have HM:=dh aT;clear av hx bM a8 aV aW aT;go_upto_region 12 with fail
     obtain⟨xb,bO⟩:=xQ wr.1.size;rw[bO]at aY bN b5⊢;clear aX cS O Q bO D c0 c1 c2 c3 wr;obtain⟨e0,e1,e2,e3⟩:=DK aY.o;have b6:=b4.size;go_wp2
     go_loopw [9,46] (λu v wr=>∃m,m<=η x.to/\v=iY iZ m/\Hd (wr.ownsRow wx.1.size 61 2 u (η (JO a q (x.to.take m))) (qP (JO a q (x.to.take m))))/\Hd (Below wx.1.size wx wr)) (λ_ v _=>η x.to-(intOf v).toNat)
     case atStart=>exact⟨0,ω,rfl,dh (jF.ownsRow_nil _ _ _ _),dh bR⟩
     case round=>
      clear e0 e1 e2 e3;obtain⟨m,hm,rfl,HO,K⟩:=hrel;have D:=K.size;by_cases ad:m<η x.to
      ·have dA:m<(η x.to:Int):=ω;have dB:0<=(m:Int):=ω;obtain⟨b2,o2,rfl,dp,d0⟩:=BJ (cT.below K ω) ad;let⟨j,bP,hj⟩:=rO (HA.2 x HM _ (mM ad))
       have cU:j<nn:=by rwa [C.o]
       have F:=dh (ab8 a q ad);rw[bP]at d0 F;have b9:=dh (b4.trans (K.mono b6));have HC:=dh (a6 _ q b9 aP);have wm:IntKind.i64.wrap (m+1)=m+1:=by rw[wI];omega
       clear bP hj;go_wp2_with fail
       apply HC.mono;cases hc:EB _
       ·rintro e w2 ⟨rfl,l⟩;have G:Hd (JO a q _ =JO a q (x.to.take m)):=dh (by rw[F.o,hc];simp);obtain⟨H,n⟩:=iw (own_below HO l) (K.trans (l.mono D));go_wp2
        exact⟨⟨m+1,ω,jM _ rfl,dh (by rwa [G.o]),n⟩,by simp[intOf];omega⟩
       ·rintro e w2 ⟨rfl,l⟩;have aQ:=l.size;obtain⟨H,n,cV,bQ⟩:=iB (own_below HO l) (K.trans (l.mono D)) (a6 _ j (b9.trans (l.mono b9.size)) cU) hc;clear l hc HO HC d0;go_wp2_with fail
        apply cV.mono;cases hc:EB _
        ·rintro e w3 ⟨rfl,Z⟩;have G:Hd (JO a q _ =JO a q (x.to.take m)):=dh (by rw[F.o,bQ.o,tN,hc];simp);obtain⟨T,U⟩:=iw (own_below H Z) (n.trans (Z.mono n.size));go_wp2
         exact⟨⟨m+1,ω,jM _ rfl,dh (by rwa [G.o]),U⟩,by simp[intOf];omega⟩
        ·rintro e w3 ⟨rfl,Z⟩;have G:Hd (JO a q _ =JO a q (x.to.take m)++[⟨j,0⟩]):=dh (by rw[F.o,bQ.o,tN,hc];simp);obtain⟨T,U⟩:=iw (own_below H Z) (n.trans (Z.mono n.size));have hle:η (JO a q (x.to.take m))<=m:=Nat.le_trans (ag7 a q _) (by rw[jq];omega);have bS:=U.size;clear Z hc H F;generalize JO a q (x.to.take m)=Y at *;obtain⟨Au,cu,rfl, -⟩:=qX T.o;have aR:=dh (heap_alloc_new w3 (jG #[iY iZ j,iY iZ 0] 61));go_wp2_with (at_builtin;refine rD rfl (.tmp 58) (.tmp 61) 59 rfl wx.1.size 61 2 16 KJ _ _ _ (T.alloc _) rfl w3.1.size #[iY iZ (j:Int),iY iZ 0] rfl aR.out rfl (by simp[Value.oneCell']) ω ω (by simp;omega) ?_;intro u' wA z R W aB;obtain⟨g',aC,rfl,_⟩:=sP z ω;have cW:=dh z;have aS:=dh (U.trans ((qW.trans ((qW.refl _ w3).alloc _) R (λ_ _ h=>h)).below bS (λk hk e=>by have:=(T.lt k e).1;omega))))
         exact⟨⟨m+1,ω,jM _ rfl,dh (by rw[G.o,lA,uY];simpa[qP]using cW.o),aS⟩,by simp[intOf];omega⟩
      ·have cX:m=η x.to:=ω;subst cX;have HU:Hd (wr.ownsRow _ _ 2 _ (η (Ee a q)) (qP (Ee a q))):=dh (by have:=HO.o;rwa [kH,<-aU.o]at this);obtain⟨af,bc⟩:=iw (aZ.below K.o) (b4.trans (K.mono b6));have bT:=dh ((K.block _ (by have:=bN.o;omega)).trans aY.o);have dC:=bc.size;have cY:Hd ((ζ (q+1)).map _ =(ζ q).map _++[Ee a q]):=dh (by rw[mh,jT];rfl);have bU:q<η a.nodes:=by rwa [<-C.o]
       have cZ:Hd ((zG a).take _ =(zG a).take q++[x.need]):=dh (by
        rw[rE _ q (by unfold zG;rwa [jr])];unfold zG;rw[lJ,<-aU.o];unfold rQ.at;rw[gD,gE bU];rfl)
       have da:Hd ((Bv a).take _ =(Bv a).take q++[x.inn]):=dh (by
        rw[rE _ q (by unfold Bv;rwa [jr])];unfold Bv;rw[lJ,<-aU.o];unfold rQ.at;rw[gD,gE bU];rfl)
       have bd:Hd (η (((ζ q).map (Ee a)).map qP)=q):=dh ς;have bh:Hd (η ((zG a).take q)=q):=dh (by unfold zG;simp;omega);have bj:Hd (η ((Bv a).take q)=q):=dh (by unfold Bv;simp;omega);generalize (ζ q).map _ =E at *;generalize (zG a).take q=LN at *;generalize (Bv a).take q=LI at *;generalize Ee a q=row at *;obtain⟨Ar,cr,bV, -⟩:=qX HU.o;rw[bV]at HU;subst bV
       have bW:Hd (∀(j:Nat) y g,vs[j]? =jB y->y.ownBlock=jB g->(Value.slice _ _ _).ownBlock≠jB g):=dh (λj y g hy hg e=>by
        have h1:=(HU.lt g e).1;have h2:=(aZ.edges.Dk hy g hg).2;omega)
       have bX:=dh (rC HU b6);obtain⟨Ae,ce,bY, -⟩:=qX af.edges.main;rw[bd.o]at bY;subst bY;have aw:Hd (wr.ownsRow _ 59 1 _ q _):=dh (by have:=af.edges.main;rwa [bd.o]at this);let⟨p0,p1,p2,p3,p4⟩:=af.cells
       clear HO p0 p2 p3 p4 aZ;have aD:=dh (heap_alloc_new wr (jG #[iX Ar (η row) cr] 59));go_upto_region 20 with(at_builtin;refine rD rfl (.tmp 66) (.tmp 68) 56 rfl V.1.size 59 1 24 Yv _ _ _ (aw.alloc _) rfl wr.1.size #[iX Ar (η row) cr] rfl aD.out rfl (by simp[Value.oneCell']) ω ω (by simp;omega) ?_;intro u' db bm ax aE bZ;obtain⟨g1,ag,rfl,_⟩:=sP bm ω;have L:=dh (af.adB bX bW (by rw[bd.o];exact bm) ax aE);have c4:=dh (Ow bc aw ax a7 1 (iX (jB ⟨g1,0,jC⟩) (q+1) ag));have c5:=dh (aaX bT aw δ ax b5 1 (iX (jB ⟨g1,0,jC⟩) (q+1) ag));have r1:=L.1;have r2:=L.2.1;have r3:=L.2.2.1)
       obtain⟨wB,ah⟩:=xQ (db.setCell ⟨pb,1,jC⟩ (iX (jB ⟨g1,0,jC⟩) (q+1) ag));have r:Hd (Ko _ _ _ _ _ _ _ _ _ _ _ _ wB):=dh (by rw[<-ah];exact L.2.2.2);have n:Hd (Below _ _ wB):=dh (by rwa [<-ah]);have bn:Hd (wB.1[xb]? =jB _):=dh (by rwa [<-ah]);rw[ah];clear ah L c4 c5 aw aD r1 r2 r3 bm ax aE bZ p1 af bc bT bW bX HU;have aQ:=n.size;obtain⟨Al,cl,c9, -⟩:=qX r.labels;rw[bh.o]at c9;subst c9;have H:=dh (by have:=r.labels;rwa [bh.o]at this);let⟨p0,p1,p2,p3,p4⟩:=r.cells
       let⟨e0,e1,e2,e3⟩:=DK bn.o
       clear p0 p1 p3 p4 e1 e2 e3;have aF:=dh (heap_alloc_new wB (jG #[iY jA x.need] 45));go_upto_region 21 with(at_builtin;refine rD rfl (.tmp 74) (.tmp 77) 23 rfl V.1.size 45 1 8 KI _ _ _ (H.alloc _) rfl wB.1.size #[iY jA (x.need:Int)] rfl aF.out rfl (by simp[Value.oneCell']) ω ω (by simp;omega) ?_;intro u' dc bp ay aG ca;obtain⟨g2,aj,rfl,_⟩:=sP bp ω;have M:=dh (r.Z7 (by rw[bh.o];exact bp) ay aG);have cb:=dh (Ow n H ay a7 2 (iX (jB ⟨g2,0,jC⟩) (q+1) aj));have cd:=dh (aaX bn H δ ay b5 2 (iX (jB ⟨g2,0,jC⟩) (q+1) aj));have r1:=M.1;have r2:=M.2.1;have r3:=M.2.2.1)
       obtain⟨wC,ak⟩:=xQ (dc.setCell ⟨pb,2,jC⟩ (iX (jB ⟨g2,0,jC⟩) (q+1) aj));have az:Hd (Ko _ _ _ _ _ _ _ _ _ _ _ _ wC):=dh (by rw[<-ak];exact M.2.2.2);have U:Hd (Below _ _ wC):=dh (by rwa [<-ak]);have dd:Hd (wC.1[xb]? =jB _):=dh (by rwa [<-ak]);rw[ak];clear ak M cb cd H aF r1 r2 r3 bp ay aG ca p2 e0 r n bn aQ;have bS:=U.size;obtain⟨bq,br,cg, -⟩:=qX az.ins;rw[bj.o]at cg;subst cg;have T:=dh (by have:=az.ins;rwa [bj.o]at this);let⟨p0,p1,p2,p3,p4⟩:=az.cells
       let⟨e0,e1,e2,e3⟩:=DK dd.o
       clear p0 p1 p2 p4 e0 e1 e3;have ch:=dh (heap_alloc_new wC (jG #[iY jA x.inn] 45));go_wp2_with (at_builtin;refine rD rfl (.tmp 82) (.tmp 85) 23 rfl V.1.size 45 1 8 KI _ _ _ (T.alloc _) rfl wC.1.size #[iY jA (x.inn:Int)] rfl ch.out rfl (by simp[Value.oneCell']) ω ω (by simp;omega) ?_;intro u' dD cj R W aB;obtain⟨g3,ck,rfl,_⟩:=sP cj ω;have X:=dh (az.aib (by rw[bj.o];exact cj) R W);have cm:=dh (Ow U T R a7 3 (iX (jB ⟨g3,0,jC⟩) (q+1) ck));have r1:=X.1;have r2:=X.2.1;have r3:=X.2.2.1)
       exact⟨⟨q+1,_,_,_,_,ω,jM _ rfl,dh (by rw[cY.o,cZ.o,da.o];exact X.2.2.2),cm⟩,by simp[intOf];omega⟩
    ·have de:q=nn:=ω;subst de;have df:Hd ((ζ q).map _ =wL a):=dh (by rw[C.o];rfl);have di:Hd ((zG a).take q=zG a):=dh (tL (by unfold zG;rw[jr,C.o];exact lR));have dj:Hd ((Bv a).take q=Bv a):=dh (tL (by unfold Bv;rw[jr,C.o];exact lR));rw[df.o,di.o,dj.o]at O;obtain⟨cp,cq,rfl, -⟩:=qX O.init;obtain⟨Ae,ce,rfl, -⟩:=qX O.edges.main;obtain⟨Al,cl,rfl, -⟩:=qX O.labels;obtain⟨bq,br,rfl, -⟩:=qX O.ins;have cw:η ((wL a).map qP)=q:=by rw[jr,CU,C.o]
     have bu:η (zG a)=q:=by unfold zG;rw[jr,C.o]
     have bw:η (Bv a)=q:=by unfold Bv;rw[jr,C.o]
     rw[cw,bu,bw]at O;obtain⟨dE,dF⟩:=iw bu bw;generalize J:η (Dr a)=cx at *;have dG:=dh J;clear cw bu bw J;let⟨p0,p1,p2,p3,p4⟩:=O.cells
     have hy:=(Q.block _ (by have:=P.o;omega)).trans cE.o;have dr:w.1.size+1<wr.1.size:=by have:=P.o;omega
     have f0:=frozen_of_row _ _ 0 _ _ hy;have f1:=frozen_of_row _ _ 1 _ _ hy;have f2:=frozen_of_row _ _ 2 _ _ hy;have f3:=frozen_of_row _ _ 3 _ _ hy;have f4:=frozen_of_row _ _ 4 _ _ hy;have y0:wr.cell? ⟨_,0,_⟩=jB (iX _ 0 0):=cR hy;have y1:wr.cell? ⟨_,1,_⟩=jB (iX _ 0 0):=cR hy;have y2:wr.cell? ⟨_,2,_⟩=jB (iX _ 0 0):=cR hy;have y3:wr.cell? ⟨_,3,_⟩=jB (iX _ 0 0):=cR hy;have y4:wr.cell? ⟨_,4,_⟩=jB (.int _ 0):=cR hy;have HY:=dh hy;clear hy;go_wp2
     have N:=ajE (a:=iX cp cx cq) (b:=iX Ae q ce) (c:=iX Al q cl) (d:=iX bq q br) (e:=iY jA (uH s)) HY rfl;have HT:Hd (qW _ _ (((((wr.setCell _ (iX cp cx cq)).setCell _ (iX Ae q ce)).setCell _ (iX Al q cl)).setCell _ (iX bq q br)).setCell _ (iY jA (uH s)))):=dh (qW.setCell (p:=⟨_,4,jC⟩) (qW.setCell (p:=⟨_,3,jC⟩) (qW.setCell (p:=⟨_,2,jC⟩) (qW.setCell (p:=⟨_,1,jC⟩) (qW.setCell (S:=λk=>k=w.1.size+1) (p:=⟨_,0,jC⟩) (qW.refl _ _) (λ_=>rfl) _) (λ_=>rfl) _) (λ_=>rfl) _) (λ_=>rfl) _) (λ_=>rfl) _);generalize ((((wr.setCell _ _).setCell _ _).setCell _ _).setCell _ _).setCell _ _ =wF at *;have g0:wF.cell? ⟨_,0,_⟩=jB (iX _ _ _):=cR N;have g1:wF.cell? ⟨_,1,_⟩=jB (iX _ q _):=cR N;have g2:wF.cell? ⟨_,2,_⟩=jB (iX _ q _):=cR N;have g3:wF.cell? ⟨_,3,_⟩=jB (iX _ q _):=cR N;have g4:wF.cell? ⟨_,4,_⟩=jB (.int _ _):=cR N;refine bodyPost_ret ?_ rfl (acs O HT (by have:=P.o;omega) ω cF Q.o);simp[results,Tryz.results79,go_sem,g0,g1,g2,g3,g4]
set_option maxHeartbeats 2000000
theorem WM (b:Nat)(p:Nd->Bool)(l:List Nd)(A:Option Addr)(n c:Nat)(w:jF)(B:Nat)(hs:Sl w B 2 A n c (qP l))(C:B<=w.1.size)(D:n=η l)(hl:n<=100000000000)
  (E:Hd (∀(x:Nd) (w':jF),x∈l->Below w.1.size w w'->Calls jJ 181 #[.agg #[iY iZ x.op,iY iZ x.n],jH (jB ⟨b,0,jC⟩)] w' (AX w' (p x)))):
  Calls jJ 190 #[iX A n c,.func (.func 181) #[] #[jH (jB ⟨b,0,jC⟩)]] w (Fnd w (l.any p)):=by
 subst D;go_enter Tryz.func190,Tryz.ntmps190;go_wp2
 go_loopw [8] (λi wr=>∃k:Nat,k<=η l/\i=iY iZ k/\Below w.1.size w wr/\Hd ((l.take k).any p=jE)) (λi _=>η l-(intOf i).toNat)
 case atStart=>exact⟨0,ω,rfl,bR,rfl⟩
 case round=>
  obtain⟨k,H,rfl,a,t⟩:=hrel;have q:=a.size;by_cases g:k<η l
  ·obtain⟨bb,o,rfl,_,u,v⟩:=vZ (hs.rd.below a C) g;have hC:=E l[k] wr (mM g) a;have d:=mM g;have j:(l.take (k+1)).any p=(p l[k]):=by rw[rE l k g,oP,t.o];simp
   obtain⟨x,y⟩:=xQ (l[k]);rw[y]at u v;rw[y]at hC j d;obtain⟨r,F,G⟩:=iA hC j d;clear y hC j d;cases hb:p x
   ·have s:=dh hb;clear hb;go_wp2_with fail
    refine Calls.mono r ?_;rw[s.o];rintro e w2 ⟨rfl,m⟩;go_wp2
    go_roundw
    case rel=>exact⟨k+1,ω,by go_num,a.trans (m.mono q),by show _ = _;rw[F.o];exact s.o⟩
    case measure=>simp[intOf];omega
   ·have s:=dh hb;clear hb;go_wp2_with fail
    refine Calls.mono r ?_;rw[s.o];rintro e w2 ⟨rfl,m⟩;go_wp2
    go_ret
    exact⟨_,rfl,ω,ω,a.trans (m.mono q),by rw[kT.2 ⟨x,G.o,s.o⟩];simp⟩
  ·have z:k=η l:=ω;subst z;rw[tL lR]at t;go_wp2
   go_ret
   exact⟨_,rfl,ω,ω,a,by rw[t.o];rfl⟩
theorem Qv (b:Nat)(p:Nd->Bool)(l:List Nd)(A:Option Addr)(n c:Nat)(w:jF)(B:Nat)(hs:Sl w B 2 A n c (qP l))(d:B<=w.1.size)(a:n=η l)(hl:n<=100000000000)
  (g:Hd (∀(x:Nd) (w':jF),x∈l->Below w.1.size w w'->Calls jJ 181 #[.agg #[iY iZ x.op,iY iZ x.n],jH (jB ⟨b,0,jC⟩)] w' (AX w' (p x)))):
  Calls jJ 180 #[iX A n c,.func (.func 181) #[] #[jH (jB ⟨b,0,jC⟩)]] w (AX w (l.any p)):=by
 go_enter Tryz.func180,Tryz.ntmps180;have i:=dh (WM b p l A n c w B hs d a hl g);clear a hs hl;go_wp2_with fail
 refine Calls.mono i.out ?_;rintro e w1 ⟨k,rfl,_,_,hb,j⟩;go_wp2
 go_ret
 exact⟨rfl,hb⟩
theorem Zi (e:Nd)(b:Nat)(k:Int)(w:jF)(a:q9 w b 0 (iY iZ k)):
  Calls jJ 181 #[.agg #[iY iZ e.op,iY iZ e.n],jH (jB ⟨b,0,jC⟩)] w (AX w (e.op==k)):=by
 have hb:=(Below.refl w.1.size w).alloc lR (jG #[iY iZ e.op,iY iZ e.n] 61);have c:=jF.block_lt_of_cell? w _ a;go_enter Tryz.func181,Tryz.ntmps181;go_wp2_with fail
 go_ret
 exact⟨rfl,hb⟩
theorem acV (E:List (List Nd))(vi vl:Value)(ae:Option Addr)(N ce B:Nat)(w:jF)(n:Nat)(b:Gx w B 2 ae N ce (E.map qP))(F:B<=w.1.size)(Q:n<N)(G:∀r∈E,η r<=1000000)(_hN:N<=1000000):
  Calls jJ 166 #[.agg #[vi,iX ae N ce,vl],iY iZ (n:Int)] w (AX w (Hz E n)):=by
 have m:N=η E:=by have:=b.len;simpa using this
 have d:n<η E:=ω;have z:=b.cap;have i:=b.max;unfold maxLen at i;obtain⟨c,x0,p,z0⟩:=uS w (jG #[vi,iX ae N ce,vl] 63) (jG #[iY iZ (n:Int)] 3);obtain⟨j,g⟩:=xQ ((w.alloc (jG #[vi,iX ae N ce,vl] 63)).alloc (jG #[iY iZ (n:Int)] 3));rw[g]at c x0 p z0;obtain⟨H,I,A',n',c',q,J,C,a⟩:=(b.below c F).at_ (Ej d);subst q;have hlen:n'=E[n].length:=by have:=a.len;rw[uz]at this;omega
 have k:Hz E n=E[n].any (λe=>e.op==(n:Int)):=by unfold Hz;rw[gD,gE d];rfl
 have K:=G E[n] (mM d);rw[k];generalize E[n]=D at *;subst hlen;have c1:j.cell? ⟨w.1.size,1,jC⟩=jB (iX (jB ⟨H,I,jC⟩) N ce):=cR x0;have cn:j.cell? ⟨w.1.size+1,0,jC⟩=jB (iY iZ (n:Int)):=cR p;have L:(0:Int)<=(n:Int):=ω;have M:(n:Int)<(N:Int):=ω;have s:=dh (Qv (w.1.size+1) (λe=>e.op==(n:Int)) D A' (η D) c' j j.1.size (a.up ω) lR rfl ω (dh (λx w' _ hb=>Zi x (w.1.size+1) (n:Int) w' (bC hb (by show w.1.size+1<j.1.size;omega) cn))));have O:=a.cap;obtain⟨u,v,P⟩:=iA g c z0;clear a c x0 p z0 g b k m;go_enter Tryz.func166,Tryz.ntmps166;go_upto_region 1 with fail
 rw[u.o];go_wp2_with fail
 refine s.mono ?_;rintro e w1 ⟨rfl,l⟩;have y:=dh (v.trans (l.mono (by have:=P.o;omega)));clear l;go_wp2_with fail
 go_ret
 exact⟨rfl,y.o⟩
set_option maxHeartbeats 4000000
set_option maxRecDepth 100000
def NM (L:List Nat)(k:Nat):Int:=if k=0 then -1 else((L.getD 0 0:Nat):Int)
theorem af2 (b:k<η L)(d:0<k)(a:L.getD k 0≠L.getD 0 0):NR E L=jD:=by
 cases L with
 |nil=>simp at b
 |cons x l=>
  obtain⟨j,rfl⟩:∃j,k=j+1:=⟨k-1,ω⟩;unfold NR;rw[kX];left;have c:j<η l:=by simpa using b
  refine kT.2 ⟨l[j],mM c,?_⟩;simp only[qA,List.getD_cons_zero]at a;rw[gD,gE c]at a;simpa using a
theorem ahV (c:0<η L)(h:∀j,0<j->j<η L->L.getD j 0=L.getD 0 0):NR E L=Hz E (L.getD 0 0):=by
 cases L with
 |nil=>simp at c
 |cons x l=>
  have:l.any (λy=>y !=x)=jE:=by
   rw[List.any_eq_false];intro y hy;obtain⟨j,b⟩:=mV hy;have a:=(gB.1 b).1;have:=h (j+1) ω (by simpa using a);simp only[qA,List.getD_cons_zero]at this;rw[gD,b]at this;simpa using this
  show(l.any (λy=>y !=x)||Hz E x)= _;rw[this,oI];rfl
theorem ZT (E vi vl ae N ce B w L A n c)(l:Gx w B 2 ae N ce (E.map qP))(hB:B<=w.1.size)(C:Sl w B 1 A n c (qO (iE L)))(b:∀x∈L,x<N)(hr:∀r∈E,η r<=1000000)(hN:N<=1000000):
  Calls jJ 150 #[.agg #[vi,iX ae N ce,vl],iX A n c] w (AX w (NR E L)):=by
 have D:n=η L:=by have:=C.len;rw[xY,Ah]at this;omega
 have Q:=l.cap;have s:=l.max;have a6:=C.cap;have F:=C.max;unfold maxLen at F s;obtain⟨w0,d⟩:=xQ (w.alloc (jG #[vi,iX ae N ce,vl] 63));have m:Below w.1.size w w0:=by rw[<-d];exact bR.alloc lR _
 have p:w0.1[w.1.size]? =jB (jG #[vi,iX ae N ce,vl] 63):=by rw[<-d];exact heap_alloc_new w _
 have ad:w0.cell? ⟨w.1.size,0,jC⟩=jB vi:=cR p;have af:w0.cell? ⟨w.1.size,1,jC⟩=jB (iX ae N ce):=cR p;have ag:w0.cell? ⟨w.1.size,2,jC⟩=jB vl:=cR p;have ah:w0.1.size=w.1.size+1:=by rw[<-d];simp
 have G:∀k,k<n->L.getD k 0<N:=λk hk=>b _ (by rw[gD,gE (by omega:k<η L)];exact mM ω)
 obtain⟨HL,R,S,u,g,H⟩:=dh6 (C.below m hB) (λ(x:Nat) (I:x<N)=>acV E vi vl ae N ce B w0 x (l.below m hB) ω I hr hN) d m D G;clear d l C b hr m D G p;go_enter Tryz.func150,Tryz.ntmps150;go_upto_region 1 with fail
 rw[S.o];go_wp2_with fail
 go_loopw [10,5] (λi o wr=>∃k:Nat,k<=n/\i=iY iZ k/\o=iY iZ (NM L k)/\Hd (∀j,0<j->j<k->L.getD j 0=L.getD 0 0)/\wr=w0) (λi _ _=>n-(intOf i).toNat)
 case atStart=>exact⟨0,ω,rfl,rfl,dh (λj J P=>ω),rfl⟩
 case round=>
  obtain⟨k,hk,rfl,rfl,HA,rfl⟩:=hrel;by_cases b:k<n
  ·have aj:(0:Int)<=(k:Int):=ω;have ak:(k:Int)<(n:Int):=ω;have wk:IntKind.i64.wrap ((k:Int)+1)=(k:Int)+1:=by rw[wI];omega
   obtain⟨b1,o1,T,v,K⟩:=HL.rd.at_ (FY (by rw[<-g.o];exact b));subst T;have U:=H k b;obtain⟨x,I⟩:=xQ (L.getD k 0);rw[I]at K U;have ao:((N:Int)<=(x:Int))=False:=by simp;omega
   have a7:decide ((N:Int)<=(x:Int))=jE:=by simp;omega
   have a8:(N<=x)=False:=by simp;omega
   have V:=dh I;clear I;by_cases a:k=0
   ·subst a;have q:NM L 0= -1:=rfl;rw[q];have W:((x:Int)== -1)=jE:=by first|(simp;done)|(simp;omega)
    rw[nG]at K;have e1:Hd (NM L (0+1)=(x:Int)):=dh (by rw[NM,d9 ω,V.o]);clear q;go_wp2_with fail
    exact⟨⟨1,ω,rfl,by rw[show NM L 1=(x:Int)from e1.out],dh (λj J P=>ω),trivial⟩,by simp[intOf];omega⟩
   ·obtain⟨y,hy⟩:=xQ (L.getD 0 0);have q:NM L k=(y:Int):=by rw[NM,d9 a,hy]
    have e1:Hd (NM L (k+1)=(y:Int)):=dh (by rw[NM,d9 ω,hy]);rw[q];have HY:=dh hy;clear q hy;by_cases M:x=y
    ·subst M;go_wp2_with fail
     refine⟨⟨k+1,ω,jM (Value.int iZ) ω,by rw[e1.out],dh (λj J P=>?_),trivial⟩,by simp[intOf];omega⟩;by_cases e:j=k
     ·subst e;rw[V.o,HY.o]
     ·exact HA j J ω
    ·have W:((x:Int)==(y:Int))=jE:=by simp;omega
     have X:(0:Int)<=(y:Int):=ω;have Y:Hd (NR E L=jD):=dh (af2 (by rw[<-g.o];exact b) ω (by rw[V.o,HY.o];exact M));go_wp2_with fail
     go_ret
     exact⟨rH Y.out.symm,u.o⟩
  ·have Z:k=n:=ω;subst Z;by_cases a:k=0
   ·subst a
    have hc:NR E L=jE:=by
     have:L=[]:=jv g.symm;rw[this];rfl
    have z:=dh hc;clear hc;rw[show NM L 0= -1 from rfl];go_wp2_with fail
    go_ret
    exact⟨rH z.symm,u.o⟩
   ·obtain⟨y,hy⟩:=xQ (L.getD 0 0);have O:y<N:=by rw[<-hy];exact H 0 ω
    have q:NM L k=(y:Int):=by rw[NM,d9 a,hy]
    have hc:NR E L=Hz E y:=by rw[<-hy];exact ahV (by rw[<-g.o];omega) (λj J P=>HA j J (by rw[g.o];exact P))
    have z:=dh hc;rw[q];have X:(0:Int)<=(y:Int):=ω;have HC:=dh (R y O);clear q hc hy O;go_wp2_with fail
    refine HC.mono ?_;rintro e w1 ⟨rfl,v⟩;have a1:=dh (u.trans (v.mono ω));clear v;go_wp2_with fail
    go_ret
    exact⟨rH z.symm,a1.o⟩
open Go
theorem qW.then_ {B:jF}(h:qW M A B)(k:qW M B C):qW M A C:=h.trans k (λ_ _ e=>e)
theorem qW.wide (h:qW M W W')(a:∀k,M k->M' k):qW M' W W':=h.mono (λk _=>a k)
theorem qW.putObj (h:qW M w W)(o)(hl:l<w.1.size->M l):qW M w (W.putObj l o):=
 ⟨h.os,h.tape,h.output,by simpa using h.size,λk a hm=>(jF.putObj_heap_other (λe=>γ)).trans (h.block k a hm)⟩
theorem qW.cell (h:qW M W W'){p:Addr}(hp:p.block<W.1.size)(hm:¬M p.block):W'.cell? p=W.cell? p:=jF.cell?_of_block (w:=W) (h.block p.block hp hm)
theorem qW.grown (h:qW M w W){row:Option Nat}(a:W.grownBy W' row)(b:∀k,row=jB k->k<w.1.size->M k):qW M w W':=
 h.trans (qW.uy a) (λk c e=>b k e c)
theorem aaU {a:Addr}(o)(h:W.cell? a=jB v):(W.alloc o).cell? a=jB v:=cell_kept h (jF.grownBy_alloc W o jC) (λr e=>γ)
theorem CY (h:Boxed W B t v)(a:qW M W W')(hm:¬M B):Boxed W' B t v:=a.blk h hm
theorem U3 (m'){P:Program}(h:YieldAt Fence.wide m P l args W R):YieldAt Fence.wide m' P l args W R:=by
 obtain⟨fn,tmps,assign,body,hy,a⟩:=h;exact⟨_,_,_,_,hy,a.1,λc cs _=>a.2 c _ (λd h=>by cases h)⟩
theorem V4 (b:w₀.1.size<=B):OwnFrom B (λ(_:β) W=>qW M w₀ W):=
 λ_ X Y row hs a c=>hs.grown a (λk e d=>γ)
theorem KV {B':Nat}{I:β->jF->Prop}(h:OwnFrom B I)(b:B<=B'):OwnFrom B' I:=λs X Y row hs c a=>h s X Y row hs c (λr e=>⟨Nat.le_trans b (a r e).1,(a r e).2⟩)
structure BL (M:Nat->Prop)(W:jF)(M':Nat->Prop)(W':jF):Prop where
 uQ:qW M W W'
 old:∀k,k<W.1.size->M' k->M k
 lt:∀k,M' k->k<W'.1.size
theorem BL.refl (h:∀k,M k->k<W.1.size):BL M W M W:=⟨qW.refl _ _,λ_ _ e=>e,h⟩
theorem BL.P8 (a:qW M W W')(h:∀k,M k->k<W.1.size):BL M W M W':=⟨a,λ_ _ e=>e,λk e=>jh (h k e) a.size⟩
theorem BL.trans {M2:Nat->Prop}{B:jF}(h:BL M A M1 B)(k:BL M1 B M2 C):BL M A M2 C:=
 ⟨h.uQ.trans k.uQ (λi hi e=>h.old i hi e),λi hi e=>h.old i hi (k.old i (jh hi h.uQ.size) e),k.lt⟩
theorem BL.CQ {B:jF}(h:BL M A M1 B)(k:qW M1 B C):BL M A M1 C:=h.trans (BL.P8 k h.lt)
theorem BL.not (h:BL M W M' W')(a:k<W.1.size)(hm:¬M k):¬M' k:=λe=>hm (h.old k a e)
theorem Ec (b:w₀.1.size<=B)(f:β->Nat->Prop):OwnFrom B (λs W=>BL M w₀ (f s) W):=
 λs X Y row hs a c=>⟨V4 (β:=β) b s X Y row hs.uQ a c,hs.old,λk e=>jh (hs.lt k e) a.size⟩
def ext (l:Nat)(M:Nat->Prop):Nat->Prop:=λk=>M k\/k=l
theorem BL.ext (h:BL M W M' W')(hl:l<W.1.size):BL (ext l M) W (ext l M') W':=
 ⟨h.uQ.wide (λ_ e=>.inl e),λk a e=>e.elim (λe=>.inl (h.old k a e)) .inr,λk e=>e.elim (h.lt k) (λe=>by subst e;exact jh hl h.uQ.size)⟩
def ajp {α:Type}(F:Fence)(n:Nat)(P:Program)(g:Nat)(lb:Array Value)(encs:α->Array Value)(M:Nat->Prop)(L:List α)(w:jF):Prop:=
 ∀(l:Nat) (J Jx:List α×(Nat->Prop)->jF->Prop) (W:jF),qW (λ_=>False) w W->w.1.size<=l->l<W.1.size->OwnFrom W.1.size J->OwnFrom W.1.size Jx->
  (∀pre x N W1,J (pre,N) W1->pre++[x]<+:L->YieldAt F (n-1) P l (encs x) W1 λe W'=>∃N',BL N W1 N' W'/\
   ((e=.returned (jI jD)/\J (pre++[x],N') W')\/(e=.returned (jI jE)/\Jx (pre++[x],N') W')))->
  J ([],ext l M) W->
  CallsIn F n P g (#[.func (.yield l) #[] #[]]++lb) W λe W'=>(∃v,e=.returned v)/\((∃N,J (L,N) W')\/(∃pre N,pre<+:L/\Jx (pre,N) W'))
def aeQ {α:Type}(I:List α×(Nat->Prop)->jF->Prop)(Ix:Code->List α×(Nat->Prop)->jF->Prop)(xs:List α)(N:Nat->Prop)(W:jF):Exit->Act->jF->Prop
 | .normal,_,W'=>∃N',BL N W N' W'/\I (xs,N') W'
 | .ret,_,W'=>∃N',BL N W N' W'/\Ix .ret (xs,N') W'
 | .exit id,_,W'=>∃N',BL N W N' W'/\Ix (.exit id) (xs,N') W'
 | .goto t,_,W'=>∃N',BL N W N' W'/\Ix (.goto t) (xs,N') W'
 | .panic _,_,_=>False
 | .outgrown,_,_=>False
variable {F:Fence}{n:Nat}{P:Program}
theorem EI {g:Operand}
  (a8:F.round=jC)(h1:1<=n)(hg:a.eval g=.func (.func gf) #[] lb)(ay:F.fn gf)(eg:∀args w,(callFunc gf args).run P w=.ok (.enter gf args) w)
  {E:α->Array Value}{L:List α}(a1:ajp F (n-1) P gf lb E M L w)(hM:∀k,M k->k<w.1.size)(ad:∀x,(E x).size=ps.size)
  (I:List α×(Nat->Prop)->jF->Prop)(Ix:Code->List α×(Nat->Prop)->jF->Prop)(Z:OwnFrom w.1.size I)(G:∀c,OwnFrom w.1.size (Ix c))(h0:I ([],M) w)(Ax:α->Act->jF->Prop)(af:∀x a',OwnFrom w.1.size (λ(_:Unit) W=>Ax x a' W))
  (H:∀(l:Nat) (pre:List α) (x:α) (N:Nat->Prop) (W:jF) (K:Act->jF->Prop),I (pre,N) W->pre++[x]<+:L->(∀a' W',qW N W W'->I (pre,N) W'->Ax x a' W'->K a' W')->
   assign.wpIn (F.inRound l) (n-1-1) P (Exit.then K (λ_ _ _=>False)) {tmps:=(ps.zip (E x)).foldl (λt (p,v)=>t.setIfInBounds p v) a.tmps,defers:=[]} W)
  (R:∀(l:Nat) (pre:List α) (x:α) (N:Nat->Prop) (a':Act) (W:jF),w.1.size<=l->¬N l->(∃r,W.1[l]? =jB (.loop r))->(∀k,N k->k<W.1.size)->I (pre,N) W->Ax x a' W->pre++[x]<+:L->body.wpIn (F.inRound l) (n-1-1) P (aeQ I Ix (pre++[x]) N W) a' W)
  (S:∀(D:Nat) (N:Nat->Prop) (W:jF),w.1.size<=D->¬N D->I (L,N) W->W.1[D]? =jB (.deferred (jB []))->Q .normal {a with defers:={target:=.collected D,args:=#[]}::a.defers} W)
  (T:∀(D:Nat) (c:Code) (pre:List α) (N:Nat->Prop) (W:jF),w.1.size<=D->¬N D->pre<+:L->Ix c (pre,N) W->W.1[D]? =jB (.deferred (jB []))->c.wpIn F n P Q {a with defers:={target:=.collected D,args:=#[]}::a.defers} W):
  (Code.rangeFunc g ps assign body).wpIn F n P Q a w:=by
 apply wpIn_rangeFunc;intro fn ag;rw[a8];obtain⟨rec,d⟩:∃rec:LoopState->Option _->Loop,rec=λst pe=>{state:=st,pending:=pe,fn,tmps:=a.tmps,params:=ps,assign,body,defers:=w.1.size}:=⟨_,rfl⟩
 obtain⟨W1,y⟩:=xQ ((w.alloc (.deferred (jB []))).alloc (.loop (rec .ready jC)))
 have az:W1.1[w.1.size+1]? =jB (.loop (rec .ready jC)):=by
  rw[<-y];have:=jF.alloc_heap_new (w.alloc (.deferred (jB []))) (.loop (rec .ready jC));rwa [jF.size_alloc]at this
 have aA:W1.1[w.1.size]? =jB (.deferred (jB [])):=by
  rw[<-y];exact(Below.heap_alloc _ _ _ ς).trans (jF.alloc_heap_new w _)
 have aB:I ([],M) W1:=by rw[<-y];exact Z.alloc _ (Z.alloc _ h0)
 have ah:qW (λ_=>False) w W1:=by
  rw[<-y];exact((qW.refl _ _).alloc _).alloc _
 have aC:W1.1.size=w.1.size+2:=by rw[<-y];simp
 refine⟨w.1.size+1,[{target:=.collected w.1.size,args:=#[]}],W1,{target:=.fn (.func gf) lb,args:=#[.func (.yield (w.1.size+1)) #[] #[]]},W1,gf,
  #[.func (.yield (w.1.size+1)) #[] #[]]++lb,W1,?_,?_,?_,?_,λ_=>h1,?_⟩
 ·rw[<-y,d];exact run_enterLoop_outer _ _ _ _ _
 ·simp only[resolve,hg];simp[go_sem]
 ·intro f' aj;simp[Target.leads]at aj;grind
 ·simp[invoke,go_sem,eg]
 ·refine(a1 (w.1.size+1)
   (λs W=>∃N,s.2=ext (w.1.size+1) N/\(∀k,N k->k<W.1.size)/\(¬N (w.1.size+1)/\¬N w.1.size)/\I (s.1,N) W/\W.1[w.1.size+1]? =jB (.loop (rec .ready jC))/\W.1[w.1.size]? =jB (.deferred (jB [])))
   (λs W=>∃c N,s.2=ext (w.1.size+1) N/\¬N w.1.size/\Ix c (s.1,N) W/\W.1[w.1.size+1]? =jB (.loop (rec .done (jB c)))/\W.1[w.1.size]? =jB (.deferred (jB [])))
   _ ah ω ω
   (λs A B row hs i j=>by
    obtain⟨N,e,U,ak,hi,hl,z⟩:=hs
    exact⟨N,e,λk h=>jh (U k h) i.size,ak,Z _ A B _ hi i (λr e=>⟨by have:=(j r e).1;omega,(j r e).2⟩),
     (i.block _ (aI.1 hl).1 (λe=>by have:=(j _ e.symm).1;omega)).trans hl,
     (i.block _ (aI.1 z).1 (λe=>by have:=(j _ e.symm).1;omega)).trans z⟩)
   (λs A B row hs i j=>by
    obtain⟨c,N,e,hn,hc,hl,z⟩:=hs
    exact⟨c,N,e,hn,G c _ A B _ hc i (λr e=>⟨by have:=(j r e).1;omega,(j r e).2⟩),
     (i.block _ (aI.1 hl).1 (λe=>by have:=(j _ e.symm).1;omega)).trans hl,
     (i.block _ (aI.1 z).1 (λe=>by have:=(j _ e.symm).1;omega)).trans z⟩)
   ?_ γ).mono ?_
  ·-- ONE ROUND
   rintro pre x _ W ⟨N,rfl,hN,⟨n1,n2⟩,hi,hl,z⟩ hlen;have U:=(aI.1 hl).1;have hy:=run_yield (P:=P) hl (by rw[d];exact ad x);rw[d]at hy;refine⟨_,_,_,body,hy,roundIn_of_wpIn ag (H _ pre x N W _ hi hlen ?_)⟩;intro a' Wa J ao aq;replace hl:=(J.block _ U n1).trans hl;replace z:=(J.block _ ω n2).trans z;have a6:=(aI.1 hl).1;refine⟨_,run_beginRound hl (by rw[d]),?_⟩;obtain⟨V,C⟩:=xQ (Wa.putObj (w.1.size+1) (.loop {rec .ready jC with state:=.busy}));have X:V.1[w.1.size+1]? =jB (.loop {rec .ready jC with state:=.busy}):=by rw[<-C];exact jF.putObj_heap_same a6
   have ar:V.1[w.1.size]? =jB (.deferred (jB [])):=by rw[<-C];exact(jF.putObj_heap_other ω).trans z
   have a7:BL (ext (w.1.size+1) N) W (ext (w.1.size+1) N) V:=by
    rw[<-C];exact BL.P8 ((J.wide (λ_ h=>.inl h)).putObj _ (λ_=>.inr rfl)) (λk h=>h.elim (hN k) ω)
   have Y:=(aI.1 X).1;have au:I (pre,N) V:=by rw[<-C];exact Z.putObj _ ao ω hl rfl
   have av:Ax x a' V:=by rw[<-C];exact(af x _).putObj (s:=()) _ aq ω hl rfl
   have aw:∀k,N k->k<V.1.size:=λk h=>by have h1:=hN k h;have h2:=a7.uQ.size;omega
   rw[C];apply wpIn_mono (R _ _ x N _ _ ω n1 ⟨_,X⟩ aw au av hlen)
   have fin:∀(jump:Option Code) (N':Nat->Prop) (O:jF),BL N V N' O->
     (Instr.endRound (w.1.size+1) jump).run P O=.ok (jI jump.isNone) (O.putObj (w.1.size+1) (.loop (rec (if jump.isNone then .ready else .done) jump)))/\
     O.1[w.1.size+1]? =jB (.loop {rec .ready jC with state:=.busy})/\
     (O.putObj (w.1.size+1) (.loop (rec (if jump.isNone then .ready else .done) jump))).1[w.1.size+1]? =jB (.loop (rec (if jump.isNone then .ready else .done) jump))/\
     (O.putObj (w.1.size+1) (.loop (rec (if jump.isNone then .ready else .done) jump))).1[w.1.size]? =jB (.deferred (jB []))/\
     BL (ext (w.1.size+1) N) W (ext (w.1.size+1) N') (O.putObj (w.1.size+1) (.loop (rec (if jump.isNone then .ready else .done) jump))):=λjump N' O b=>by
    have f:=(b.uQ.block _ Y n1).trans X;have:=run_endRound (P:=P) jump f;rw[d]at this⊢;refine⟨this,by rwa [d]at f,jF.putObj_heap_same (aI.1 f).1,(jF.putObj_heap_other ω).trans ((b.uQ.block _ ω n2).trans ar),?_⟩;exact(a7.trans (b.ext Y)).CQ ((qW.refl _ _).putObj _ (λ_=>.inr rfl))
   rintro e a3 O hp;cases e with
   |normal=>
    obtain⟨N',b,o⟩:=hp;obtain⟨j,f,q,u,m⟩:=fin jC _ _ b;exact⟨_,_,j,_,m,.inl ⟨rfl,_,rfl,λk h=>m.lt k (.inl h),⟨b.not Y n1,b.not ω n2⟩,Z.putObj _ o ω f rfl,q,u⟩⟩
   |ret=>
    obtain⟨N',b,o⟩:=hp;obtain⟨j,f,q,u,m⟩:=fin (jB .ret) _ _ b;exact⟨_,_,j,_,m,.inr ⟨rfl,_,_,rfl,b.not ω n2,(G _).putObj _ o ω f rfl,q,u⟩⟩
   |exit id=>
    obtain⟨N',b,o⟩:=hp;obtain⟨j,f,q,u,m⟩:=fin (jB (.exit id)) _ _ b;exact⟨_,_,j,_,m,.inr ⟨rfl,_,_,rfl,b.not ω n2,(G _).putObj _ o ω f rfl,q,u⟩⟩
   |goto t=>
    obtain⟨N',b,o⟩:=hp;obtain⟨j,f,q,u,m⟩:=fin (jB (.goto t)) _ _ b;exact⟨_,_,j,_,m,.inr ⟨rfl,_,_,rfl,b.not ω n2,(G _).putObj _ o ω f rfl,q,u⟩⟩
   |panic ch=>exact hp.elim
   |outgrown=>exact hp.elim
  ·-- BEHIND THE ITERATOR
   rintro e W2 ⟨⟨v,rfl⟩,(⟨_,N,rfl,_,⟨_,n2⟩,hi,hl,z⟩|⟨pre,_,ax,c,N,rfl,n2,hi,hl,z⟩)⟩
   ·exact⟨_,_,by have:=run_endLoop (P:=P) hl γ;rwa [d]at this,S _ N _ lR n2 (Z.putObj _ hi ω hl rfl) ((jF.putObj_heap_other ω).trans z)⟩
   ·exact⟨_,_,by have:=run_endLoop (P:=P) hl γ;rwa [d]at this,T _ c _ N _ lR n2 ax ((G c).putObj _ hi ω hl rfl) ((jF.putObj_heap_other ω).trans z)⟩
def marksOf (Ds:List Nat):List Deferred:=Ds.map λD=>{target:=.collected D,args:=#[]}
def Marks (B:Nat)(Ds:List Nat)(W:jF):Prop:=Ds.Nodup/\∀D∈Ds,B<=D/\W.1[D]? =jB (.deferred (jB []))
theorem Marks.nil (B W):Marks B [] W:=⟨List.nodup_nil,λ_ h=>γ⟩
theorem Marks.cons (h:Marks B Ds W)(c:B<=D)(d:W.1[D]? =jB (.deferred (jB [])))(b:D∉Ds):Marks B (D::Ds) W:=
 ⟨og.2 ⟨b,h.1⟩,λE a=>by rcases jk.1 a with rfl|a;grind;exact h.2 E a⟩
theorem Marks.lt (h:Marks B Ds W)(a:D∈Ds):D<W.1.size:=(aI.1 (h.2 D a).2).1
theorem Marks.uQ (h:Marks B Ds W)(b:qW M W W')(c:∀D∈Ds,¬M D):Marks B Ds W':=
 ⟨h.1,λD a=>⟨(h.2 D a).1,(b.block D (h.lt a) (c D a)).trans (h.2 D a).2⟩⟩
theorem Ld {fn:Func}{tmps:Array Value}{K:jF->Prop}(d:OwnFrom B (λ(_:Unit) W=>K W))(f:∀W,K W->LeavesIn F n P fn tmps R [] .returning W):
  ∀(Ds:List Nat) (W:jF),Marks B Ds W->K W->LeavesInM F n P fn tmps R (marksOf Ds) .returning W:=by
 intro Ds;induction Ds with
 |nil=>intro W _ b;exact f W b
 |cons D Ds g=>
  intro W hm b;have c:=hm.2 D (ji ..);refine⟨ς,.inl ⟨D,_,rfl,run_takeDeferred c.2,g _ ⟨(og.1 hm.1).2,λE h=>?_⟩ (d.putObj (s:=()) _ b c.1 c.2 rfl)⟩⟩;have a:=hm.2 E (jc _ h);exact⟨a.1,(jF.putObj_heap_other (λe=>(og.1 hm.1).1 γ)).trans a.2⟩
def ajq {α:Type}(F:Fence)(n:Nat)(P:Program)(g:Nat)(lb:Array Value)(R:α->(Nat->Prop)->Array Value->jF->Prop)(M:Nat->Prop)(L:List α)(w:jF):Prop:=
 ∀(l:Nat) (J Jx:List α×(Nat->Prop)->jF->Prop) (W:jF),qW (λ_=>False) w W->w.1.size<=l->l<W.1.size->OwnFrom W.1.size J->OwnFrom W.1.size Jx->
  (∀pre x N args W1,J (pre,N) W1->R x N args W1->pre++[x]<+:L->YieldAt F (n-1) P l args W1 λe W'=>∃N',BL N W1 N' W'/\
   ((e=.returned (jI jD)/\J (pre++[x],N') W')\/(e=.returned (jI jE)/\Jx (pre++[x],N') W')))->
  J ([],ext l M) W->
  CallsIn F n P g (#[.func (.yield l) #[] #[]]++lb) W λe W'=>(∃v,e=.returned v)/\((∃N,J (L,N) W')\/(∃pre N,pre<+:L/\Jx (pre,N) W'))
variable {F:Fence}{n:Nat}{P:Program}
theorem LV {g:Operand}
  (ad:F.round=jC)(h1:1<=n)(hg:a.eval g=.func (.func gf) #[] lb)(af:F.fn gf)(eg:∀args w,(callFunc gf args).run P w=.ok (.enter gf args) w)
  {R:α->(Nat->Prop)->Array Value->jF->Prop}{L:List α}(a1:ajq F (n-1) P gf lb R M L w)(hM:∀k,M k->k<w.1.size)(ag:∀x N args W,R x N args W->args.size=ps.size)(ah:∀x N N' args W,(∀k,N k->N' k)->R x N' args W->R x N args W)
  (I:List α×(Nat->Prop)->jF->Prop)(Ix:Code->List α×(Nat->Prop)->jF->Prop)(hI:OwnFrom w.1.size I)(G:∀c,OwnFrom w.1.size (Ix c))(h0:I ([],M) w)(Ax:α->Act->jF->Prop)(aj:∀x a',OwnFrom w.1.size (λ(_:Unit) W=>Ax x a' W))
  (H:∀(l:Nat) (pre:List α) (x:α) (N:Nat->Prop) (args:Array Value) (W:jF) (K:Act->jF->Prop),I (pre,N) W->R x N args W->pre++[x]<+:L->(∀a' W',qW N W W'->I (pre,N) W'->Ax x a' W'->K a' W')->
   assign.wpIn (F.inRound l) (n-1-1) P (Exit.then K (λ_ _ _=>False)) {tmps:=(ps.zip args).foldl (λt (p,v)=>t.setIfInBounds p v) a.tmps,defers:=[]} W)
  (S:∀(l:Nat) (pre:List α) (x:α) (N:Nat->Prop) (a':Act) (W:jF),w.1.size<=l->¬N l->(∃r,W.1[l]? =jB (.loop r))->(∀k,N k->k<W.1.size)->I (pre,N) W->Ax x a' W->pre++[x]<+:L->body.wpIn (F.inRound l) (n-1-1) P (aeQ I Ix (pre++[x]) N W) a' W)
  (T:∀(D:Nat) (N:Nat->Prop) (W:jF),w.1.size<=D->¬N D->I (L,N) W->W.1[D]? =jB (.deferred (jB []))->Q .normal {a with defers:={target:=.collected D,args:=#[]}::a.defers} W)
  (U:∀(D:Nat) (c:Code) (pre:List α) (N:Nat->Prop) (W:jF),w.1.size<=D->¬N D->pre<+:L->Ix c (pre,N) W->W.1[D]? =jB (.deferred (jB []))->c.wpIn F n P Q {a with defers:={target:=.collected D,args:=#[]}::a.defers} W):
  (Code.rangeFunc g ps assign body).wpIn F n P Q a w:=by
 refine wpIn_rangeFunc ?_;intro fn ak;rw[ad];obtain⟨rec,d⟩:∃rec:LoopState->Option Code->Loop,rec=λst pe=>{state:=st,pending:=pe,fn,tmps:=a.tmps,params:=ps,assign,body,defers:=w.1.size}:=⟨_,rfl⟩
 obtain⟨W1,y⟩:=xQ ((w.alloc (.deferred (jB []))).alloc (.loop (rec .ready jC)))
 have ao:W1.1[w.1.size+1]? =jB (.loop (rec .ready jC)):=by
  rw[<-y];have:=jF.alloc_heap_new (w.alloc (.deferred (jB []))) (.loop (rec .ready jC));rwa [jF.size_alloc]at this
 have aq:W1.1[w.1.size]? =jB (.deferred (jB [])):=by
  rw[<-y];exact(Below.heap_alloc _ _ _ ς).trans (jF.alloc_heap_new w _)
 have ar:I ([],M) W1:=by rw[<-y];exact hI.alloc _ (hI.alloc _ h0)
 have au:qW (λ_=>False) w W1:=by
  rw[<-y];exact((qW.refl _ _).alloc _).alloc _
 have aD:W1.1.size=w.1.size+2:=by rw[<-y];simp
 refine⟨w.1.size+1,[{target:=.collected w.1.size,args:=#[]}],W1,{target:=.fn (.func gf) lb,args:=#[.func (.yield (w.1.size+1)) #[] #[]]},W1,gf,
  #[.func (.yield (w.1.size+1)) #[] #[]]++lb,W1,?_,?_,?_,?_,λ_=>h1,?_⟩
 ·rw[<-y,d];exact run_enterLoop_outer _ _ _ _ _
 ·simp only[resolve,hg];simp[go_sem]
 ·intro f' a6;simp[Target.leads]at a6;subst a6;exact af
 ·simp[invoke,go_sem,eg]
 ·refine(a1 (w.1.size+1)
   (λs W=>∃N,s.2=ext (w.1.size+1) N/\(∀k,N k->k<W.1.size)/\(¬N (w.1.size+1)/\¬N w.1.size)/\I (s.1,N) W/\W.1[w.1.size+1]? =jB (.loop (rec .ready jC))/\W.1[w.1.size]? =jB (.deferred (jB [])))
   (λs W=>∃c N,s.2=ext (w.1.size+1) N/\¬N w.1.size/\Ix c (s.1,N) W/\W.1[w.1.size+1]? =jB (.loop (rec .done (jB c)))/\W.1[w.1.size]? =jB (.deferred (jB [])))
   W1 au ω ω
   (λs A B row hs i j=>by
    obtain⟨N,e,V,av,hi,hl,z⟩:=hs
    exact⟨N,e,λk h=>jh (V k h) i.size,av,hI _ A B row hi i (λr e=>⟨by have:=(j r e).1;omega,(j r e).2⟩),
     (i.block _ (aI.1 hl).1 (λe=>by have:=(j _ e.symm).1;omega)).trans hl,
     (i.block _ (aI.1 z).1 (λe=>by have:=(j _ e.symm).1;omega)).trans z⟩)
   (λs A B row hs i j=>by
    obtain⟨c,N,e,hn,hc,hl,z⟩:=hs
    exact⟨c,N,e,hn,G c _ A B row hc i (λr e=>⟨by have:=(j r e).1;omega,(j r e).2⟩),
     (i.block _ (aI.1 hl).1 (λe=>by have:=(j _ e.symm).1;omega)).trans hl,
     (i.block _ (aI.1 z).1 (λe=>by have:=(j _ e.symm).1;omega)).trans z⟩)
   ?_ ⟨M,rfl,λk h=>by have:=hM k h;omega,⟨λh=>by have:=hM _ h;omega,λh=>by have:=hM _ h;omega⟩,ar,ao,aq⟩).mono ?_
  ·-- ONE ROUND
   rintro pre x _ args W ⟨N,rfl,hN,⟨n1,n2⟩,hi,hl,z⟩ O hlen;replace O:=ah x N _ args W (λk h=>.inl h) O;have V:=(aI.1 hl).1;have hy:=run_yield (P:=P) (args:=args) hl (by rw[d];exact ag x _ _ _ O);rw[d]at hy;refine⟨fn,_,assign,body,hy,roundIn_of_wpIn ak (H _ pre x N args W _ hi O hlen ?_)⟩;clear hy;intro a' Wa J aw ax;replace hl:=(J.block _ V n1).trans hl;replace z:=(J.block _ ω n2).trans z;have a7:=(aI.1 hl).1;refine⟨_,run_beginRound hl (by rw[d]),?_⟩;obtain⟨X,C⟩:=xQ (Wa.putObj (w.1.size+1) (.loop {rec .ready jC with state:=.busy}));have Y:X.1[w.1.size+1]? =jB (.loop {rec .ready jC with state:=.busy}):=by rw[<-C];exact jF.putObj_heap_same a7
   have ay:X.1[w.1.size]? =jB (.deferred (jB [])):=by rw[<-C];exact(jF.putObj_heap_other ω).trans z
   have a8:BL (ext (w.1.size+1) N) W (ext (w.1.size+1) N) X:=by
    rw[<-C];exact BL.P8 ((J.wide (λ_ h=>.inl h)).putObj _ (λ_=>.inr rfl)) (λk h=>h.elim (hN k) (λe=>ω))
   have Z:=(aI.1 Y).1;have az:I (pre,N) X:=by rw[<-C];exact hI.putObj _ aw ω hl rfl
   have aA:Ax x a' X:=by rw[<-C];exact(aj x a').putObj (s:=()) _ ax ω hl rfl
   have aB:∀k,N k->k<X.1.size:=λk h=>by have h1:=hN k h;have h2:=a8.uQ.size;omega
   show body.wpIn _ _ _ _ a' (Wa.putObj (w.1.size+1) (.loop {rec .ready jC with state:=.busy}));rw[C];refine wpIn_mono (S _ pre x N a' _ ω n1 ⟨_,Y⟩ aB az aA hlen) ?_
   have fin:∀(jump:Option Code) (N':Nat->Prop) (E:jF),BL N X N' E->
     (Instr.endRound (w.1.size+1) jump).run P E=.ok (jI jump.isNone) (E.putObj (w.1.size+1) (.loop (rec (if jump.isNone then .ready else .done) jump)))/\
     E.1[w.1.size+1]? =jB (.loop {rec .ready jC with state:=.busy})/\
     (E.putObj (w.1.size+1) (.loop (rec (if jump.isNone then .ready else .done) jump))).1[w.1.size+1]? =jB (.loop (rec (if jump.isNone then .ready else .done) jump))/\
     (E.putObj (w.1.size+1) (.loop (rec (if jump.isNone then .ready else .done) jump))).1[w.1.size]? =jB (.deferred (jB []))/\
     BL (ext (w.1.size+1) N) W (ext (w.1.size+1) N') (E.putObj (w.1.size+1) (.loop (rec (if jump.isNone then .ready else .done) jump))):=λjump N' E b=>by
    have f:=(b.uQ.block _ Z n1).trans Y;have:=run_endRound (P:=P) jump f;rw[d]at this⊢;refine⟨this,by rw[d]at f;exact f,jF.putObj_heap_same (aI.1 f).1,(jF.putObj_heap_other ω).trans ((b.uQ.block _ ω n2).trans ay),?_⟩;exact(a8.trans (b.ext Z)).CQ ((qW.refl _ _).putObj _ (λ_=>.inr rfl))
   rintro e a3 E hp;cases e with
   |normal=>
    obtain⟨N',b,o⟩:=hp;obtain⟨j,f,q,u,m⟩:=fin jC N' E b;exact⟨_,_,j,_,m,.inl ⟨rfl,N',rfl,λk h=>m.lt k (.inl h),⟨b.not Z n1,b.not ω n2⟩,hI.putObj _ o ω f rfl,q,u⟩⟩
   |ret=>
    obtain⟨N',b,o⟩:=hp;obtain⟨j,f,q,u,m⟩:=fin (jB .ret) N' E b;exact⟨_,_,j,_,m,.inr ⟨rfl,.ret,N',rfl,b.not ω n2,(G _).putObj _ o ω f rfl,q,u⟩⟩
   |exit id=>
    obtain⟨N',b,o⟩:=hp;obtain⟨j,f,q,u,m⟩:=fin (jB (.exit id)) N' E b;exact⟨_,_,j,_,m,.inr ⟨rfl,.exit id,N',rfl,b.not ω n2,(G _).putObj _ o ω f rfl,q,u⟩⟩
   |goto t=>
    obtain⟨N',b,o⟩:=hp;obtain⟨j,f,q,u,m⟩:=fin (jB (.goto t)) N' E b;exact⟨_,_,j,_,m,.inr ⟨rfl,.goto t,N',rfl,b.not ω n2,(G _).putObj _ o ω f rfl,q,u⟩⟩
   |panic ch=>exact hp.elim
   |outgrown=>exact hp.elim
  ·-- BEHIND THE ITERATOR
   rintro e W2 ⟨⟨v,rfl⟩,(⟨_,N,rfl,_,⟨_,n2⟩,hi,hl,z⟩|⟨pre,_,aC,c,N,rfl,n2,hi,hl,z⟩)⟩
   ·exact⟨jC,_,by have:=run_endLoop (P:=P) hl (by rw[d];simp);rw[d]at this;exact this,T _ N _ lR n2 (hI.putObj _ hi ω hl rfl) ((jF.putObj_heap_other ω).trans z)⟩
   ·exact⟨jB c,_,by have:=run_endLoop (P:=P) hl (by rw[d];simp);rw[d]at this;exact this,U _ c pre N _ lR n2 aC ((G c).putObj _ hi ω hl rfl) ((jF.putObj_heap_other ω).trans z)⟩
theorem Ue (E x):∃m,ED E x m:=by
 have key:∀n m,m<=n->Rk E x m->∃m,ED E x m:=by
  intro n;induction n with
  |zero=>exact λm hm h=>⟨m,h,λy _=>ω⟩
  |succ n b=>
   intro m hm h;by_cases hex:∃y,y<m/\Rk E x y
   ·obtain⟨y,hy,a⟩:=hex;exact b y ω a
   ·exact⟨m,h,λy hy=>pE (λhl=>hex ⟨y,hl,hy⟩)⟩
 exact key x x lR (Rk.refl E x)
noncomputable def Kk (E:List (List Nd)):List Nat:=(ζ (η E)).map (λx=>Classical.choose (Ue E x))
theorem Mv (E):DV E (Kk E):=by
 refine⟨by simp[Kk],λx a=>?_⟩;have:(Kk E).getD x 0=Classical.choose (Ue E x):=by simp[Kk,θ,a]
 rw[this];exact Classical.choose_spec (Ue E x)
theorem DV.eq (h:DV E of):of=Kk E:=by
 refine jw (by rw[h.len,(Mv E).len]) (λi a d=>?_);have b:=h.at_ i (by rw[<-h.len];exact a);have c:=(Mv E).at_ i (by rw[<-h.len];exact a);rw[gD,gE a]at b;rw[gD,gE d]at c;exact b.uniq c
noncomputable def Gp (E:List (List Nd))(ins:List Nat)(s:Nat):List (List Nat):=(sO (Kk E)).filter (Gn E ins s)
noncomputable def Le (E:List (List Nd))(ins:List Nat)(s:Nat):List Bool:=Ij (η E) E (WY E ins s (sO (Kk E)))
theorem afF {s:Nat}(a:x<η E):(Le E ins s).getD x jE=jD↔Runs E (LC ins s) x:=Wz (Mv E) a
theorem aay {l:List Nat}(hl:l∈sO (Kk E)):∀x∈l,x<η E:=by
 obtain⟨m, -, -,h⟩:=PZ (Mv E) hl;exact λx a=>((h x).1 a).1
theorem V3 {l:List Nat}(hl:l∈sO (Kk E)):η l<=η E:=by
 unfold sO at hl;obtain⟨m, -,rfl⟩:=jg.1 hl;unfold Mf;have:=jO (λi=>(Kk E).getD i 0==m) (ζ (η (Kk E)));rw[kL]at this;rw[(Mv E).len]at this⊢;exact this
theorem acv (E):η (sO (Kk E))<=η E:=by
 unfold sO VQ;rw[jr];have:=jO (λi=>(Kk E).getD i 0==i) (ζ (η (Kk E)));rw[kL]at this;rw[(Mv E).len]at this⊢;exact this
structure yX (w:jF)(B:Nat)(ai:Option Addr)(ni ci:Nat)(ae:Option Addr)(ne ce:Nat)(al:Option Addr)(nl cl:Nat)(ac:Option Addr)(nc cc:Nat)(I:List Int)(E:List (List Nd))(L ins:List Nat):Prop where
 g:DW w B ai ni ci ae ne ce al nl cl ⟨I,E,L.map (λ(x:Nat)=>(x:Int))⟩
 i:Sl w B 1 ac nc cc (um ins)
section
variable {w w':jF}{B B' ni ci ne ce nl cl nc cc:Nat}{ai ae al ac:Option Addr}{I:List Int}{E:List (List Nd)}{L ins:List Nat}
theorem yX.below (h:yX w B ai ni ci ae ne ce al nl cl ac nc cc I E L ins)(hb:Below B' w w')(a:B<=B'):yX w' B ai ni ci ae ne ce al nl cl ac nc cc I E L ins:=⟨h.g.below hb a,h.i.below hb a⟩
theorem yX.up (h:yX w B ai ni ci ae ne ce al nl cl ac nc cc I E L ins)(a:B<=B'):yX w B' ai ni ci ae ne ce al nl cl ac nc cc I E L ins:=⟨h.g.up a,h.i.up a⟩
theorem yX.eni (h:yX w B ai ni ci ae ne ce al nl cl ac nc cc I E L ins):ni=η I:=h.g.lens.1
theorem yX.ene (h:yX w B ai ni ci ae ne ce al nl cl ac nc cc I E L ins):ne=η E:=h.g.lens.2.1
theorem yX.enl (h:yX w B ai ni ci ae ne ce al nl cl ac nc cc I E L ins):nl=η L:=by have:=h.g.lens.2.2;simpa using this
theorem yX.enc (h:yX w B ai ni ci ae ne ce al nl cl ac nc cc I E L ins):nc=η ins:=by have:=h.i.len;rw[M5]at this;omega
end
theorem LG.open_ {w':jF}{e:Ending}(h:LG I E L ins all w e w'):
  ∃ai ni ci ae ne ce al nl cl ac nc cc,e=.returned (.agg #[iX ai ni ci,iX ae ne ce,iX al nl cl,iX ac nc cc,iY jA (all:Int)])/\yX w' w'.1.size ai ni ci ae ne ce al nl cl ac nc cc I E L ins/\Below w.1.size w w':=by
 obtain⟨vi,ve,vs,vl,vn,rfl,a,b,c,d,f⟩:=h;obtain⟨ai,ci,rfl,hi⟩:=qX a;obtain⟨ae,ce,rfl,he⟩:=b.sl2;obtain⟨al,cl,rfl,hl⟩:=qX c;obtain⟨ac,cc,rfl,hc⟩:=qX d;refine⟨ai,_,ci,ae,_,ce,al,_,cl,ac,_,cc,rfl,⟨⟨hi,he,?_⟩,hc⟩,f⟩;have:(L.map (λ(x:Nat)=>(x:Int))).map (Value.int jA)=um L:=by simp[um]
 rw[this];exact hl
theorem T9 (base e size u n xs B):OwnFrom B (λ(_:Unit) W=>W.ownsRow base e size u n xs):=by
 intro s X Y row c f a;refine c.kept f ?_;rcases c.2 with⟨rfl,_⟩|⟨g,cap,cur,rfl,_,b,_⟩
 ·exact .inl rfl
 ·refine .inr λh=>?_
  obtain⟨-,o,d,hc⟩:=a g (by simpa[Value.ownBlock]using h.symm);rw[b]at d;cases d;cases hc
def Kh (x:List Nat)(N:Nat->Prop)(args:Array Value)(W:jF):Prop:=
 ∃u,args=#[u]/\W.ownsRow 0 3 1 u (η x) (qO (iE x))/\∀g,u.ownBlock=jB g->¬N g
theorem Kh.mono {x:List Nat}{N N':Nat->Prop}(a:∀k,N k->N' k)(h:Kh x N' args W):Kh x N args W:=by
 obtain⟨u,b,c,d⟩:=h;exact⟨u,b,c,λg f e=>d g f (a g e)⟩
def AP (x:Nat):List Nat:=(ζ 64).filter x.testBit
theorem Z6:AP 0=[]:=by simp[AP]
theorem Xn (a:x≠0)(h:x<2^64):∃m,x=2^Lib.ctz 64 x*(2*m+1)/\Lib.ctz 64 x<64:=by
 have e:Lib.ctz 64 x=Lib.ctzFrom 64 x:=by simp[Lib.ctz,a]
 rw[e];exact Lib.ctzFrom_spec 64 x ω h
theorem Qa:(2^k*(2*m+1)).testBit i=(decide (k<=i)&&(decide (i=k)||(2*m).testBit (i-k))):=by
 rw[qF,Nat.testBit_mul_two_pow];by_cases h:k<=i
 ·simp only[h,decide_true,lH];obtain⟨j,rfl⟩:∃j,i=k+j:=⟨i-k,ω⟩;rw[show k+j-k=j by omega];rcases j with _|j
  ·simp
  ·rw[Nat.testBit_succ,Nat.testBit_succ,show(2*m+1)/2=m by omega,show 2*m/2=m by omega];have:¬(k+(j+1)=k):=ω;simp
 ·simp[h]
theorem ae6 (c:x≠0)(h:x<2^64):(x&&&(x-1)).testBit i=(x.testBit i&&decide (i≠Lib.ctz 64 x)):=by
 obtain⟨m,hm,d⟩:=Xn c h;generalize Lib.ctz 64 x=k at *
 have a:x-1=2^k*(2*m)+(2^k-1):=by
  have:=Nat.two_pow_pos k;rw[hm,Nat.mul_add];omega
 rw[lF,a,Nat.testBit_two_pow_mul_add _ (by have:=Nat.two_pow_pos k;omega),hm,Qa];by_cases hi:i<k
 ·have:¬k<=i:=ω;simp[this]
 ·have b:k<=i:=ω;by_cases he:i=k
  ·subst he;simp[Nat.testBit_zero]
  ·simp[hi,b,he]
theorem aiR (h:x<2^64):x&&&(x-1)<2^64:=kJ oO h
theorem adx (d:x≠0)(h:x<2^64):AP x=Lib.ctz 64 x::AP (x&&&(x-1)):=by
 obtain⟨m,hm,l⟩:=Xn d h;have a:=λi=>ae6 (i:=i) d h
 have b:∀i,i<Lib.ctz 64 x->x.testBit i=jE:=by
  intro i hi;rw[hm,Qa];have:¬Lib.ctz 64 x<=i:=ω;simp[this]
 have c:x.testBit (Lib.ctz 64 x)=jD:=by
  have e:=Qa (k:=Lib.ctz 64 x) (m:=m) (i:=Lib.ctz 64 x);rw[<-hm]at e;rw[e];simp
 generalize Lib.ctz 64 x=k at *
 have f:ζ 64=ζ k++(k::List.range' (k+1) (63-k)):=by
  have g:ζ 64=ζ k++List.range' k (64-k):=by
   rw[o9,o9,show 64=k+(64-k) by omega,<-List.range'_append_1];simp
  rw[g,show 64-k=(63-k)+1 by omega,List.range'_succ]
 unfold AP;rw[f,ku,ku,kW,kW]
 have e1:(ζ k).filter x.testBit=[]:=by
  rw[nL];intro i hi;rw[b i (jl.1 hi)];simp
 have e2:(ζ k).filter (x&&&(x-1)).testBit=[]:=by
  rw[nL];intro i hi;rw[a,b i (jl.1 hi)];simp
 have j:(List.range' (k+1) (63-k)).filter (x&&&(x-1)).testBit=(List.range' (k+1) (63-k)).filter x.testBit:=by
  apply o7;intro i hi;rw[a];have:=(List.mem_range'_1.1 hi).1;have:i≠k:=ω;simp[this]
 rw[e1,e2,j,c,a k];simp
def b1 (r:Nat):Nat:=((r/2)&&&85)+(r&&&85)
def b2 (r:Nat):Nat:=((r/4)&&&51)+(r&&&51)
def xH (x y:Nat):Nat:=x&&&(2^64-(y+1))
theorem DR (a:x<2^64)(hy:y<2^64)(i):(xH x y).testBit i=(x.testBit i&& !y.testBit i):=by
 rw[xH,lF,Nat.testBit_two_pow_sub_succ hy];by_cases h:i<64
 ·simp[h]
 ·rw[Nat.testBit_lt_two_pow (jh a (lI ω ω))];rfl
theorem SV (y)(a:x<2^64):xH x y<2^64:=kJ oO a
theorem aic (a:x<2^64)(hy:y<2^64):bits .and jA (x:Int) (y:Int)=((x&&&y:Nat):Int):=by
 have hand:x&&&y<2^64:=kJ oO a;show IntKind.u64.wrap ((BitVec.ofInt 64 (x:Int)&&&BitVec.ofInt 64 (y:Int)).toNat:Int)= _;rw[mY,jW,ko,jW,ko,j5 a,j5 hy,IntKind.wrap_u64];omega
theorem Kg (a:x<2^64)(hy:y<2^64):bits .andNot jA (x:Int) (y:Int)=((xH x y:Nat):Int):=by
 have hb:=SV y a;show IntKind.u64.wrap ((BitVec.ofInt 64 (x:Int)&&& ~~~ BitVec.ofInt 64 (y:Int)).toNat:Int)= _;rw[mY,BitVec.toNat_not,jW,ko,jW,ko,j5 a,j5 hy,IntKind.wrap_u64];have e:x&&&(2^64-1-y)=xH x y:=by rw[xH];congr 1;omega
 rw[e];omega
def aaS (W:List Nat)(i:Nat):List Nat:=W.set (i/64) (xH (W.getD (i/64) 0) (2^(i%64)))
def ajk (x:List Bool):List Nat:=(ζ (η x)).filter (λi=>x.getD i jE)
def Ef (W:List Nat):List Nat:=(ζ (64*η W)).filter (yU W)
def AZ (W:List Nat)(k:Nat):List Nat:=(ζ k).flatMap λj=>(AP (W.getD j 0)).map (λi=>j*64+i)
theorem FW (W k):AZ W (k+1)=AZ W k++(AP (W.getD k 0)).map (λi=>k*64+i):=by
 simp[AZ,mh]
theorem Nk (W):∀k,AZ W k=(ζ (64*k)).filter (yU W)
 |0=>by simp[AZ]
 |k+1=>by
  have a:ζ (64*(k+1))=ζ (64*k)++(ζ 64).map (λi=>k*64+i):=by
   rw[show 64*(k+1)=64*k+64 by omega,List.range_add];congr 1;exact j6 (λi _=>ω)
  rw[FW,Nk W k,a,ku,List.filter_map];congr 1;unfold AP;congr 1;apply o7;intro i hi;have hi:=jl.1 hi;simp only[Function.comp,yU];rw[show(k*64+i)/64=k by omega,show(k*64+i)%64=i by omega]
theorem R9 (W):AZ W (η W)=Ef W:=Nk W (η W)
structure FB (n:Nat)(W:List Nat)(x:List Bool):Prop where
 len:η x=n
 wl:η W=(n+63)/64
 bit:∀i,yU W i=x.getD i jE
theorem FB.nums {W:List Nat}{x:List Bool}(h:FB n W x):Ef W=ajk x:=by
 have a:n<=64*η W:=by have:=h.wl;omega
 rw[Ef,ajk,h.len,show 64*η W=n+(64*η W-n) by omega,List.range_add,ku]
 have e:((ζ (64*η W-n)).map (λi=>n+i)).filter (yU W)=[]:=by
  rw[nL];intro i hi;obtain⟨j,_,rfl⟩:=jg.1 hi;rw[h.bit,gD,jQ (by rw[h.len];omega)];simp
 rw[e,kZ];exact o7 (λi _=>h.bit i)
theorem FB.start (n):FB n (ρ ((n+63)/64) 0) (ρ n jE):=by
 refine⟨ς,ς,λi=>?_⟩
 have e1:(ρ ((n+63)/64) 0).getD (i/64) 0=0:=by
  rw[gD];by_cases h:i/64<(n+63)/64
  ·simp[h]
  ·rw[jQ (by simp;omega)];rfl
 rw[yU,e1,gD];by_cases h:i<n
 ·simp[h]
 ·rw[jQ (by simp;omega)];simp
theorem aaZ {W:List Nat}(hi:i/64<η W):yU (W.set (i/64) y) j=if j/64=i/64 then y.testBit (j%64)else yU W j:=by
 unfold yU;rw[gD,mE];by_cases h:i/64=j/64
 ·rw[jd h,jd h.symm];simp[hi]
 ·rw[d9 h,d9 (λe=>h e.symm),<-gD]
theorem FB.put {W:List Nat}{x:List Bool}(h:FB n W x)(hi:i<n):FB n (Q8 W i) (x.set i jD):=by
 have hl:i/64<η W:=by rw[h.wl];omega
 have key:∀j,yU (Q8 W i) j=(yU W j||decide (j=i)):=by
  intro j;unfold Q8;by_cases hb:yU W i=jD
  ·rw[jd hb];by_cases e:j=i
   ·subst e;simp[hb]
   ·simp[e]
  ·rw[d9 hb,aaZ hl];by_cases e:j/64=i/64
   ·rw[jd e,Nat.testBit_or,nU];unfold yU;rw[e];congr 1;rw[ou];omega
   ·rw[d9 e];have:j≠i:=λa=>e (by rw[a])
    simp[this]
 refine⟨by rw[nE,h.len],?_,λj=>?_⟩
 ·unfold Q8;split<;>simp[h.wl]
 ·rw[key,h.bit,gD,gD,mE];by_cases e:i=j
  ·subst e;simp[show i<η x by rw[h.len];exact hi]
  ·have:j≠i:=λa=>e a.symm
   simp[e,this]
theorem FB.drop {W:List Nat}{x:List Bool}(h:FB n W x)(c:∀y∈W,y<2^64)(hi:i<n):FB n (aaS W i) (x.set i jE):=by
 have hl:i/64<η W:=by rw[h.wl];omega
 have d:W.getD (i/64) 0<2^64:=by
  rw[gD,gE hl];exact c _ (mM hl)
 have hp:2^(i%64)<2^64:=oF ω (qI _ ω)
 have key:∀j,yU (aaS W i) j=(yU W j&&decide (j≠i)):=by
  intro j;unfold aaS;rw[aaZ hl];by_cases e:j/64=i/64
  ·rw[jd e,DR d hp,nU];unfold yU;rw[e];congr 1;by_cases a:j=i
   ·subst a;simp
   ·have:¬i%64=j%64:=ω;simp[a,this]
  ·rw[d9 e];have:j≠i:=λb=>e (by rw[b])
   simp[this]
 refine⟨by rw[nE,h.len],by simp[aaS,h.wl],λj=>?_⟩;rw[key,h.bit,gD,gD,mE];by_cases e:i=j
 ·subst e;simp[show i<η x by rw[h.len];exact hi]
 ·have:j≠i:=λb=>e b.symm
  simp[e,this]
set_option maxHeartbeats 2000000
set_option maxRecDepth 100000
open Go.Shelf
attribute [local go_sem] Oper.semAt_some
theorem agO (x k idx:Nat)(w)(a:((x:Int)==0)=jE)(key:IntKind.u64.wrap (bits BinOp.and IntKind.u64 (x:Int) (IntKind.u64.wrap (-(x:Int)))*285870213051353865)/288230376151711744=(idx:Int))(hi:idx<64)(b:k<64)(hcell:q9 w (0) idx (iY .u8 k)):
  Calls jJ 154 #[iY jA x] w λe w'=>e=.returned (iY iZ k)/\w'=w:=by
 go_enter Tryz.func154,Tryz.ntmps154;go_wp2_with (simp only[key])
 go_ret
 exact⟨rfl,rfl⟩
theorem aiH (x:Nat)(d:x<2^64)(a:x≠0)(w)(i:TabAt 0 Lib.deBruijn64tab w):
  Calls jJ 154 #[iY jA x] w λe w'=>e=.returned (iY iZ (Lib.ctz 64 x:Nat))/\w'=w:=by
 obtain⟨b,h⟩:=Lib.lowest_bit 64 x a d;obtain⟨hi,c⟩:=Lib.deBruijn64_at _ h;have hcell:=i _ hi;rw[c]at hcell;exact agO x _ _ w (by simp;omega) (tz64_key x _ d a b) hi h hcell
theorem N8 {a:List Nat}{B:jF}(h:TabAt g a A)(b:g<A.1.size)(hm:¬M g)(hb:qW M A B):TabAt g a B:=λj c=>bD hb b hm (h j c)
theorem ae5 (a:y≠0)(h:y<2^64):bits .and jA (y:Int) ((y:Int)-1)=((y&&&(y-1):Nat):Int):=by
 have e:(y:Int)-1=((y-1:Nat):Int):=ω;rw[e];exact aic h ω
theorem afZ (n:Nat)(L:1<=n)(l Bx x:Nat)(B:x<2^64)(M:Nat->Prop)(J w:List Nat×(Nat->Prop)->jF->Prop)
  (C:∀pre (i:Nat) N W,J (pre,N) W->pre++[i]<+:AP x->YieldAt Fence.wide (n-1) jJ l #[iY iZ (i:Int)] W λe W'=>∃N',BL N W N' W'/\
   ((e=.returned (jI jD)/\J (pre++[i],N') W')\/(e=.returned (jI jE)/\w (pre++[i],N') W')))
  (W:jF)(D:∀k,M k->k<W.1.size)(E:0<W.1.size)(r:¬M 0)(F:q9 W Bx 0 (iY jA (x:Int)))(G:TabAt 0 Lib.deBruijn64tab W)(H:J ([],M) W):
  CallsIn Fence.wide n jJ 153 #[.func (.yield l) #[] #[],jH (jB ⟨Bx,0,jC⟩)] W λe W'=>(∃v,e=.returned v)/\
   ((∃N,J (AP x,N) W')\/(∃pre N,pre<+:AP x/\w (pre,N) W')):=by
 refine callsIn_of_wp Tryz.func153 rfl trivial ?_ rfl;simp only[Tryz.ntmps153,List.size_toArray,jP,lD,Nat.reduceAdd,Nat.reduceSub,oC,oD,List.push_toArray,oJ,lM,lu];gi_wp2
 gi_loopw [3] (λp wr=>∃(pre:List Nat) (y:Nat),p=iY jA (y:Int)/\y<2^64/\AP x=pre++AP y/\∃N,J (pre,N) wr/\BL M W N wr)
  (λp _=>η (AP (intOf p).toNat))
 case atStart=>exact⟨[],x,rfl,B,rfl,M,H,BL.refl D⟩
 case round=>
  obtain⟨pre,y,rfl,c,a,N,j,m⟩:=hrel;by_cases d:y=0
  ·subst d;rw[Z6,kZ]at a;gi_wp2
   go_end0
   exact⟨⟨_,rfl⟩,.inl ⟨N,by rw[a];exact j⟩⟩
  ·have b:=adx d c;have hw:=ae5 d c;have I:((y:Int)==0)=jE:=by simp;omega
   obtain⟨fn,tmps,assign,body,hy,K⟩:=C _ (Lib.ctz 64 y) N wr j (by rw[a,b];exact⟨AP (y&&&(y-1)),ς⟩);have o:=N8 G E r m.uQ;have s:=dh (aiH y c d wr o);clear o;gi_wp2_with (refine⟨trivial,?_⟩;gi_at_call 154;refine(callsIn_wide.2 s.out).mono ?_;rintro e w' ⟨rfl,rfl⟩)
   refine K.mono ?_;rintro e O ⟨z,t,(⟨rfl,u⟩|⟨rfl,q⟩)⟩
   ·-- THE ROUND GOES ON
    gi_wp2
    go_roundw
    case rel=>exact⟨pre++[Lib.ctz 64 y],y&&&(y-1),rfl,aiR c,by rw[a,b];simp,z,u,m.trans t⟩
    case measure=>simp only[intOf,tN];rw[b];simp
   ·gi_wp2
    refine bodyPost_ret (results_none rfl _ _ _) rfl ?_;exact⟨⟨_,rfl⟩,.inr ⟨pre++[Lib.ctz 64 y],z,⟨AP (y&&&(y-1)),by rw[a,b];simp⟩,q⟩⟩
theorem afY (x:Nat)(w):
  Calls jJ 126 #[iY jA (x:Int)] w λe w'=>e=.returned (.func (.func 153) #[] #[jH (jB ⟨w.1.size,0,jC⟩)])/\w'=w.alloc (jG #[iY jA (x:Int)] 45):=by
 go_enter Tryz.func126,Tryz.ntmps126;go_wp2
 go_ret
 exact⟨rfl,rfl⟩
theorem ajf (n:Nat)(h:1<=n)(Bx x:Nat)(j:x<2^64)(M:Nat->Prop)(w:jF)(m:∀k,M k->k<w.1.size)(d:0<w.1.size)(b:¬M 0)(o:Bx<w.1.size)
  (hc:q9 w Bx 0 (iY jA (x:Int)))(p:TabAt 0 Lib.deBruijn64tab w):
  ajp Fence.wide n jJ 153 #[jH (jB ⟨Bx,0,jC⟩)] (λi:Nat=>#[Value.int iZ (i:Int)]) M (AP x) w:=λl J q W a hl c _ _ r s=>
 afZ n h l Bx x j (ext l M) J q r W (λk e=>e.elim (λe=>jh (m k e) a.size) (λe=>e▸c)) (jh d a.size) (λe=>e.elim b (λe=>ω)) (bD a o (λe=>e) hc) (N8 p d (λe=>e) a) s
set_option maxHeartbeats 4000000
set_option maxRecDepth 100000
attribute [local go_sem] Oper.semAt_some
theorem Xx (p w):
  Calls jJ 86 #[.pointer p] w λe w'=>e=.returned (.func (.func 125) #[] #[jH (jB ⟨w.1.size,0,jC⟩)])/\w'=w.alloc (jG #[.pointer p] 130):=by
 go_enter Tryz.func86,Tryz.ntmps86;go_wp2
 go_ret
 exact⟨rfl,rfl⟩
theorem acK {X:List Nat}(h:j<=k):AZ X j<+:AZ X k:=by
 obtain⟨d,rfl⟩:∃d,k=j+d:=⟨k-j,ω⟩;clear h;induction d with
 |zero=>exact List.prefix_refl _
 |succ d a=>rw[show j+(d+1)=(j+d)+1 by omega,FW];exact a.trans (List.prefix_append _ _)
theorem aii (m)(hm:3<=m)(l Bs S q n X)(M:Nat->Prop)(J U:List Nat×(Nat->Prop)->jF->Prop)(W)(hM:∀k,M k->k<W.1.size)(Z:OwnFrom W.1.size J)(a1:OwnFrom W.1.size U)(hY:∀pre (i:Nat) N W,J (pre,N) W->pre++[i]<+:Ef X->YieldAt Fence.wide (m-1) jJ l #[iY iZ (i:Int)] W λe W'=>∃N',BL N W N' W'/\
 ((e=.returned (jI jD)/\J (pre++[i],N') W')\/(e=.returned (jI jE)/\U (pre++[i],N') W')))(T:0<W.1.size)(a6:¬M 0)(ag:q9 W Bs 0 (jH (jB ⟨S,0,jC⟩)))(hX:Cr S q n X W)(ah:¬M q)(hT:TabAt 0 Lib.deBruijn64tab W)(h0:J ([],M) W):
  CallsIn Fence.wide m jJ 125 #[.func (.yield l) #[] #[],jH (jB ⟨Bs,0,jC⟩)] W λe W'=>(∃v,e=.returned v)/\
   ((∃N,J (Ef X,N) W')\/(∃pre N,pre<+:Ef X/\U (pre,N) W')):=by
 obtain⟨⟨c0,c1⟩,_,aD⟩:=ah6 hX.1;have aj:1<=m:=ω;have ak:=aaU (jG #[.func (.yield l) #[] #[]] 122) ag;have ao:=aaU (jG #[.func (.yield l) #[] #[]] 122) c1;have aE:η X<=1024:=by rw[hX.2.2.1];have:=hX.2.2.2.2;omega
 have aq:=hX.lt.2;have ar:=Boxed.new W 122 (.func (.yield l) #[] #[]);have au:BL M W M (W.alloc (jG #[.func (.yield l) #[] #[]] 122)):=BL.P8 ((qW.refl _ _).alloc _) hM;have av:J (AZ X 0,M) (W.alloc (jG #[.func (.yield l) #[] #[]] 122)):=Z.alloc _ (by simpa[AZ]using h0);refine callsIn_of_wp_marks Tryz.func125 rfl trivial ?_ rfl;simp only[Tryz.ntmps125,List.size_toArray,jP,lD,Nat.reduceAdd,Nat.reduceSub,oC,oD,List.push_toArray,oJ,lM,lu];gi_wp2
 clear ak ao c0 c1
 refine wpIn_loop (λa' wr=>∃(k:Nat) (Ds:List Nat) (N:Nat->Prop) (u3 u4 u5 u14 u15 u16 u17 u18 u19 u20 u21 u22 u23 u24 u25 u26 u27 u28:Value),k<=η X/\J (AZ X k,N) wr/\BL M W N wr/\(Boxed wr W.1.size 122 (.func (.yield l) #[] #[])/\¬N W.1.size)/\(Marks W.1.size Ds wr/\∀D∈Ds,¬N D)/\
   a'={tmps:=#[.func (.yield l) #[] #[],jH (jB ⟨Bs,0,jC⟩),jH (jB ⟨W.1.size,0,jC⟩),u3,u4,u5,jH (jB ⟨S,0,jC⟩),jI jE,jH (jB ⟨S,0,jC⟩),jH (jB ⟨S,0,jC⟩),jH (jB ⟨S,1,jC⟩),iX (jB ⟨q,0,jC⟩) (η X) (η X),iY iZ (η X:Int),iY iZ (k:Int),u14,u15,u16,u17,u18,u19,u20,u21,u22,u23,u24,u25,u26,u27,u28],defers:=marksOf Ds})
  (λa' _=>η X-(intOf (a'.tmps.getD 13 undef)).toNat) ?start ?round
 case start=>exact⟨0,[],M,_,_,_,_,_,_,_,_,_,_,_,_,_,_,_,_,_,_,mR _,av,au,⟨ar,λe=>pJ _ (hM _ e)⟩,⟨Marks.nil _ _,λ_ h=>by cases h⟩,rfl⟩
 case round=>
  rintro a' wr ⟨k,Ds,N,u3,u4,u5,u14,u15,u16,u17,u18,u19,u20,u21,u22,u23,u24,u25,u26,u27,u28,hk,G,w,⟨H,I⟩,⟨L,O⟩,rfl⟩;by_cases a7:k<η X
  ·obtain⟨cw,_,a8⟩:=hX.at_ a7;have aF:=bD w.uQ aq ah cw;have HX:=dh (FW X k);have ad:=acK (X:=X) (show k+1<=η X by omega);rw[R9]at ad
   have hP:∀pre,pre<+:AP (X.getD k 0)->AZ X k++pre.map (λi=>k*64+i)<+:Ef X:=λpre u=>
    List.IsPrefix.trans (by rw[FW];exact(List.prefix_append_right_inj _).2 (u.map _)) ad
   clear cw;generalize X.getD k 0=x at *;gi_wp2_with (refine⟨trivial,?_⟩;gi_at_call 126;refine(callsIn_wide.2 (afY _ _)).mono ?_;rintro e w' ⟨rfl,rfl⟩)
   obtain⟨y,j⟩:=xQ ((wr.alloc (jG #[iY iZ (k:Int)] 3)).alloc (jG #[iY jA (x:Int)] 45));have t0:qW (λ_=>False) wr y:=by rw[<-j];exact((qW.refl _ _).alloc _).alloc _
   have aG:y.1.size=wr.1.size+2:=by rw[<-j];simp
   have aw:Boxed y wr.1.size 3 (iY iZ (k:Int)):=by rw[<-j];exact(Boxed.new wr _ _).alloc _
   have ax:Boxed y (wr.1.size+1) 45 (iY jA (x:Int)):=by
    rw[<-j];have:=Boxed.new (wr.alloc (jG #[iY iZ (k:Int)] 3)) 45 (iY jA (x:Int));rwa [jF.size_alloc]at this
   have ay:J (AZ X k++([]:List Nat).map (λi=>k*64+i),N) y:=by rw[<-j];exact Z.alloc _ (Z.alloc _ (by simpa using G))
   have C:=CY H t0 (λe=>e);have d:=L.uQ t0 (λ_ _ e=>e);have aH:=w.uQ.size;have b:=w.CQ (t0.wide (λ_ e=>e.elim));have aJ:=Boxed.lt H;rw[j];clear j H L G;have az:¬N wr.1.size:=λe=>pJ _ (w.lt _ e)
   have aA:∀D∈Ds,D<y.1.size:=λD h=>d.lt h
   refine EI rfl aj (gf:=153) (lb:=#[jH (jB ⟨wr.1.size+1,0,jC⟩)]) rfl trivial (enters_of Tryz.func153 κ rfl)
    (ajf (m-1) ω (wr.1.size+1) x a8 N y b.lt ω (b.not T a6) ω ax.cell (N8 hT T a6 b.uQ)) b.lt (λ_=>rfl)
    (λs V=>J (AZ X k++s.1.map (λi=>k*64+i),s.2) V/\BL N y s.2 V)
    (λc s V=>(c=.ret/\U (AZ X k++s.1.map (λi=>k*64+i),s.2) V)/\BL N y s.2 V)
    (OwnFrom.and (KV (λs X' Y row hs T hr=>Z (AZ X k++s.1.map (λi=>k*64+i),s.2) X' Y row hs T hr) ω) (Ec lR (λs:List Nat×(Nat->Prop)=>s.2)))
    (λc=>OwnFrom.and (λs X' Y row hs T hr=>⟨hs.1,a1 _ X' Y row hs.2 T (λr e=>⟨by have:=(hr r e).1;omega,(hr r e).2⟩)⟩) (Ec lR (λs:List Nat×(Nat->Prop)=>s.2)))
    ⟨ay,BL.refl b.lt⟩
    (λi a' _=>a'={tmps:=#[.func (.yield l) #[] #[],jH (jB ⟨Bs,0,jC⟩),jH (jB ⟨W.1.size,0,jC⟩),jH (jB ⟨wr.1.size,0,jC⟩),iY jA (x:Int),iY iZ (i:Int),jH (jB ⟨S,0,jC⟩),jI jE,jH (jB ⟨S,0,jC⟩),jH (jB ⟨S,0,jC⟩),jH (jB ⟨S,1,jC⟩),iX (jB ⟨q,0,jC⟩) (η X) (η X),iY iZ (η X:Int),iY iZ (k:Int),jI jD,iY iZ (k:Int),jH (jB ⟨q,k,jC⟩),iY jA (x:Int),iY jA (x:Int),.func (.func 153) #[] #[jH (jB ⟨wr.1.size+1,0,jC⟩)],iY iZ (i:Int),u21,u22,u23,u24,u25,u26,u27,u28],defers:=[]})
    (λ_ _ _ _ _ _ hs _ _=>hs) ?assign ?body ?done ?stop
   case assign=>
    intro l2 pre i P V K hi _ hK;gi_wp2
    exact hK _ _ (qW.refl _ _) hi rfl
   case body=>
    rintro l2 pre i P a2 V aK _ _ _ ⟨p,a⟩ rfl hlen;have aL:=(CY C a.uQ I).cell;have aM:=(CY aw a.uQ az).cell;obtain⟨fn,tmps,assign,body,hy,hR⟩:=U3 (m-1-1-1) (hY _ (k*64+i) P V p (by have:=hP (pre++[i]) hlen;simpa using this))
    have aC:i<64:=by
     have hm:i∈AP x:=hlen.subset ς;exact jl.1 (jL.1 hm).1
    have ek:((k*64+i:Nat):Int)=(k:Int)*64+(i:Int):=ω;rw[ek]at hy;clear ek;gi_wp2
    refine⟨(λh=>by cases h),RoundIn.mono (F:=Fence.wide.inRound l2) hR ?_⟩;clear hR hy;rintro e V2 ⟨N2,z,(⟨rfl,Q⟩|⟨rfl,Q⟩)⟩
    ·gi_wp2
     exact⟨N2,z,by simpa using Q,a.trans z⟩
    ·gi_wp2
     exact⟨N2,z,⟨rfl,by simpa using Q⟩,a.trans z⟩
   case done=>
    rintro D P V hD af ⟨p,a⟩ R;dsimp only at p a;rw[<-HX.o]at p;gi_wp2
    exact⟨⟨k+1,D::Ds,P,_,_,_,_,_,_,_,_,_,_,_,_,_,_,_,_,_,_,a7,p,b.trans a,⟨CY C a.uQ I,a.not ω I⟩,
     ⟨(d.uQ a.uQ O).cons ω R (λe=>by have:=d.lt e;omega),λE hE=>by rcases jk.1 hE with rfl|hE;exact af;exact a.not (aA E hE) (O E hE)⟩,rfl⟩,by simp[intOf];omega⟩
   case stop=>
    rintro D c pre P V hD af u ⟨⟨rfl,p⟩,a⟩ R;gi_wp2
    exact Ld (B:=W.1.size) (K:=λV=>U (AZ X k++pre.map (λi=>k*64+i),P) V) (λ_=>a1 _) (λV h=>⟨_,results_none rfl _ _ _,⟨_,rfl⟩,.inr ⟨_,hP pre u,P,h⟩⟩) (D::Ds) V ((d.uQ a.uQ O).cons ω R (λe=>by have:=d.lt e;omega)) p
  ·have aB:k=η X:=ω;subst aB;gi_wp2
   exact Ld (B:=W.1.size) (K:=λV=>J (AZ X (η X),N) V) (λ_=>Z _) (λV h=>⟨_,results_none rfl _ _ _,⟨_,rfl⟩,.inl ⟨N,by rw[<-R9];exact h⟩⟩) Ds wr L G
theorem ajW (m)(hm:3<=m)(b S q n X)(M:Nat->Prop)(w)(s:∀k,M k->k<w.1.size)(p:0<w.1.size)(c:¬M 0)(d:q9 w b 0 (jH (jB ⟨S,0,jC⟩)))(t:b<w.1.size)(r:Cr S q n X w)(h:¬M q)(u:TabAt 0 Lib.deBruijn64tab w):
  ajp Fence.wide m jJ 125 #[jH (jB ⟨b,0,jC⟩)] (λi:Nat=>#[Value.int iZ (i:Int)]) M (Ef X) w:=λl J v W a hl j x o y z=>
 aii m hm l b S q n X (ext l M) J v W (λk e=>e.elim (λe=>jh (s k e) a.size) (λe=>e▸j)) x o y (jh p a.size) (λe=>e.elim c (λe=>ω))
  (bD a t (λe=>e) d) (r.uQ a (λe=>e) (λe=>e)) (λe=>e.elim h (λe=>by have:=r.lt.2;omega)) (N8 u p (λe=>e) a) z
set_option maxHeartbeats 4000000
set_option maxRecDepth 100000
theorem XL (a:x<2^64)(hy:y<2^64):bits .and jA (x:Int) (y:Int)=((x&&&y:Nat):Int):=by
 have hand:x&&&y<2^64:=kJ oO a;show IntKind.u64.wrap (BitVec.ofInt _ _&&&BitVec.ofInt 64 _).toNat= _;rw[mY,jW,ko,jW,ko,j5 a,j5 hy,IntKind.wrap_u64];omega
theorem WW (hb:Below W.1.size W W1):W.grownBy W1 jC:=⟨hb.os,hb.tape,hb.output,hb.size,λk a _=>hb.block k a⟩
theorem YW {I:β->jF->Prop}(h:OwnFrom B I){s:β}(hs:I s W)(hb:Below W.1.size W W1):I s W1:=h s W W1 jC hs (WW hb) (λr e=>γ)
theorem xG (hb:Below W.1.size W W1):qW M W W1:=⟨hb.os,hb.tape,hb.output,hb.size,λk a _=>hb.block k a⟩
noncomputable def BX (E:List (List Nd))(ins:List Nat)(s k:Nat):List (List Nat):=((sO (Kk E)).take k).filter (Gn E ins s)
theorem ZA (E ins s)(a:k<η (sO (Kk E))):BX E ins s (k+1)=BX E ins s k++(if Gn E ins s (sO (Kk E))[k]=jD then[(sO (Kk E))[k]]else[]):=by
 unfold BX;rw[rE _ k a,ku]
 grind
theorem ada (E ins s):BX E ins s (η (sO (Kk E)))=Gp E ins s:=by
 unfold BX Gp;simp
theorem SA (E ins s k):BX E ins s k<+:Gp E ins s:=by
 unfold BX Gp
 grind
theorem ai8 (a:x<η ins):(um ins)[x]? =jB (iY jA ((ins.getD x 0:Nat):Int)):=by
 simp[um,θ,a]
theorem Mi {N:Nat->Prop}(h:BL M W N W1)(a:B<=W.1.size)(hm:∀k,M k->B<=k):Below B W W1:=
 ⟨h.uQ.os,h.uQ.tape,h.uQ.output,h.uQ.size,λk b=>h.uQ.block k ω (λe=>γ)⟩
theorem afP (m:Nat)(hm:1<=m)(E:List (List Nd))(ins:List Nat)(s:Nat)(vi vl:Value)(ae:Option Addr)(ne ce:Nat)(ac:Option Addr)(nc cc:Nat)(l pb B:Nat)(M:Nat->Prop)(J Jx:List (List Nat)×(Nat->Prop)->jF->Prop)(W:jF)
  (hM:∀k,M k->k<W.1.size)(V:∀W',qW M W W'->Gx W' W'.1.size 2 ae ne ce (E.map qP)/\Sl W' W'.1.size 1 ac nc cc (um ins))(F:W.1[pb]? =jB (jG #[vi,iX ae ne ce,vl,iX ac nc cc,iY jA (uH s:Int)] 128 (0,0)))(aB:¬M pb)
  (hE:Gx W B 2 ae ne ce (E.map qP))(hI:Sl W B 1 ac nc cc (um ins))(aC:B<=W.1.size)(aD:∀r∈E,∀e∈r,sG (η E) e.op=jD)(hN:ne<=1000000)(hr:∀r∈E,η r<=1000000)(ak:η ins=η E)(ao:∀x,ins.getD x 0<2^64)(hs:s<=16)
  (hJ:OwnFrom W.1.size J)(_hJx:OwnFrom W.1.size Jx)
  (hY:∀pre x N args W1,J (pre,N) W1->Kh x N args W1->pre++[x]<+:Gp E ins s->YieldAt Fence.wide (m-1) jJ l args W1 λe W'=>∃N',BL N W1 N' W'/\
   ((e=.returned (jI jD)/\J (pre++[x],N') W')\/(e=.returned (jI jE)/\Jx (pre++[x],N') W')))
  (h0:J ([],M) W):
  CallsIn Fence.wide m jJ 148 #[.func (.yield l) #[] #[],jH (jB ⟨pb,0,jC⟩)] W λe W'=>(∃v,e=.returned v)/\
   ((∃N,J (Gp E ins s,N) W')\/(∃pre N,pre<+:Gp E ins s/\Jx (pre,N) W')):=by
 have X:=dh (by have:=hE.len;simpa using this);have aE:=(aI.1 F).1;have aF:Hd (nc=η ins):=dh (by have:=hI.len;rw[M5]at this;omega);have aG:=dh ak;clear ak;have bm:=hI.cap;have aH:=hI.max;unfold maxLen at aH;have q0:W.cell? ⟨_,0,_⟩=jB vi:=cR F;have q1:W.cell? ⟨_,1,_⟩=jB (iX _ _ _):=cR F;have q2:W.cell? ⟨_,2,_⟩=jB vl:=cR F;obtain⟨aJ,aK,aL,HE,HI⟩:=iC (acy E vi vl _ _ _ B W hE aC aD hN hr) F h0 hE hI
 have aq:Hd (uH s<2^64):=dh (by
  unfold uH;have:2^s<=2^16:=lI ω hs;omega)
 have Y:=dh ao;clear F h0 hE hI ao;refine callsIn_of_wp Tryz.func148 rfl trivial ?_ rfl;simp only[Tryz.ntmps148,List.size_toArray,jP,lD,Nat.reduceAdd,Nat.reduceSub,oC,oD,List.push_toArray,oJ,lM,lu];gi_wp2_with (refine⟨trivial,?_⟩;gi_at_call 149;refine(callsIn_wide.2 aJ.o).mono ?_;rintro e W1 ⟨of,v,vs,aM,rfl,C,hb⟩;obtain rfl:=aM.eq;obtain⟨Ap,cp,rfl, -⟩:=C.sl2;have G:=dh C;have L:=dh hb;clear C hb)
 have bn:=L.size;have bp:=dh (YW hJ aL L.o);have bq:Hd (η (sO _)<=ne):=dh (by rw[X.o];exact acv E);have ar:Hd (η (uT (sO (Kk E)))=η (sO (Kk E))):=dh (by simp[uT]);rw[ar.o]at G⊢;let⟨np,O⟩:=xQ (η (sO (Kk E)))
 have Z:=dh O;have b9:np<=ne:=by rwa [<-O]
 rw[O]at G⊢;clear O
 gi_loopw [12] (λp wr=>∃(k:Nat) (N:Nat->Prop),p=iY iZ k/\k<=np/\Hd (J (BX E ins s k,N) wr)/\Hd (BL M W1 N wr))
  (λp _=>np-(intOf p).toNat)
 case atStart=>exact⟨0,M,rfl,mR _,dh (by have:BX E ins s 0=[]:=rfl
                                         rwa [this]),dh (BL.refl (λk hk=>by have:=hM k hk;omega))⟩
 case round=>
  obtain⟨k,N,rfl,hk,a1,b⟩:=hrel;have br:=b.uQ.size;by_cases bu:k<np
  ·have wk:IntKind.i64.wrap (k+1)=k+1:=by rw[wI];omega
   have bw:0<=(k:Int):=ω;have bz:k<(np:Int):=ω;have a6:k<η (sO (Kk E)):=by rwa [Z.o]
   let⟨P,hP⟩:=xQ ((sO _)[k])
   have Q:=dh (ZA E ins s a6);rw[hP]at Q;have a7:P∈sO (Kk E):=by rw[<-hP];exact mM _
   obtain⟨au,av⟩:=iw (aay a7) (V3 a7);have y:∀j,j<W1.1.size->W.1.size<=j->¬M j:=λj _ h2 e=>by have:=hM j e;omega
   have HOW:=dh (G.uQ b.uQ (λg hg e=>by
    have H:=G.main.lt g hg;exact b.not H.2 (y g H.2 H.1) (by first|exact e|exact absurd e (y g H.2 H.1))) (λj u g hu hg e=>by
    have H:=G.Dk hu g hg;exact b.not H.2 (y g H.2 H.1) (by first|exact e|exact absurd e (y g H.2 H.1))))
   have aw:(uT (sO (Kk E)))[k]? =jB (qO (iE P)):=by
    unfold uT;rw[kR,gE a6,hP];rfl
   let⟨u,n,hu,R⟩:=HOW.row k _ aw
   have hn:n=η P:=by have:=R.1;rw[xY,Ah]at this;omega
   subst hn;obtain⟨Au,cu,rfl,S⟩:=qX R;have aN:=S.cap;have aO:=S.max;unfold maxLen at aO;obtain⟨gp,bc,hf, -, -⟩:=HOW.form (by rw[ar.o,Z.o];omega);cases hf;have aP:=HOW.cell hu;obtain⟨a8,ad⟩:=iw R S;have c:=((b.uQ.block _ ω aB).trans (L.block _ aE)).trans aK.o;have c0:wr.cell? ⟨_,0,_⟩=jB vi:=cR c;have c1:wr.cell? ⟨_,1,_⟩=jB (iX _ _ _):=cR c;have c2:wr.cell? ⟨_,2,_⟩=jB vl:=cR c;have c3:wr.cell? ⟨_,3,_⟩=jB (iX _ _ _):=cR c;have c4:wr.cell? ⟨_,4,_⟩=jB (.int _ _):=cR c;have af:=V _ ((xG L.o).then_ b.uQ);obtain⟨aQ,aR⟩:=iw af.2 af.1;clear af;let⟨I,K⟩:=xQ (η P)
   have D:=dh K;have bd:I<=ne:=by have:=av.o;rw[X.o];omega
   rw[K]at aN aP ad a8;have aS:=hu;clear hu R S c K hP a7 aw q0 q1 q2 a6;gi_wp2
   gi_loopw [18,5] (λi o w'=>∃q,q<=I/\i=iY iZ q/\o=iY jA (UZ ins (P.take q))/\w'=wr) (λi _ _=>I-(intOf i).toNat)
   case atStart=>exact⟨0,ω,rfl,rfl,rfl⟩
   case round=>
    obtain⟨q,hq,rfl,rfl,rfl⟩:=hrel;by_cases bA:q<I
    ·have wq:IntKind.i64.wrap (q+1)=q+1:=by rw[wI];omega
     have bB:0<=(q:Int):=ω;have bE:q<(I:Int):=ω;have ag:q<η P:=by rwa [D.o]
     let⟨b1,o1,aT,bF,aU⟩:=ad.rd.at_ (FY ag)
     subst aT;let⟨x,hx⟩:=xQ (P.getD q 0)
     have ah:P[q]=x:=by rw[<-hx,gD,gE ag];rfl
     have ax:x∈P:=by rw[<-ah];exact mM _
     have bG:=au x ax;have aV:x<η ins:=by rwa [aG.o]
     have bH:x<nc:=by rwa [aF.o]
     have bI:0<=(x:Int):=ω;have bJ:x<(nc:Int):=ω;let⟨b2,o2,aW,bK,bh⟩:=aQ.rd.at_ (ai8 aV)
     subst aW;have ho:UZ _ (P.take q)<2^64:=aeZ Y _;have bL:=or_bit ho (Y x);have aX:Hd (UZ _ (P.take _)=UZ _ (P.take q)|||ins.getD x 0):=dh (by rw[rE P q ag,ah,aeY]);rw[hx]at aU;clear hx ah ax;generalize UZ _ _ =ov at *;generalize ins.getD x 0=iv at *;gi_wp2
     go_roundw
     case rel=>exact⟨q+1,ω,jM _ rfl,by rw[aX.o],trivial⟩
     case measure=>simp[intOf];omega
    ·have aY:q=I:=ω;subst aY;have aZ:=dh (tL (by rwa [D.o]));rw[aZ.o];have ho:UZ _ P<2^64:=aeZ Y _;have hand:=XL ho aq.o;have a:Gn E _ s P=(decide (UZ ins P&&&uH s=uH s)&&NR E P):=rfl;by_cases d:UZ ins P&&&uH s=uH s
     ·rw[d]at hand;rw[decide_eq_true d,lH]at a;have w:=ZT E vi vl _ _ _ _ _ P _ q _ aR lR ad (by rwa [X.o]) hr hN;generalize UZ _ P=ov at *;cases T:NR E P
      ·rw[T]at w a;have HG:Hd (BX E _ s _ =BX E ins s k):=dh (by rw[Q.o,a];simp);have HC:=dh w;clear w a d T;gi_wp2
       refine⟨trivial,(callsIn_wide.2 HC.o).mono ?_⟩;rintro e w3 ⟨rfl,z⟩;obtain⟨aj,ay⟩:=iw z (YW (KV hJ (show W.1.size<=W.1.size by omega)) a1 z);clear z;gi_wp2
       refine⟨(λf h=>by cases h),?_⟩;gi_wp2
       go_roundw
       case rel=>exact⟨k+1,N,jM _ rfl,ω,dh (by rwa [HG.o]),dh (b.CQ (xG aj.o))⟩
       case measure=>simp[intOf];omega
      ·rw[T]at w a;have HG:Hd (BX E _ s _ =BX E ins s k++[P]):=dh (by rw[Q.o,a];simp);have HC:=dh w;clear w a d T;gi_wp2
       refine⟨trivial,(callsIn_wide.2 HC.o).mono ?_⟩;rintro e w3 ⟨rfl,z⟩;obtain⟨aj,ay⟩:=iw z (YW hJ a1 z)
       have U:w3.ownsRow 0 3 1 (iX Au q cu) (η P) (qO (iE P)):=by
        rw[D.o];exact rC (own_below a8 z) (mR _)
       have az:Hd (Kh P N _ _):=dh ⟨_,rfl,U,λg hg e=>by
        have H:=a8.lt g hg
        have h2:=by
         have:=G.Dk aS g (by rwa [D.o]);exact this.2
        exact b.not h2 (y g h2 H.1) e⟩
       have b4:=hY _ P N _ _ ay az (by rw[<-HG.o];exact SA E _ s _);obtain⟨fn,tmps,assign,body,hy,hR⟩:=b4;clear z U az;gi_wp2
       apply hR.mono;rintro e W3 ⟨N3,b5,(⟨rfl,bM⟩|⟨rfl,aA⟩)⟩
       ·gi_wp2
        go_roundw
        case rel=>exact⟨k+1,_,jM _ rfl,ω,dh (by rwa [HG.o]),dh ((b.CQ (xG aj.o)).trans b5)⟩
        case measure=>simp[intOf];omega
       ·gi_wp2
        apply bodyPost_ret (results_none rfl _ _ _) rfl;exact⟨⟨_,rfl⟩,.inr ⟨_,_,by rw[<-HG.o];exact SA E _ s _,aA⟩⟩
     ·have bj:((UZ ins P&&&uH s:Nat)==((uH s):Int))=jE:=by
       rw[kF];omega
      rw[decide_eq_false d,nM]at a;have HG:Hd (BX E _ s _ =BX E ins s k):=dh (by rw[Q.o,a];simp);clear a d;generalize UZ _ P=ov at *;gi_wp2
      refine⟨trivial,?_⟩;gi_wp2
      refine⟨(λf h=>by cases h),?_⟩;gi_wp2
      go_roundw
      case rel=>exact⟨k+1,N,jM _ rfl,ω,dh (by rwa [HG.o]),b⟩
      case measure=>simp[intOf];omega
  ·have b6:k=np:=ω;subst b6;gi_wp2
   go_end0
   exact⟨⟨_,rfl⟩,.inl ⟨N,by have:=a1.o;rwa [<-Z.o,ada]at this⟩⟩
theorem Ud (vi ve vl vn a w):
  Calls jJ 122 #[.agg #[vi,ve,vl,vn,a]] w λe w'=>e=.returned (.func (.func 148) #[] #[jH (jB ⟨w.1.size,0,jC⟩)])/\w'=w.alloc (jG #[vi,ve,vl,vn,a] 128):=by
 go_wp2
 go_ret
 simp
theorem ajc (m:Nat)(hm:1<=m)(E:List (List Nd))(ins:List Nat)(s:Nat)(vi vl:Value)(ae:Option Addr)(ne ce:Nat)(ac:Option Addr)(nc cc:Nat)(pb:Nat)(M:Nat->Prop)(w:jF)
  (o:∀k,M k->k<w.1.size)(a:∀W',qW M w W'->Gx W' W'.1.size 2 ae ne ce (E.map qP)/\Sl W' W'.1.size 1 ac nc cc (um ins))(b:w.1[pb]? =jB (jG #[vi,iX ae ne ce,vl,iX ac nc cc,iY jA (uH s:Int)] 128 (0,0)))(d:¬M pb)
  (g:∀r∈E,∀e∈r,sG (η E) e.op=jD)(p:ne<=1000000)(q:∀r∈E,η r<=1000000)(h:η ins=η E)(i:∀x,ins.getD x 0<2^64)(hs:s<=16):
  ajq Fence.wide m jJ 148 #[jH (jB ⟨pb,0,jC⟩)] Kh M (Gp E ins s) w:=λl J u W c hl j v n y z=>
 afP m hm E ins s vi vl ae ne ce ac nc cc l pb W.1.size (ext l M) J u W (λk e=>e.elim (λe=>jh (o k e) c.size) (λe=>e▸j)) (λW' B=>a W' (c.wide (λ_ e=>e.elim) |>.trans B (λk C e=>e.elim id (λe=>ω))))
  ((c.block pb (aI.1 b).1 (λe=>e)).trans b) (λe=>e.elim d (λe=>γ))
  (a W (c.wide (λ_ e=>e.elim))).1 (a W (c.wide (λ_ e=>e.elim))).2 lR g p q h i hs v n y z
theorem ajb (m:Nat)(hm:1<=m)(E:List (List Nd))(ins:List Nat)(s:Nat)(vi vl:Value)(ae:Option Addr)(ne ce:Nat)(ac:Option Addr)(nc cc:Nat)(pb B:Nat)(M:Nat->Prop)(w:jF)
  (j:∀k,M k->k<w.1.size)(l:∀k,M k->B<=k)(b:w.1[pb]? =jB (jG #[vi,iX ae ne ce,vl,iX ac nc cc,iY jA (uH s:Int)] 128 (0,0)))(c:¬M pb)
  (n:Gx w B 2 ae ne ce (E.map qP))(o:Sl w B 1 ac nc cc (um ins))(a:B<=w.1.size)(d:∀r∈E,∀e∈r,sG (η E) e.op=jD)(p:ne<=1000000)(q:∀r∈E,η r<=1000000)(g:η ins=η E)(h:∀x,ins.getD x 0<2^64)(hs:s<=16):
  ajq Fence.wide m jJ 148 #[jH (jB ⟨pb,0,jC⟩)] Kh M (Gp E ins s) w:=
 ajc m hm E ins s vi vl ae ne ce ac nc cc pb M w j (λW' i=>have hb:=i.below a (λk u e=>γ);⟨(n.below hb lR).up (Nat.le_trans a i.size),(o.below hb lR).up (Nat.le_trans a i.size)⟩) b c d p q g h hs
set_option maxHeartbeats 4000000
set_option maxRecDepth 100000
attribute [local go_sem] Oper.semAt_some
theorem aex (base e size u n)(f:β->List Value)(B):OwnFrom B (λ(s:β) W=>W.ownsRow base e size u n (f s)):=
 λs X Y row h a b=>T9 base e size u n (f s) B () X Y row h a b
theorem aja:(Tryz.prog.info? 4).map (λi=>(i.zero,i.size,i.bytes))=jB (jB (jI jE),1,1):=κ
def Gq (n:Nat)(pre:List (List Nat)):List Bool:=(pre.flatten).foldl (λr x=>r.set x jD) (ρ n jE)
theorem ZC (n pre x):Gq n (pre++[x])=x.foldl (λr x=>r.set x jD) (Gq n pre):=by
 unfold Gq;simp
theorem adg (n pre):η (Gq n pre)=n:=by
 unfold Gq
 have key:∀(l:List _) (r:List _),η (l.foldl (λr x=>r.set x jD) r)=η r:=by
  intro l;induction l with
  |nil=>intro r;rfl
  |cons x l a=>intro r;grind
 grind
theorem Zt (m:Nat)(hm:3<=m)(I:List Int)(E:List (List Nd))(L ins:List Nat)(s:Nat)(ai:Option Addr)(ni ci:Nat)(ae:Option Addr)(ne ce:Nat)(al:Option Addr)(nl cl:Nat)(ac:Option Addr)(nc cc:Nat)(B:Nat)(w:jF)
  (h:yX w B ai ni ci ae ne ce al nl cl ac nc cc I E L ins)(hB:B<=w.1.size)(aF:∀r∈E,∀e∈r,sG (η E) e.op=jD)(hN:ne<=65536)(KE:Nat)(hr:∀r∈E,η r<=KE)(aG:ne*KE<=1000000000)(bn:KE<=1000000)(Q:η ins=η E)(aH:∀x,ins.getD x 0<2^64)(hs:s<=16)
  (hi:ni<=1000000000)(hl:nl<=17592186044416):
  CallsIn Fence.wide m jJ 82 #[.agg #[iX ai ni ci,iX ae ne ce,iX al nl cl,iX ac nc cc,iY jA (uH s:Int)]] w (sI w 4 1 ne (qV (Le E ins s)) False):=by
 have aJ:1<=m:=ω;obtain⟨p,aK⟩:=iw h.ene h.enc;have bp:=h.i.cap;have aL:=h.i.max;unfold maxLen at aL;have aj:nc=ne:=by rw[aK.o,p.o,Q]
 subst aj;have aM:=run_make_row' (P:=jJ) 64 4 (jI jE) 1 Tryz.underlying64 aja rfl iZ iZ nc ω ω;have M:=λX=>Ud (iX ai ni ci) (iX ae nc ce) (iX al nl cl) (iX ac nc cc) (iY jA (uH s)) X
 obtain⟨HG,HR,aN⟩:=iA M h Q;clear h M Q;refine callsIn_of_wp_marks Tryz.func82 rfl trivial ?_ rfl;simp[Tryz.ntmps82,oC];gi_wp2_with (refine⟨trivial,?_⟩;gi_at_call 122;refine(callsIn_wide.2 (HG _)).mono ?_;rintro e w' ⟨rfl,rfl⟩)
 obtain⟨l,d⟩:=xQ ((((w.alloc (jG #[iX ai ni ci,iX ae nc ce,iX al nl cl,iX ac nc cc,iY jA (uH s)] 128)).alloc (jG (madeCells #[jI jE] nc) 4)).alloc (jG #[iX (jB ⟨w.1.size+1,0,jC⟩) nc nc] 64)).alloc (jG #[iX ai ni ci,iX ae nc ce,iX al nl cl,iX ac nc cc,iY jA (uH s)] 128));have bq:l.1.size=w.1.size+4:=by rw[<-d];simp
 have R:Below w.1.size w l:=by rw[<-d];exact((((Below.refl _ w).alloc lR _).alloc ς _).alloc (by simp;omega) _).alloc (by simp;omega) _
 have S:l.ownsRow w.1.size 4 1 (iX (jB ⟨w.1.size+1,0,jC⟩) nc nc) nc (qV (ρ nc jE)):=by
  have h1:=BP (w:=w.alloc (jG #[iX ai ni ci,iX ae nc ce,iX al nl cl,iX ac nc cc,iY jA (uH s)] 128)) (base:=w.1.size) (e:=4) (v:=jI jE) (n:=nc) ς (by unfold maxLen;omega);rw[jF.size_alloc]at h1;have h2:=(h1.alloc (jG #[iX (jB ⟨w.1.size+1,0,jC⟩) nc nc] 64)).alloc (jG #[iX ai ni ci,iX ae nc ce,iX al nl cl,iX ac nc cc,iY jA (uH s)] 128);rw[d]at h2;rwa [qV,nH]
 have ak:Boxed l (w.1.size+1+1) 64 (iX (jB ⟨w.1.size+1,0,jC⟩) nc nc):=by
  rw[<-d];have:=(Boxed.new ((w.alloc (jG #[iX ai ni ci,iX ae nc ce,iX al nl cl,iX ac nc cc,iY jA (uH s)] 128)).alloc (jG (madeCells #[jI jE] nc) 4)) 64 (iX (jB ⟨w.1.size+1,0,jC⟩) nc nc)).alloc (jG #[iX ai ni ci,iX ae nc ce,iX al nl cl,iX ac nc cc,iY jA (uH s)] 128)
  simp_all
 have aO:l.1[w.1.size]? =jB (jG #[iX ai ni ci,iX ae nc ce,iX al nl cl,iX ac nc cc,iY jA (uH s:Int)] 128 (0,0)):=by
  rw[<-d];rw[Below.heap_alloc _ _ _ (by simp;omega),Below.heap_alloc _ _ _ (by simp;omega),Below.heap_alloc _ _ _ ς];exact heap_alloc_new w _
 have aP:l.1[w.1.size+1+1+1]? =jB (jG #[iX ai ni ci,iX ae nc ce,iX al nl cl,iX ac nc cc,iY jA (uH s)] 128 (0,0)):=by
  rw[<-d];have:=heap_alloc_new (((w.alloc (jG #[iX ai ni ci,iX ae nc ce,iX al nl cl,iX ac nc cc,iY jA (uH s)] 128)).alloc (jG (madeCells #[jI jE] nc) 4)).alloc (jG #[iX (jB ⟨w.1.size+1,0,jC⟩) nc nc] 64)) (jG #[iX ai ni ci,iX ae nc ce,iX al nl cl,iX ac nc cc,iY jA (uH s)] 128)
  simp_all
 obtain⟨T,aQ⟩:=iw (HR.below R hB) R;rw[d];clear d aM R;have U:∀k,(λk=>k=w.1.size+1) k->k<l.1.size:=λk e=>ω
 refine LV rfl aJ (gf:=148) (lb:=#[jH (jB ⟨w.1.size+1+1+1,0,jC⟩)]) rfl trivial (enters_of Tryz.func148 κ rfl)
  (ajb (m-1) ω E ins s (iX ai ni ci) (iX al nl cl) ae nc ce ac nc cc (w.1.size+1+1+1) B (λk=>k=w.1.size+1) l U (λk e=>ω) aP (λe=>ω) T.g.he T.i ω aF ω (λr h=>γ) aN aH hs)
  U (λx N args W Z=>by obtain⟨u,rfl,_⟩:=Z;rfl) (λx N N' args W hN Z=>Z.mono hN)
  (λ(s:List (List Nat)×(Nat->Prop)) V=>V.ownsRow w.1.size 4 1 (iX (jB ⟨w.1.size+1,0,jC⟩) nc nc) nc (qV (Gq nc s.1))/\(BL (λk=>k=w.1.size+1) l s.2 V/\s.2 (w.1.size+1)))
  (λc s V=>False)
  (OwnFrom.and (aex _ _ _ _ _ (λs:List (List Nat)×(Nat->Prop)=>qV (Gq nc s.1)) _) (OwnFrom.and (Ec lR (λs:List (List Nat)×(Nat->Prop)=>s.2)) (ownFrom_pure _ _)))
  (λc _ _ _ _ h _ _=>h)
  ⟨S,BL.refl U,rfl⟩
  (λx a' V=>∃Au cu,a'={tmps:=#[.agg #[iX ai ni ci,iX ae nc ce,iX al nl cl,iX ac nc cc,iY jA (uH s)],jH (jB ⟨w.1.size,0,jC⟩),iX jC 0 0,jH (jB ⟨w.1.size+1+1,0,jC⟩),iX Au (η x) cu,undef,undef,jH (jB ⟨w.1.size,3,jC⟩),iX ac nc cc,iY iZ (nc:Int),iX (jB ⟨w.1.size+1,0,jC⟩) nc nc,.agg #[iX ai ni ci,iX ae nc ce,iX al nl cl,iX ac nc cc,iY jA (uH s:Int)],.func (.func 148) #[] #[jH (jB ⟨w.1.size+1+1+1,0,jC⟩)],iX Au (η x) cu,undef,undef,undef,undef,undef,undef,undef,undef,undef,undef,undef,undef,undef,undef],defers:=[]}/\V.ownsRow 0 3 1 (iX Au (η x) cu) (η x) (qO (iE x))/\∀g,(Value.slice Au (η x) cu).ownBlock=jB g->g≠w.1.size+1)
  (λx a' s X Y row Z hg aR=>by
   obtain⟨Au,cu,h1,h2,h3⟩:=Z;exact⟨_,_,h1,T9 _ _ _ _ _ _ _ () X Y _ h2 hg aR,h3⟩) ?assign ?body ?done ?stop
 case assign=>
  intro l2 pre x N1 args V K hi Z hlen hK;obtain⟨u,rfl,hu,aS⟩:=Z;obtain⟨Au,cu,rfl, -⟩:=qX hu;gi_wp2
  exact hK _ _ (qW.refl _ _) hi ⟨_,_,rfl,hu,λg hg e=>aS g hg (e▸hi.2.2)⟩
 case body=>
  rintro l2 pre x N1 a2 V br bu _ aT ⟨b,a,z⟩ ⟨Au,cu,rfl,hu,ao⟩ hlen;dsimp at b a z;obtain⟨aq,ar,HU,au⟩:=iB b a hu ao;let⟨np,C⟩:=xQ (η x)
  have av:=dh C
  have aw:x∈Gp E ins s:=by
   obtain⟨t,ht⟩:=hlen;rw[<-ht];simp
  have a1:=(jL.1 aw).1;have aU:=dh (aay a1);have bm:np<=nc:=by have:=V3 a1;have:=p.o;omega
  rw[C]at HU au;have a6:=(CY ak a.uQ (λe=>ω)).cell;have F:=dh a6;have aV:w.1.size+4<=V.1.size:=by have:=a.uQ.size;omega
  clear b a hu ao aw a1 hlen a6;rw[C];clear C;gi_wp2
  gi_loopw [16] (λi V'=>∃q,q<=np/\i=iY iZ q/\Hd (V'.ownsRow w.1.size 4 1 (iX (jB ⟨w.1.size+1,0,jC⟩) nc nc) nc (qV ((x.take q).foldl (λr y=>r.set y jD) (Gq nc pre))))/\Hd (qW (λk=>k=w.1.size+1) V V')) (λi _=>np-(intOf i).toNat)
  case atStart=>exact⟨0,ω,rfl,aq,dh (qW.refl _ _)⟩
  case round=>
   obtain⟨q,hq,rfl,a7,j⟩:=hrel;have aW:=j.size;by_cases bw:q<np
   ·have wq:IntKind.i64.wrap (q+1)=q+1:=by rw[wI];omega
    have bz:0<=(q:Int):=ω;have bA:q<(np:Int):=ω;have a8:q<η x:=by rwa [av.o]
    have ax:=qR HU j (λg hg e=>au g hg e);let⟨A',c',hf,G⟩:=qX ax
    cases hf;let⟨b1,o1,aX,bB,aY⟩:=G.rd.at_ (FY a8)
    have bE:=G.cap;have aZ:=G.max;unfold maxLen at aZ;subst aX;let⟨y,hy⟩:=xQ (x.getD q 0)
    have ad:x[q]=y:=by rw[<-hy,gD,gE a8];rfl
    have b4:y<nc:=by have:=aU y (by rw[<-ad];exact mM _);have:=p.o;omega
    have bF:0<=(y:Int):=ω;have bG:y<(nc:Int):=ω;have b5:Hd ((x.take _).foldl (λr y=>r.set y jD) _ =((x.take q).foldl _ (Gq nc pre)).set y _):=dh (by rw[rE x q a8,ad,jK];rfl);have H:=yj a7 b4;have bH:=H.1;have bI:=H.2.1;have bJ:=H.2.2.1;have bK:=bD j ω (λe=>ω) F.o;rw[hy]at aY;clear hy ad G ax H;gi_wp2
    go_roundw
    case rel=>exact⟨q+1,ω,jM _ rfl,dh (by rw[b5.o];exact Dq a7.o),dh (j.setCell (λ_=>rfl) _)⟩
    case measure=>simp[intOf];omega
   ·have b6:q=np:=ω;subst b6;have b9:=dh (tL (by rwa [av.o]));gi_wp2
    have ay:qW N1 V _:=j.wide (λk e=>by rwa [e]);refine⟨_,BL.P8 ay aT,?_,ar.CQ ay,z⟩;rw[ZC];have:=a7.o;rwa [b9.o]at this
 case done=>
  rintro D N1 V hD bL ⟨b,a,z⟩ az;dsimp at b a z;have aW:=a.uQ.size;have bc:=(aI.1 az).1;have a6:=(CY ak a.uQ (λe=>ω)).cell;have J:V.1[w.1.size]? =jB _:=(a.uQ.block w.1.size ω (λe=>ω)).trans aO;have c0:V.cell? ⟨_,0,_⟩=jB (iX _ _ _):=cR J;have c1:V.cell? ⟨_,1,_⟩=jB (iX _ _ _):=cR J;have c2:V.cell? ⟨_,2,_⟩=jB (iX _ _ _):=cR J;have bd:∀k,(λk=>k=w.1.size+1) k->w.1.size<=k:=λk e=>ω
  have F:=dh (Mi a (show w.1.size<=l.1.size by omega) bd);have aA:=(T.below F hB).g;let⟨A8,c8,bh,aB⟩:=qX b
  cases bh;have bj:=dh (adA ai ae al ni ci nc ce nl cl ⟨I,E,L.map (λ(x:Nat)=>(x:Int))⟩ (Gq nc (Gp E ins s)) (jB ⟨w.1.size+1,0,jC⟩) nc nc V V.1.size (aA.up ω) aB (by rw[adg]) lR hi ω hl ω KE hr aG ω);clear aB aA J;gi_wp2_with (refine⟨trivial,?_⟩;gi_at_call 123;refine(callsIn_wide.2 bj.o).mono ?_;rintro e V2 ⟨v,rfl,hv,af,O⟩;obtain⟨Av,cv,rfl, -⟩:=qX hv;have ag:=dh ((af.block D bc).trans az);have HV:=dh hv;have aC:=dh af;have aD:=dh O;clear hv af O)
  refine⟨ς,.inl ⟨_,_,rfl,run_takeDeferred ag.o,?_⟩⟩
  have ah:(Ij nc E (Gq nc (Gp E ins s))).map Value.bool=qV (Le E ins s):=by
   rw[p.o];rfl
  have aE:=rC HV (show w.1.size<=V.1.size by omega);rw[ah]at aE;exact⟨_,results_tmp rfl _ _ _,iX _ _ _,rfl,ownsRow_putObj aE _ ag rfl,((aQ.trans F.o).trans (aC.mono ω)).trans (belowK_b lR _ D _ _ ω ag rfl rfl),aD.o⟩
 case stop=>exact λ_ _ _ _ _ _ _ _ h=>h.elim
theorem WA (I:List Int)(E:List (List Nd))(L ins:List Nat)(s:Nat)(ai:Option Addr)(ni ci:Nat)(ae:Option Addr)(ne ce:Nat)(al:Option Addr)(nl cl:Nat)(ac:Option Addr)(nc cc:Nat)(B:Nat)(w:jF)
  (h:yX w B ai ni ci ae ne ce al nl cl ac nc cc I E L ins)(i:B<=w.1.size)(a:∀r∈E,∀e∈r,sG (η E) e.op=jD)(j:ne<=65536)(KE:Nat)(k:∀r∈E,η r<=KE)(b:ne*KE<=1000000000)(c:KE<=1000000)(d:η ins=η E)(g:∀x,ins.getD x 0<2^64)(hs:s<=16)
  (hi:ni<=1000000000)(hl:nl<=17592186044416):
  Calls jJ 82 #[.agg #[iX ai ni ci,iX ae ne ce,iX al nl cl,iX ac nc cc,iY jA (uH s:Int)]] w (sI w 4 1 ne (qV (Le E ins s)) False):=
 (callsIn_wide (n:=3)).1 (Zt 3 lR I E L ins s ai ni ci ae ne ce al nl cl ac nc cc B w h i a j KE k b c d g hs hi hl)
theorem ahh {a:rQ}(hA:a.Ok):∀r∈wL a,∀e∈r,sG (η (wL a)) e.op=jD:=by
 intro r b e he;rw[CU];obtain⟨q,c,rfl⟩:=jg.1 b;obtain⟨t,d,rfl⟩:=jg.1 he;exact hA.2 _ (at_mem (jl.1 c)) t (jL.1 d).1
theorem open_row {a:rQ}{K:Nat}(b:∀x∈a.nodes,η x.to<=K):∀r∈wL a,η r<=K:=by
 intro r c;obtain⟨q,d,rfl⟩:=jg.1 c;unfold Ee;rw[jr];exact Nat.le_trans (jO _ _) (b _ (at_mem (jl.1 d)))
