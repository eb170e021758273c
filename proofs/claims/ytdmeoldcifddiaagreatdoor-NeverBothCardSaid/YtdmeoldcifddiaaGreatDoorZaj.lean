/- A part of the proof. -/
import Derived.Test.YtdmeoldcifddiaaGreatDoorZai
import Derived.Test.YtdmeoldcifddiaaGreatDoorZab
import Derived.Test.YtdmeoldcifddiaaGreatDoorZad
import Derived.IntWalk
import Derived.Outline
/- The walk of layer 30's reference: all. -/
set_option maxHeartbeats 8000000
set_option maxRecDepth 100000
namespace Go.Proofs.YtdmeoldcifddiaaGreatDoor
open Go.RowKit
open Go.Value renaming slice -> iX, int -> iY, bool -> jI
open Go.IntKind renaming i64 -> iZ
open Option renaming some -> jB, none -> jC
open Bool renaming true -> jD, false -> jE
open Go renaming World -> jF
open Go.Obj renaming cells -> jG
open Go.Proofs.Tryz renaming prog -> jJ
open List renaming length -> η, replicate -> ρ, range -> ζ, getD -> θ
variable {a:rQ}{c:Bool}{bit bit':Int->Nat->Bool}{E R:List (List Nd)}{old z:List Bool}{F l lo st:List Int}{pre:List Nat}{f:List Nd}{B B' c1 c2 i j k lp m m' n n1 n2 ne uW q r t x y:Nat}{of:Nat->Bool->Bool}{A1 A2:Option Addr}{α:Type}{w w' w0:jF}
def AQ (a:rQ)(l:List Nat):List (Nat->Bool):=(ζ (a.sets.toNat+1)).map (λ(j:Nat)=>Fv a l ((j:Int)-1))
theorem adH (a Ai ni ci An nn cn E ai ae al gi di ne ce nl cl gI gL l Ao co w B)(h:sW w B a Ai ni ci An nn cn)(hG:DW w B ai gi di ae ne ce al nl cl ⟨gI,E,gL⟩)(ho:Sl w B 1 Ao ne co (qO (iE l)))(hn:ne=η l)(hB:B<=w.1.size)(hl:∀x∈l,x<nn)(av:∀r∈E,∀e∈r,sG ne e.op=jD)(bd:0<=a.sets)(hs:a.sets<=16)(bh:ne<=65536)(bj:nn<=1000000)(KB)(hr:∀r∈E,η r<=KB)(bm:ne*KB<=1000000000)(aw:KB<=1000000000):
  Calls jJ 24 #[.agg #[iY iZ a.sets,iX Ai ni ci,iX An nn cn],.agg #[iX ai gi di,iX ae ne ce,iX al nl cl],iX Ao ne co] w (λe w'=>∃zg,X4 E (AQ a l) zg/\sI w 4 1 ne (qV zg) False e w'):=by
 obtain⟨T,hT⟩:∃T:Nat,a.sets=T:=⟨a.sets.toNat,ω⟩;have a1:η (AQ a l)=T+1:=by simp[AQ,hT]
 have a6:∀k (hk:k<η (AQ a l)),(AQ a l)[k]=Fv a l (k-1):=λk hk=>by simp[AQ]
 have c9:T<=16:=ω;have ax:=dh (λ(z:List Bool) (Az:Option Addr) (cz:Nat) (i:Int) (w':jF) (B':Nat) (h':sW w' B' a Ai ni ci An nn cn) (bn:Sl w' B' 1 Az ne cz (z.map .bool)) (bp:Sl w' B' 1 Ao ne co (qO (iE l))) (hz:ne=η z) (bq:B'<=w'.1.size) (hi:i<=63) (ay: -1<=i)=>Zl a Ai ni ci An nn cn z Az ne cz l Ao co i w' B' h' bn bp hz hn bq hl hi ay ω bj);rw[hT]at ax⊢;let⟨Q,x0,y0,z0⟩:=uS w (jG #[iY iZ T,iX Ai ni ci,iX An nn cn] 32) (jG #[iX ai gi di,iX ae ne ce,iX al nl cl] 63)
 let⟨W0,ak⟩:=xQ ((w.alloc (jG #[iY iZ T,iX Ai ni ci,iX An nn cn] 32)).alloc (jG #[iX ai gi di,iX ae ne ce,iX al nl cl] 63))
 rw[ak]at Q x0 y0 z0;have br:=dh ak;have az:Hd (ne=η E):=dh hG.lens.2.1;have bu:=run_make_row' (P:=jJ) 64 4 (jI jE) 1 Tryz.underlying64 wN rfl iZ iZ ne ω ω;obtain⟨HH,HG,HO,aA,HR,bw,bz,a7,aB⟩:=dh9 (h.below Q hB) (hG.below Q hB) (ho.below Q hB) av hr x0 y0 a1 a6;have cg:B<=W0.1.size:=ω;clear ak h hG ho av hr x0 y0 a1 a6 hn hl hT bd hs;go_enter Tryz.func24,Tryz.ntmps24;go_wp2
 obtain⟨J,ao⟩:=xR (w.1.size+1+1)
 have bA:∃W,W=(W0.alloc (jG (madeCells #[jI jE] ne) 4))/\W.ownsRow J 4 1 (iX (jB ⟨J,0,jC⟩) ne ne) ne (qV ((ζ 0).map (λ_=>jD)++ρ (ne-0) jE))/\Below J W0 W:=by
  refine⟨_,rfl,?_,bR.alloc ω _⟩;have:=BP (w:=W0) (base:=J) (e:=4) (n:=ne) (v:=jI jE) ω (by unfold maxLen;omega);rw[z0,<-ao]at this;simpa[qV]using this
 obtain⟨W,hW,a8,bB⟩:=bA;rw[br.o,<-ao,<-hW];have ca:w.1.size+2<=J:=ω;have cb:J<=w.1.size+2:=ω;clear hW bu ao;go_loopw [8] (λv wr=>∃k,k<=ne/\v=iY iZ k/\wr.ownsRow J 4 1 (iX (jB ⟨J,0,jC⟩) ne ne) ne (qV ((ζ k).map (λ_=>jD)++ρ (ne-k) jE))/\Below J W0 wr) (λv _=>ne-(intOf v).toNat)
 case atStart=>exact⟨0,ω,rfl,a8,bB⟩
 case round=>
  obtain⟨k,hk,rfl,hR,C⟩:=hrel;clear a8;by_cases V:k<ne
  ·obtain⟨q6,f6,g6,_⟩:=yj hR V;have h1:=Dq (t:=k) (d:=jD) hR;have X:=Py V (λ_=>jD) jE;rw[X]at h1;have H1:=dh h1;have bE:=C.setCell (p:=⟨_,k,jC⟩) lR (jI jD);have bF:=dh bE;go_wp2
   go_roundw
   case rel=>exact⟨_,ω,by go_num,H1.o,bF.o⟩
   case measure=>simp[intOf];omega
  ·have bG:k=ne:=ω;subst bG
   have ad:(ζ k).map (λ_=>jD)++ρ (k-k) jE=ρ k jD:=by
    refine jw ς (λi h1 h2=>ς)
   rw[ad]at hR;obtain⟨wf,aC⟩:∃wf,wf=wr:=⟨_,rfl⟩;rw[<-aC]at hR C⊢;have aD:=dh hR;have aE:=dh (by have:=GInv.start E (AQ a l);rwa [<-az.o]at this);have bH:J<=wf.1.size:=by have:=C.size;omega
   clear hR ad aC;go_wp2
   go_loopg [7] k (λgk u wr=>∃z,wr.ownsRow J 4 1 u k (qV z)/\u≠iX jC 0 0/\Hd (GInv E (AQ a l) z)/\Hd (Cm z<=gk)/\Below J W0 wr)
   case atStart=>exact⟨_,aD.o,ς,aE,dh (af5 k),C⟩
   case round=>
    clear aD aE bH C;obtain⟨z,hO,af,HI,HC,C⟩:=hrel;obtain⟨wp,aF⟩:∃wp,wp=wr:=⟨_,rfl⟩;rw[<-aF]at hO C⊢;obtain⟨Az,cz,rfl,aG⟩:=qX hO;have aH:=by have:=hO.1;simpa[qV]using this.symm
    have aJ:J<=wp.1.size:=by have:=C.size;omega
    obtain⟨Y,HOW,bI⟩:=iA aH hO aG;clear aH hO aG aF;go_wp2
    go_loopw [9,10] (λu v wr=>∃(j:Nat) (L:List _),j<=T+1/\v=iY iZ (j-1)/\wr.ownsRow J 4 1 u k (qV L)/\u≠iX jC 0 0/\Hd (L=wS E ((AQ a l).take j) z)/\Below wp.1.size wp wr) (λ_ v _=>T+1-(intOf v+1).toNat)
    case atStart=>exact⟨0,z,ω,rfl,HOW.o,af,dh rfl,bR⟩
    case round=>
     obtain⟨j,L,hj,rfl,D,aK,aL,F⟩:=hrel;obtain⟨Al,bJ,rfl,O⟩:=qX D;have G:=by have:=D.1;simpa[qV]using this.symm
     have c:=C.trans (F.mono aJ);have M:J<=wr.1.size:=by have:=F.size;omega
     have x1:=(c.block _ ω).trans bw.o;have y1:=(c.block _ ω).trans bz.o;let⟨m0,m1,m2⟩:=sQ x1
     let⟨n0,n1,n2⟩:=sQ y1
     have s:w.1.size<wr.1.size:=ω;have b:w.1.size+1<wr.1.size:=ω;by_cases V:j<T+1
     ·have aM:(j-1)<(T:Int):=ω;have wj:IntKind.i64.wrap (j-1+1)=(j+1:Nat)-1:=by rw[wI];omega
      have bK:j<η (AQ a l):=by rwa [a7.o]
      have X:wS E ((AQ a l).take (j+1)) z=xg E L (Fv a l (j-1)):=by rw[VO bK,<-aL.o,aB j _]
      have bL:=dh X;have R:Below wr.1.size wr _:=Below.drew bR;let⟨wd,aq⟩:=xQ wr.drew
      rw[aq]at R;have bM:=dh aq;have aN:=R.size;have aO:=c.trans (R.mono M);obtain⟨bN,ar,H⟩:=iA (Tv ai ae al gi di k ce nl cl ⟨gI,E,gL⟩ L Al bJ wd wr.1.size ((HG.below aO ω).up ω) (O.below R lR) G aN ω KB aA HR ω) O G
      have aP:∀r∈uL E L,∀e∈r,sG k e.op=jD:=λr hr e he=>by
       obtain⟨i,hi,rfl⟩:=jg.1 hr;split at he
       ·have hm:=(jL.1 he).1;rw[jl]at hi;simp[θ,gE hi]at hm;exact aA _ (mM _) e hm
       ·cases he
      have aQ:∀r∈uL E L,η r<=KB:=λr hr=>by
       obtain⟨i,hi,rfl⟩:=jg.1 hr;split
       ·apply Nat.le_trans (jO _ _);rw[jl]at hi;simp[θ,gE hi];exact HR _ (mM _)
       ·simp
      obtain⟨bO,bP⟩:=iw aP aQ;clear aP aQ aq O D x1 y1 X G;go_wp2
      refine wp_region_held_drew (S:=λw'=>q9 w' _ 0 _/\q9 w' _ 1 _/\q9 w' _ 2 _/\q9 w' _ 0 _/\q9 w' _ 1 _/\q9 w' _ 2 _) rfl ⟨m0,m1,m2,n0,n1,n2⟩ (λhS=>?_);apply qU 0;apply qU 1;apply qU 3;apply qU 4;apply qU 5;apply qU 6;refine rR 2 (λK hK=>?_);go_simp;rw[bM.o];apply bN.mono;rintro e w5 ⟨ch,bQ,cj,ck,bS,cm,cp,bT,cq,rfl,au,ag,D⟩;have q:=R.trans (ag.mono aN);let⟨M1,M2,M3⟩:=au.lens
      have aR:bS=k:=by rw[M2];rw[Gy,<-az.o]
      have aS:bQ=0:=M1;have aT:bT=0:=M3;subst aS aT aR;clear ag M1 M2 M3 D;dsimp;refine hK _ _ ⟨bC q s m0,bC q s m1,bC q s m2,bC q b n0,bC q b n1,bC q b n2⟩ (λhS=>?_);clear hK;refine rR 7 (λK hK=>?_);go_simp;have aU:=q.size;apply (ax _ _ _ _ _ _ ((HH.below (c.trans (q.mono M)) ω).up ω) ((ar.below q lR).up aU) ((HO.below (c.trans (q.mono M)) ω).up ω) H lR ω ω).mono;rintro e w6 ⟨v6,rfl,aV,N, -⟩;obtain⟨A6,c6,rfl,aW⟩:=qX aV;have y:=q.trans (N.mono aU);have aX:=(au.below N lR).up N.size;clear N aV;dsimp;refine hK _ _ ⟨bC y s m0,bC y s m1,bC y s m2,bC y b n0,bC y b n1,bC y b n2⟩ (λhS=>?_);clear hK;refine rR 8 (λK hK=>?_);go_simp;apply (UH _ _ _ 0 _ _ _ 0 _ _ _ _ _ _ _ aX aW (by rwa [adf]) bO lR ω ω bh _ bP bm aw).mono;rintro e w7 ⟨v7,rfl,aY,ah,U⟩;have aZ:v7≠iX _ 0 0:=λh=>U.1 h
      have I:=y.trans (ah.mono y.size);clear ah U aX aW au;dsimp;refine hK _ _ ⟨bC I s m0,bC I s m1,bC I s m2,bC I b n0,bC I b n1,bC I b n2⟩ (λhS=>?_);clear hK;apply qU 9;refine wpAnyH_done rfl ?_ _;have bU:=dh (rC aY (show J<=w6.1.size by have:=y.size;omega));have bV:=dh (F.trans (I.mono F.size));clear aY q y I m0 m1 m2 n0 n1 n2;go_wp2
      go_roundw
      case rel=>exact⟨j+1,_,ω,(by congr 1;omega),bU.o,aZ,dh (by rw[bL.o,H.o,<-ady]),bV.o⟩
      case measure=>simp[intOf];omega
     ·have bW:j=T+1:=ω;subst bW;have aM:¬((T+1:Nat)-1)<(T:Int):=ω
      have aj:=by
       have:=aL.o;rwa [tL (by rwa [a7.o])]at this
      have Z:=dh aj;obtain⟨wx,b4⟩:∃wx,wx=wr:=⟨_,rfl⟩;rw[<-b4]at D O F c M m0 m1 m2 n0 n1 n2⊢;obtain⟨bX,ar,bY⟩:=iA D O (bI.below F lR);have bZ:=dh (qR HOW (qW.of_below F) (λg hg=>by have:=(HOW.lt g hg).2;omega));have cr:=F.size;have H:=dh G;clear D O x1 y1 aj b4 s b V G;go_wp2
      go_loopw [11,12] (λu v wr=>∃i m,i<=k/\u=jI ((ζ i).any (λi=>z.getD i jE !=L.getD i jE))/\v=iY iZ i/\wr=wx.drewN m) (λ_ v _=>k-(intOf v).toNat)
      case atStart=>exact⟨0,0,ω,rfl,rfl,rfl⟩
      case round=>
       obtain⟨i,m,hi,rfl,rfl,rfl⟩:=hrel;by_cases ct:i<k
       ·have cd:i<(k:Int):=ω;have ay:0<=(i:Int):=ω;obtain⟨ba,oa,rfl,cu,cv⟩:=bY.rd.at_ (uN (by rwa [<-Y.o]));obtain⟨bb,ob,rfl,cw,cx⟩:=ar.rd.at_ (uN (by rwa [<-H.o]))
        have b5:(ζ (i+1)).any (λi=>z.getD i jE !=L.getD i jE)=((ζ i).any (λi=>z.getD i jE !=L.getD i jE)||(z.getD i jE !=L.getD i jE)):=by
         rw[mh,oP];simp
        have b6:=dh b5;have wi:IntKind.i64.wrap (i+1)=i+1:=by rw[wI];omega
        clear b5;generalize (ζ i).any _ =b0 at *;generalize z.getD i _ =v1 at *;generalize L.getD i _ =v2 at *;cases b0
        ·go_wp2
         go_quiet (fail)
         go_wp2
         go_roundw
         case rel=>exact⟨i+1,_,ω,by rw[b6.o,oI];cases v1<;>cases v2<;>rfl,by go_num,by first|rfl|rw[jF.drewN_drewN]⟩
         case measure=>simp[intOf];omega
        ·go_wp2
         go_quiet (fail)
         go_wp2
         go_roundw
         case rel=>exact⟨i+1,_,ω,by rw[b6.o,Bool.true_or],by go_num,by first|rfl|rw[jF.drewN_drewN]⟩
         case measure=>simp[intOf];omega
       ·have b9:i=k:=ω;subst b9;cases cy:(ζ i).any _
        ·have c0:z=L:=afA (by rw[<-Y.o,<-H.o]) (by rwa [<-Y.o]);have c4:=dh (HI.done (by rw[<-Z.o,<-c0];exact BF.refl z));go_wp2
         go_ret
         exact⟨z,c4.o,_,rfl,rC bZ ω,Q.trans ((BZ c m 0).mono ω),⟨λh=>absurd h af,False.elim⟩⟩
        ·have c5:Cm L<gk:=jh (by rw[Z.o];exact J9 HI.1 (by rw[<-Z.o];exact afz (by rwa [<-Y.o]))) HC.o;have bc:=dh HI.round;rw[<-Z.o]at bc;go_wp2
         go_roundg (Cm L)
         case measure=>exact c5
         case rel=>exact⟨_,bX.o,aK,bc,dh lR,BZ c m 0⟩
def Vb {α:Type}(n:Nat)(f:Nat->α)(d:α)(m:Nat):List α:=(ζ n).map λi=>if i<m then f i else d
section
variable {α:Type}{n m:Nat}{f:Nat->α}{d:α}
theorem agN:η (Vb n f d m)=n:=by simp[Vb]
theorem U9:Vb n f d 0=ρ n d:=by
 refine jw (by simp[Vb]) (λi a b=>by simp[Vb])
theorem aaj:(Vb n f d m).set m (f m)=Vb n f d (m+1):=by
 refine jw (by simp[Vb]) (λi a b=>?_);rw[mq];simp only[Vb,lJ,l9];by_cases e:m=i
 ·subst e;simp
 ·rw[d9 e];by_cases e2:i<m
  ·rw[jd e2,jd ω]
  ·rw[d9 e2,d9 ω]
theorem aiG:(Vb n f d m).set m d=Vb n f d m:=by
 refine jw ς (λi a b=>?_);rw[mq];split
 ·rename_i e;subst e;simp[Vb]
 ·rfl
theorem Va:Vb n f d n=(ζ n).map f:=by
 refine j6 (λi hi=>?_);rw[jd (jl.1 hi)]
end
section
variable {a:rQ}{W:List Nat}{lp:Nat}
def KU (a:rQ)(W:List Nat)(lp m:Nat):List Nd:=Gj a W lp (m/η W) (m%η W)
theorem aeM (a W lp):Vb (η a.nodes*η W) (KU a W lp) [] (η a.nodes*η W)=vX a W lp:=Va
theorem aeL (b:k<η W):KU a W lp (q*η W+k)=Gj a W lp q k:=by
 obtain⟨c,d⟩:=F9 (q:=q) b;rw[KU,c,d]
def Dm (a:rQ)(W:List Nat)(uW:Nat)(l:List Int):List Nd:=(l.filter (λt=>zD (a.at t.toNat) (W.getD uW 0))).map (λt=>⟨t*(η W:Int)+(uW:Int),0⟩)
theorem YR (hi:i<η l):Dm a W uW (l.take (i+1))=Dm a W uW (l.take i)++(if zD (a.at l[i].toNat) (W.getD uW 0)=jD then[⟨l[i]*(η W:Int)+(uW:Int),0⟩]else[]):=by
 unfold Dm;rw[rE l i hi,ku,jT];congr 1;rw[kW,lN];split<;>simp
theorem aeK:η (Dm a W uW l)<=η l:=by
 unfold Dm;rw[jr];exact jO _ _
theorem aco (h:zD (a.at q) (W.getD k 0)=jD):Gj a W lp q k=Dm a W (nx lp (η W) k) (a.at q).to:=jd h
theorem aeJ (h:zD (a.at q) (W.getD k 0)=jE):Gj a W lp q k=[]:=d9 (by rw[h];decide)
theorem aa2 (b:q<η a.nodes):a.at q∈a.nodes:=by
 unfold rQ.at;rw[gD,gE b];exact mM b
theorem VX (hm:m<η a.nodes*η W):m/η W<η a.nodes:=by
 rcases Nat.eq_zero_or_pos (η W)with b|b
 ·rw[b]at hm;omega
 ·exact(Nat.div_lt_iff_lt_mul b).2 hm
theorem aeN (hA:a.Ok)(b:lp<η W):∀r∈vX a W lp,∀e∈r,sG (η a.nodes*η W) e.op=jD:=by
 intro r d e he;obtain⟨m,hm,rfl⟩:=jg.1 d;have f:=VX (jl.1 hm);unfold Gj at he;split at he
 ·obtain⟨t,g,rfl⟩:=jg.1 he;obtain⟨q',rfl,c⟩:=rO (hA.2 _ (aa2 f) t (jL.1 g).1);have:=Aq c (yQ (i:=m%η W) b);rw[sU];dsimp only;have e:(q':Int)*(η W:Int)+((nx lp (η W) (m%η W):Nat):Int)=((q'*η W+nx lp (η W) (m%η W):Nat):Int):=ς;rw[e];omega
 ·cases he
theorem acp {c:Nat}(d:∀x∈a.nodes,η x.to<=c):∀r∈vX a W lp,η r<=c:=by
 intro r b;obtain⟨m,hm,rfl⟩:=jg.1 b;have e:=VX (jl.1 hm);unfold Gj;split
 ·rw[jr];exact Nat.le_trans (jO _ _) (d _ (aa2 e))
 ·simp
def gJ (N n:Nat):List Nat:=(ζ (N*n)).map (· /n)
theorem aiU (N n:Nat):Vb (N*n) (λm=>((m/n:Nat):Int)) 0 (N*n)=iE (gJ N n):=by rw[Va];simp[iE,gJ]
theorem aiV {N:Nat}:∀x∈gJ N n,x<N:=by
 intro x b;obtain⟨m,hm,rfl⟩:=jg.1 b;rw[jl]at hm;rcases Nat.eq_zero_or_pos n with a|a
 ·rw[a]at hm;omega
 ·exact(Nat.div_lt_iff_lt_mul a).2 hm
theorem afS (h:X4 (vX a W lp) (AQ a (gJ (η a.nodes) (η W))) z):X4 (vX a W lp) (DT a (η W)) z:=by
 refine adh (by simp[AQ,DT]) (λj p q hp d k c=>?_) h;rw[CS]at c;have b:(gJ (η a.nodes) (η W)).getD k 0=k/η W:=by simp[gJ,θ,c]
 obtain⟨i,rfl⟩:=gB.1 hp;obtain⟨e,rfl⟩:=gB.1 d;have e1:(AQ a (gJ (η a.nodes) (η W)))[j]=Fv a (gJ (η a.nodes) (η W)) ((j:Int)-1):=by simp[AQ]
 rw[e1];unfold Fv;rw[b];cases j with
 |zero=>rfl
 |succ j=>
  have f:decide (((j+1:Nat):Int)-1<0)=jE:=decide_eq_false ω;have g:(((j+1:Nat):Int)-1).toNat=j:=ω;have e2:(DT a (η W))[j+1]=λm=>(a.at (m/η W)).inn.testBit j:=by simp[DT]
  rw[f,g,oI,e2]
def zR (a:rQ)(W:List Nat)(l:List Int):List Int:=(l.filter (λq=>zD (a.at q.toNat) (W.getD 0 0))).map (· *(η W:Int))
def JJ (a:rQ)(W:List Nat)(z:List Bool):Bool:=(zR a W a.init).any (λx=>z.getD x.toNat jE)
theorem ZG (hi:i<η l):zR a W (l.take (i+1))=zR a W (l.take i)++(if zD (a.at l[i].toNat) (W.getD 0 0)=jD then[l[i]*(η W:Int)]else[]):=by
 unfold zR;rw[rE l i hi,ku,jT];congr 1;rw[kW,lN];split<;>simp
theorem Xb:η (zR a W l)<=η l:=by
 unfold zR;rw[jr];exact jO _ _
theorem afU (hA:a.Ok)(c:0<η W):∀x∈zR a W a.init,∃m:Nat,x=(m:Int)/\m<η a.nodes*η W:=by
 intro x d;obtain⟨q,e,rfl⟩:=jg.1 d;obtain⟨q',rfl,b⟩:=rO (hA.1 q (jL.1 e).1);exact⟨q'*η W,ς,by have:=Aq b c;omega⟩
theorem Yn (hA:a.Ok):JJ a W z=jD↔O0 a W z:=by
 unfold JJ zR O0;rw[kT];constructor
 ·rintro⟨x,d,e⟩;obtain⟨q,f,rfl⟩:=jg.1 d;obtain⟨b,c⟩:=jL.1 f;obtain⟨q',rfl,_⟩:=rO (hA.1 q b);rw[tN]at c;refine⟨q',b,c,?_⟩;rwa [show((q':Int)*(η W:Int)).toNat=q'*η W from by rw[<-Int.natCast_mul,tN]]at e
 ·rintro⟨q,b,c,g⟩;refine⟨(q:Int)*(η W:Int),jg.2 ⟨(q:Int),jL.2 ⟨b,by rw[tN];exact c⟩,rfl⟩,?_⟩;rwa [show((q:Int)*(η W:Int)).toNat=q*η W from by rw[<-Int.natCast_mul,tN]]
end
theorem NC {N:Nat}{s:Int}:∀{l:List BM},zI N s l=0->∀x∈l,vE N s x=0
 |[],_=>λx b=>by cases b
 |x::r,h=>by
  unfold zI at h;split at h
  ·next a=>
   intro y hy;rcases jk.1 hy with rfl|hy
   ·exact a
   ·exact NC h y hy
  ·next a=>exact absurd h a
theorem aaT (h:tO a=0):η a.nodes<=256/\0<=a.sets/\a.sets<=16/\a.Ok:=by
 unfold tO at h;split at h
 ·simp at h
 ·split at h
  ·simp at h
  ·split at h
   ·next f g b=>
    refine⟨ω,ω,ω,λi hi=>jR.1 b i hi,λx c t d=>?_⟩;have:=NC h x c;unfold vE at this;split at this
    ·next e=>exact jR.1 e t d
    ·simp at this
   ·simp at h
theorem ahC (a:x<=1000000)(hy:y<=1000000):IntKind.i64.wrap ((x:Int)*(y:Int))=((x*y:Nat):Int):=by
 have h:=oK a hy;rw[<-Int.natCast_mul];generalize x*y=p at *;rw[wI];omega
def TW (w0:jF)(r q ne:Nat)(R:List (List Nd))(F:List Int)(wr:jF):Prop:=
 ∃vs,Own2 wr w0.1.size 61 59 2 (iX (jB ⟨r,0,jC⟩) ne ne) (R.map qP) vs/\Below w0.1.size w0 wr/\wr.ownsRow w0.1.size 3 1 (iX (jB ⟨q,0,jC⟩) ne ne) ne (qO F)
theorem TW.below (h:TW w0 r q ne R F w)(hb:Below w.1.size w w'):TW w0 r q ne R F w':=by
 obtain⟨vs,b,a,c⟩:=h;exact⟨vs,b.below hb,a.trans (hb.mono a.size),own_below c hb⟩
theorem TW.xq (h:TW w0 r q ne R F w):Below w0.1.size w0 w:=h.choose_spec.2.1
theorem TW.start (a:ne<=1000000000):TW w0 w0.1.size (w0.1.size+1) ne (ρ ne []) (ρ ne 0) ((w0.alloc (jG (madeCells #[iX jC 0 0] ne) 59)).alloc (jG (madeCells #[iY iZ 0] ne) 3)):=by
 obtain⟨vs,c,b⟩:=Eo.start (w0:=w0) a;have hb:Below (w0.alloc (jG (madeCells #[iX jC 0 0] ne) 59)).1.size (w0.alloc (jG (madeCells #[iX jC 0 0] ne) 59)) ((w0.alloc (jG (madeCells #[iX jC 0 0] ne) 59)).alloc (jG (madeCells #[iY iZ 0] ne) 3)):=bR.alloc lR _;refine⟨vs,c.below hb,b.trans (hb.mono b.size),?_⟩;have:=BP (w:=w0.alloc (jG (madeCells #[iX jC 0 0] ne) 59)) (base:=w0.1.size) (e:=3) (n:=ne) (v:=iY iZ 0) b.size (by unfold maxLen;omega);rw[show(w0.alloc (jG (madeCells #[iX jC 0 0] ne) 59)).1.size=w0.1.size+1 by simp]at this;simpa[qO]using this
theorem TW.put {x:Int}(h:TW w0 r q ne R F w)(f:t<ne):
  (∃y,w.cell? ⟨q,t,jC⟩=jB (iY iZ y))/\w.frozen? ⟨q,t,jC⟩=jE/\q<w.1.size/\TW w0 r q ne R (F.set t x) (w.setCell ⟨q,t,jC⟩ (iY iZ x)):=by
 obtain⟨vs,c,i,a⟩:=h;have hl:η F=ne:=by have:=a.1;simpa[qO]using this
 have s:qW (λk=>k=q) w (w.setCell ⟨q,t,jC⟩ (iY iZ x)):=qW.setCell (S:=λk=>k=q) (p:=⟨q,t,jC⟩) (qW.refl _ w) (λ_=>rfl) _;refine⟨⟨F.getD t 0,?_⟩,a.frozenAt t,(a.lt q rfl).2,vs,c.uQ s (λg d e=>own_ne c.main a δ g d (by rw[e];rfl)) (λj u g hu d e=>?_),i.setCell (p:=⟨q,t,jC⟩) (a.lt q rfl).1 _,?_⟩
 ·rw[a.cellAt t ω];simp[qO,θ,hl,f]
 ·have l:j<η (R.map qP):=by rw[<-c.len];exact(gB.1 hu).1
  obtain⟨u',n,b,m⟩:=c.row j (R.map qP)[j] (gE l);rw[hu]at b;cases b;exact own_ne m a δ g d (by rw[e];rfl)
 ·have:=(a.stored t (iY iZ x)).1;rw[qO,lX];exact this
theorem TW.grow {w1 w2:jF}{n':Nat}{u u':Value}{vs ys0:List Value}{ys:List Nd}{o:Obj}
  (j:Own2 w w0.1.size 61 59 2 (iX (jB ⟨r,0,jC⟩) ne ne) (R.map qP) vs)
  (v:Below w0.1.size w0 w)(d:w.ownsRow w0.1.size 3 1 (iX (jB ⟨q,0,jC⟩) ne ne) ne (qO F))(hw:w1=w.alloc o)(hu:vs[t]? =jB u)(a:w.ownsRow w0.1.size 61 2 u n ys0)
  (c:w2.ownsRow w0.1.size 61 2 u' n' (qP ys))(l:qW (λk=>u.ownBlock=jB k) w1 w2)(f:u'.ownBlock=u.ownBlock\/u'.ownBlock=jB w1.1.size):
  w2.cell? ⟨r,t,jC⟩=jB u/\w2.frozen? ⟨r,t,jC⟩=jE/\(∀b,b<w.1.size->(∀g,u.ownBlock=jB g->g≠b)->∀o,w2.cell? ⟨b,o,jC⟩=w.cell? ⟨b,o,jC⟩)/\
   TW w0 r q ne (R.set t ys) F (w2.setCell ⟨r,t,jC⟩ u'):=by
 obtain⟨e1,e2,x,vs',g1,g2⟩:=Eo.grow j v hw hu a c l f;refine⟨e1,e2,x,vs',g1,g2,?_⟩;subst hw;have i:=qW.trans ((qW.refl _ w).alloc _) l (λ_ _ h=>h);have s:qW (λk=>k=r\/u.ownBlock=jB k) w (w2.setCell ⟨r,t,jC⟩ u'):=qW.setCell (S:=λk=>k=r\/u.ownBlock=jB k) (p:=⟨r,t,jC⟩) (i.mono (λ_ _ h=>.inr h)) (λ_=>.inl rfl) _;refine qR d s (λk m hS=>?_);rcases hS with e|e
 ·exact own_ne d j.main δ k m (by rw[e];rfl)
 ·exact own_ne a d δ k e m
theorem ajO {b:Nat}{p q:Value}(h:w.1[b]? =jB (jG #[p,q] t (0,0))):w.cell? ⟨b,0,jC⟩=jB p/\w.cell? ⟨b,1,jC⟩=jB q:=by
 refine⟨?_,?_⟩<;>(rw[cell_of_row _ _ _ _ _ (0,0) h];rfl)
def swd (of:Nat->Bool->Bool)(n:Nat)(c:Bool):Nat->Bool
 |0=>of (n-1) c
 |d+1=>of (n-1-(d+1)) (swd of n c d)
def sw (of:Nat->Bool->Bool)(n:Nat)(c:Bool)(k:Nat):Bool:=swd of n c (n-1-k)
theorem aap (of:Nat->Bool->Bool)(c)(h:k<n):sw of n c k=of k (if k+1<n then sw of n c (k+1)else c):=by
 split
 ·rename_i a;obtain⟨d,hd⟩:∃d,n-1-k=d+1:=⟨n-1-k-1,ω⟩;rw[sw,hd,swd,sw,show n-1-(k+1)=d by omega,show n-1-(d+1)=k by omega]
 ·rw[sw,show n-1-k=0 by omega,swd,show n-1=k by omega]
theorem Vo {u:Nat->Bool}(h:∀k,k<n->u k=of k (u (nx lp n k))):∀d k,k+d+1=n->u k=sw of n (u lp) k
 |0,k,hd=>by
  rw[aap _ _ ω,h k ω,nx,d9 ω,d9 ω]
 |d+1,k,hd=>by
  rw[aap _ _ ω,h k ω,nx,jd ω,jd ω,Vo h d (k+1) ω]
theorem aiM (h:sw of n c lp=c)(a:k<n):sw of n c k=of k (sw of n c (nx lp n k)):=by
 rw[aap _ _ a,nx];split
 ·rfl
 ·rw[h]
def Gv (a b:List Bool)(k:Nat)(c:Bool):Bool:=b.getD k jE||(a.getD k jE&&c)
theorem Vn (c:lp<n)(a b)(f:k<n):
  sw (Gv a b) n (sw (Gv a b) n jE lp) k=run lp n a b (n+1) k/\sw (Gv a b) n (run lp n a b (n+1) lp) k=run lp n a b (n+1) k:=by
 have g:∀k,k<n->run lp n a b (n+1) k=Gv a b k (run lp n a b (n+1) (nx lp n k)):=λk f=>TU c a b f
 have d:∀k,k<n->run lp n a b (n+1) k=sw (Gv a b) n (run lp n a b (n+1) lp) k:=λk f=>Vo g (n-1-k) k ω
 refine⟨?_,(d k f).symm⟩
 have hc:sw (Gv a b) n jE lp=run lp n a b (n+1) lp:=by
  cases e:run lp n a b (n+1) lp
  ·have:=d lp c;rw[e]at this;exact this.symm
  ·cases e2:sw (Gv a b) n jE lp
   ·have j:=IQ c a b (u:=λk=>sw (Gv a b) n jE k) (λi hi h=>by
     show sw (Gv a b) n jE i=jD;rw[aiM e2 hi];exact h) (n+1) lp c e
    rw[e2]at j;exact j
   ·rfl
 rw[hc,d k f]
def RA (of:Nat->Bool->Bool)(n lp:Nat)(old:List Bool)(k:Nat):List Bool:=(ζ n).map λi=>if k<=i then sw of n (old.getD lp jE) i else old.getD i jE
theorem KG:η (RA of n lp old k)=n:=by simp[RA]
theorem abK (h:η old=n):RA of n lp old n=old:=by
 apply Ig KG h;intro i hi;rw[RA,wG _ hi,d9 ω]
theorem agT (b:k<n)(a:lp<n):of k ((RA of n lp old (k+1)).getD (nx lp n k) jE)=sw of n (old.getD lp jE) k:=by
 rw[aap _ _ b,RA,wG _ (yQ a),nx];split
 ·rw[jd lR]
 ·rw[d9 ω]
theorem aeb (b:k<n)(a:lp<n):(RA of n lp old (k+1)).set k (of k ((RA of n lp old (k+1)).getD (nx lp n k) jE))=RA of n lp old k:=by
 rw[agT (of:=of) (old:=old) b a];apply Ig (n:=n) (by rw[nE,KG]) KG;intro i hi;rw[gD,mE];split
 ·rename_i e;subst e;rw[jd (by rw[KG];exact hi),RA,wG _ hi,jd lR];rfl
 ·rename_i e;rw[<-gD,RA,wG _ hi,RA,wG _ hi];by_cases h:k<=i
  ·rw[jd h,jd ω]
  ·rw[d9 h,d9 ω]
def Bl (of:Nat->Bool->Bool)(n lp:Nat)(old:List Bool):List Bool:=RA of n lp old 0
theorem JL (a:k<n):(Bl of n lp old).getD k jE=sw of n (old.getD lp jE) k:=by
 rw[Bl,RA,wG _ a,jd ω]
theorem Yq:η (Bl of n lp old)=n:=KG
def BH (of:Nat->Bool->Bool)(n lp:Nat)(begin_:Bool):List Bool:=Bl of n lp (Bl of n lp (ρ n begin_))
theorem ag9 (h:k<n):(ρ n c).getD k jE=c:=by simp[θ,h]
theorem Yy (a:lp<n)(b:k<n):(BH of n lp c).getD k jE=sw of n (sw of n c lp) k:=by
 rw[BH,JL b,JL a,ag9 a]
theorem Q6 {a b:List Bool}(c:lp<η a):Bl (Gv a b) (η a) lp (BH (Gv a b) (η a) lp jE)=Gs lp a b:=by
 refine Ig (n:=η a) Yq (GI _ _ _) (λi hi=>?_);rw[JL hi,Yy c c,OP hi,(Vn c a b c).1,(Vn c a b hi).2]
section
variable {bits:Int->Nat->Bool}{n lp:Nat}
def D6 (bits:Int->Nat->Bool)(n lp:Nat)(s:List (List Bool)×List (List Bool))(x:Nd):List (List Bool)×List (List Bool):=
 let row:=qY bits n lp x (if takes x.op=1 then s.1.getD (η s.1-1) []else if takes x.op=2 then s.1.getD (η s.1-2) []else[]) (if takes x.op=2 then s.1.getD (η s.1-1) []else[])
 (s.1.take (η s.1-(takes x.op).toNat)++[row],s.2++[row])
def Cv (bits:Int->Nat->Bool)(n lp:Nat):Tr->List (List Bool)
 | .leaf x=>[val bits n lp (.leaf x)]
 | .un x a=>Cv bits n lp a++[val bits n lp (.un x a)]
 | .bin x a b=>Cv bits n lp a++(Cv bits n lp b++[val bits n lp (.bin x a b)])
theorem vS:∀t:Tr,η (Cv bits n lp t)=t.size
 | .leaf _=>rfl
 | .un _ a=>by simp[Cv,Tr.size,vS a]
 | .bin _ a b=>by simp[Cv,Tr.size,vS a,vS b];omega
theorem FI:∀(t:Tr) (l o:List (List Bool)),t.ok->t.flat.foldl (D6 bits n lp) (l,o)=(l++[val bits n lp t],o++Cv bits n lp t)
 | .leaf x,l,o,⟨h,_⟩=>by simp[Tr.flat,D6,h,Cv,val]
 | .un x a,l,o,⟨h,c⟩=>by
  rw[Tr.flat,jK,FI a l o c];simp[D6,h,Cv,val,θ]
 | .bin x a b,l,o,⟨h,c,hb⟩=>by
  rw[Tr.flat,jK,FI a l o c,jK,FI b _ _ hb];have d:η (l++[val bits n lp a]++[val bits n lp b])-2=η l:=ς;have e:η (l++[val bits n lp a]++[val bits n lp b])-1=η l+1:=ς;simp only[jZ,nO,D6,h];rw[show((2:Int)).toNat=2 from rfl,d,e];simp[Cv,val,θ]
def KS (bits:Int->Nat->Bool)(n lp:Nat)(f:List Nd):List (List Bool):=(f.foldl (D6 bits n lp) ([],[])).2
theorem YD {t:Tr}(h:t.ok):KS bits n lp t.flat=Cv bits n lp t:=by rw[KS,FI t [] [] h];simp
theorem ab5 (f):η (KS bits n lp f)=η f:=by
 have h:∀(l:List Nd) (s:List (List Bool)×List (List Bool)),(l.foldl (D6 bits n lp) s).2.length=η s.2+η l:=by
  intro l;induction l with
  |nil=>intro s;rfl
  |cons x l a=>intro s;rw[jZ,a];simp[D6];omega
 rw[KS,h];simp
theorem KQ {f:List Nd}{s:List Int}:∀(t:Tr) (b k:Nat),t.ok->At f s b t->b<=k->k<b+t.size->(Cv bits n lp t)[k-b]? =(Ad bits n lp f s (k+1))[k]?
 | .leaf x,b,k,d,e,i,g=>by
  simp only[Tr.size]at g;rw[En (.leaf x) b k d e (by simp only[Tr.size];omega),show k-b=0 by omega];rfl
 | .un x a,b,k,d,e,i,g=>by
  simp only[Tr.size]at g;by_cases h:k<b+a.size
  ·rw[Cv,gC (by rw[vS];omega)];exact KQ a b k d.2 e.1 i h
  ·rw[En (.un x a) b k d e (by simp only[Tr.size];omega),Cv,gR (by rw[vS];omega),vS,show k-b-a.size=0 by omega];rfl
 | .bin x a c,b,k,d,e,i,g=>by
  simp only[Tr.size]at g;by_cases h:k<b+a.size
  ·rw[Cv,gC (by rw[vS];omega)];exact KQ a b k d.2.1 e.1 i h
  ·rw[Cv,gR (by rw[vS];omega),vS];by_cases j:k<b+a.size+c.size
   ·rw[gC (by rw[vS];omega),<-KQ c (b+a.size) k d.2.2 e.2.1 ω j,show k-b-a.size=k-(b+a.size) by omega]
   ·rw[En (.bin x a c) b k d e (by simp only[Tr.size];omega),gR (by rw[vS];omega),vS,show k-b-a.size-c.size=0 by omega];rfl
theorem VI (hw:wrong f=0):KS bits n lp f=Ad bits n lp f (spans f) (η f):=by
 obtain⟨t,a,rfl⟩:=parse hw;rw[YD a];apply List.ext_getElem?;intro k;have hl:=t.rU;by_cases g:k<t.size
 ·have c:=KQ (bits:=bits) (n:=n) (lp:=lp) t 0 k a (Cb a) ω ω;rw[Nat.sub_zero]at c;have b:k<η (Ad bits n lp t.flat (spans t.flat) (k+1)):=by rw[EP];omega
  have e:=KR (d:=η t.flat-(k+1)) (gE b);rw[show k+1+(η t.flat-(k+1))=η t.flat by omega]at e;rw[c,e,gE b]
 ·rw[jQ (by rw[vS];omega),jQ (by rw[EP];omega)]
theorem YC (hw:wrong f=0):(KS bits n lp f)[η f-1]? =jB (val bits n lp (sF f)):=by
 rw[VI hw];exact ab4 hw
end
def hpl (lp n i:Nat):Nat:=if i<n then i else lp+(i-lp)%(n-lp)
def Sat (bit:Int->Nat->Bool):Tr->Nat->Prop
 | .leaf x,i=>if x.op=1 then True else if x.op=3 then bit x.n i=jD else False
 | .un x a,i=>if x.op=4 then ¬Sat bit a i else if x.op=8 then Sat bit a (i+1)else if x.op=11 then ∃d,Sat bit a (i+d)else ∀d,Sat bit a (i+d)
 | .bin x a b,i=>if x.op=5 then Sat bit a i/\Sat bit b i else if x.op=6 then Sat bit a i\/Sat bit b i else if x.op=7 then Sat bit a i->Sat bit b i
   else if x.op=9 then ∃d,Sat bit b (i+d)/\∀e,e<d->Sat bit a (i+e)else ∀d,Sat bit b (i+d)\/∃e,e<d/\Sat bit a (i+e)
theorem Sat.shift (h:∀m i,bit' m i=bit m (i+k)):∀(t:Tr) (i:Nat),Sat bit' t i↔Sat bit t (i+k)
 | .leaf x,i=>by simp only[Sat,h]
 | .un x a,i=>by
  have c:=Sat.shift h a;simp only[Sat,c];have e:∀d,i+d+k=i+k+d:=λd=>ω
  simp only[e]
 | .bin x a b,i=>by
  have f:=Sat.shift h a;have g:=Sat.shift h b;simp only[Sat,f,g];have e:∀d,i+d+k=i+k+d:=λd=>ω
  simp only[e]
theorem Sat.congr (h:∀m i,bit' m i=bit m i)(t i):Sat bit' t i↔Sat bit t i:=
 Sat.shift (k:=0) h t i
section
variable {bits:Int->Nat->Bool}{n lp:Nat}
end
def AY (st lo:List Int)(i:Nat):Int:=if i<η st then st.getD i 0 else lo.getD ((i-η st)%η lo) 0
theorem abV (h:i<η st):AY st lo i=st.getD i 0:=by rw[AY,jd h]
theorem RN (h:η st<=i):AY st lo i=lo.getD ((i-η st)%η lo) 0:=by rw[AY,d9 ω]
def Per (s:Nat->Int)(m p:Nat):Prop:=∀i,m<=i->s (i+p)=s i
theorem Per.up {s:Nat->Int}{p:Nat}(h:Per s m p)(hm:m<=m'):Per s m' p:=λi hi=>h i ω
def akc (lo:List Int)(p:Nat):Bool:=decide (η lo%p=0)&&decide (lo.drop p=lo.take (η lo-p))
def yJ (lo:List Int):Nat:=((ζ (η lo)).find? (λp=>decide (1<=p)&&akc lo p)).getD (η lo)
def roll (s:Nat->Int)(p:Nat):Nat->Nat
 |0=>0
 |k+1=>if s k=s (k+p)then roll s p k else k+1
def aio (st lo:List Int):Nat:=roll (AY st lo) (yJ lo) (η st)
set_option maxHeartbeats 1000000
def atW (st lo:List Int)(i:Int):Int:=if i<0 then 0 else AY st lo i.toNat
structure QX (w:jF)(B:Nat)(A1 A2:Option Addr)(n1 c1 n2 c2:Nat)(st lo:List Int):Prop where
 s1:Sl w B 1 A1 n1 c1 (OT st)
 s2:Sl w B 1 A2 n2 c2 (OT lo)
 l1:n1=η st
 l2:n2=η lo
theorem QX.below (h:QX w B A1 A2 n1 c1 n2 c2 st lo)(hb:Below B' w w')(a:B<=B'):QX w' B A1 A2 n1 c1 n2 c2 st lo:=
 ⟨h.s1.below hb a,h.s2.below hb a,h.l1,h.l2⟩
theorem QX.up (h:QX w B A1 A2 n1 c1 n2 c2 st lo)(a:B<=B'):QX w B' A1 A2 n1 c1 n2 c2 st lo:=⟨h.s1.up a,h.s2.up a,h.l1,h.l2⟩
theorem ajF {A:Option Addr}{c:Nat}(h:Sl w B 1 A n c (OT l))(a:k<η l):∃b o,A=jB ⟨b,o,jC⟩/\b<B/\w.cell? ⟨b,o+k,jC⟩=jB (iY .u64 (l.getD k 0)):=
 h.rd.at_ (abr a)
theorem GA (w A1 A2 n1 c1 n2 c2):Below w.1.size w (w.alloc (jG #[iX A1 n1 c1,iX A2 n2 c2] 25))/\(w.alloc (jG #[iX A1 n1 c1,iX A2 n2 c2] 25)).cell? ⟨w.1.size,0,jC⟩=jB (iX A1 n1 c1)/\
  (w.alloc (jG #[iX A1 n1 c1,iX A2 n2 c2] 25)).cell? ⟨w.1.size,1,jC⟩=jB (iX A2 n2 c2):=
 ⟨bR.alloc lR _,cR (heap_alloc_new w _),cR (heap_alloc_new w _)⟩
theorem Dl (A1 A2:Option Addr)(n1 c1 n2 c2:Nat)(st lo:List Int)(w:jF)(b:n1=η st)(c:n2=η lo)(hl:n1+n2<=60000):
  Calls jJ 6 #[.agg #[iX A1 n1 c1,iX A2 n2 c2]] w (Num w (if n2=0 then 8 else 0)):=by
 have hb:=(GA w A1 A2 n1 c1 n2 c2).1;by_cases a:n2=0
 ·have d:((n2:Int)==0)=jD:=by simp[a]
  rw[jd a];clear a b c;go_enter Tryz.func6,Tryz.ntmps6;go_wp2
  go_ret
  exact⟨rfl,hb⟩
 ·have d:((n2:Int)==0)=jE:=by simpa using a
  have d2:decide ((65536:Int)<(n1:Int)+(n2:Int))=jE:=by simp;omega
  rw[d9 a];clear a b c;go_enter Tryz.func6,Tryz.ntmps6;go_wp2
  go_ret
  exact⟨rfl,hb⟩
theorem EU (A1 A2:Option Addr)(n1 c1 n2 c2:Nat)(w:jF)(hl:n1+n2<=60000):
  Calls jJ 21 #[.agg #[iX A1 n1 c1,iX A2 n2 c2]] w (Num w ((n1+n2:Nat):Int)):=by
 have hb:=(GA w A1 A2 n1 c1 n2 c2).1;go_enter Tryz.func21,Tryz.ntmps21;go_wp2
 go_ret
 exact⟨BI ω,hb⟩
theorem aax (A1 A2 n1 c1 n2 c2 st lo i w B)(h:QX w B A1 A2 n1 c1 n2 c2 st lo)(z:B<=w.1.size)(_hl:n1+n2<=60000)(hi:i<=9223372036854775807):
  Calls jJ 23 #[.agg #[iX A1 n1 c1,iX A2 n2 c2],iY iZ i] w (aju w (atW st lo i)):=by
 obtain⟨hb,s,t⟩:=GA w A1 A2 n1 c1 n2 c2;have l:=h.below hb z;have a:=h.l1;have c:=h.l2;clear s t h;by_cases m:i<0
 ·have d:decide (i<0)=jD:=by simpa using m
  have e:atW st lo i=0:=by rw[atW,jd m]
  rw[e];clear e m a c l;go_enter Tryz.func23,Tryz.ntmps23;go_wp2
  go_ret
  exact⟨rfl,hb⟩
 obtain⟨k,rfl⟩:=nY (show 0<=i by omega);have e:atW st lo (k:Int)=AY st lo k:=by rw[atW,d9 m,tN]
 rw[e];clear e m;by_cases C:k<n1
 ·have g:k<η st:=ω;obtain⟨b,o,rfl,u,hc⟩:=ajF l.s1 g;rw[abV g];clear a c l g;generalize st.getD k 0=x at *;have d:(k:Int)<(n1:Int):=ω;go_enter Tryz.func23,Tryz.ntmps23;go_wp2
  go_ret
  exact⟨rfl,hb⟩
 have d0:decide (k<n1)=jE:=by simpa using C
 by_cases q:n2=0
 ·have d:((n2:Int)==0)=jD:=by simp[q]
  have n:lo=[]:=jv ω;have e:AY st lo k=0:=by rw[RN ω,n];rfl
  rw[e];clear e n q a c l;go_enter Tryz.func23,Tryz.ntmps23;go_wp2
  go_ret
  exact⟨rfl,hb⟩
 ·have d:((n2:Int)==0)=jE:=by simpa using q
  have hm:=qI (k-n1) (show 0<n2 by omega);have p:(k-n1)%n2<η lo:=ω;obtain⟨b,o,rfl,u,hc⟩:=ajF l.s2 p;have e:AY st lo k=lo.getD ((k-n1)%n2) 0:=by rw[RN ω,a,c]
  rw[e];obtain⟨j,v⟩:=xR (k-n1);rw[<-v]at hm hc⊢;have e1:IntKind.i64.wrap ((k:Int)-(n1:Int))=(j:Int):=by rw[IntWalk.i64_in _ ω];omega
  have e2:((j:Int)).tmod (n2:Int)=((j%n2:Nat):Int):=by rw[nN ω];omega
  have y:(0:Int)<(n2:Int):=ω;generalize lo.getD (j%n2) 0=x at *;generalize j%n2=r at *;have i1:(r:Int)<(n2:Int):=ω;have D:¬((n2:Int)=0):=ω;obtain⟨E1,E2⟩:=iw e1 e2;clear e a c l v e1 e2 p q;go_enter Tryz.func23,Tryz.ntmps23;go_wp2
  have e1:=E1.o;have e2:=E2.o;go_quiet (fail)
  clear e1 e2;go_wp2
  go_ret
  exact⟨rfl,below_drewN hb _⟩
set_option maxHeartbeats 16000000
set_option maxRecDepth 100000
theorem TH (a:rQ)(Ai:Option Addr)(ni ci:Nat)(An:Option Addr)(nn cn:Nat)(A1 A2:Option Addr)(n1 c1 n2 c2:Nat)(st lo:List Int)(W:List Nat)(w:jF)(B:Nat)(h:sW w B a Ai ni ci An nn cn)(hw:QX w B A1 A2 n1 c1 n2 c2 st lo)(hB:B<=w.1.size)
  (bS:tO a=0)(h2:0<n2)(hl:n1+n2<=2000)(dS:nn*(n1+n2)<=65536)(hW:n1+n2=η W)(dT:∀k,k<η W->atW st lo (k:Int)=((W.getD k 0:Nat):Int))(cL:∀k,W.getD k 0<2^64)(bT:∀x∈a.nodes,x.need<2^64/\x.ban<2^64)(KB:Nat)(hr:∀x∈a.nodes,η x.to<=KB)(cM:η a.init<=KB)(dU:nn*(n1+n2)*KB<=1000000000)(cN:KB<=1000000000):
  Calls jJ 10 #[.agg #[iY iZ a.sets,iX Ai ni ci,iX An nn cn],.agg #[iX A1 n1 c1,iX A2 n2 c2]] w (λe w'=>∃z,X4 (vX a W n1) (DT a (η W)) z/\AX w (JJ a W z) e w'):=by
 obtain⟨bU,cO,bA,hA⟩:=aaT bS;have aE:=h.Ov;rw[<-aE]at bU;let⟨L,hL⟩:=xR (n1+n2)
 let⟨ne,ak⟩:=xR (nn*L)
 have eK:ne<=65536:=γ;have hmul:IntKind.i64.wrap ((nn:Int)*(L:Int))=(ne:Int):=by rw[ak];exact ahC ω ω
 have bV:=dh (λw' h' aM=>bS▸Qz a Ai ni ci An nn cn w' B h' aM);have cP:=dh (λw'=>by have:=Dl A1 A2 _ c1 _ c2 _ _ w' hw.l1 hw.l2 ω;rwa [d9 ω]at this);have cQ:=dh (λw'=>by have:=EU A1 A2 n1 c1 n2 c2 w' ω;rwa [<-hL]at this)
 have bW:Hd (∀(k:Nat) (w':jF) (_:QX w' B A1 A2 n1 c1 n2 c2 st lo) (_:B<=w'.1.size) (_:k<L),Calls jJ 23 #[.agg #[iX A1 n1 c1,iX A2 n2 c2],iY iZ (k:Int)] w' (aju w' ((W.getD k 0:Nat):Int))):=
  dh (λk w' h' aM hk=>by have:=aax A1 A2 n1 c1 n2 c2 st lo (k:Int) w' B h' aM ω ω;grind)
 have bX:=dh (λx hx A (n c k) w'=>VR x A n c _ w' (bT x hx).1 (bT x hx).2 (cL k))
 have aN:=dh (λ(ai ae al:Option Addr) (di ce nl cl:Nat) (gI gL:List Int) (Ao:Option Addr) (co:Nat) (w':jF) (B':Nat) (h':sW w' B' a Ai ni ci An nn cn) (hG:DW w' B' ai 0 di ae ne ce al nl cl ⟨gI,vX a W n1,gL⟩) (ho:Sl w' B' 1 Ao ne co (qO (iE (gJ nn L)))) (aM:B'<=w'.1.size)=>
  adH a Ai ni ci An nn cn (vX a W n1) ai ae al 0 di ne ce nl cl gI gL (gJ nn L) Ao co w' B' h' hG ho (by simp[gJ,ak]) aM aiV (by rw[ak,aE,hL,hW];exact aeN hA ω) cO bA ω ω KB (acp hr) (by rwa [ak,hL]) cN)
 have dV:Hd (∀z,X4 _ (AQ a (gJ nn L)) z->X4 (vX a W n1) _ z):=dh (λz hz=>by rw[aE,hL,hW]at hz;exact afS hz);have cS:Hd (∀q k,k<L->KU a W _ (q*L+k)=Gj a W n1 q k):=dh (λq k hk=>by rw[hL,hW]at hk⊢;exact aeL hk);obtain⟨RR,aF⟩:∃RR,RR=λm=>Vb ne (KU a W n1) [] m:=⟨_,rfl⟩
 obtain⟨FF,bc⟩:∃FF,FF=λm=>Vb ne (λm=>((m/L:Nat):Int)) 0 m:=⟨_,rfl⟩
 have cT:Hd (ρ _ _ =RR 0):=dh (by rw[aF];exact U9.symm);have cU:Hd (ρ _ _ =FF 0):=dh (by rw[bc];exact U9.symm);have bY:Hd (∀m,(RR m).set m _ =RR _):=dh (λm=>by rw[aF];exact aaj);have bZ:Hd (∀m,(RR m).set m _ =RR m):=dh (λm=>by rw[aF];exact aiG);have cV:Hd (∀m,η (RR m)=ne):=dh (λm=>by rw[aF];exact agN);have cW:Hd (RR ne=vX a W _):=dh (by rw[aF,ak,aE,hL,hW];exact aeM a W _)
 have cX:Hd (∀N k,k<L->(FF _).set _ _ =FF _):=dh (λN k hk=>by
  have e:=aaj (n:=ne) (m:=N*L+k) (f:=λm=>((m/L:Nat):Int)) (d:=0);rw[(F9 hk).1]at e;rwa [bc])
 have cY:Hd (FF ne=iE _):=dh (by rw[bc,ak];exact aiU _ L);clear aF bc;let⟨s,hs⟩:=xQ a.sets
 rw[hs]at bV aN⊢;let⟨bd,x0,y0,z0⟩:=uS w (jG #[iY iZ s,iX Ai ni ci,iX An nn cn] 32) (jG #[iX A1 n1 c1,iX A2 n2 c2] 25)
 let⟨W0,c0⟩:=xQ ((w.alloc (jG #[iY iZ s,iX Ai ni ci,iX An nn cn] 32)).alloc (jG #[iX A1 n1 c1,iX A2 n2 c2] 25))
 rw[c0]at bd x0 y0 z0;obtain⟨dW,HH,HW,c9,bh,HL,ao,aO,dX⟩:=dh9 c0 (h.below bd hB) (hw.below bd hB) hA aE hL hW ak x0;have dY:=dh y0;have dZ:=run_make_row' (P:=jJ) 56 59 (iX jC 0 0) 24 Tryz.underlying56 Lg rfl iZ iZ ne ω ω;have cZ:=run_make_row' (P:=jJ) 29 3 (iY iZ 0) 8 Tryz.underlying29 Lh rfl iZ iZ ne ω ω;have ca:=h.eni;have e0:=h.init.cap;have eX:ni<=KB:=by rw[ca];exact cM
 obtain⟨cb,e6⟩:=iw ca hr;have a7:B<=W0.1.size:=ω;have da:=z0;have e7:0<L:=ω;have eL:L<=2000:=ω
 have ag:Hd (∀wr:jF,Below W0.1.size W0 wr->(wr.cell? ⟨w.1.size,0,jC⟩=jB (iY iZ s)/\wr.cell? ⟨w.1.size,1,jC⟩=jB (iX Ai ni ci)/\wr.cell? ⟨w.1.size,2,jC⟩=jB (iX An nn cn))/\(wr.cell? ⟨w.1.size+1,0,jC⟩=jB (iX A1 n1 c1)/\wr.cell? ⟨w.1.size+1,1,jC⟩=jB (iX A2 n2 c2))):=
  dh (λwr hb=>⟨sQ ((hb.block w.1.size ω).trans dX.o),ajO ((hb.block (w.1.size+1) ω).trans dY.o)⟩)
 have az:=dh da;clear dS c0 h hw bS dT cL bT hr cM e0 dU x0 y0 z0 hs hW hL ak hA aE ca cO bA da;go_enter Tryz.func10,Tryz.ntmps10;go_wp2_with fail
 rw[dW.o];obtain⟨⟨m0,U,J⟩,⟨M,O⟩⟩:=ag W0 bR;go_wp2_with fail
 refine(bV W0 HH a7).mono ?_;rintro e w1 ⟨rfl,bj⟩;clear m0 U J M O;obtain⟨⟨m0,U,J⟩,⟨M,O⟩⟩:=ag w1 bj;go_wp2_with fail
 refine(cP w1).mono ?_;rintro e w2 ⟨rfl,bB⟩;have bm:=bj.trans (bB.mono bj.size);clear m0 U J M O bB bj;obtain⟨⟨m0,U,J⟩,⟨M,O⟩⟩:=ag w2 bm;go_wp2_with fail
 refine(cQ w2).mono ?_;rintro e w3 ⟨rfl,bE⟩;have aq:=bm.trans (bE.mono bm.size);clear m0 U J M O bE bm;obtain⟨⟨m0,U,J⟩,⟨M,O⟩⟩:=ag w3 aq;go_wp2_with fail
 clear m0 U J M O dZ cZ bV cP cQ;have hT:=TW.start (w0:=w3) (ne:=ne) ω;obtain⟨wq,db⟩:=xR ((w3.alloc (jG (madeCells #[iX jC 0 0] ne) 59)).alloc (jG (madeCells #[iY iZ 0] ne) 3));rw[<-db]at hT⊢;have aG:=aq.size;obtain⟨q,cd⟩:=xR (w3.1.size+1);obtain⟨r,ch⟩:=xR w3.1.size;rw[<-cd,<-ch,cT.o,cU.o]at hT;rw[<-cd,<-ch];have eY:w3.1.size<=r:=ω;clear db ch cd cT cU;go_loopw [8] (λv wr=>∃N:Nat,N<=nn/\v=iY iZ N/\TW w3 r q ne (RR (N*L)) (FF (N*L)) wr) (λv _=>nn-(intOf v).toNat)
 case atStart=>exact⟨0,ω,rfl,by rw[Nat.zero_mul];exact hT⟩
 case round=>
  clear hT;obtain⟨N,hN,rfl,hT⟩:=hrel;have F:=hT.xq;obtain⟨⟨m0,U,J⟩,⟨M,O⟩⟩:=ag wr (aq.trans (F.mono aG));by_cases cj:N<nn
  ·have eM:(N:Int)<(nn:Int):=ω;have eZ:(0:Int)<=(N:Int):=ω;obtain⟨p,hp⟩:=xR (N*L);have wm:IntKind.i64.wrap ((N:Int)*(L:Int))=(p:Int):=by rw[hp];exact ahC ω ω
   have HP:=dh hp;rw[<-hp]at hT;clear hp;go_wp2_with fail
   clear m0 U J M O;go_loopw [9] (λv wr=>∃k:Nat,k<=L/\v=iY iZ k/\TW w3 r q ne (RR (p+k)) (FF (p+k)) wr) (λv _=>L-(intOf v).toNat)
   case atStart=>exact⟨0,ω,rfl,hT⟩
   case round=>
    clear hT F;obtain⟨k,hk,rfl,hT⟩:=hrel;by_cases aA:k<L
    ·have eN:(k:Int)<(L:Int):=ω;obtain⟨m,hm⟩:=xR (p+k);have dc:m<ne:=by rw[hm,HP.o,aO.o];exact Aq cj aA
     have fa:IntKind.i64.wrap ((p:Int)+(k:Int))=(m:Int):=by rw[wI];omega
     have wk:IntKind.i64.wrap ((k:Int)+1)=k+1:=by rw[wI];omega
     have fc:(0:Int)<=(m:Int):=ω;have eO:(m:Int)<(ne:Int):=ω;have ck:=cX N k aA;rw[<-HP.o,<-hm]at ck;rw[<-hm]at hT;obtain⟨⟨y,e8⟩,e9,ea,cm⟩:=hT.put (x:=(N:Int)) dc;rw[ck]at cm;have F:=hT.xq;have dd:=aq.trans (F.mono aG);obtain⟨⟨m0,U,J⟩,⟨M,O⟩⟩:=ag wr dd;obtain⟨uW,bn⟩:=xR (nx n1 (η W) k);have bF:uW<L:=by rw[bn,HL.o,ao.o];exact yQ (by rw[<-ao.o];omega)
     have bG:uW=if k+1=L then n1 else k+1:=by
      rw[bn,nx,<-ao.o,<-HL.o];by_cases e:k+1=L
      ·rw[d9 ω,jd e]
      ·rw[jd ω,d9 e]
     obtain⟨cp,de,bH,bp⟩:=iB hm bn bG cm;clear hm ck hT cm bn bG F;go_upto_if 53 with(fail)
     go_cut [10] (λv wF=>v=iY iZ (uW:Int)/\wF=wr)
     case first=>
      by_cases e:k+1=L
      ·have d:((k:Int)+1==(L:Int))=jD:=by simp;omega
       have he:uW=n1:=by rw[bH.o,jd e]
       have HE:=dh he;clear e he;go_wp2_with fail
       go_meet
       case rel=>exact⟨by rw[HE.o],rfl⟩
      ·have d:((k:Int)+1==(L:Int))=jE:=kF.2 ω;have he:uW=k+1:=by rw[bH.o,d9 e]
       have HE:=dh he;clear e he;go_wp2_with fail
       go_meet
       case rel=>exact⟨by rw[HE.o];go_num,rfl⟩
     case rest=>
      obtain⟨rfl,eb⟩:=hcut;subst eb;go_wp2_with fail
      obtain⟨w5,df⟩:=xR (wc.setCell ⟨q,m,jC⟩ (iY iZ (N:Int)));rw[<-df]at bp⊢;clear m0 U J M O e8 e9 ea df;have F:=bp.xq;have af:=aq.trans (F.mono aG);have dj:=af.size;let⟨⟨m0,U,J⟩,⟨M,O⟩⟩:=ag _ af
      let⟨b,o,x,Ax,cx,ec,ef,bq,g0,g1,g2,g3,aP⟩:=wh (HH.below af a7) cj
      subst ec;have cq:=jy bq;have br:a.at N=x:=by unfold rQ.at;rw[gD,bq];rfl
      have dk:=HW.below af a7;have V:=bW k;have Q:=bX x cq Ax (η x.to) cx k;have cr:KU a W n1 m=Gj a W n1 N k:=by rw[cp.o,HP.o];exact cS N k aA
      let⟨u,hu⟩:=xR (W.getD k 0)
      rw[<-hu]at V Q;let⟨v,hv⟩:=xR (zD x u)
      rw[<-hv]at Q;have dm:Hd (v=jE->KU a W _ m=[]):=dh (λe=>by rw[cr];exact aeJ (by rwa [br,<-hu,<-hv]));have dp:Hd (v=jD->KU a W _ m=Dm a W uW _):=dh (λe=>by rw[cr,aco (by rwa [br,<-hu,<-hv]),de.o,br]);obtain⟨ar,au,a8,eg⟩:=iB V Q dk aP;have X:Below w5.1.size w5 _:=Below.drew bR;have ah:=X.size;have T:=dh X;have R:b<w5.1.size:=ω;have H:w.1.size<w5.1.size:=by have:=az.o;omega
      have D:w.1.size+1<w5.1.size:=by have:=az.o;omega
      obtain⟨eh,dr⟩:=iw bq cq;clear hu hv cr V Q dk aP br cq bq F X;refine wp_region_held_drew (S:=λw'=>q9 w' _ 2 _/\q9 w' _ 0 _/\q9 w' _ 1 _/\q9 w' b _ _/\q9 w' b _ _/\q9 w' b _ _/\q9 w' b _ _) rfl ⟨J,M,O,g0,g1,g2,g3⟩ (λhS=>?_);apply qU 0;apply qU 1;apply qU 2;apply qU 3;apply qU 4;refine qU 5 ?_;apply qU 6;refine rR 7 (λK hK=>?_);go_simp;apply (ar _ (a8.below T ω) ω aA).mono;rintro e w6 ⟨rfl,bI⟩;have ad:=T.trans (bI.mono ah);have ei:=ad.size;clear bI;dsimp;refine hK _ _ ⟨bC ad H J,bC ad D M,bC ad D O,bC ad R g0,bC ad R g1,bC ad R g2,bC ad R g3⟩ (λhS=>?_);clear hK;refine rR 8 (λK hK=>?_);go_simp;refine(au w6).mono ?_;rintro e w7 ⟨rfl,bJ⟩;have Z:=ad.trans (bJ.mono ei);clear bJ ad;dsimp only;refine hK _ _ ⟨bC Z H J,bC Z D M,bC Z D O,bC Z R g0,bC Z R g1,bC Z R g2,bC Z R g3⟩ (λhS=>?_);clear hK;refine qU 9 ?_;refine wpAnyH_done κ ?_ _;have ej:=Z.size;have bK:=af.trans (Z.mono dj);obtain⟨cv,dt⟩:=iw (bp.below Z) bK;clear Z af bK g0 g1 g2 g3 m0 U J M O bp ar au a8 T;cases v
      ·have du:=dh (dm rfl);go_wp2_with fail
       go_roundw
       case rel=>exact⟨k+1,ω,by go_num,by have e:=cv.o;rw[<-bZ m,<-du.o,bY m,cp.o]at e;exact e⟩
       case measure=>simp[intOf];omega
      ·have dv:=dh (dp rfl)
       have aj:Hd (TW w3 r q ne ((RR m).set m (Dm a W uW (x.to.take 0))) (FF (m+1)) w7):=dh (by
        show TW w3 r q ne ((RR m).set m []) (FF (m+1)) w7;rw[bZ m];exact cv.o)
       have eP:=e6 x dr.o;clear dm dp ef R eg dj ej ah H D cv dt;go_wp2
       simp[Bool.not_true];go_loopw [11] (λv wr=>∃i:Nat,i<=η x.to/\v=iY iZ i/\Hd (TW w3 r q ne ((RR m).set m (Dm a W uW (x.to.take i))) (FF (m+1)) wr)) (λv _=>η x.to-(intOf v).toNat)
       case atStart=>exact⟨0,ω,rfl,aj⟩
       case round=>
        clear aj;obtain⟨i,hi,rfl,aj⟩:=hrel;have F:=aj.xq;have E:=aq.trans (F.mono aG);have aQ:=E.size;let⟨⟨m0,U,J⟩,⟨M,O⟩⟩:=ag _ E
        let⟨b',o',x',fe,ff,dx,eQ,bL,g0,g1,g2,g3,aP⟩:=wh (HH.below E a7) cj
        cases dx;have ek:=bL.symm.trans eh.o;cases ek;have H:w.1.size<wr.1.size:=by have:=az.o;omega
        have D:w.1.size+1<wr.1.size:=by have:=az.o;omega
        have l:b<wr.1.size:=ω;by_cases aR:i<η x.to
        ·have dy:i<(η x.to:Int):=ω;have eo:0<=(i:Int):=ω;have wi:IntKind.i64.wrap (i+1)=i+1:=by rw[wI];omega
         obtain⟨bt,ot,rfl,fg,ct⟩:=BJ aP aR;have I:=YR (a:=a) (W:=W) (uW:=uW) aR;let⟨j,hj,aB⟩:=rO (c9.2 x dr x.to[i] (mM _))
         rw[hj,tN,<-ao.o,<-HL.o]at I;rw[hj]at ct;rw[<-bh.o]at aB;obtain⟨b2,o2,x2,cw,cy,dz, -,a1,d0,d1,d2,d3, -⟩:=wh (HH.below E a7) aB;cases dz;have av:a.at j=x2:=by unfold rQ.at;rw[gD,a1];rfl
         rw[av]at I;have V:=bW uW;have Q:=bX _ (jy a1) cw (η x2.to) cy uW;let⟨u2,aS⟩:=xR (W.getD uW 0)
         rw[<-aS]at V Q I;let⟨v2,aT⟩:=xR (zD x2 u2)
         rw[<-aT]at Q I;let⟨p2,aH⟩:=xR (j*L)
         let⟨aJ,dA⟩:=xR (p2+uW)
         have eR:aJ<ne:=by rw[dA,aH,aO.o];exact Aq aB bF
         have wj:IntKind.i64.wrap ((j:Int)*(L:Int))=(p2:Int):=by rw[aH];exact ahC ω ω
         have fh:IntKind.i64.wrap (p2+uW)=aJ:=by rw[wI];omega
         have aU:j*L+uW=(aJ:Int):=ω;rw[aU]at I;have j0:0<=(j:Int):=ω;have j1:j<(nn:Int):=ω;obtain⟨ar,au,aw,a8⟩:=iB V Q I (HW.below E a7);have X:Below wr.1.size wr _:=Below.drew bR;have ah:=X.size;obtain⟨T,aV⟩:=iw X E;obtain⟨wv,aW⟩:∃wv,wv=wr:=⟨_,rfl⟩;rw[<-aW]at aj aQ m0 U J M O g0 g1 g2 g3 H D l ct d0 d1 d2 d3 a8 ah T aV⊢;clear I hj av a1 V Q aS aT aH dA aU F E aP bL X aW;go_wp2
         refine wp_region_held_drew (S:=λw'=>q9 w' _ 2 _/\q9 w' _ 0 _/\q9 w' _ 1 _/\q9 w' b _ _/\q9 w' b _ _/\q9 w' b _ _/\q9 w' b _ _) rfl ⟨J,M,O,d0,d1,d2,d3⟩ (λhS=>?_);apply qU 0;apply qU 1;apply qU 2;apply qU 3;apply qU 4;apply qU 5;apply qU 6;refine rR 7 (λK hK=>?_);go_simp;apply (ar _ (a8.below T ω) ω bF).mono;rintro e w8 ⟨rfl,ax⟩;have G:=T.trans (ax.mono ah);have aX:=G.size;clear ax;dsimp;refine hK _ _ ⟨bC G H J,bC G D M,bC G D O,bC G l d0,bC G l d1,bC G l d2,bC G l d3⟩ (λhS=>?_);clear hK;refine rR 8 (λK hK=>?_);go_simp;apply (au _).mono;rintro e w9 ⟨rfl,ay⟩;have C:=G.trans (ay.mono aX);clear ay G;dsimp;refine hK _ _ ⟨bC C H J,bC C D M,bC C D O,bC C l d0,bC C l d1,bC C l d2,bC C l d3⟩ (λhS=>?_);clear hK;refine wpAnyH_done rfl ?_ _;have ep:=C.size;have bM:=aV.trans (C.mono aQ);have er:=dh (aj.below C);have eS:=bM.size;clear C bM g0 g1 g2 g3 m0 U J M O d0 d1 d2 d3 ct aj ar au a8 T aV;cases v2
         ·have aC:Hd (Dm a W _ _ =Dm a W _ (x.to.take i)):=dh (by rw[aw.o,d9 δ,kZ]);clear aw;go_wp2
          go_roundw
          case rel=>exact⟨i+1,ω,by go_num,dh (by rwa [aC.o])⟩
          case measure=>simp[intOf];omega
         ·have aC:Hd (Dm a W _ _ =Dm a W _ (x.to.take i)++[⟨_,0⟩]):=dh (by rw[aw.o,jd rfl]);have dB:Hd (η (Dm a W uW (x.to.take i))<=i):=dh (Nat.le_trans aeK (by rw[jq];omega));clear aw;generalize Dm a W _ (x.to.take i)=Y at *;let⟨vs,t2,t5,t6⟩:=er.o
          have bN:=λj v (hv:vs[j]? =jB v)=>t2.Dk hv
          let⟨u,n0,hu,ho⟩:=t2.row m (qP Y) (by simp[cV m,dc])
          have dC:n0=η Y:=by have:=ho.1;rw[uz]at this;omega
          have fi:n0<=i:=by have:=dB.o;omega
          obtain⟨Au,cu,rfl,et⟩:=qX ho;have d0:=t2.cell hu;have d1:=t2.frozen m;have fj:=(t2.main.lt r rfl).2;have eT:=λg' eu=>(bN m _ hu g' eu).1
          clear bN;obtain⟨HU,fk,cC,aY,dD⟩:=iC hu dC (heap_alloc_new w9 (jG #[iY iZ aJ,iY iZ 0] 61)) ho t6;clear hu dC t6 et ho;go_wp2_with (at_builtin;refine rD rfl (.tmp 117) (.tmp 124) 59 rfl w3.1.size 61 2 16 KJ _ _ _ (aY.alloc _) rfl w9.1.size #[iY iZ (aJ:Int),iY iZ 0] rfl cC.out rfl (by simp[Value.oneCell']) ω ω (by simp;omega) ?_;intro u' wA a6 aZ b4 dE;obtain⟨g',eU,rfl,_⟩:=sP a6 ω;have cD:=dh (TW.grow (ys:=Y++[⟨(aJ:Int),0⟩]) t2 t5 dD rfl HU aY (by rw[uY];simpa[qP]using a6) aZ b4);have r1:=cD.1;have r2:=cD.2.1;have r3:r<wA.1.size:=by have:=aZ.size;simp at this;omega)
          have r5:=cD.2.2.2;go_roundw
          case rel=>exact⟨i+1,ω,by go_num,dh (by rw[aC.o];rwa [List.set_set]at r5)⟩
          case measure=>simp[intOf];omega
        ·have ev:i=η x.to:=ω;have cE:=aj.o;rw[tL ω,<-dv.o,bY m,cp.o]at cE;have aK:=dh cE;clear aj cE ev;go_wp2
         go_roundw
         case rel=>exact⟨k+1,ω,by go_num,aK.o⟩
         case measure=>simp[intOf];omega
    ·have cF:k=L:=ω;have e:p+k=(N+1)*L:=by rw[cF,HP.o,oN]
     rw[e]at hT;have aK:=dh hT;go_wp2
     go_roundw
     case rel=>exact⟨_,ω,by go_num,aK.o⟩
     case measure=>simp[intOf];omega
  ·have dF:N=nn:=ω;rw[dF,<-aO.o,cW.o,cY.o]at hT;have aK:=dh hT;clear dF hT bY bZ cV cW cX cY cS;go_wp2
   have bu:Below _ _ (wr.alloc (jG #[iX jC 0 0,iX (jB ⟨r,0,jC⟩) ne ne,iX jC 0 0] 63)):=bR.alloc lR _;have bw:=heap_alloc_new wr (jG #[iX jC 0 0,iX (jB ⟨r,0,jC⟩) ne ne,iX jC 0 0] 63);have dG:(wr.alloc (jG #[iX jC 0 0,iX (jB ⟨r,0,jC⟩) ne ne,iX jC 0 0] 63)).1.size=wr.1.size+1:=ς;let⟨wg,dH⟩:=xR (wr.alloc (jG #[iX jC 0 0,iX (jB ⟨r,0,jC⟩) ne ne,iX jC 0 0] 63))
   rw[<-dH]at bu bw dG⊢;have dI:=dh (aK.below bu);have b5:=(aq.trans (F.mono aG)).trans (bu.mono (aq.trans (F.mono aG)).size);let⟨g,hg⟩:=xR wr.1.size
   rw[<-hg]at bw⊢;have ew:g<wg.1.size:=ω;obtain⟨ey,bO⟩:=iw bw b5;have bP:=b5.size;clear dH bu dG hg bw b5 m0 U J M O F aK;go_loopw [14,15] (λfr i wr=>∃k:Nat,k<=ni/\i=iY iZ k/\wr.ownsRow wg.1.size 3 1 fr (η (zR a W (a.init.take k))) (qO (zR a W (a.init.take k)))/\Below wg.1.size wg wr) (λ_ i _=>ni-(intOf i).toNat)
   case atStart=>exact⟨0,ω,rfl,jF.ownsRow_nil _ _ _ _,bR⟩
   case round=>
    obtain⟨k,hk,rfl,hO,F⟩:=hrel;obtain⟨Af,cf,rfl,aL⟩:=qX hO;have E:=bO.trans (F.mono bP);have aQ:=E.size;let⟨⟨m0,U,J⟩,⟨M,O⟩⟩:=ag _ E
    have dJ:=F.size;by_cases fl:k<ni
    ·have eV:k<(ni:Int):=ω;have fm:0<=(k:Int):=ω;have aA:k<η a.init:=by rwa [<-cb.o]
     have wi:IntKind.i64.wrap (k+1)=k+1:=by rw[wI];omega
     have H:w.1.size<wr.1.size:=by have:=az.o;omega
     have D:w.1.size+1<wr.1.size:=by have:=az.o;omega
     obtain⟨bi,oi,rfl,fo,ct⟩:=BJ (HH.below E a7).init aA;have aD:bi<wr.1.size:=ω;have I:=ZG (a:=a) (W:=W) aA;let⟨j,hj,aB⟩:=rO (c9.1 a.init[k] (mM _))
     rw[hj,tN,<-ao.o,<-HL.o]at I;rw[hj]at ct;rw[<-bh.o]at aB;obtain⟨b2,o2,x2,cw,cy,rfl,eW,a1,d0,d1,d2,d3, -⟩:=wh (HH.below E a7) aB;have l:b2<wr.1.size:=ω;have av:a.at j=x2:=by unfold rQ.at;rw[gD,a1];rfl
     rw[av]at I;have V:=bW 0;rw[show((0:Nat):Int)=0 from rfl]at V;have Q:=bX _ (jy a1) cw (η x2.to) cy 0;let⟨u2,aS⟩:=xR (W.getD 0 0)
     rw[<-aS]at V Q I;let⟨v2,aT⟩:=xR (zD x2 u2)
     rw[<-aT]at Q I;let⟨p2,aH⟩:=xR (j*L)
     have wj:IntKind.i64.wrap ((j:Int)*(L:Int))=(p2:Int):=by rw[aH];exact ahC ω ω
     have aU:j*L=(p2:Int):=ω;rw[aU]at I;have j0:0<=(j:Int):=ω;have j1:j<(nn:Int):=ω;obtain⟨ar,au,aw,a8⟩:=iB V Q I (HW.below E a7);have X:Below wr.1.size wr _:=Below.drew bR;have ah:=X.size;obtain⟨T,b6,cG⟩:=iA X F hO;have ez:η (zR a W (a.init.take k))<=k:=Nat.le_trans Xb (by rw[jq];omega);obtain⟨wv,aW⟩:∃wv,wv=wr:=⟨_,rfl⟩;rw[<-aW]at aQ dJ m0 U J M O H D l aD ct d0 d1 d2 d3 a8 ah T b6 cG⊢;clear I hj av a1 V Q aS aT aH aU F E X aW hO aL;generalize zR a W (a.init.take k)=Y at *;go_wp2
     refine wp_region_held_drew (S:=λw'=>q9 w' _ 1 _/\q9 w' _ 2 _/\q9 w' _ 0 _/\q9 w' _ 1 _/\q9 w' _ _ _/\q9 w' _ _ _/\q9 w' _ _ _/\q9 w' _ _ _/\q9 w' _ _ _) rfl ⟨U,J,M,O,ct,d0,d1,d2,d3⟩ (λhS=>?_);apply qU 0;apply qU 1;apply qU 2;apply qU 3;apply qU 4;refine qU 5 ?_;apply qU 6;refine qU 7 ?_;refine qU 8 ?_;apply qU 9;refine rR 10 (λK hK=>?_);go_simp;apply (ar _ (a8.below T ω) ω e7).mono;rintro e w8 ⟨rfl,ax⟩;have G:=T.trans (ax.mono ah);have aX:=G.size;clear ax;dsimp;refine hK _ _ ⟨bC G H U,bC G H J,bC G D M,bC G D O,bC G aD ct,bC G l d0,bC G l d1,bC G l d2,bC G l d3⟩ (λhS=>?_);clear hK;refine rR 11 (λK hK=>?_);go_simp;apply (au _).mono;rintro e w9 ⟨rfl,ay⟩;have C:=G.trans (ay.mono aX);clear ay G;dsimp;refine hK _ _ ⟨bC C H U,bC C H J,bC C D M,bC C D O,bC C aD ct,bC C l d0,bC C l d1,bC C l d2,bC C l d3⟩ (λhS=>?_);clear hK;refine wpAnyH_done rfl ?_ _;have ep:=C.size;obtain⟨dK,aY⟩:=iw (b6.trans (C.mono dJ)) (own_below cG C);clear d0 d1 d2 d3 ar au a8 T b6 cG ah;cases v2
     ·have aC:Hd (zR a W _ =Y):=dh (by rw[aw.o,d9 δ,kZ]);go_wp2
      go_roundw
      case rel=>exact⟨k+1,ω,by go_num,by rwa [aC.o],dK.o⟩
      case measure=>simp[intOf];omega
     ·have aC:Hd (zR a W _ =Y++[(p2:Int)]):=dh (by rw[aw.o,jd rfl]);have e1:=bC C H U;have e2:=bC C aD ct;have cC:=dh (heap_alloc_new w9 (jG #[iY iZ p2] 3));clear aw m0 U J M O ct C;go_wp2_with (at_builtin;refine rD rfl (.tmp 148) (.tmp 156) 29 rfl wg.1.size 3 1 8 rW _ _ _ (aY.alloc _) rfl w9.1.size #[iY iZ (p2:Int)] rfl cC.out rfl (by simp[Value.oneCell']) ω ω (by simp;omega) ?_;intro v3 wA a6 aZ b4 dE;have fp:=dh a6;have eA:=dh aZ;clear a6 aZ b4)
      have eB:=dh (QC dK aY (qW.trans ((qW.refl _ _).alloc _) eA (λ_ _ e=>e)) lR);go_roundw
      case rel=>exact⟨k+1,ω,by go_num,by rwa [aC.o,sJ,lA],eB.o⟩
      case measure=>simp[intOf];omega
    ·have cF:k=ni:=ω;have hG:zR a W (a.init.take k)=zR a W a.init:=by rw[tL (by rw[<-cb.o];omega)]
     rw[hG]at hO aL⊢;have ez:η (zR a W a.init)<=ni:=by rw[cb.o];exact Xb
     have dL:Hd (∀z,JJ a W z=(zR a W _).any _):=dh (λz=>rfl)
     have eC:Hd (∀x∈zR a W _,∃m:Nat,x=m/\m<ne):=dh (λx hx=>by
      rw[aO.o,bh.o,HL.o,ao.o];exact afU c9 (by rwa [<-ao.o,<-HL.o]) x hx)
     generalize zR a W _ =Y at *;let⟨x0,x1,x2⟩:=sQ ((F.block g ew).trans ey.o)
     let⟨vs,t2,t5,t6⟩:=dI.below F
     let⟨A3,c3,e3,s3⟩:=t2.sl2
     have dM:ne=η ((vX a W n1).map qP):=by rw[jr,CS,<-ao.o,<-HL.o,<-bh.o,<-aO.o]
     rw[<-dM]at e3 s3;cases e3;let⟨A4,c4,e4,s4⟩:=qX t6
     cases e4;obtain⟨HC,dN,b6⟩:=iA (aN _ _ _ 0 _ 0 0 [] [] _ _ _ _ ((HH.below E a7).up ω) ⟨Sl.none_ _ _ _,s3,Sl.none_ _ _ _⟩ s4 lR) hO F;clear cF hG hO aL s3 s4 t2 t5 t6 dM E F dI aN;go_wp2_with fail
     apply HC.mono;rintro e eD ⟨zg,dO,vg,rfl,cH,b9, -⟩;obtain⟨Ag,cg,rfl,dP⟩:=qX cH;have dQ:=by have:=cH.1;simpa[qV]using this
     let⟨A5,c5,e5,aL⟩:=qX (own_below dN b9)
     cases e5;have bQ:=dh (bd.trans (((bO.trans (b6.mono bP)).trans (b9.mono aQ)).mono (by have:=az.o;omega)));obtain⟨dR,eE,eF,eG⟩:=iB (dV _ dO) dP aL dQ;clear dO cH b9 dP aL dQ m0 U J M O x0 x1 x2 HC dN;go_wp2
     go_loopw [17] (λv wr=>∃k,k<=η Y/\v=iY iZ k/\wr=eD/\Hd (∀x∈Y.take k,zg.getD x.toNat jE=jE)) (λv _=>η Y-(intOf v).toNat)
     case atStart=>exact⟨0,ω,rfl,rfl,dh (λx hx=>by simp at hx)⟩
     case round=>
      obtain⟨i,hi,rfl,rfl,HQ⟩:=hrel;by_cases aR:i<η Y
      ·have dy:i<(η Y:Int):=ω;have eo:0<=(i:Int):=ω;have wi:IntKind.i64.wrap (i+1)=i+1:=by rw[wI];omega
       let⟨j,hj,aB⟩:=eC Y[i] (mM _)
       obtain⟨bf,fq,rfl,ft,ct⟩:=BJ eF aR;rw[hj]at ct;obtain⟨bz,oz,rfl,fu,cz⟩:=eE.rd.at_ (uN (by rwa [eG.o]));have j0:0<=(j:Int):=ω;have j1:j<(ne:Int):=ω;have cI:=Fw aR HQ.o;rw[hj,tN]at cI;have eH:=dh cI;have eI:Hd ((j:Int)∈Y):=dh (by rw[<-hj];exact mM _);clear cI hj;cases cJ:zg.getD j jE
       ·rw[cJ]at cz;have eJ:=dh (eH cJ);go_wp2
        go_roundw
        case rel=>exact⟨_,ω,by go_num,by trivial,eJ⟩
        case measure=>simp[intOf];omega
       ·rw[cJ]at cz;have cK:Hd (JJ a W _ =jD):=dh (by rw[dL.o,kT];exact⟨_,eI.o,by rwa [tN]⟩);go_wp2
        go_ret
        exact⟨_,dR.o,by rw[cK.o];rfl,bQ.o⟩
      ·have cK:Hd (JJ a W _ =jE):=dh (by
        rw[dL.o,List.any_eq_false];intro x hx;rw[HQ x (by rwa [tL ω])];decide)
       go_wp2
       go_ret
       exact⟨_,dR.o,by rw[cK.o];rfl,bQ.o⟩
def xM (st lo:List Int):List Nat:=(st++lo).map Int.toNat
theorem EJ (st lo):η (xM st lo)=η st+η lo:=by simp[xM]
theorem OJ (a:k<η st+η lo):(xM st lo).getD k 0=(AY st lo k).toNat:=by
 have e:(xM st lo).getD k 0=((st++lo).getD k 0).toNat:=by
  unfold xM;rw[gD,gD,kR,gE (by rw[lA];exact a)];rfl
 rw[e,AY];by_cases h:k<η st
 ·rw[jd h,gD,gC h,gD]
 ·rw[d9 h,j5 ω];simp only[θ,gR (pE h)]
theorem adZ (hl:∀n∈l,0<=n/\n<18446744073709551616)(i):0<=l.getD i 0/\l.getD i 0<18446744073709551616:=by
 rw[gD];rcases oG i (η l)with hi|hi
 ·rw[gE hi];exact hl _ (mM hi)
 ·rw[jQ hi];simp
theorem Od (a:∀n∈st,0<=n/\n<18446744073709551616)(b:∀n∈lo,0<=n/\n<18446744073709551616)(k):0<=AY st lo k/\AY st lo k<18446744073709551616:=by
 rw[AY];split
 ·exact adZ a _
 ·exact adZ b _
theorem adS (b:∀n∈st,0<=n/\n<18446744073709551616)(c:∀n∈lo,0<=n/\n<18446744073709551616)(k):(xM st lo).getD k 0<2^64:=by
 rcases oG k (η st+η lo)with a|a
 ·rw[OJ a];have:=Od b c k;omega
 ·rw[gD,jQ (by rw[EJ];exact a)];decide
theorem abm (b:∀n∈st,0<=n/\n<18446744073709551616)(c:∀n∈lo,0<=n/\n<18446744073709551616)(k:Nat)(a:k<η (xM st lo)):atW st lo (k:Int)=(((xM st lo).getD k 0:Nat):Int):=by
 rw[EJ]at a;rw[atW,d9 ω,tN,OJ a];have:=Od b c k;omega
theorem Yo {W:List Nat}(hA:a.Ok)(b:lp<η W)(c:X4 (vX a W lp) (DT a (η W)) z):JJ a W z=QI a W lp:=by
 rw[lG,Yn hA,Ry hA b c,Il]
set_option maxHeartbeats 2000000
set_option maxRecDepth 100000
theorem O1 (a Ai ni ci An nn cn A1 A2 n1 c1 n2 c2 st lo w B)(h:sW w B a Ai ni ci An nn cn)(hw:QX w B A1 A2 n1 c1 n2 c2 st lo)(E:B<=w.1.size)(hl:n1+n2<=60000)(g:¬(tO a=0/\0<n2)):
  Calls jJ 10 #[.agg #[iY iZ a.sets,iX Ai ni ci,iX An nn cn],.agg #[iX A1 n1 c1,iX A2 n2 c2]] w (AX w jE):=by
 obtain⟨d,x0,z,z0⟩:=uS w (jG #[iY iZ a.sets,iX Ai ni ci,iX An nn cn] 32) (jG #[iX A1 n1 c1,iX A2 n2 c2] 25);obtain⟨n,i⟩:=xQ ((w.alloc (jG #[iY iZ a.sets,iX Ai ni ci,iX An nn cn] 32)).alloc (jG #[iX A1 n1 c1,iX A2 n2 c2] 25));rw[i]at d x0 z z0;obtain⟨j,p,C,q,r⟩:=iC (Qz a Ai ni ci An nn cn n B (h.below d E) ω) (λw'=>Dl A1 A2 n1 c1 n2 c2 st lo w' hw.l1 hw.l2 hl) i d z;have F:w.1.size+1<n.1.size:=ω;have s:w.1.size<=n.1.size:=ω;have G:n.cell? ⟨w.1.size,0,jC⟩=jB (iY iZ a.sets):=cR x0;have H:n.cell? ⟨w.1.size,1,jC⟩=jB (iX Ai ni ci):=cR x0;have I:n.cell? ⟨w.1.size,2,jC⟩=jB (iX An nn cn):=cR x0;clear i d x0 z z0 h hw E hl;go_enter Tryz.func10,Tryz.ntmps10;go_upto_region 1 with fail
 rw[C.o];by_cases c:tO a=0
 ·have u:n2=0:=by
   by_cases e:n2=0
   ·exact e
   ·exact absurd ⟨c,ω⟩ g
  have k:=λw'=>p w'
  rw[jd u]at k;have v:=dh k;have l:=j.o;rw[c]at l;have x:=dh l;clear k l u c g p j;go_wp2_with fail
  refine x.mono ?_;rintro e w1 ⟨rfl,b⟩;have m:=dh (q.trans (b.mono s));have L:w1.cell? ⟨w.1.size+1,0,jC⟩=jB (iX A1 n1 c1):=cR ((b.block (w.1.size+1) F).trans r.o);have M:w1.cell? ⟨w.1.size+1,1,jC⟩=jB (iX A2 n2 c2):=cR ((b.block (w.1.size+1) F).trans r.o);have N:=b.size;clear b G H I;go_wp2_with fail
  refine(v _).mono ?_;rintro e w2 ⟨rfl,y⟩;have D:=dh (m.trans (y.mono (show w.1.size<=w1.1.size by omega)));clear y L M;go_wp2_with fail
  go_ret
  exact⟨rfl,D.o⟩
 ·have O:((tO a)==0)=jE:=by rw[kF];exact c
  have J:((tO a)!=0)=jD:=by rw[bne_iff_ne];exact c
  have K:=decide_eq_false c;clear c g;go_wp2_with fail
  refine j.mono ?_;rintro e w1 ⟨rfl,b⟩;have m:=dh (q.trans (b.mono s));clear b G H I;go_wp2_with fail
  go_ret
  exact⟨rfl,m.o⟩
theorem Ym (a Ai ni ci An nn cn A1 A2 n1 c1 n2 c2 st lo w B)(h:sW w B a Ai ni ci An nn cn)(hw:QX w B A1 A2 n1 c1 n2 c2 st lo)(i:B<=w.1.size)(hl:n1+n2<=2000)(j:nn*(n1+n2)<=65536)(p:∀n∈st,0<=n/\n<18446744073709551616)(q:∀n∈lo,0<=n/\n<18446744073709551616)(k:∀x∈a.nodes,x.need<2^64/\x.ban<2^64)(d)(s:∀x∈a.nodes,η x.to<=d)(l:η a.init<=d)(m:nn*(n1+n2)*d<=1000000000)(g:d<=1000000000):
  Calls jJ 10 #[.agg #[iY iZ a.sets,iX Ai ni ci,iX An nn cn],.agg #[iX A1 n1 c1,iX A2 n2 c2]] w (AX w (decide (tO a=0)&&decide (0<n2)&&QI a (xM st lo) n1)):=by
 by_cases b:tO a=0
 ·by_cases c:0<n2
  ·have o:n1+n2=η (xM st lo):=by rw[EJ,<-hw.l1,<-hw.l2]
   refine(TH a Ai ni ci An nn cn A1 A2 n1 c1 n2 c2 st lo (xM st lo) w B h hw i b c hl j o (abm p q) (adS p q) k d s l m g).mono ?_;rintro e w' ⟨z,t,r⟩;rw[Yo (aaT b).2.2.2 ω t]at r;rw[decide_eq_true b,decide_eq_true c,Bool.and_self,lH];exact r
  ·rw[decide_eq_false c,Bool.and_false,nM];exact O1 a Ai ni ci An nn cn A1 A2 n1 c1 n2 c2 st lo w B h hw i ω (λh=>c h.2)
 ·rw[decide_eq_false b,nM,nM];exact O1 a Ai ni ci An nn cn A1 A2 n1 c1 n2 c2 st lo w B h hw i ω (λh=>b h.1)
structure Sc where
 num:List Nat
 low:List Nat
 uW:List Nat
 stk:List Nat
 way:List Nat
 inn:List Bool
 prt:List Nat
 cnt:Nat
def Rk (E:List (List Nd))(x y:Nat):Prop:=tT (DY E) x y/\tT (DY E) y x
def ED (E:List (List Nd))(x m:Nat):Prop:=Rk E x m/\∀y,Rk E x y->m<=y
theorem Rk.refl (E x):Rk E x x:=⟨.refl x,.refl x⟩
theorem Rk.symm (h:Rk E x y):Rk E y x:=⟨h.2,h.1⟩
theorem Rk.trans {z:Nat}(h:Rk E x y)(k:Rk E y z):Rk E x z:=⟨h.1.trans k.1,k.2.trans h.2⟩
theorem ED.uniq (h:ED E x m)(k:ED E x m'):m=m':=Nat.le_antisymm (h.2 _ k.1) (k.2 _ h.1)
theorem Gu {l:List α}{v d:α}(hi:i<η l):(l.set i v).getD j d=if i=j then v else l.getD j d:=by
 grind
structure SI (E:List (List Nd))(s:Sc):Prop where
 ln:η s.num=η E
 ll:η s.low=η E
 lx:η s.uW=η E
 li:η s.inn=η E
 lp:η s.prt=η E
 cn:s.cnt=s.num.countP (λx=>decide (0<x))
 cnt:∀x,s.num.getD x 0<=s.cnt
 stk:∀x∈s.stk,x<η E/\0<s.num.getD x 0
 inn:∀x,s.inn.getD x jE=jD↔x∈s.stk
 srt:s.stk.Pairwise (λa b=>s.num.getD a 0<s.num.getD b 0)
 U4:s.way.Pairwise (λa b=>s.num.getD a 0<s.num.getD b 0)
 sub:∀w∈s.way,w∈s.stk
 low:∀x∈s.stk,s.low.getD x 0<=s.num.getD x 0/\∃y∈s.stk,s.num.getD y 0=s.low.getD x 0/\tT (DY E) x y
 done:∀x∈s.stk,x∉s.way->s.uW.getD x 0=η (E.getD x [])
 seg:∀y∈s.stk,y∉s.way->∃w∈s.way,s.num.getD w 0<s.num.getD y 0/\s.low.getD w 0<=s.low.getD y 0/\tT (DY E) y w/\∀w'∈s.way,s.num.getD w' 0<s.num.getD y 0->s.num.getD w' 0<=s.num.getD w 0
 reach:∀w∈s.way,∀y∈s.stk,s.num.getD w 0<=s.num.getD y 0->tT (DY E) w y
 edge:∀x∈s.stk,∀j,j<s.uW.getD x 0->∀y:Nat,(tgts (E.getD x []))[j]? =jB (y:Int)->0<s.num.getD y 0/\(y∈s.stk->s.low.getD x 0<=s.num.getD y 0)
 clo:∀x,0<s.num.getD x 0->x∉s.stk->∀y,DY E x y->0<s.num.getD y 0/\y∉s.stk
 prt:∀x,0<s.num.getD x 0->x∉s.stk->ED E x (s.prt.getD x 0)
 new:∀x,s.num.getD x 0=0->s.uW.getD x 0=0
 le:∀x,s.uW.getD x 0<=η (E.getD x [])
section
variable {E:List (List Nd)}{s:Sc}
theorem aaq {num:List Nat}:∀{l:List Nat},l.Pairwise (λa b=>num.getD a 0<num.getD b 0)->∀{x y},x∈l->y∈l->num.getD x 0=num.getD y 0->x=y
 |[],_,x,y,h,_,_=>γ
 |a::l,hp,x,y,e,hy,he=>by
  rw[pQ]at hp;rcases jk.1 e with rfl|c
  ·grind
  ·rcases jk.1 hy with rfl|d
   ·grind
   ·exact aaq hp.2 c d he
theorem Qm {f:Nat->Nat}{hi:Nat}:∀{l:List Nat} {lo:Nat},l.Pairwise (λa b=>f a<f b)->(∀x∈l,lo<f x/\f x<=hi)->η l<=hi-lo
 |[],_,_,_=>ς
 |a::l,lo,hp,h=>by
  rw[pQ]at hp;have d:=h a (ji ..);have e:=Qm (lo:=f a) hp.2 (λx c=>⟨hp.1 x c,(h x (jc _ c)).2⟩)
  grind
theorem SI.TJ (h:SI E s):η s.stk<=s.cnt:=by
 have:=Qm h.srt (λx a=>⟨(h.stk x a).2,h.cnt x⟩);omega
theorem SI.aaf (h:SI E s):η s.way<=s.cnt:=by
 have:=Qm h.U4 (λx a=>⟨(h.stk x (h.sub x a)).2,h.cnt x⟩);omega
theorem SI.ZU (h:SI E s):s.cnt<=η E:=by
 rw[h.cn,<-h.ln];grind
theorem Xo {l:List Nat}{v:Nat}(a:k<η l)(h:l.getD k 0=0)(hv:0<v):(l.set k v).countP (λx=>decide (0<x))=l.countP (λx=>decide (0<x))+1:=by
 grind
def Sc.come (s:Sc)(n:Nat):Sc:={s with num:=s.num.set n (s.cnt+1),low:=s.low.set n (s.cnt+1),stk:=s.stk++[n],way:=s.way++[n],inn:=s.inn.set n jD,cnt:=s.cnt+1}
def Sc.QW (s:Sc)(x:Nat):Sc:={s with uW:=s.uW.set x (s.uW.getD x 0+1)}
def Sc.lower (s:Sc)(x v:Nat):Sc:={s with low:=s.low.set x (min (s.low.getD x 0) v)}
theorem SI.agJ (h:SI E s)(hw:s.way=[]):s.stk=[]:=by
 cases hs:s.stk with
 |nil=>rfl
 |cons y l=>
  obtain⟨w,a,_⟩:=h.seg y γ γ
  grind
theorem SI.come (h:SI E s)(P:n<η E)(K:s.num.getD n 0=0)(hw:∀w∈s.way,tT (DY E) w n):SI E (s.come n):=by
 have u:n<η s.num:=by rwa [h.ln]
 have B:n<η s.low:=by rwa [h.ll]
 have C:n<η s.inn:=by rwa [h.li]
 have A:∀x,(s.come n).num.getD x 0=if n=x then s.cnt+1 else s.num.getD x 0:=λx=>Gu u
 have Q:∀x,(s.come n).low.getD x 0=if n=x then s.cnt+1 else s.low.getD x 0:=λx=>Gu B
 have D:n∉s.stk:=λhm=>by have:=(h.stk n hm).2;omega
 have L:∀{x},x∈s.stk->n≠x:=λf e=>D (e▸f)
 have i:∀{x},x∈s.stk->(s.come n).num.getD x 0=s.num.getD x 0:=λf=>γ
 have F:∀{x},x∈s.stk->(s.come n).low.getD x 0=s.low.getD x 0:=λf=>γ
 have o:(s.come n).num.getD n 0=s.cnt+1:=γ;have G:(s.come n).low.getD n 0=s.cnt+1:=γ;have g:∀{x},x∈(s.come n).stk↔x∈s.stk\/x=n:=by intro x;simp[Sc.come]
 have m:∀{x},x∈(s.come n).way↔x∈s.way\/x=n:=by intro x;simp[Sc.come]
 have v:∀{l:List Nat},(∀x∈l,x∈s.stk)->l.Pairwise (λa b=>s.num.getD a 0<s.num.getD b 0)->(l++[n]).Pairwise (λa b=>(s.come n).num.getD a 0<(s.come n).num.getD b 0):=by
  intro l hl hp;rw[mX];refine⟨hp.imp_of_mem γ,List.pairwise_singleton _ _,λa R b hb=>?_⟩;rw[mS]at hb;subst hb;rw[o,i γ];have:=h.cnt a;omega
 refine⟨by simp[Sc.come,h.ln],by simp[Sc.come,h.ll],h.lx,by simp[Sc.come,h.li],h.lp,?_,λx=>?_,λx f=>?_,λx=>?_,v ς h.srt,v h.sub h.U4,λw k=>?_,λx f=>?_,λx f M=>?_,λy hy N=>?_,λw k y hy hle=>?_,λx f j O y hy=>?_,λx f p y H=>?_,λx f p=>?_,λx f=>?_,h.le⟩
 ·show s.cnt+1=(s.num.set n _).countP _;rw[Xo u K ω,<-h.cn]
 ·rw[A];show _<=s.cnt+1;have:=h.cnt x
  grind
 ·rcases g.1 f with f|rfl
  ·rw[i f];exact h.stk x f
  ·omega
 ·rw[g];show(s.inn.set n _).getD x _ =jD↔_;rw[Gu C];by_cases e:n=x
  ·grind
  ·rw[d9 e,h.inn]
   grind
 ·rcases m.1 k with f|rfl
  ·exact g.2 (.inl (h.sub w f))
  ·grind
 ·rcases g.1 f with f|rfl
  ·rw[i f,F f];obtain⟨a,y,b,c,d⟩:=h.low x f
   grind
  ·rw[o,G];exact⟨lR,x,g.2 ω,o,.refl x⟩
 ·rcases g.1 f with f|rfl
  ·exact h.done x f γ
  ·grind
 ·rcases g.1 hy with hy|rfl
  ·obtain⟨w,a,b,c,d,e⟩:=h.seg y hy γ;have ws:=h.sub w a;refine⟨w,m.2 γ,γ,γ,d,λw' k z=>?_⟩;rw[i ws];rw[i hy]at z;rcases m.1 k with k|rfl
   ·rw[i (h.sub _ k)]at z⊢
    grind
   ·have:=h.cnt y;omega
  ·grind
 ·rcases g.1 hy with q|e2
  ·rcases m.1 k with r|I
   ·rw[i q,i (h.sub w r)]at hle;exact h.reach w r y q hle
   ·rw[I,o,i q]at hle;have:=h.cnt y;omega
  ·rw[e2];rcases m.1 k with r|I
   ·grind
   ·rw[I];exact .refl _
 ·have J:j<s.uW.getD x 0:=O;rcases g.1 f with f|rfl
  ·let⟨a,b⟩:=h.edge x f j J y hy
   grind
  ·have:=h.new x K;omega
 ·have t:n≠x:=λe=>p (g.2 (.inr e.symm))
  rw[A,d9 t]at f;let⟨a,b⟩:=h.clo x f γ y H
  grind
 ·have t:n≠x:=λe=>p (g.2 (.inr e.symm))
  rw[A,d9 t]at f;exact h.prt x f γ
 ·rw[A]at f;split at f
  ·omega
  ·exact h.new x f
theorem SI.QW (h:SI E s)(l:x∈s.way)(m:(tgts (E.getD x []))[s.uW.getD x 0]? =jB (y:Int))(n:0<s.num.getD y 0)(o:y∈s.stk->s.low.getD x 0<=s.num.getD y 0):SI E (s.QW x):=by
 have b:=h.sub x l;have g:x<η s.uW:=by rw[h.lx];exact(h.stk x b).1
 have f:∀k,(s.QW x).uW.getD k 0=if x=k then s.uW.getD x 0+1 else s.uW.getD k 0:=λk=>Gu g
 refine⟨h.ln,h.ll,by simp[Sc.QW,h.lx],h.li,h.lp,h.cn,h.cnt,h.stk,h.inn,h.srt,h.U4,h.sub,h.low,λk a c=>?_,h.seg,h.reach,λk a j i z d=>?_,h.clo,h.prt,λk a=>?_,λk=>?_⟩
 ·have e:x≠k:=λe=>c (e▸l)
  rw[f,d9 e];exact h.done k a c
 ·rw[f]at i;split at i
  ·next e=>
   subst e;by_cases e2:j=s.uW.getD x 0
   ·subst e2;rw[m]at d;have:y=z:=by injection d with d;omega
    subst this;exact⟨n,o⟩
   ·exact h.edge x a j ω z d
  ·exact h.edge k a j i z d
 ·rw[f];split
  ·next e=>
   subst e;have:=(h.stk x b).2;have p:s.num.getD x 0=0:=a;omega
  ·exact h.new k a
 ·rw[f];split
  ·next e=>
   subst e;have:=(gB.1 m).1;simp only[tgts,jr]at this;omega
  ·exact h.le k
theorem SI.lower (h:SI E s)(p:s.way=pre++[x])(hy:y∈s.stk)(hl:tT (DY E) x y):SI E (s.lower x (s.num.getD y 0)):=by
 have f:x∈s.way:=by rw[p];simp
 have l:=h.sub x f;have m:x<η s.low:=by rw[h.ll];exact(h.stk x l).1
 have n:∀k,(s.lower x (s.num.getD y 0)).low.getD k 0=if x=k then min (s.low.getD x 0) (s.num.getD y 0)else s.low.getD k 0:=λk=>Gu m
 have hle:∀k,(s.lower x (s.num.getD y 0)).low.getD k 0<=s.low.getD k 0:=λk=>by
  rw[n];split
  ·next e=>subst e;exact Nat.min_le_left _ _
  ·exact lR
 refine⟨h.ln,by simp[Sc.lower,h.ll],h.lx,h.li,h.lp,h.cn,h.cnt,h.stk,h.inn,h.srt,h.U4,h.sub,λk g=>?_,h.done,λk g i=>?_,h.reach,λk g j q z r=>?_,h.clo,h.prt,h.new,h.le⟩
 ·obtain⟨a,y',b,c,d⟩:=h.low k g;refine⟨Nat.le_trans (hle k) a,?_⟩;rw[n];split
  ·next e=>
   subst e;by_cases e2:s.low.getD x 0<=s.num.getD y 0
   ·exact⟨y',b,by rw[mg e2];exact c,d⟩
   ·exact⟨y,hy,by rw[Nat.min_eq_right ω];rfl,hl⟩
  ·exact⟨y',b,c,d⟩
 ·obtain⟨w,a,b,c,d,e⟩:=h.seg k g i;refine⟨w,a,b,?_,d,e⟩;have o:x≠k:=λe=>i (e▸f)
  have:=hle w;rw[n k,d9 o];exact Nat.le_trans this c
 ·obtain⟨a,b⟩:=h.edge k g j q z r;exact⟨a,λhm=>Nat.le_trans (hle k) (b hm)⟩
theorem SI.top (h:SI E s)(a:s.way=pre++[x]):(∀w∈pre,s.num.getD w 0<s.num.getD x 0)/\∀w∈s.way,s.num.getD w 0<=s.num.getD x 0:=by
 have hp:=h.U4;rw[a,mX]at hp;have b:=λw hw=>hp.2.2 w hw x (mS.2 rfl)
 grind
theorem aa4 (a:∀r∈E,∀e∈r,sG (η E) e.op=jD)(b:x<η E)(c:(tgts (E.getD x []))[j]? =jB (y:Int)):DY E x y:=by
 have hm:=jy c;refine⟨b,?_,hm⟩;simp only[tgts,jg]at hm;obtain⟨e,he,d⟩:=hm;have:=a _ γ e he;have f:=sU.1 this;omega
theorem SI.tree (h:SI E s)(f:∀r∈E,∀e∈r,sG (η E) e.op=jD)(g:s.way=pre++[x])(d:(tgts (E.getD x []))[s.uW.getD x 0]? =jB (y:Int))(i:s.num.getD y 0=0):SI E ((s.QW x).come y):=by
 have b:x∈s.way:=γ;have a:=h.sub x b;have c:=aa4 f (h.stk x a).1 d;have j:=h.come c.2.1 i (λw hw=>(h.reach w hw x a ((h.top g).2 w hw)).snoc c);have k:y<η s.num:=by rw[h.ln];exact c.2.1
 have l:y<η s.low:=by rw[h.ll];exact c.2.1
 have m:y≠x:=λe=>by have:=(h.stk x a).2;grind
 have e1:(s.come y).num.getD y 0=s.cnt+1:=by
  show(s.num.set y _).getD y 0= _
  grind
 have e2:(s.come y).low.getD x 0=s.low.getD x 0:=by
  show(s.low.set y _).getD x 0= _
  grind
 exact j.QW (by exact jX _ b) d ω (λ_=>by
  have:=(h.low x a).1;have:=h.cnt x;omega)
theorem SI.back (h:SI E s)(d:∀r∈E,∀e∈r,sG (η E) e.op=jD)(f:s.way=pre++[x])(c:(tgts (E.getD x []))[s.uW.getD x 0]? =jB (y:Int))(hy:y∈s.stk):SI E ((s.QW x).lower x (s.num.getD y 0)):=by
 have a:x∈s.way:=γ;have b:=h.sub x a;have g:=aa4 d (h.stk x b).1 c;have i:=h.lower f hy (.step g (.refl _));have j:x<η s.low:=by rw[h.ll];exact(h.stk x b).1
 exact i.QW a c (h.stk y hy).2 (λ_=>by
  show(s.low.set x _).getD x 0<=s.num.getD y 0
  grind)
theorem SI.skip (h:SI E s)(a:x∈s.way)(b:(tgts (E.getD x []))[s.uW.getD x 0]? =jB (y:Int))(c:0<s.num.getD y 0)(hy:y∉s.stk):SI E (s.QW x):=h.QW a b c (λhm=>absurd hm hy)
theorem SI.stay (h:SI E s)(G:s.way=pre++[x])(hd:s.uW.getD x 0=η (E.getD x []))(O:s.low.getD x 0≠s.num.getD x 0):
  ∃pr p,pre=pr++[p]/\SI E ({s with way:=pre}.lower p (s.low.getD x 0)):=by
 have I:x∈s.way:=by rw[G];simp
 have t:=h.sub x I;obtain⟨o,J⟩:=h.top G;obtain⟨hl,y,hy,K,u⟩:=h.low x t;have g:∀{w},w∈s.way↔w∈pre\/w=x:=by intro w;rw[G];simp
 obtain⟨w0,v,A,P⟩:∃w∈pre,tT (DY E) y w/\s.num.getD w 0<s.num.getD x 0:=by
  by_cases i:y∈s.way
  ·rcases g.1 i with i|rfl
   ·exact⟨y,i,.refl y,o y i⟩
   ·omega
  ·obtain⟨w,a,b,_,d,_⟩:=h.seg y hy i
   grind
 obtain⟨pr,p,hp⟩:∃pr p,pre=pr++[p]:=by
  rcases p9 pre with e|⟨pr,p,e⟩
  ·grind
  ·grind
 have l:p∈pre:=γ;have B:=g.2 (.inl l);have C:=h.sub p B;have D:=o p l
 have q:∀w∈pre,s.num.getD w 0<=s.num.getD p 0:=by
  have L:=h.U4
  grind
 have F:=(u.trans A).trans (h.reach _ (g.2 (.inl v)) p C (q _ v));have hpl:p<η s.low:=by rw[h.ll];exact(h.stk p C).1
 have H:∀k,({s with way:=pre}.lower p (s.low.getD x 0)).low.getD k 0=if p=k then min (s.low.getD p 0) _ else s.low.getD k 0:=λk=>Gu hpl
 have hle:∀k,({s with way:=pre}.lower p (s.low.getD x 0)).low.getD k 0<=s.low.getD k 0:=λk=>by
  rw[H];split
  ·next e=>subst e;exact Nat.min_le_left _ _
  ·exact lR
 have M:({s with way:=pre}.lower p (s.low.getD x 0)).low.getD p 0<=s.low.getD x 0:=by rw[H,jd rfl];exact Nat.min_le_right _ _
 have Q:p≠x:=λe=>by subst e;omega
 refine⟨pr,p,hp,h.ln,by simp[Sc.lower,h.ll],h.lx,h.li,h.lp,h.cn,h.cnt,h.stk,h.inn,h.srt,?_,λw hw=>h.sub w (g.2 (.inl hw)),λk r=>?_,λk r n=>?_,λk r n=>?_,λw hw=>h.reach w (g.2 (.inl hw)),λk r j R z S=>?_,h.clo,h.prt,h.new,h.le⟩
 ·have L:=h.U4;rw[G,mX]at L;exact L.1
 ·obtain⟨a,y',b,c,d⟩:=h.low k r;refine⟨Nat.le_trans (hle k) a,?_⟩;rw[H];split
  ·next e=>
   subst e;by_cases e2:s.low.getD p 0<=s.low.getD x 0
   ·exact⟨y',b,by rw[mg e2];exact c,d⟩
   ·exact⟨y,hy,by rw[Nat.min_eq_right ω];exact K,(h.reach p B x t ω).trans u⟩
  ·exact⟨y',b,c,d⟩
 ·by_cases e:k=x
  ·subst e;exact hd
  ·exact h.done k r (λhw=>(g.1 hw).elim n e)
 ·by_cases e:k=x
  ·subst e;refine⟨p,l,D,?_,F,λw' m _=>q _ m⟩
   grind
  ·obtain⟨w,a,b,c,d,f⟩:=h.seg k r (λhw=>(g.1 hw).elim n e);have N:p≠k:=λe=>n (e▸l)
   rcases g.1 a with a|rfl
   ·refine⟨w,a,b,?_,d,λw' m=>f _ (g.2 (.inl m))⟩
    grind
   ·refine⟨p,l,pW D b,?_,d.trans F,λw' m _=>q _ m⟩;rw[H k,d9 N];exact Nat.le_trans M c
 ·obtain⟨a,b⟩:=h.edge k r j R z S;exact⟨a,λhm=>Nat.le_trans γ (b hm)⟩
def wo {α:Type}(l:List Nat)(v:α)(r:List α):List α:=l.foldl (λr x=>r.set x v) r
theorem JW {v:α}:∀{l:List Nat} {r:List α},η (wo l v r)=η r
 |[],_=>rfl
 |x::l,r=>by
  show η (wo l v (r.set x v))= _;rw[JW];simp
theorem IX {v d:α}:∀{l:List Nat} {r:List α},(∀x∈l,x<η r)->∀k,(wo l v r).getD k d=if k∈l then v else r.getD k d
 |[],r,_,k=>rfl
 |x::l,r,h,k=>by
  show(wo l v (r.set x v)).getD k d= _;rw[IX γ,Gu (h x ς)]
  grind
theorem Ng {v:α}{l:List Nat}{r:List α}:wo (l++[x]) v r=(wo l v r).set x v:=by simp[wo]
def Sc.cut (s:Sc)(a b:List Nat)(m:Nat):Sc:={s with stk:=a,prt:=wo b m s.prt,inn:=wo b jE s.inn}
theorem SI.part (h:SI E s){a b:List Nat}(hx:s.way=pre++[x])(hd:s.uW.getD x 0=η (E.getD x []))(a6:s.low.getD x 0=s.num.getD x 0)(hs:s.stk=a++x::b)(hm:m∈x::b)(a7:∀y∈x::b,m<=y):
  SI E ({s with way:=pre}.cut a (x::b) m)/\∀p∈pre,s.low.getD p 0<=s.low.getD x 0:=by
 have q:x∈s.way:=γ;have M:=h.sub x q;let⟨u,t⟩:=h.top hx
 have d:∀{w},w∈s.way↔w∈pre\/w=x:=by intro w;grind
 have c:∀{y},y∈s.stk↔y∈a\/y∈x::b:=by intro y;grind
 have v:=h.srt;rw[hs,mX,pQ]at v;obtain⟨N,⟨O,a8⟩,A⟩:=v;have J:=λy hy=>A y hy x (ji ..)
 have hS:∀y∈x::b,s.num.getD x 0<=s.num.getD y 0:=λy hy=>by
  grind
 have P:∀y∈x::b,y∉a:=λy hy i=>γ
 have B:∀y∈x::b,y∈s.stk:=λy hy=>c.2 (.inr hy)
 have C:∀y∈x::b,tT (DY E) y x/\s.low.getD x 0<=s.low.getD y 0/\s.uW.getD y 0=η (E.getD y []):=by
  intro y hy;rcases jk.1 hy with rfl|Q
  ·exact⟨.refl _,lR,hd⟩
  ·have R:=O y Q;have f:y∉s.way:=λhw=>γ
   let⟨w,c1,c2,c3,D,S⟩:=h.seg y γ f
   have c6:=S x q R;have c7:=t w c1;have:=aaq h.srt (h.sub w c1) M ω;subst this;exact⟨D,c3,h.done y (B y hy) f⟩
 have F:∀y∈x::b,Rk E x y:=λy hy=>⟨h.reach x q y (B y hy) (hS y hy),(C y hy).1⟩
 have G:∀y∈x::b,∀z,DY E y z->z∈x::b\/(0<s.num.getD z 0/\z∉s.stk):=by
  intro y hy z l;obtain⟨j,K⟩:=mV l.2.2;have T:=(gB.1 K).1;simp only[tgts,jr]at T;let⟨_,o,L⟩:=C y hy
  let⟨e1,e2⟩:=h.edge y γ j ω z K
  by_cases H:z∈s.stk
  ·grind
  ·grind
 have I:∀{y z},tT (DY E) y z->0<s.num.getD y 0->y∉s.stk->0<s.num.getD z 0/\z∉s.stk:=by
  intro y z hl;induction hl with
  |refl a=>grind
  |step r _ ih=>
   intro g o;obtain⟨c1,c2⟩:=h.clo _ g o _ r
   grind
 have U:∀{y z},tT (DY E) y z->y∈x::b->z∈x::b\/(0<s.num.getD z 0/\z∉s.stk):=by
  intro y z hl;induction hl with
  |refl a=>grind
  |step r hl ih=>
   intro g
   grind
 have V:∀y∈x::b,ED E y m:=by
  intro y hy;refine⟨(F y hy).symm.trans γ,λz H=>?_⟩;rcases U H.1 hy with g|⟨g,o⟩
  ·grind
  ·exact absurd γ (I H.2 g o).2
 have W:∀k∈x::b,k<η s.inn:=λk hk=>by rw[h.li];exact(h.stk k γ).1
 have X:∀k∈x::b,k<η s.prt:=λk hk=>by rw[h.lp];exact(h.stk k γ).1
 have Y:∀w∈pre,w∈a:=λw hw=>by
  have g:=u w hw;rcases c.1 (h.sub w γ)with o|o
  ·omega
  ·grind
 have has:∀y∈a,y∈s.stk:=λy hy=>c.2 (.inl hy)
 refine⟨⟨h.ln,h.ll,h.lx,by show η (wo _ _ _)= _;rw[JW,h.li],by show η (wo _ _ _)= _;rw[JW,h.lp],h.cn,h.cnt,λy hy=>h.stk y (has y hy),λk=>?_,N,?_,Y,λy hy=>?_,λy hy f=>?_,λy hy f=>?_,λw hw y hy=>h.reach w (d.2 (.inl hw)) y (has y hy),λy hy j K z H=>?_,λy hy i z l=>?_,λy hy i=>?_,h.new,h.le⟩,λp hp=>?_⟩
 ·show(wo _ _ s.inn).getD k _ =jD↔k∈a;rw[IX W];split
  ·next e=>grind
  ·next e=>rw[h.inn,c];grind
 ·have hq:=h.U4;rw[hx,mX]at hq;exact hq.1
 ·obtain⟨c1,y',c2,c3,D⟩:=h.low y (has y hy);refine⟨c1,_,?_,c3,D⟩;rcases c.1 c2 with c2|c2
  ·exact c2
  ·have:=hS _ c2;have:=J y hy;omega
 ·refine h.done y (has y hy) (λhw=>?_);rcases d.1 hw with hw|rfl
  ·exact f hw
  ·have:=J y hy;omega
 ·obtain⟨w,c1,c2,c3,D,S⟩:=h.seg y (has y hy) (λhw=>by
   rcases d.1 hw with hw|rfl
   ·exact f hw
   ·have:=J y hy;omega)
  have:=J y hy;rcases d.1 c1 with c1|rfl
  ·exact⟨w,c1,c2,c3,D,λw' Z=>S _ (d.2 (.inl Z))⟩
  ·omega
 ·obtain⟨c1,c2⟩:=h.edge y (has y hy) j K z H;exact⟨c1,λhm=>c2 (has z hm)⟩
 ·by_cases n:y∈s.stk
  ·have a1:=(c.1 n).resolve_left i;rcases G y a1 z l with g|⟨g,o⟩
   ·exact⟨(h.stk z γ).2,P z g⟩
   ·exact⟨g,λL=>o (has z L)⟩
  ·obtain⟨c1,c2⟩:=h.clo y hy n z l;exact⟨c1,λL=>c2 (has z L)⟩
 ·show ED E y ((wo _ m s.prt).getD y 0);rw[IX X];split
  ·next e=>grind
  ·next e=>exact h.prt y hy (λn=>((c.1 n).resolve_left i |> e))
 ·have g:=(h.low p (h.sub p (d.2 (.inl hp)))).1
  grind
def Sc.start (n:Nat):Sc:=⟨ρ n 0,ρ n 0,ρ n 0,[],[],ρ n jE,ρ n 0,0⟩
theorem PE (n k)(d:α):(ρ n d).getD k d=d:=by
 grind
theorem SI.start (E):SI E (Sc.start (η E)):=by
 have c:∀k,(ρ (η E) 0).getD k 0=0:=λk=>PE _ _ _
 refine⟨by simp[Sc.start],by simp[Sc.start],by simp[Sc.start],by simp[Sc.start],by simp[Sc.start],?_,λx=>?_,λx a=>(by cases a),λx=>?_,List.Pairwise.nil,List.Pairwise.nil,λw hw=>(by cases hw),λx a=>(by cases a),λx a=>(by cases a),λx a=>(by cases a),λw hw=>(by cases hw),λx a=>(by cases a),λx a=>?_,λx a=>?_,λx _=>c x,λx=>?_⟩
 ·show 0=(ρ _ 0).countP _
  grind
 ·show(ρ _ 0).getD x 0<=0
  grind
 ·show(ρ _ _).getD x _ =jD↔x∈[]
  grind
 ·have b:0<(ρ _ 0).getD x 0:=a
  grind
 ·have b:0<(ρ _ 0).getD x 0:=a
  grind
 ·show(ρ _ 0).getD x 0<=_
  grind
theorem SI.all (h:SI E s)(hw:s.way=[])(hv:∀x,x<η E->0<s.num.getD x 0):∀x,x<η E->ED E x (s.prt.getD x 0):=λx a=>
 h.prt x (hv x a) (by rw[h.agJ hw];simp)
def BA (E:List (List Nd))(uW:List Nat):Nat:=((ζ (η E)).map (λx=>η (E.getD x [])-uW.getD x 0)).sum
theorem Ra {uW:List Nat}(hl:η uW=η E)(a:x<η E)(d:uW.getD x 0<η (E.getD x [])):BA E (uW.set x (uW.getD x 0+1))+1=BA E uW:=by
 have key:∀n,n<=η E->((ζ n).map (λk=>η (E.getD k [])-(uW.set x (uW.getD x 0+1)).getD k 0)).sum+(if x<n then 1 else 0)=((ζ n).map (λk=>η (E.getD k [])-uW.getD k 0)).sum:=by
  intro n;induction n with
  |zero=>intro _;simp
  |succ n b=>
   intro c;have:=b ω;rw[mh,jT,jT,qz,qz];simp only[kE,l5,List.sum_cons,List.sum_nil,nG];rw[Gu ω];by_cases e:x=n
   ·subst e;rw[jd rfl,jd ω];rw[d9 ω]at this;omega
   ·rw[d9 e];by_cases e2:x<n
    ·rw[jd e2]at this;rw[jd ω];omega
    ·rw[d9 e2]at this;rw[d9 ω];omega
 have:=key (η E) lR;rw[jd a]at this;exact this
end
