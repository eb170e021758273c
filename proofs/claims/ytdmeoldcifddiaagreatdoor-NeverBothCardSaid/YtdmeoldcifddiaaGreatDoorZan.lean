/- A part of the proof. -/
import Derived.Test.YtdmeoldcifddiaaGreatDoorZad
import Derived.Test.YtdmeoldcifddiaaGreatDoorZah
import Derived.Lib.AppendZerosOnto
import Derived.Test.YtdmeoldcifddiaaGreatDoorZam
import Derived.Test.YtdmeoldcifddiaaGreatDoorProg
import Derived.Test.YtdmeoldcifddiaaGreatDoorZab
import Derived.Outline
import Derived.Test.YtdmeoldcifddiaaGreatDoorZaf
import Derived.Test.YtdmeoldcifddiaaGreatDoorZal
import Derived.Maps.RangeWalk
/- The walks of slices.Grow and slices.Concat (forms). -/
set_option maxHeartbeats 2000000
namespace Go.Proofs.YtdmeoldcifddiaaGreatDoor
open Go.RowKit
open Option renaming some -> jB, none -> jC
open Bool renaming true -> jD, false -> jE
open Go renaming World -> jF
open Go.Proofs.Tryz renaming prog -> jJ
open List renaming length -> η, range -> ζ, getD -> θ, mem_append -> ν
variable {cs:Array Value}{x:Int}{R:List (List Bool)}{rows:List (List Nat)}{L:List (Nat×Nat)}{l:List Int}{f:List Nd}{left:Lit->Bool}{g:Lit->Option Value}{B T b i k mb n nb t:Nat}{p:Nat×Nat}{s:Nat->Nat}{S:Nat->Prop}{a c q r:Value}{w w':jF}
theorem Yw:uq jJ 114 44 2 16:=
 uq.mk (z:=.agg #[.int .i64 0,.int .i64 0]) Tryz.underlying114 κ δ δ
theorem ajK:(Tryz.prog.info? 44).map (λi=>(i.zero,i.size,i.bytes))=jB (jB (.agg #[.int .i64 0,.int .i64 0]),2,16):=κ
def adK (w:jF)(N:Nat)(en:Ending)(w':jF):Prop:=
 ∃v,en=.returned v/\w'.ownsRow w.1.size 44 2 v 0 []/\Below w.1.size w w'/\(v=.slice jC 0 0↔N=0)
theorem ac9 (N:Nat)(w)(r:N<=1000000000):Calls jJ 131 #[.slice jC 0 0,.int .i64 N] w (adK w N):=by
 by_cases i:N=0
 ·subst i;go_enter Tryz.func131,Tryz.ntmps131;go_wp2
  go_ret
  exact⟨_,rfl,jF.ownsRow_nil _ _ _ _,bR,ς⟩
 replace i:0<N:=ω;obtain⟨i0,hi,e,j,c⟩:=info_parts ajK;have hold:(Builtin.firstCells i0.size 0 (.slice jC 0 0)).run jJ w.drew=.ok (#[]:Array Value) w.drew:=run_firstCells_none w.drew i0.size 0 0 0
 have l:∀ty,(Builtin.append_ #[114,3] ty #[.slice jC 0 0,.int .i64 (N:Int)]).run jJ w= _:=λty=>
  Lib.run_append_grow_zeros w 114 3 ty 44 i0 _ .i64 .i64 Tryz.underlying114 Tryz.underlying3 hi e jC 0 0 [] hold N i ω ω ω (by rw[c];omega)
   (growslice_fits ω (by rw[c];omega))
 have n:0+N<=grownCap w (0+N) 0 44:=grownCap_ge w _ _ _;have g:=grownCap_le_maxLen w (0+N) 0 44 (by unfold maxLen;omega);have d:∀k,(Builtin.zeroCells #[Value.int .i64 0,Value.int .i64 0] k).size=k*2:=λk=>by simp[Builtin.zeroCells]
 generalize grownCap w (0+N) 0 44=G at *;have m:G<=9223372036854775807:=by unfold maxLen at g;omega
 have a:((w.alloc (.cells (Builtin.zeroCells #[Value.int .i64 0,Value.int .i64 0] N++Builtin.zeroCells #[Value.int .i64 0,Value.int .i64 0] (G-N)) 44)).drew).ownsRow w.1.size 44 2 (.slice (jB ⟨w.1.size,0,jC⟩) 0 G) 0 []:=
  jF.ownsRow_made w _ G lR g (by rw[Array.size_append,d,d];omega)
 have b:Below w.1.size w ((w.alloc (.cells (Builtin.zeroCells #[Value.int .i64 0,Value.int .i64 0] N++Builtin.zeroCells #[Value.int .i64 0,Value.int .i64 0] (G-N)) 44)).drew):=
  ((Below.refl w.1.size w).alloc lR _).drew
 obtain⟨p,q⟩:=iw a b;clear a b hold d e j c hi;have s:¬((N:Int)<0):=ω;have u:(N:Int)>0:=ω;go_enter Tryz.func131,Tryz.ntmps131;go_wp2_with (at_builtin;refine Lib.wpList_append_run _ rfl _ _ _ _ rfl _ _ rfl rfl _ _ (l _) ?_)
 go_ret
 exact⟨_,rfl,p.o,q.o,by simp;omega⟩
def zA (L:List (List Nd)):Nat:=(L.map List.length).sum
theorem Qx {L:List (List Nd)}(h:k<η L):zA (L.take (k+1))=zA (L.take k)+L[k].length:=by
 rw[nR h,zA,jT,qz];simp[zA]
theorem aal {L:List (List Nd)}(k):zA (L.take k)<=zA L:=by
 have:=jM (λl=>zA l) (lK k L);rw[zA,jT,qz]at this;have e:zA (L.take k)=((L.take k).map List.length).sum:=rfl;omega
theorem abB (L):η L.flatten=zA L:=by simp[zA,List.length_flatten]
theorem ZL {L:List (List Nd)}(h:k<η L):qP (L.take (k+1)).flatten=qP (L.take k).flatten++qP L[k]:=by
 rw[nR h,List.flatten_append];simp[uY]
theorem Xp (A n c L w B)(hs:Gx w B 2 A n c (L.map qP))(hB:B<=w.1.size)(hl:zA L<=1000000000):
  Calls jJ 103 #[.slice A n c] w (sI w 44 2 (zA L) (qP L.flatten) (zA L=0)):=by
 have Y:n=η L:=by have:=hs.len;simpa using this
 have a6:n<=9223372036854775807:=by have:=hs.cap;have:=hs.max;unfold maxLen at this;omega
 have M:=dh Y;clear Y;go_enter Tryz.func103,Tryz.ntmps103;go_wp2
 go_loop [3,11] (λsz i=>∃k:Nat,k<=n/\i=.int .i64 k/\sz=.int .i64 (zA (L.take k):Nat)) (λ_ i=>n-(intOf i).toNat)
 case atStart=>exact⟨0,ω,rfl,rfl⟩
 case round=>
  obtain⟨k,hk,rfl,rfl⟩:=hrel;by_cases N:k<n
  ·have m:k<η L:=by rw[<-M.o];exact N
   obtain⟨b,o,A',n',c',rfl,_,hc,d⟩:=hs.at_ (j:=k) (ys:=qP L[k]) (by simp[m]);have p:n'=L[k].length:=by have:=d.len;rw[uz]at this;omega
   have a:=Qx m;rw[<-p]at a;have s:=aal (L:=L) (k+1);rw[a]at s;have x:=dh a;clear a p;generalize zA (L.take k)=t at *;go_wp2
   go_round
   case rel=>exact⟨k+1,ω,by go_num,by rw[x.o];go_num⟩
   case measure=>simp[intOf];omega
  ·have O:k=n:=ω;subst O;have E:zA (L.take k)=zA L:=by rw[M.o,kH]
   rw[E];clear E;generalize Z:zA L=T at *;have HT:=dh Z;clear Z;go_wp2_with fail
   refine(ac9 T w hl).mono ?_;rintro e w1 ⟨v1,rfl,y,P,F⟩;have Q:=dh F;clear F;go_wp2
   go_loopw [6,27] (λv i wr=>∃k':Nat,k'<=k/\i=.int .i64 k'/\wr.ownsRow w.1.size 44 2 v (zA (L.take k')) (qP (L.take k').flatten)/\Below w.1.size w wr/\Hd (v=.slice jC 0 0↔T=0)) (λ_ i _=>k-(intOf i).toNat)
   case atStart=>exact⟨0,ω,rfl,y,P,Q⟩
   case round=>
    obtain⟨k',a7,rfl,l,r,z⟩:=hrel;by_cases G:k'<k
    ·have m:k'<η L:=by rw[<-M.o];exact G
     obtain⟨b,o,A',n',c',H,_,hc,d⟩:=(hs.below r hB).at_ (j:=k') (ys:=qP L[k']) (by simp[m]);cases H;have p:n'=L[k'].length:=by have:=d.len;rw[uz]at this;omega
     have a:=Qx m;have I:=ZL m;rw[<-p]at a;have s:=aal (L:=L) (k'+1);rw[a,HT.o]at s;have J:T=0->n'=0:=λh=>ω
     obtain⟨R,x,S⟩:=iA J a I;have U:∀u∈qP L[k'],u.oneCell'=jD:=FX _;clear a p I J;have K:=r.size;go_wp2_with (at_builtin;refine yA rfl (.tmp 31) (.tmp 32) 114 rfl w.1.size 44 2 16 Yw _ _ _ l rfl B A' n' c' _ rfl d U ω ω K ?_;intro v2 w2 C V a1 q;have D:=dh q;clear q)
     go_roundw
     case rel=>
      refine⟨k'+1,ω,by go_num,by rw[x.o,S.o];exact C,r.trans (V.below K (λg hg W=>by have:=(l.lt g W).1;omega)),dh (D.trans ⟨λh=>z.out.1 h.1,λh=>⟨z.out.2 h,R h⟩⟩)⟩
     case measure=>simp[intOf];omega
    ·have X:k'=k:=ω;subst X;go_wp2
     go_ret
     rw[M.o,kH,HT.o]at l;exact⟨_,rfl,l,r,z.out⟩
set_option maxHeartbeats 400000
theorem ZW (A n c xs w B)(hs:Sl w B 2 A n c xs)(m:∀u∈xs,u.oneCell'=jD)(o:B<=w.1.size)(r:n<=1000000000):
  Calls jJ 71 #[.slice A n c] w (sI w 44 2 n xs (A=jC)):=by
 have i:=λ(w:jF) (a:Option Addr) (l c:Nat)=>Lib.run_eql_slice_nil (P:=jJ) w 114 44 a l c 0 0 Tryz.underlying114
 rcases A with _|p
 ·have hc:=hs.nil rfl;have hm:n=0:=by have:=hs.cap;omega
  subst hc;subst hm;have q:=jv (by rw[hs.len]);subst q;go_enter Tryz.func71,Tryz.ntmps71;go_wp2
  go_ret
  exact⟨_,rfl,jF.ownsRow_nil _ _ _ _,bR,ς⟩
 ·have e:∀w:jF,(w.alloc (.cells #[] 44)).ownsRow w.1.size 44 2 (.slice (jB ⟨w.1.size,0,jC⟩) 0 0) 0 []:=
   λw=>jF.ownsRow_made w #[] 0 lR (by unfold maxLen;omega) ς
  go_enter Tryz.func71,Tryz.ntmps71;go_wp2_with (at_builtin;refine yA rfl (.tmp 5) (.tmp 6) 114 rfl w.1.size 44 2 16 Yw _ _ _ (e w) rfl B (jB p) n c xs rfl (hs.below ((Below.refl w.1.size w).alloc lR _) o) m ω ω ς ?_;intro v1 w1 b g j d)
  go_ret
  refine⟨v1,rfl,by simpa using b,?_,by simp[d]⟩;exact((Below.refl w.1.size w).alloc lR _).trans (g.below ς (λk s=>by simp[Value.ownBlock];omega))
def Ce (L:List (Nat×Nat))(p:Nat×Nat):List (Nat×Nat):=if p∈L then L else L++[p]
def uF (ps L:List (Nat×Nat)):List (Nat×Nat):=ps.foldl Ce L
def uP (l:List Int)(t:Nat):List (Nat×Nat):=l.map (λq=>(q.toNat,t))
def vF (L:List (Nat×Nat))(l:List Int)(t:Nat):List Int:=iy (λq=>L.idxOf (q,t)) l
def rY (a:rQ)(p:Nat×Nat):Nat:=if(decide (0<a.sets)&&(a.at p.1).inn.testBit p.2)=jD then(p.2+1)%a.sets.toNat else p.2
def NZ (a:rQ)(p:Nat×Nat):Nat:=if(decide (a.sets=0)||(decide (p.2=0)&&(a.at p.1).inn.testBit 0))=jD then 1 else 0
def Gg (a:rQ)(p:Nat×Nat)(L:List (Nat×Nat)):BM:=⟨(a.at p.1).need,(a.at p.1).ban,NZ a p,vF L (a.at p.1).to (rY a p)⟩
def Fp (a:rQ):Nat->List (Nat×Nat)->List BM->Option (List (Nat×Nat)×List BM)
 |0,_,_=>jC
 |k+1,L,out=>
  if 256<η L then jC
  else if η out=η L then jB (L,out)
  else Fp a k (uF (uP (a.at (L.getD (η out) (0,0)).1).to (rY a (L.getD (η out) (0,0)))) L) (out++[Gg a (L.getD (η out) (0,0)) (uF (uP (a.at (L.getD (η out) (0,0)).1).to (rY a (L.getD (η out) (0,0)))) L)])
def xE (a:rQ):List (Nat×Nat):=uF (uP a.init 0) []
def ML (a:rQ):Option rQ:=(Fp a 257 (xE a) []).map (λr=>⟨1,vF (xE a) a.init 0,r.2⟩)
theorem adO (L)(p x:Nat×Nat):x∈Ce L p↔x∈L\/x=p:=by
 unfold Ce;split
 ·next h=>exact⟨.inl,λe=>e.elim id (λe=>e▸h)⟩
 ·simp
theorem Iz (ps):∀(L:List (Nat×Nat)) (x:Nat×Nat),x∈uF ps L↔x∈L\/x∈ps:=by
 induction ps with
 |nil=>intro L x;simp[uF]
 |cons p ps a=>
  intro L x;show x∈uF ps (Ce L p)↔_;rw[a,adO,jk,or_assoc]
theorem U2 (L)(p:Nat×Nat):∃m,Ce L p=L++m:=by
 unfold Ce;split
 ·exact⟨[],ς⟩
 ·exact⟨[p],rfl⟩
theorem abf (ps):∀L:List (Nat×Nat),∃m,uF ps L=L++m:=by
 induction ps with
 |nil=>intro L;exact⟨[],by simp[uF]⟩
 |cons p ps b=>
  intro L;obtain⟨m,hm⟩:=b (Ce L p);obtain⟨m',a⟩:=U2 L p;exact⟨m'++m,by show uF ps (Ce L p)= _;rw[hm,a,lg]⟩
theorem X7 (h:L.Nodup)(p:Nat×Nat):(Ce L p).Nodup:=by
 unfold Ce;split
 ·exact h
 ·next hp=>
  rw[mP];exact⟨h,ς,λx a y hy e=>by rw[mS]at hy;exact hp (by rw[<-hy,<-e];exact a)⟩
theorem M0 (ps):∀L:List (Nat×Nat),L.Nodup->(uF ps L).Nodup:=by
 induction ps with
 |nil=>intro L h;exact h
 |cons p ps a=>intro L h;exact a _ (X7 h p)
theorem X6 (ps L)(p:Nat×Nat):uF (ps++[p]) L=Ce (uF ps L) p:=by simp[uF]
theorem ahM (h:p∈L):L[L.idxOf p]? =jB p:=by
 have hl:=mO h;rw[gE hl,List.getElem_idxOf]
theorem OD {m:List (Nat×Nat)}(h:∀q∈l,(q.toNat,t)∈L):vF (L++m) l t=vF L l t:=by
 unfold vF iy
 have:∀(l:List Int) (o:List Int),(∀q∈l,(q.toNat,t)∈L)->l.foldl (λout x=>if(((L++m).idxOf (x.toNat,t):Nat):Int)∈out then out else out++[(((L++m).idxOf (x.toNat,t):Nat):Int)]) o=l.foldl (λout x=>if((L.idxOf (x.toNat,t):Nat):Int)∈out then out else out++[((L.idxOf (x.toNat,t):Nat):Int)]) o:=by
  intro l;induction l with
  |nil=>intro o _;rfl
  |cons x l b=>
   intro o a;simp only[jZ];rw[mK,jd (a x (ji ..))];exact b _ (λq c=>a q (jc _ c))
 exact this l [] h
theorem Kr (L l t):η (vF L l t)<=η l:=EY _ _
theorem Kq:x∈vF L l t↔∃q∈l,((L.idxOf (q.toNat,t):Nat):Int)=x:=CV _ _ _
theorem abe (L l t q):vF L (l++[q]) t=if((L.idxOf (q.toNat,t):Nat):Int)∈vF L l t then vF L l t else vF L l t++[((L.idxOf (q.toNat,t):Nat):Int)]:=Du _ _ _
theorem Iy:p∈uP l t↔∃q∈l,(q.toNat,t)=p:=by simp[uP]
structure EG (a:rQ)(L:List (Nat×Nat))(out:List BM):Prop where
 nodup:L.Nodup
 le:η out<=η L
 pr:∀p∈L,p.1<η a.nodes/\(p.2=0\/p.2<a.sets.toNat)
 row:∀i p,i<η out->L[i]? =jB p->out[i]? =jB (Gg a p L)/\∀q∈(a.at p.1).to,(q.toNat,rY a p)∈L
 first:∃m,L=xE a++m
section
variable {a:rQ}
theorem Ox {q:Nat}(h:q<η a.nodes):a.at q∈a.nodes:=by
 unfold rQ.at;rw[gD,gE h];exact mM h
theorem aaF (h:p.2=0\/p.2<a.sets.toNat):rY a p=0\/rY a p<a.sets.toNat:=by
 unfold rY;split
 ·next b=>
  rw[jm,jN]at b;exact .inr (qI _ ω)
 ·exact h
theorem EG.start (hA:a.Ok):EG a (xE a) []:=by
 refine⟨M0 _ _ List.nodup_nil,mR _,λp hp=>?_,λi p hi=>absurd hi (pK _),⟨[],ς⟩⟩;rcases(Iz _ _ _).1 hp with hp|hp
 ·cases hp
 ·obtain⟨q,b,rfl⟩:=Iy.1 hp;obtain⟨k,rfl,c⟩:=rO (hA.1 q b);exact⟨by simpa using c,.inl rfl⟩
theorem EG.step (hA:a.Ok){L:List (Nat×Nat)}{out:List BM}(h:EG a L out)(j:η out<η L){p:Nat×Nat}(hp:L[η out]? =jB p){M:List (Nat×Nat)}(l:uF (uP (a.at p.1).to (rY a p)) L=M):EG a M (out++[Gg a p M]):=by
 obtain⟨m,hm⟩:=abf (uP (a.at p.1).to (rY a p)) L;rw[l]at hm;have f:=jy hp;have b:∀x,x∈M↔x∈L\/∃q∈(a.at p.1).to,(q.toNat,rY a p)=x:=λx=>by rw[<-l,Iz,Iy]
 obtain⟨m0,n⟩:=h.first
 refine⟨by rw[<-l];exact M0 _ _ h.nodup,?_,λx d=>?_,λi x hi d=>?_,⟨m0++m,by rw[hm,n,lg]⟩⟩
 ·rw[hm,lA,lA,jU];omega
 ·rcases(b x).1 d with d|⟨q,g,rfl⟩
  ·exact h.pr x d
  ·obtain⟨k,rfl,s⟩:=rO (hA.2 _ (Ox (h.pr p f).1) q g);exact⟨by simpa using s,aaF (h.pr p f).2⟩
 ·rw[lA,jU]at hi;by_cases e:i<η out
  ·have c:L[i]? =jB x:=by rw[hm,gC ω]at d;exact d
   obtain⟨t,r⟩:=h.row i x e c;refine⟨?_,λq g=>(b _).2 (.inl (r q g))⟩;rw[gC e,t,hm];unfold Gg;rw[OD r]
  ·have o:i=η out:=ω;subst o;have c:L[η out]? =jB x:=by rw[hm,gC j]at d;exact d
   rw[hp]at c;cases c;refine⟨by rw[gR lR];simp,λq g=>(b _).2 (.inr ⟨q,g,rfl⟩)⟩
theorem SG (hA:a.Ok):∀(k:Nat) (L:List (Nat×Nat)) (out:List BM) (r:List (Nat×Nat)×List BM),EG a L out->Fp a k L out=jB r->EG a r.1 r.2/\η r.2=η r.1/\η r.1<=256
 |0,L,out,r,_,h=>by cases h
 |k+1,L,out,r,hi,h=>by
  unfold Fp at h;split at h
  ·cases h
  ·next c=>
   split at h
   ·next he=>cases h;exact⟨hi,he,by dsimp only;omega⟩
   ·next he=>
    have b:η out<η L:=by have:=hi.le;omega
    have d:L.getD (η out) (0,0)=L[η out]:=by simp[θ,b]
    rw[d]at h;exact SG hA k _ _ r (hi.step hA b (gE b) rfl) h
structure abd (a b:rQ)(L:List (Nat×Nat)):Prop where
 sets:b.sets=1
 len:η b.nodes=η L
 nodup:L.Nodup
 le:η L<=256
 pr:∀p∈L,p.1<η a.nodes/\(p.2=0\/p.2<a.sets.toNat)
 init:∀x,x∈b.init↔∃q∈a.init,((L.idxOf (q.toNat,0):Nat):Int)=x
 inL:∀q∈a.init,(q.toNat,0)∈L
 at_:∀i p,L[i]? =jB p->b.at i=Gg a p L/\∀q∈(a.at p.1).to,(q.toNat,rY a p)∈L
theorem UC (hA:a.Ok){b:rQ}(h:ML a=jB b):∃L,abd a b L:=by
 unfold ML at h;obtain⟨⟨L,out⟩,j,f⟩:=mH.1 h;obtain⟨hi,hl,c⟩:=SG hA 257 _ _ _ (EG.start hA) j;dsimp only at f hi hl c;subst f;obtain⟨m,hm⟩:=hi.first
 have g:∀q∈a.init,(q.toNat,0)∈xE a:=λq d=>(Iz _ _ _).2 (.inr (Iy.2 ⟨q,d,rfl⟩))
 refine⟨L,rfl,hl,hi.nodup,c,hi.pr,λx=>?_,λq d=>by rw[hm];exact jX _ (g q d),λi p hp=>?_⟩
 ·show x∈vF (xE a) a.init 0↔_;rw[<-OD (m:=m) g,<-hm];exact Kq
 ·have e:i<η out:=by rw[hl];exact(gB.1 hp).1
  obtain⟨k,l⟩:=hi.row i p e hp;refine⟨?_,l⟩;show out.getD i BM.none= _;rw[gD,k];rfl
theorem abd.good {b:rQ}(h:abd a b L):uE b:=by
 have d:∀p:Nat×Nat,p∈L->sG (η b.nodes) ((L.idxOf p:Nat):Int)=jD:=λp hp=>by
  rw[sU];have:=mO hp;have:=h.len;omega
 have g:∀x∈b.nodes,∃i p,L[i]? =jB p/\x=b.at i:=λx c=>by
  obtain⟨i,hi,rfl⟩:=lZ.1 c;have hl:i<η L:=by have:=h.len;omega
  refine⟨i,L[i],gE hl,?_⟩;unfold rQ.at;rw[gD,gE hi];rfl
 refine⟨by rw[h.len];exact h.le,by rw[h.sets];omega,⟨λx c=>?_,λx c t j=>?_⟩,λx c=>?_⟩
 ·obtain⟨q,f,rfl⟩:=(h.init x).1 c;exact d _ (h.inL q f)
 ·obtain⟨i,p,hp,rfl⟩:=g x c;obtain⟨e,k⟩:=h.at_ i p hp;rw[e]at j;obtain⟨q,f,rfl⟩:=Kq.1 j;exact d _ (k q f)
 ·obtain⟨i,p,hp,rfl⟩:=g x c;rw[(h.at_ i p hp).1,h.sets];show NZ a p<2^(1:Int).toNat;unfold NZ;split<;>simp
def Bf (a:rQ)(r:Nat->Nat):Nat->Nat
 |0=>0
 |k+1=>rY a (r k,Bf a r k)
theorem aad:(NZ a p).testBit 0=jD↔a.sets=0\/(p.2=0/\(a.at p.1).inn.testBit 0=jD):=by
 unfold NZ;split
 ·next h=>
  rw[kX,jN,jm,jN]at h;simpa using h
 ·next h=>
  rw[kX,jN,jm,jN]at h;simpa using h
end
section
variable {a b:rQ}{L:List (Nat×Nat)}{W:List Nat}{lp:Nat}
theorem Sb (h:(a.at p.1).inn.testBit p.2=jE):rY a p=p.2:=by
 unfold rY;rw[h,Bool.and_false];rfl
theorem Uo (hs:0<a.sets)(h:(a.at p.1).inn.testBit p.2=jD):rY a p=(p.2+1)%a.sets.toNat:=by
 unfold rY;rw[h,Bool.and_true,decide_eq_true hs];rfl
theorem Yi {T:Nat->Nat}(h:∀k,T (k+1)=rY a (s k,T k))(hi:i<a.sets.toNat)(c:∀m,k<=m->(a.at (s m)).inn.testBit i=jE)
  (b:∀k,∃m,k<=m/\T m=0/\(a.at (s m)).inn.testBit 0=jD):False:=by
 obtain⟨m,hm,l,f⟩:=b k;by_cases g:i=0
 ·subst g;rw[c m hm]at f;cases f
 ·have d:T (m+1)=1:=by
   rw[h m,Uo ω (by rw[l];exact f),l];exact j5 ω
  have key:∀j,1<=T (m+1+j)/\T (m+1+j)<=i:=by
   intro j;induction j with
   |zero=>rw[nG,d];omega
   |succ j n=>
    have e:m+1+(j+1)=m+1+j+1:=rfl;rw[e,h];cases hb:(a.at (s (m+1+j))).inn.testBit (T (m+1+j))with
    |false=>rw[Sb hb];exact n
    |true=>
     by_cases e2:T (m+1+j)=i
     ·rw[e2,c _ ω]at hb;cases hb
     ·rw[Uo ω hb,j5 (by dsimp only;omega)];dsimp only;omega
  obtain⟨m',o,p, -⟩:=b (m+1);obtain⟨j,rfl⟩:∃j,m'=m+1+j:=⟨m'-(m+1),ω⟩;have:=(key j).1;omega
theorem Yj {T:Nat->Nat}(r:∀k,T (k+1)=rY a (s k,T k))(hs:0<a.sets)(c:∀k,T k<a.sets.toNat)
  (g:∀i,i<a.sets.toNat->∀k,∃m,k<=m/\(a.at (s m)).inn.testBit i=jD):∀k,∃m,k<=m/\T m=0/\(a.at (s m)).inn.testBit 0=jD:=by
 have stay:∀k d,(∀j,j<d->(a.at (s (k+j))).inn.testBit (T k)=jE)->T (k+d)=T k:=by
  intro k d;induction d with
  |zero=>intro _;rfl
  |succ d l=>
   intro h;have b:=l (λj p=>h j ω);show T (k+d+1)= _;rw[r,Sb (by dsimp only;rw[b];exact h d ω)];exact b
 have reach:∀k,∃m,k<=m/\T m=T k/\(a.at (s m)).inn.testBit (T k)=jD:=by
  intro k;obtain⟨m,hm,hb⟩:=g _ (c k) k;obtain⟨d,rfl⟩:∃d,m=k+d:=⟨m-k,ω⟩
  have:∀d,(a.at (s (k+d))).inn.testBit (T k)=jD->∃d',(a.at (s (k+d'))).inn.testBit (T k)=jD/\∀j,j<d'->(a.at (s (k+j))).inn.testBit (T k)=jE:=by
   intro d;induction d using Nat.strongRecOn with
   |ind d l=>
    intro h;by_cases hex:∃j,j<d/\(a.at (s (k+j))).inn.testBit (T k)=jD
    ·obtain⟨j,p,hb⟩:=hex;exact l j p hb
    ·refine⟨d,h,λj p=>?_⟩;cases hc:(a.at (s (k+j))).inn.testBit (T k)with
     |false=>rfl
     |true=>exact absurd ⟨j,p,hc⟩ hex
  obtain⟨d',b,f⟩:=this d hb;exact⟨k+d',ω,stay k d' f,b⟩
 have go:∀n k,a.sets.toNat-T k<=n->T k≠0->∃m,k<=m/\T m=0:=by
  intro n;induction n with
  |zero=>intro k h;have:=c k;omega
  |succ n l=>
   intro k h o;obtain⟨m,hm,b,f⟩:=reach k;have t:T (m+1)=(T k+1)%a.sets.toNat:=by rw[r,Uo hs (by dsimp only;rw[b];exact f)];dsimp only;rw[b]
   by_cases e:T k+1=a.sets.toNat
   ·exact⟨m+1,ω,by rw[t,e,Nat.mod_self]⟩
   ·have w:T (m+1)=T k+1:=by rw[t,j5 (by have:=c k;omega)]
    obtain⟨m',q,u⟩:=l (m+1) ω ω;exact⟨m',ω,u⟩
 intro k
 have v:∃m,k<=m/\T m=0:=by
  by_cases o:T k=0
  ·exact⟨k,lR,o⟩
  ·exact go _ k lR o
 obtain⟨m,hm,o⟩:=v;obtain⟨m',q,b,f⟩:=reach m;rw[o]at b f;exact⟨m',ω,b,f⟩
theorem ahT (hA:a.Ok)(C:0<=a.sets)(h:abd a b L):Acc b W lp↔Acc a W lp:=by
 constructor
 ·rintro⟨r,p,t⟩
  have D:∀k,L[r k]? =jB (L.getD (r k) (0,0)):=λk=>by
   have:r k<η L:=by rw[<-h.len];exact t.lt k
   simp[θ,this]
  obtain⟨P,v⟩:∃P:Nat->Nat×Nat,∀k,P k=L.getD (r k) (0,0):=⟨λk=>L.getD (r k) (0,0),λ_=>rfl⟩;have f:∀k,L[r k]? =jB (P k):=λk=>by rw[v];exact D k
  have d:=λk=>(h.at_ _ _ (f k)).1
  have j:∀k,∃q∈(a.at (P k).1).to,P (k+1)=(q.toNat,rY a (P k)):=λk=>by
   have A:=t.to k;rw[d k]at A;obtain⟨q,l,e⟩:=Kq.1 A;have e2:=ahM ((h.at_ _ _ (f k)).2 q l);have w:L.idxOf (q.toNat,rY a (P k))=r (k+1):=ω;rw[w,f (k+1)]at e2;exact⟨q,l,jY e2⟩
  have c:=λk=>jy (f k)
  have E:∀k,(P (k+1)).2=rY a ((P k).1,(P k).2):=λk=>by
   obtain⟨q,_,e⟩:=j k;rw[e]
  obtain⟨x,g,G⟩:=(h.init _).1 p;have e1:=ahM (h.inL x g);have e2:L.idxOf (x.toNat,0)=r 0:=ω;rw[e2,f 0]at e1;have w:=jY e1;refine⟨λk=>(P k).1,?_,λk=>(h.pr _ (c k)).1,λk=>?_,λk=>?_,λi hi k=>?_⟩
  ·obtain⟨n0,rfl,_⟩:=rO (hA.1 x g);show(((P 0).1:Nat):Int)∈a.init;rw[w];simpa using g
  ·have:=t.gN k;rw[d k]at this;exact this
  ·obtain⟨q,l,e⟩:=j k;obtain⟨n0,rfl,_⟩:=rO (hA.2 _ (Ox (h.pr _ (c k)).1) q l);show(((P (k+1)).1:Nat):Int)∈(a.at (P k).1).to;rw[e];simpa using l
  ·have hb:=t.met 0 (by rw[h.sets];simp)
   have n:∀k,∃m,k<=m/\(P m).2=0/\(a.at (P m).1).inn.testBit 0=jD:=λk=>by
    obtain⟨m,hm,B⟩:=hb k;rw[d m]at B;rcases aad.1 B with u|u
    ·omega
    ·exact⟨m,hm,u⟩
   by_cases hex:∃m,k<=m/\(a.at (P m).1).inn.testBit i=jD
   ·exact hex
   ·refine(Yi (s:=λk=>(P k).1) (T:=λk=>(P k).2) E hi (k:=k) (λm hm=>?_) n).elim;cases hc:(a.at (P m).1).inn.testBit i with
    |false=>rfl
    |true=>exact absurd ⟨m,hm,hc⟩ hex
 ·rintro⟨s,p,hs⟩
  have c:∀k,(s k,Bf a s k)∈L:=by
   intro k;induction k with
   |zero=>
    have:=h.inL _ p;rw[tN]at this;exact this
   |succ k F=>
    have:=(h.at_ _ _ (ahM F)).2 _ (hs.to k);rw[tN]at this;exact this
  have d:=λk=>(h.at_ _ _ (ahM (c k))).1
  refine⟨λk=>L.idxOf (s k,Bf a s k),?_,λk=>?_,λk=>?_,λk=>?_,λi hi k=>?_⟩
  ·exact(h.init _).2 ⟨_,p,by simp[Bf]⟩
  ·show L.idxOf _<η b.nodes;rw[h.len];exact mO (c k)
  ·show zD (b.at (L.idxOf (s k,Bf a s k))) _ =jD;rw[d k];exact hs.gN k
  ·show((L.idxOf (s (k+1),Bf a s (k+1)):Nat):Int)∈(b.at (L.idxOf (s k,Bf a s k))).to;rw[d k];exact Kq.2 ⟨_,hs.to k,by simp[Bf]⟩
  ·rw[h.sets]at hi;have y:i=0:=by have:(1:Int).toNat=1:=rfl;omega
   subst y
   have o:∃m,k<=m/\(a.sets=0\/(Bf a s m=0/\(a.at (s m)).inn.testBit 0=jD)):=by
    by_cases u:a.sets=0
    ·exact⟨k,lR,.inl u⟩
    ·obtain⟨m,hm,z⟩:=Yj (a:=a) (s:=s) (T:=Bf a s) (λk=>rfl) ω (λk=>by rcases(h.pr _ (c k)).2 with e|e<;>(dsimp only at e;omega)) hs.met k;exact⟨m,hm,.inr z⟩
   obtain⟨m,hm,z⟩:=o;refine⟨m,hm,?_⟩;show(b.at (L.idxOf (s m,Bf a s m))).inn.testBit 0=jD;rw[d m];exact aad.2 z
end
open Go.Maps
def prN (p:Nat×Nat):Nd:=⟨(p.1:Int),(p.2:Int)⟩
def gV (p:Nat×Nat):Value:=.agg #[.int .i64 (p.1:Int),.int .i64 (p.2:Int)]
def Rh (p:Nat×Nat):Prop:=p.1<=1000000/\p.2<=1000000
theorem Ml:Keyed jJ 99:=
 Keyed.of_law (deep_law_gate WG (kD κ) (kD κ) κ κ)
theorem pair_cells:Tryz.prog.cellsOf 99=2:=κ
theorem WL:Tryz.prog.cellsOf 3=1:=κ
theorem Uf:Tryz.prog.keyType 99=jD:=κ
theorem keyOf_pair (h:Rh p):∃kl,keyOf jJ 99 (gV p)=jB kl:=by
 obtain⟨a,b⟩:=h;have w1:(Lit.int .i64 (p.1:Int)).wf=jD:=by rw[Lit.wf,show IntKind.i64.min= -9223372036854775808 from rfl,show IntKind.i64.max=9223372036854775807 from rfl];simp;omega
 have w2:(Lit.int .i64 (p.2:Int)).wf=jD:=by rw[Lit.wf,show IntKind.i64.min= -9223372036854775808 from rfl,show IntKind.i64.max=9223372036854775807 from rfl];simp;omega
 unfold keyOf gV;rw[Tryz.underlying99];simp only[Uf,Value.formed,Tryz.underlying99,pair_cells];rw[Pq];simp only[Program.keyLits,Tryz.underlying99,pair_cells];simp[w1,w2,Value.cells,WL]
noncomputable def kP (p:Nat×Nat):Lit:=(keyOf jJ 99 (gV p)).getD (.bool jE)
theorem aaJ (h:Rh p):keyOf jJ 99 (gV p)=jB (kP p):=by
 obtain⟨kl,a⟩:=keyOf_pair h;unfold kP;rw[a];rfl
theorem ahd {q:Nat×Nat}(h:gV p=gV q):p=q:=by
 simp only[gV,Value.agg.injEq,Array.mk.injEq,oU,Value.int.injEq,true_and,and_true]at h;exact Prod.ext ω ω
theorem ai5 {q:Nat×Nat}(hp:Rh p)(b:Rh q)(h:kP p=kP q):p=q:=by
 have a:=aaJ hp;rw[h]at a;exact ahd (Ml.inj a (aaJ b))
def Ri (w:jF)(nb:Nat)(L:List (Nat×Nat)):Prop:=
 ∃g,vI w 99 nb (η L) g/\∀p,Rh p->g (kP p)=if p∈L then jB (.int .i64 (L.idxOf p:Nat))else jC
theorem Ri.keep (h:Ri w nb L)(a:qW S w w')(hS:¬S nb):Ri w' nb L:=by
 obtain⟨g,b,c⟩:=h;exact⟨g,b.keep a hS,c⟩
theorem Ri.nil (h:w.1[nb]? =jB (.map #[] 0)):Ri w nb []:=⟨_,vI.Ho h,λp _=>ς⟩
theorem afm (b:∀p,Rh p->g (kP p)=if p∈L then jB (.int .i64 (L.idxOf p:Nat))else jC)(hp:Rh p)(c:p∉L)
  (h:∀g',NT g g' (kP p) (.int .i64 (η L:Nat))->vI w 99 nb (η L+1) g'):Ri w nb (L++[p]):=by
 obtain⟨g',a⟩:=D9 g (kP p) (.int .i64 (η L:Nat));refine⟨g',by rw[lA];exact h g' a,λd hd=>?_⟩;by_cases e:d=p
 ·subst e;rw[a.1,jd ς,mK,d9 c];simp
 ·rw[a.2 _ (λh=>e (ai5 hd hp h)),b d hd];by_cases hm:d∈L
  ·rw[jd hm,jd (by simp[hm]),mK,jd hm]
  ·rw[d9 hm,d9 (by simp[hm,e])]
def Tz (kb nb:Nat)(vp:Value)(k:Nat):Prop:=k=kb\/k=nb\/vp.ownBlock=jB k
structure NK (n0 B kb nb:Nat)(a:rQ)(Ai:Option Addr)(ni ci:Nat)(An:Option Addr)(nn cn:Nat)(w:jF)(L:List (Nat×Nat))(vp:Value):Prop where
 bk:w.1[kb]? =jB (.cells #[.int .i64 a.sets,.slice Ai ni ci,.slice An nn cn,.map (jB nb),vp] 95 (0,0))
 num:Ri w nb L
 own:w.ownsRow n0 99 2 vp (η L) (qP (L.map prN))
 oks:∀p∈L,Rh p
 lt:B<=n0/\n0<=w.1.size/\n0<=kb/\n0<=nb
 rd:sW w B a Ai ni ci An nn cn
section
variable {n0 B kb nb:Nat}{a:rQ}{Ai:Option Addr}{ni ci:Nat}{An:Option Addr}{nn cn:Nat}{w w':jF}{L:List (Nat×Nat)}{vp:Value}
theorem NK.Qd (h:NK n0 B kb nb a Ai ni ci An nn cn w L vp):nb<w.1.size:=by obtain⟨g,b,_⟩:=h.num;exact b.lt
theorem NK.aip (h:NK n0 B kb nb a Ai ni ci An nn cn w L vp):kb<w.1.size:=(aI.1 h.bk).1
theorem NK.tQ (h:NK n0 B kb nb a Ai ni ci An nn cn w L vp)(b:w.1[k]? =jB (.cells cs t (0,0))):k≠nb:=by obtain⟨g,c,_⟩:=h.num;exact c.wM b
theorem NK.keep (h:NK n0 B kb nb a Ai ni ci An nn cn w L vp)(c:qW S w w')(hS:∀k,S k->B<=k/\¬Tz kb nb vp k):NK n0 B kb nb a Ai ni ci An nn cn w' L vp:=by
 have f:=c.size;refine⟨c.blk h.bk (λe=>(hS _ e).2 (.inl rfl)),h.num.keep c (λe=>(hS _ e).2 (.inr (.inl rfl))),qR h.own c (λg d e=>(hS _ e).2 (.inr (.inr d))),h.oks,⟨h.lt.1,by have:=h.lt.2.1;omega,h.lt.2.2⟩,?_⟩;exact h.rd.aiJ c (by have:=h.lt;omega) (λb hb e=>by have:=(hS _ e).1;omega)
theorem NK.below (h:NK n0 B kb nb a Ai ni ci An nn cn w L vp)(hb:Below w.1.size w w'):NK n0 B kb nb a Ai ni ci An nn cn w' L vp:=
 h.keep (S:=λk=>w.1.size<=k) ((qW.of_below hb).mono (λi hi e=>ω)) (λk b=>⟨by have:=h.lt;omega,λe=>by
  rcases e with e|e|e
  ·have:=h.aip;omega
  ·have:=h.Qd;omega
  ·have:=(h.own.lt k e).2;omega⟩)
theorem NK.Ve (h:NK n0 B kb nb a Ai ni ci An nn cn w L vp)(b:Tz kb nb vp k):n0<=k:=by
 rcases b with e|e|e
 ·have:=h.lt;omega
 ·have:=h.lt;omega
 ·exact(h.own.lt k e).1
theorem NK.tell {d G w7:jF}{c:Value}(h:NK n0 B kb nb a Ai ni ci An nn cn w L vp)(hp:Rh p)(z:qW (λk=>k=nb) w d)(j:Ri d nb (L++[p]))(l:Below d.1.size d G)
  (H:w7.ownsRow n0 99 2 c (η L+1) (qP (L.map prN)++[.int .i64 (p.1:Int),.int .i64 (p.2:Int)]))(A:qW (λk=>vp.ownBlock=jB k) G w7)(D:c.ownBlock=vp.ownBlock\/∃g,c.ownBlock=jB g/\d.1.size<=g):
  NK n0 B kb nb a Ai ni ci An nn cn (w7.setCell ⟨kb,4,jC⟩ c) (L++[p]) c/\qW (Tz kb nb vp) w (w7.setCell ⟨kb,4,jC⟩ c)/\∀i,c.ownBlock=jB i->i<w.1.size->vp.ownBlock=jB i:=by
 have m:=h.tQ h.bk;have n:=h.lt;have z5:=z.size;have I:=l.size;have J:=A.size;have o:=qR h.own z (λg f e=>by obtain⟨cs,hc⟩:=sK h.own f;exact h.tQ hc e);have r:=qR o (qW.of_below l) (λg f=>by have:=(o.lt g f).2;omega);have s:=z.blk h.bk m;have u:=(l.block kb (rX s)).trans s;have v:=A.blk u (qQ r u δ);have C:qW (λk=>k=kb) w7 (w7.setCell ⟨kb,4,jC⟩ c):=(qW.refl (λk=>k=kb) w7).setCell (p:=⟨kb,4,jC⟩) (λ_=>rfl) _;have x:=j.keep (qW.of_below l) (by obtain⟨g,E,_⟩:=j;have:=E.lt;omega);have F:=x.keep A (λe=>by obtain⟨cs,hc⟩:=sK r e;obtain⟨g,E,_⟩:=x;exact E.wM hc rfl)
 have t8:qW (Tz kb nb vp) w (w7.setCell ⟨kb,4,jC⟩ c):=by
  have t5:qW (Tz kb nb vp) w d:=z.mono (λi _ e=>.inr (.inl e));have t6:=t5.trans (qW.of_below l) (λi hi e=>ω);have t7:=t6.trans A (λi _ e=>.inr (.inr e));exact t7.trans C (λi _ e=>.inl e)
 refine⟨⟨?_,F.keep C (λe=>m e.symm),?_,?_,?_,?_⟩,t8,λi hi hl=>?_⟩
 ·have:=heap_setCell_same w7 kb 4 _ _ c v;simpa using this
 ·rw[jT,uY,lA,jU];exact qR H C (λg f e=>qQ H v δ (by rw[f,e]))
 ·intro q y;rcases jo.1 y with y|y
  ·exact h.oks q y
  ·rw[mS.1 y];exact hp
 ·have:=C.size;exact⟨n.1,ω,n.2.2⟩
 ·exact h.rd.aiJ t8 ω (λb hb e=>by have:=h.Ve e;omega)
 ·rcases D with e|⟨g,e,f⟩
  ·rw[<-e];exact hi
  ·rw[e]at hi;cases hi;omega
theorem agW:uq jJ 93 99 2 16:=
 uq.mk (z:=.agg #[.int .i64 0,.int .i64 0]) Tryz.underlying93 κ δ δ
theorem Lv {w:jF}{p s u:Value}(h:w.1[b]? =jB (.cells #[p,q,r,s,u] t (0,0))):w.cell? ⟨b,0,jC⟩=jB p/\w.cell? ⟨b,1,jC⟩=jB q/\w.cell? ⟨b,2,jC⟩=jB r/\w.cell? ⟨b,3,jC⟩=jB s/\w.cell? ⟨b,4,jC⟩=jB u:=by
 refine⟨?_,?_,?_,?_,?_⟩<;>(rw[cell_of_row _ _ _ _ _ (0,0) h];rfl)
theorem QA {w:jF}{p:Value}(h:w.1[b]? =jB (.cells #[p,q] t (0,0))):w.cell? ⟨b,0,jC⟩=jB p/\w.cell? ⟨b,1,jC⟩=jB q:=by
 refine⟨?_,?_⟩<;>(rw[cell_of_row _ _ _ _ _ (0,0) h];rfl)
end
set_option maxHeartbeats 4000000
set_option maxRecDepth 100000
def ajx (n0 B kb nb:Nat)(a:rQ)(Ai:Option Addr)(ni ci:Nat)(An:Option Addr)(nn cn:Nat)(w:jF)(L:List (Nat×Nat))(vp:Value)(p:Nat×Nat)(en:Ending)(w':jF):Prop:=
 ∃vp',en=.returned (.int .i64 ((Ce L p).idxOf p:Nat))/\NK n0 B kb nb a Ai ni ci An nn cn w' (Ce L p) vp'/\qW (Tz kb nb vp) w w'/\∀i,vp'.ownBlock=jB i->i<w.1.size->vp.ownBlock=jB i
theorem afn (n0 B kb nb a Ai ni ci An nn cn w L vp)(p:Nat×Nat)(h:NK n0 B kb nb a Ai ni ci An nn cn w L vp)(hp:Rh p)(hL:η L<=1000000):
  Calls jJ 76 #[.pointer (jB ⟨kb,0,jC⟩),.agg #[.int .i64 (p.1:Int),.int .i64 (p.2:Int)]] w (ajx n0 B kb nb a Ai ni ci An nn cn w L vp p):=by
 have s:Below w.1.size w (w.alloc (.cells #[.int .i64 (p.1:Int),.int .i64 (p.2:Int)] 99)):=bR.alloc lR _;have H:=heap_alloc_new w (.cells #[.int .i64 (p.1:Int),.int .i64 (p.2:Int)] 99);have a7:(w.alloc (.cells #[.int .i64 (p.1:Int),.int .i64 (p.2:Int)] 99)).1.size=w.1.size+1:=ς;obtain⟨x,I⟩:=xQ (w.alloc (.cells #[.int .i64 (p.1:Int),.int .i64 (p.2:Int)] 99));rw[I]at s H a7;obtain⟨a8,ad,HT,HP⟩:=iB I (h.below s) h hp;have J:Below x.1.size x x.drew:=Below.drew bR;have u:=dh (ad.below J);obtain⟨gn,M,l⟩:=u.num;have c:=M.look jD Ml Tryz.underlying92 κ (aaJ hp) (z:=.int .i64 0);rw[l p hp]at c;unfold gV at c;obtain⟨-, -, -,b3,b4⟩:=Lv u.bk;have af:x.drew.1[w.1.size]? = _:=H;obtain⟨x0,R⟩:=QA af;clear I h hp;go_enter Tryz.func76,Tryz.ntmps76;go_upto_region 1 with fail
 rw[a8.o];by_cases hm:p∈L
 ·rw[jd hm]at c;simp only[jS,Option.isSome_some,pz]at c;obtain⟨N,T⟩:=iw c hm;clear c M l hm b4;refine wp_region_held_drew (S:=λw'=>q9 w' kb 3 (.map (jB nb))/\q9 w' w.1.size 0 (.int .i64 (p.1:Int))/\q9 w' w.1.size 1 (.int .i64 (p.2:Int))) κ ⟨b3,x0,R⟩ (λhS=>?_);refine qU 0 ?_;refine qU 1 ?_;refine qU 2 ?_;refine qU 3 ?_;refine qU 4 ?_;refine rR 5 (λK b=>?_);go_simp;rw[N.o];try dsimp only[Oper.upon,Result.andThen]
  refine b _ _ ⟨b3,x0,R⟩ (λhS=>?_);clear b;refine qU 6 ?_;refine qU 7 ?_;refine qU 8 ?_;refine qU 9 ?_;refine qU 10 ?_;refine wpAnyH_done κ ?_ _;go_wp2_with fail
  go_ret
  have U:Ce L p=L:=by unfold Ce;rw[jd T.o]
  exact⟨vp,by rw[U];rfl,by rw[U];exact u.o,(qW.of_below (s.trans (J.mono ω))).mono (λi hi e=>ω),λi hi _=>hi⟩
 ·rw[d9 hm]at c;simp only[Option.getD_none,Option.isSome_none,pz]at c;obtain⟨N,T⟩:=iw c hm;clear c M l hm;have d:=dh (u.below (Below.drew (Below.refl _ x.drew)));obtain⟨g2,V,y⟩:=d.num;obtain⟨O,P,C,D⟩:=V.update Ml Tryz.underlying92 (by unfold maxLen;omega) (aaJ HP.o) (.int .i64 (η L:Nat));unfold gV at P;have t5:qW (λk=>k=nb) x.drew.drew O:=(qW.uy D).mono (λi _ e=>by injection e with e;exact e.symm);have W:=afm y HP T C;have m:=t5.blk d.bk (d.tQ d.bk);have X:x.drew.drew.1[w.1.size]? = _:=H;have n:=t5.blk X (d.tQ X);have q:=qR d.own t5 (λg hg e=>by obtain⟨cs,hc⟩:=sK d.own hg;exact d.tQ hc e);obtain⟨Ap,cp,rfl, -⟩:=qX q;obtain⟨-, -, -,m3,m4⟩:=Lv m;obtain⟨y0,y1⟩:=QA n;obtain⟨ag,ah,aj⟩:=iA P W t5;have aq:x.1.size<=O.1.size:=t5.size;have ar:=HT.lt.2.1;clear P W V y C D t5;refine wp_region_held_drew (S:=λw'=>q9 w' kb 3 (.map (jB nb))/\q9 w' w.1.size 0 (.int .i64 (p.1:Int))/\q9 w' w.1.size 1 (.int .i64 (p.2:Int))) κ ⟨b3,x0,R⟩ (λhS=>?_);refine qU 0 ?_;refine qU 1 ?_;refine qU 2 ?_;refine qU 3 ?_;refine qU 4 ?_;refine rR 5 (λK b=>?_);go_simp;rw[N.o];try dsimp only[Oper.upon,Result.andThen]
  refine b _ _ ⟨b3,x0,R⟩ (λhS=>?_);clear b;refine qU 6 ?_;refine qU 7 ?_;refine qU 8 ?_;refine qU 9 ?_;refine qU 10 ?_;refine wpAnyH_done κ ?_ _;go_upto_region 4 with fail
  refine wp_region_held_drew (S:=λw'=>q9 w' kb 3 (.map (jB nb))/\q9 w' w.1.size 0 (.int .i64 (p.1:Int))/\q9 w' w.1.size 1 (.int .i64 (p.2:Int))) κ ⟨b3,x0,R⟩ (λhS=>?_);refine qU 0 ?_;refine qU 1 ?_;refine qU 2 ?_;refine qU 3 ?_;refine qU 4 ?_;refine qU 5 ?_;refine rR 6 (λK b=>?_);go_simp;rw[ag.o];try dsimp only[Oper.upon,Result.andThen]
  refine b _ _ ⟨m3,y0,y1⟩ (λhS=>?_);clear b;refine wpAnyH_done κ ?_ _;go_upto_region 5 with fail
  refine sM (S:=λw'=>q9 w' kb 4 (.slice Ap (η L) cp)/\q9 w' w.1.size 0 (.int .i64 (p.1:Int))/\q9 w' w.1.size 1 (.int .i64 (p.2:Int))) 10 κ (⟨m4,y0,y1⟩) (λhS=>?_);refine rT 0 ?_;refine rT 1 ?_;refine rT 2 ?_;refine rT 3 ?_;refine rT 4 ?_;refine rT 5 ?_;refine qZ (i:=6) rfl κ δ (λK b=>?_);go_simp;obtain⟨W6,v⟩:=xR (O.alloc (.cells #[.int .i64 (p.1:Int),.int .i64 (p.2:Int)] 99)).drew;have j:Below O.1.size O W6:=by rw[v];exact Below.drew (bR.alloc lR _)
  have ak:W6.1[O.1.size]? =jB (.cells #[.int .i64 (p.1:Int),.int .i64 (p.2:Int)] 99 (0,0)):=by rw[v];exact heap_alloc_new _ _
  rw[<-v];clear v;have r:=(j.block kb (rX m)).trans m;have E:=(j.block _ (rX n)).trans n;have F:=qR q (qW.of_below j) (λg hg=>by have:=(q.lt g hg).2;omega);obtain⟨-, -, -, -,u4⟩:=Lv r;obtain⟨v0,v1⟩:=QA E;refine b _ _ ⟨u4,v0,v1⟩ (λhS=>?_);clear b;refine qZ (i:=7) rfl κ δ (λK b=>?_);refine su rfl (.tmp 33) (.tmp 35) 93 rfl n0 99 2 16 agW _ _ _ F rfl O.1.size #[.int .i64 (p.1:Int),.int .i64 (p.2:Int)] rfl ak rfl (by simp[Value.oneCell']) ω ω (by have:=j.size;omega) ?_;intro v8 W8 Y Q Z ao;obtain⟨A8,c8,rfl, -⟩:=qX Y;have G:=Q.blk r (qQ F r δ);have a1:=Q.blk E (λe=>by have:=(HT.own.lt _ e).2;omega);have au:=frozen_of_row _ _ 4 _ _ G;obtain⟨-, -, -, -,u4⟩:=Lv G;obtain⟨v0,v1⟩:=QA a1;refine b _ _ ⟨u4,v0,v1⟩ (λhS=>?_);clear b;refine qZ (i:=8) rfl κ δ (λK b=>?_);go_simp;refine b _ _ ⟨u4,v0,v1⟩ (λhS=>?_);clear b;refine qZ (i:=9) rfl κ δ (λK b=>?_);go_simp;refine b _ _ ⟨u4,v0,v1⟩ (λhS=>?_);clear b;refine sN rfl κ κ (λK b=>?_);go_simp;refine b _ _ ?_;clear b;go_wp2_with fail
  go_ret
  obtain⟨hA,hB,hC⟩:=d.tell HP aj ah j Y Q (Z.imp id (λe=>⟨_,e,j.size⟩));have U:Ce L p=L++[p]:=by unfold Ce;rw[d9 T.o]
  have a6:=s.trans ((Below.drew J).mono ω);refine⟨.slice A8 (η L+1) c8,?_,by rw[U];exact hA,((qW.of_below a6).mono (λi hi e=>ω)).trans hB (λ_ _ h=>h),λi hi av=>hC i hi (by have:=a6.size;omega)⟩;rw[U,mK,d9 T.o];simp
set_option maxHeartbeats 4000000
set_option maxRecDepth 100000
theorem abg (ps):∀L:List (Nat×Nat),η (uF ps L)<=η L+η ps:=by
 induction ps with
 |nil=>intro L;simp[uF]
 |cons p ps a=>
  intro L;have b:=a (Ce L p);have c:η (Ce L p)<=η L+1:=by unfold Ce;split<;>simp
  show η (uF ps (Ce L p))<=_;rw[jP];omega
theorem X5 (a:k<η l):uP (l.take (k+1)) t=uP (l.take k) t++[(l[k].toNat,t)]:=by
 unfold uP;rw[rE l k a,jT];rfl
def zJ (n0 B kb nb:Nat)(a:rQ)(Ai:Option Addr)(ni ci:Nat)(An:Option Addr)(nn cn:Nat)(w:jF)(L:List (Nat×Nat))(vp:Value)(l:List Int)(t:Nat)(v:Value)(w':jF):Prop:=
 ∃vp',NK n0 B kb nb a Ai ni ci An nn cn w' (uF (uP l t) L) vp'/\w'.ownsRow w.1.size 3 1 v (η (vF (uF (uP l t) L) l t)) (qO (vF (uF (uP l t) L) l t))/\qW (Tz kb nb vp) w w'/\∀i,vp'.ownBlock=jB i->i<w.1.size->vp.ownBlock=jB i
theorem VN (n0 B kb nb:Nat)(a Ai)(ni ci:Nat)(An)(nn cn:Nat)(w L vp l)(t:Nat)(A)(n c:Nat)(hn:n=η l)(h:NK n0 B kb nb a Ai ni ci An nn cn w L vp)(hl:Sl w B 1 A n c (qO l))(Q:∀q∈l,∃k:Nat,q=k/\k<=1000000)(ht:t<=1000000)(hL:η L+n<=1000000):
  Calls jJ 52 #[.pointer (jB ⟨kb,0,jC⟩),.slice A n c,.int .i64 (t:Int)] w (λen w'=>∃v,en=.returned v/\zJ n0 B kb nb a Ai ni ci An nn cn w L vp l t v w'):=by
 subst hn;obtain⟨HT,HL,ao⟩:=iA h hl Q;have h0:zJ n0 B kb nb a Ai ni ci An nn cn w L vp (l.take 0) t (.slice jC 0 0) w:=⟨vp,by simpa[uF,uP]using h,by simpa[vF,iy,qO]using jF.ownsRow_nil w w.1.size 3 1,qW.refl _ _,λi hi _=>hi⟩;have H0:=dh h0;clear h hl Q h0;go_enter Tryz.func52,Tryz.ntmps52;go_wp2_with fail
 go_loopw [7,13] (λv i wr=>∃k:Nat,k<=η l/\i=.int .i64 (k:Int)/\Hd (zJ n0 B kb nb a Ai ni ci An nn cn w L vp (l.take k) t v wr)) (λ_ i _=>η l-(intOf i).toNat)
 case atStart=>exact⟨0,ω,rfl,H0⟩
 case round=>
  obtain⟨k,hk,rfl,HR⟩:=hrel;by_cases F:k<η l
  ·obtain⟨S,G,H,I,T⟩:=HR.o;have aN:=I.size;have aK:=HT.lt;obtain⟨bb,o,rfl,aO,U⟩:=(HL.uQ I ω (λb hb e=>by have:=HT.Ve e;omega)).rd.at_ (j:=k) (yD F);obtain⟨q,hq,aq⟩:=ao _ (mM F);have O:=X5 (t:=t) F;rw[hq,tN]at O;obtain⟨L1,r⟩:=xQ (uF (uP (l.take k) t) L);have V:uF (uP (l.take (k+1)) t) L=Ce L1 (q,t):=by rw[O,X6,r]
   obtain⟨m,hm⟩:=U2 L1 (q,t);have W:∀x∈l.take k,(x.toNat,t)∈L1:=λx X=>by rw[<-r];exact(Iz _ _ _).2 (.inr (Iy.2 ⟨x,X,rfl⟩))
   have N:vF (Ce L1 (q,t)) (l.take k) t=vF L1 (l.take k) t:=by rw[hm];exact OD W
   have s:=abe (Ce L1 (q,t)) (l.take k) t (l[k]);rw[<-rE l k F,N,hq,tN]at s;rw[r]at G H
   have hlen:η L1<=1000000:=by
    rw[<-r];have h1:=abg (uP (l.take k) t) L;have h2:η (uP (l.take k) t)<=k:=by simp[uP];omega
    omega
   have ar:=dh (afn n0 B kb nb a Ai ni ci An nn cn wr L1 S (q,t) G ⟨aq,ht⟩ hlen);have au:η (vF L1 (l.take k) t)<=k:=Nat.le_trans (Kr _ _ _) (by rw[jq];omega);obtain⟨x,X⟩:=xQ ((Ce L1 (q,t)).idxOf (q,t));obtain⟨R,hR⟩:=xQ (vF L1 (l.take k) t);rw[hR]at H s au;rw[X]at s;have av:wr.cell? ⟨bb,o+k,jC⟩=jB (.int .i64 (q:Int)):=by rw[<-hq];exact U
   have wk:IntKind.i64.wrap ((k:Int)+1)=(k:Int)+1:=by rw[wI];omega
   have aP:(0:Int)<=(k:Int):=ω;have aQ:(k:Int)<(η l:Int):=ω;obtain⟨P,Y,aw,Z,J,K,HX⟩:=iD G H I T s V X;clear G H I T s V U O r hm W N hR hq X HR;go_wp2_with fail
   refine ar.mono ?_;rintro e w2 ⟨a1,rfl,a6,M,a7⟩;rw[HX.o]
   have a8:∀g,∀{v:Value} {ad:Nat} {ys:List Value},wr.ownsRow w.1.size 3 1 v ad ys->v.ownBlock=jB g->¬Tz kb nb S g:=λg {v ad ys} ho E e=>by
    rcases e with e|e|e
    ·exact qQ ho P.bk δ (by rw[E,e])
    ·obtain⟨cs,hc⟩:=sK ho E;exact P.tQ hc e
    ·exact own_ne ho P.own δ g E e
   have u:=qR Y M (λg E e=>a8 g Y E e);obtain⟨Av,cv,rfl,af⟩:=qX u;obtain⟨ax,ay⟩:=iw (Lr Av (η R) cv R (x:Int) w2 w2.1.size rfl af lR ω) a6
   have az:=dh (aw.trans M (λi hi e=>by
    rcases e with e|e|e
    ·exact .inl e
    ·exact .inr (.inl e)
    ·exact .inr (.inr (Z i e hi))))
   obtain⟨ag,aA⟩:=iw (λi hi hl=>Z i (a7 i hi ω) hl) u;have aR:=M.size;clear a6 M a7 u af a8 av;go_wp2_with fail
   refine ax.mono ?_;rintro e w3 ⟨rfl,z⟩;obtain⟨C,ah,d⟩:=iA (ay.below z) (az.trans (qW.of_below z) (λi hi e=>ω)) (own_below aA z);have aS:=z.size;clear z;by_cases p:(x:Int)∈R
   ·have D:R.any (((x:Nat):Int)== ·)=jD:=by rw[kT];exact⟨_,p,ς⟩
    rw[D];rw[jd p]at J;clear p D;go_wp2_with fail
    go_roundw
    case rel=>exact⟨k+1,ω,jM (Value.int .i64) ω,dh ⟨a1,by rw[K.o];exact C.o,by rw[K.o,J.o];exact d.o,ah.o,ag.o⟩⟩
    case measure=>simp[intOf];omega
   ·have D:R.any (((x:Nat):Int)== ·)=jE:=by
     rw[pR];intro hh;obtain⟨y,hy,aB⟩:=kT.1 hh;have:(x:Int)=y:=by simpa using aB
     exact p (this▸hy)
    rw[D];rw[d9 p]at J;clear p D
    go_wp2_with (at_builtin
                 refine rD rfl (.tmp 26) (.tmp 28) 29 rfl w.1.size 3 1 8 rW _ _ _ (d.alloc _) rfl w3.1.size #[.int .i64 (x:Int)] rfl (heap_alloc_new w3 _) rfl (by simp[Value.oneCell']) ω ω (by simp;omega) ?_;intro v9 W9 aC aj aL aM)
    have ak:Below w3.1.size w3 (w3.alloc (.cells #[.int .i64 (x:Int)] 3)):=bR.alloc lR _;have aD:=C.below ak
    have aE:=aD.keep aj (λg E=>⟨by have:=(d.lt g E).1;have:=HT.lt;omega,λe=>by
     rcases e with e|e|e
     ·exact qQ d C.bk δ (by rw[E,e])
     ·obtain⟨cs,hc⟩:=sK d E;exact C.tQ hc e
     ·exact own_ne d C.own δ g E e⟩)
    have aF:=(ah.trans (qW.of_below ak) (λi hi e=>ω)).trans aj (λi hi e=>by have:=(d.lt i e).1;omega)
    have aG:W9.ownsRow w.1.size 3 1 v9 (η (R++[(x:Int)])) (qO (R++[(x:Int)])):=by
     rw[sJ,lA];exact aC
    go_roundw
    case rel=>exact⟨k+1,ω,jM (Value.int .i64) ω,dh ⟨a1,by rw[K.o];exact aE,by rw[K.o,J.o];exact aG,aF,ag.o⟩⟩
    case measure=>simp[intOf];omega
  ·have aH:k=η l:=ω;subst aH;have aJ:l.take (η l)=l:=kH;rw[aJ]at HR;have hle:¬((η l:Nat):Int)<((η l:Nat):Int):=ω;go_wp2_with fail
   go_ret
   exact⟨_,rfl,HR.o⟩
set_option maxHeartbeats 8000000
set_option maxRecDepth 100000
attribute [local go_sem] Oper.semAt_some
theorem agh (x t:Nat):(bits .and .u64 ((x:Int)/2^t) 1==1)=x.testBit t:=by
 rw[<-TN];obtain⟨n,a⟩:=nY (show 0<=(x:Int)/2^t from qy ω γ);rw[a];show(IntKind.u64.wrap (BitVec.ofInt _ _&&&BitVec.ofInt 64 1).toNat==1)= _;rw[mY,jW,ko,show(BitVec.ofInt _ 1).toNat=1 by decide,qG,IntKind.wrap_u64]
 grind
theorem aaK (n0 B kb nb:Nat)(a Ai)(ni ci:Nat)(An)(nn cn:Nat)(w L vp)(p:Nat×Nat)(t:Nat)(h:NK n0 B kb nb a Ai ni ci An nn cn w L vp)(r:p.1<nn)(C:t<=64)(_:nn<=1000000):
  Calls jJ 78 #[.pointer (jB ⟨kb,0,jC⟩),.agg #[.int .i64 (p.1:Int),.int .i64 (p.2:Int)],.int .i64 (t:Int)] w (AX w ((a.at p.1).inn.testBit t)):=by
 have d:Below _ w (w.alloc (.cells #[.int .i64 p.1,.int .i64 p.2] 99)):=bR.alloc lR _;have e:=heap_alloc_new w (.cells #[.int .i64 p.1,.int .i64 p.2] 99);have k:(w.alloc (.cells #[.int .i64 p.1,.int .i64 p.2] 99)).1.size=w.1.size+1:=ς;let⟨D,g⟩:=xQ (w.alloc (.cells #[.int .i64 p.1,.int .i64 p.2] 99))
 rw[g]at d e k;obtain⟨l,m⟩:=iw g d;have i:=h.below d;obtain⟨b,o,x,A,c,rfl,s,u,v,c1,c2,c3, -⟩:=wh i.rd r;have j:a.at p.1=x:=by unfold rQ.at;grind
 rw[j];obtain⟨-, -,b2, -, -⟩:=Lv i.bk;let⟨x0,E⟩:=QA e
 have y:p.1<(nn:Int):=ω;have z:0<=(p.1:Int):=ω;have q:IntKind.u64.wrap t=t:=by rw[IntKind.wrap_u64];omega
 have n:=dh (agh x.inn t);clear u j h v c1 c3 i g d e;go_enter Tryz.func78,Tryz.ntmps78;go_upto_region 1 with fail
 rw[l.o];refine wp_region_held_drew (S:=λw'=>q9 w' _ 2 _/\q9 w' _ 0 _/\q9 w' b _ _) rfl ⟨b2,x0,c2⟩ (λhS=>?_);apply qU 0;apply qU 1;apply qU 2;apply qU 3;apply qU 4;apply qU 5;apply qU 6;apply qU 7;apply qU 8;apply qU 9;apply qU 10;apply qU 11;apply qU 12;apply qU 13;apply qU 14;refine wpAnyH_done rfl ?_ _;clear hS;go_wp2
 go_ret
 exact⟨by rw[<-n.o];rfl,Below.drew m.o⟩
def aa9 (n0 B kb nb:Nat)(a:rQ)(Ai:Option Addr)(ni ci:Nat)(An:Option Addr)(nn cn:Nat)(w:jF)(L:List (Nat×Nat))(vp:Value)(p:Nat×Nat)(en:Ending)(w':jF):Prop:=
 ∃v,en=.returned (.agg #[.int .u64 ((a.at p.1).need:Int),.int .u64 ((a.at p.1).ban:Int),.int .u64 (NZ a p:Int),v])/\zJ n0 B kb nb a Ai ni ci An nn cn w L vp (a.at p.1).to (rY a p) v w'
section
variable {n0 B kb nb:Nat}{a:rQ}{Ai:Option Addr}{ni ci:Nat}{An:Option Addr}{nn cn:Nat}{w W w' w2:jF}{L:List (Nat×Nat)}{vp:Value}{l:List Int}{t:Nat}{v:Value}
theorem zJ.lift (h:zJ n0 B kb nb a Ai ni ci An nn cn W L vp l t v w')(hb:Below w.1.size w W):zJ n0 B kb nb a Ai ni ci An nn cn w L vp l t v w':=by
 obtain⟨b,hd,c,d,e⟩:=h;have f:=hb.size;exact⟨_,hd,rC c f,((qW.of_below hb).mono ω).trans d ς,λi hi hl=>e i hi ω⟩
theorem zJ.below (h:zJ n0 B kb nb a Ai ni ci An nn cn w L vp l t v w')(hb:Below w'.1.size w' w2):zJ n0 B kb nb a Ai ni ci An nn cn w L vp l t v w2:=by
 obtain⟨c,hd,d,b,e⟩:=h;have f:=b.size;exact⟨_,hd.below hb,own_below d hb,b.trans (qW.of_below hb) ω,e⟩
theorem zJ.keep {ob:Nat}(h:zJ n0 B kb nb a Ai ni ci An nn cn w L vp l t v w')(c:qW (λk=>k=ob) w' w2)(f:w.1.size<=ob)(i:n0<=w.1.size)(b:w'.1[ob]? =jB (.cells cs 53 (0,0))):zJ n0 B kb nb a Ai ni ci An nn cn w L vp l t v w2:=by
 obtain⟨j,hd,d,m,n⟩:=h;refine⟨_,hd.keep c (λk o=>⟨by have:=hd.lt;omega,λe=>?_⟩),qR d c (λg p e=>qQ d b δ γ),m.trans c ω,n⟩;subst o;rcases e with e|e|e
 ·subst e;rw[hd.bk]at b;grind
 ·exact hd.tQ b e
 ·exact qQ hd.own b δ e
end
theorem VE {g:Nat}{b d:Value}(h:w.1[g]? =jB (.cells cs T (0,0)))(hc:cs.size=4):
  ∃V,(((w.setCell ⟨g,0,jC⟩ a).setCell ⟨g,1,jC⟩ b).setCell ⟨g,2,jC⟩ c).setCell ⟨g,3,jC⟩ d=V/\V.1[g]? =jB (.cells #[a,b,c,d] T (0,0))/\qW (λk=>k=g) w V:=by
 refine⟨_,rfl,?_,?_⟩
 ·have e:=heap_setCell_same w g 0 _ _ a h;have f:=heap_setCell_same _ g 1 _ _ b e;have i:=heap_setCell_same _ g 2 _ _ c f;have j:=heap_setCell_same _ g 3 _ _ d i;rw[j];obtain⟨l⟩:=cs
  match l,hc with
  |[x,y,z,u],_=>rfl
 ·exact((((qW.refl _ w).setCell ς _).setCell ς _).setCell ς _).setCell ς _
theorem acO (n0 B kb nb a Ai ni ci An nn cn w L vp)(p:Nat×Nat)(KE)(h:NK n0 B kb nb a Ai ni ci An nn cn w L vp)(hA:a.Ok)(hk:p.1<nn)(bq:p.2=0\/p.2<a.sets.toNat)(bY:0<=a.sets/\a.sets<=16)(bZ:nn<=256)(hr:∀x∈a.nodes,η x.to<=KE)(hL:η L+KE<=1000000):
  Calls jJ 53 #[.pointer (jB ⟨kb,0,jC⟩),.agg #[.int .i64 (p.1:Int),.int .i64 (p.2:Int)]] w (aa9 n0 B kb nb a Ai ni ci An nn cn w L vp p):=by
 obtain⟨ak,x0,X,z0⟩:=uS w (.cells #[.int .i64 p.1,.int .i64 p.2] 99) (.cells #[.int .u64 0,.int .u64 0,.int .u64 0,.slice jC 0 0] 53);obtain⟨O,aA⟩:=xQ ((w.alloc (.cells #[.int .i64 p.1,.int .i64 p.2] 99)).alloc (.cells #[.int .u64 0,.int .u64 0,.int .u64 0,.slice jC 0 0] 53));rw[aA]at ak x0 X z0;obtain⟨br,bu,bw,bz⟩:=iB aA ak x0 X;have c4:w.1.size+1<O.1.size:=ω;clear z0;have M:=h.below ak;obtain⟨HT,bA,c5⟩:=iA h M hA;obtain⟨b,o,x,A,c,rfl,P,hx,c0,c1,c2,c3,aQ⟩:=wh M.rd hk;have aB:a.at p.1=x:=by unfold rQ.at;rw[gD,hx];rfl
 have aC:=jy hx;have c9:=hr x aC
 have bB:Hd (∀q∈x.to,∃k:Nat,q=k/\k<=1000000):=dh (λq hq=>by
  obtain⟨k,rfl,bE⟩:=rO (hA.2 x aC q hq);exact⟨k,rfl,by have:=h.rd.Ov;omega⟩)
 obtain⟨bF,E⟩:=iw aQ aB;have ca:rY a p<=16:=by rcases aaF bq with e|e<;>omega
 have aR:p.2<=64:=ω;obtain⟨b0, -,b2, -, -⟩:=Lv M.bk;have bV:=dh M.bk;let⟨x0,x1⟩:=QA x0
 have bE:p.1<(nn:Int):=ω;have cb:0<=(p.1:Int):=ω;have cd:=h.lt;have av:=rX M.bk;have aD:w.1.size<O.1.size:=ω;have F:b<O.1.size:=ω
 have bG:=dh (λW' t hb ht=>by
  have h:=aaK _ B _ _ a _ _ _ _ _ _ W' L _ p t (M.below hb) hk ht ω;rwa [aB]at h)
 clear aA ak X h hA hr hx aC aQ aB M;go_enter Tryz.func53,Tryz.ntmps53;go_upto_region 1 with fail
 rw[br.o];refine wp_region_held_drew (S:=λw'=>q9 w' _ 2 _/\q9 w' _ 0 _/\q9 w' b _ _/\q9 w' b _ _/\q9 w' b _ _/\q9 w' b _ _) rfl ⟨b2,x0,c0,c1,c2,c3⟩ (λhS=>?_);apply qU 0;apply qU 1;apply qU 2;apply qU 3;apply qU 4;apply qU 5;apply qU 6;apply qU 7;apply qU 8;refine rR 9 (λK l=>?_);go_simp;obtain⟨V0,Z⟩:=xQ (O.alloc (.cells #[.int .u64 0,.int .u64 0,.int .u64 0,.slice jC 0 0] 53)).drew;have j:Below O.1.size O V0:=by rw[<-Z];exact Below.drew (bR.alloc lR _)
 have N:V0.1[O.1.size]? =jB (.cells #[.int .u64 0,.int .u64 0,.int .u64 0,.slice jC 0 0] 53):=by rw[<-Z];exact heap_alloc_new _ _
 have cg:V0.1.size=O.1.size+1:=by rw[<-Z];simp
 rw[Z];clear Z;refine l _ _ ⟨bC j av b2,bC j aD x0,bC j F c0,bC j F c1,bC j F c2,bC j F c3⟩ (λhS=>?_);clear l;refine rR 10 (λK l=>?_);obtain⟨X,y1,y2,y3⟩:=yt N;have f0:=frozen_of_row _ _ 0 _ _ N;have f1:=frozen_of_row _ _ 1 _ _ N;have f2:=frozen_of_row _ _ 2 _ _ N;have f3:=frozen_of_row _ _ 3 _ _ N;have yl:O.1.size<V0.1.size:=ω;go_simp;obtain⟨V,aS,aE,aT⟩:=VE (a:=.int .u64 x.need) (b:=.int .u64 x.ban) (c:=.int .u64 x.inn) (d:=.slice A (η x.to) c) N rfl;rw[aS];have g:=j.trans (aT.below ω (λy hy e=>ω));clear X y1 y2 y3 f0 f1 f2 f3 aS;refine l _ _ ⟨bC g av b2,bC g aD x0,bC g F c0,bC g F c1,bC g F c2,bC g F c3⟩ (λhS=>?_);clear l;refine wpAnyH_done rfl ?_ _;clear hS;have aU:=bA.below g;have bH:=g.size;have bI:=dh aE;have ch:=(aI.1 aE).1;obtain⟨aw,aV⟩:=iw g (bu.trans (g.mono (show w.1.size<=O.1.size by omega)))
 have aW:∀k,Tz _ _ _ k->k<w.1.size:=λk hk=>by
  rcases hk with e|e|e
  ·rw[e];exact HT.aip
  ·rw[e];exact HT.Qd
  ·exact(HT.own.lt k e).2
 obtain⟨ao,bJ,bK,aX⟩:=iB aW ((g.block _ aD).trans bw.o) ((g.block _ ω).trans bz.o) aU;have m:Hd (∀W',qW (Tz kb nb vp) V W'->(W'.cell? ⟨w.1.size,0,jC⟩=jB (.int .i64 (p.1:Int))/\W'.cell? ⟨w.1.size,1,jC⟩=jB (.int .i64 (p.2:Int)))/\(W'.cell? ⟨O.1.size,0,jC⟩=jB (.int .u64 (x.need:Int))/\W'.cell? ⟨O.1.size,1,jC⟩=jB (.int .u64 (x.ban:Int))/\W'.cell? ⟨O.1.size,2,jC⟩=jB (.int .u64 (x.inn:Int))/\W'.cell? ⟨O.1.size,3,jC⟩=jB (.slice A (η x.to) c))):=dh (λW' ht=>⟨QA (ht.blk bJ (λe=>by have:=ao _ e;omega)),yt (ht.blk bI (λe=>by have:=ao _ e;omega))⟩);have aY:Hd (∀W',Below _ _ W'->W'.cell? _ =jB _):=dh (λW' hb=>(Lv ((aX.below hb).bk)).1);have a1:Hd (∀W',Below V.1.size _ _->qW (Tz kb nb vp) V W'):=dh (λW' hb=>(qW.of_below hb).mono ω);clear N aE aT j g aU aW b0 b2 c0 c1 c2 c3 x0 x1;obtain⟨⟨p0,p1⟩, -⟩:=m _ (qW.refl _ _);go_upto_region 3 with fail
 clear p0 p1;go_cut [31] (λv wF=>v=.bool (decide (0<a.sets)&&x.inn.testBit p.2)/\Hd (Below V.1.size V wF))
 case first=>
  obtain⟨⟨p0,p1⟩, -⟩:=m _ (qW.refl _ _);have k0:=aY _ bR;by_cases hs:0<a.sets
  ·have hd:=decide_eq_true hs;go_wp2_with fail
   apply (bG _ _ aw aR).mono;rintro e w3 ⟨rfl,aZ⟩;have Q:=dh aZ;clear p0 p1 k0 aZ;go_wp2
   go_meet
   case rel=>exact⟨by rw[hd,lH],Q⟩
  ·have hd:=decide_eq_false hs;go_wp2
   go_meet
   case rel=>exact⟨by rw[hd];rfl,dh bR⟩
 case rest=>
  obtain⟨rfl,Q⟩:=hcut;go_upto_if 31 with(fail)
  go_cut [6] (λv wF=>v=.int .i64 (rY a p)/\Hd (Below V.1.size V wF))
  case first=>
   cases P:(decide (0<a.sets)&&x.inn.testBit _)
   ·have hz:rY a p=p.2:=by unfold rY;rw[E.o,P];rfl
    have HZ:=dh hz;go_wp2
    go_meet
    case rel=>exact⟨by rw[HZ.o],Q⟩
   ·have hz:rY a p=(p.2+1)%a.sets.toNat:=by unfold rY;rw[E.o,P];rfl
    have cj:=by rw[jm,jN]at P;exact P.1
    have tm:((p.2:Int)+1).tmod a.sets=((rY a p:Nat):Int):=by
     have e:a.sets=a.sets.toNat:=ω;rw[hz,nN ω]
     conv=>lhs;rw[e]
     rfl
    have w1:IntKind.i64.wrap (p.2+1)=p.2+1:=by rw[wI];omega
    have w2:IntKind.i64.wrap (rY a p)=(rY a p):=by rw[wI];omega
    have ck:(a.sets==0)=jE:=kF.2 ω;have bW:¬a.sets=0:=ω;obtain⟨⟨p0,p1⟩, -⟩:=m _ (a1 _ Q.o);have k0:=aY _ Q.o;clear hz P;go_upto_region 4 with fail
    refine wp_region_held_drew (S:=λw'=>q9 w' _ 1 _/\q9 w' _ 0 _) rfl ⟨p1,k0⟩ (λhS=>?_);apply qU 0;apply qU 1;apply qU 2;apply qU 3;apply qU 4;apply qU 5;apply qU 6;apply qU 7;apply qU 8;apply qU 9;refine wpAnyH_done rfl ?_ _;clear hS;go_wp2
    go_meet
    case rel=>exact⟨rfl,dh (Below.drew Q.o)⟩
  case rest=>
   obtain⟨rfl,C⟩:=hcut;have b4:=aX.below C.o;have a6:=C.size;have b5:w.1.size<=V.1.size:=ω;have aF:Below wc.1.size wc _:=Below.drew bR;have ax:=aw.trans (C.mono bH)
   have ay:=dh (λW' hb=>
    VN n0 B kb nb a Ai ni ci (jB ⟨b,o,jC⟩) nn cn W' L vp x.to (rY a p) A (η x.to) c rfl (b4.below hb) (bF.below (ax.trans (hb.mono ω)) ω) bB ω ω)
   have b6:=a1 _ C.o;clear b4 ax;go_upto_region 5 with fail
   go_cut [7] (λq wF=>∃ob v,q=.pointer (jB ⟨ob,0,jC⟩)/\V.1.size<=ob/\Hd (wF.1[ob]? =jB (.cells #[.int .u64 x.need,.int .u64 x.ban,.int .u64 0,v] 53 (0,0)))/\Hd (zJ n0 B kb nb a Ai ni ci (jB ⟨b,o,jC⟩) nn cn w L vp x.to (rY a p) v wF)/\Hd (qW (Tz kb nb vp) V wF))
   case first=>
    obtain⟨-,R,s1, -,T⟩:=m _ b6;refine wp_region_held_drew (S:=λw'=>q9 w' _ 0 _/\q9 w' _ 1 _/\q9 w' _ 3 _) rfl ⟨R,s1,T⟩ (λhS=>?_);apply qU 0;apply qU 1;apply qU 2;apply qU 3;apply qU 4;apply qU 5;apply qU 6;apply qU 7;apply wpAnyH_ready (rs:=[8,10]) κ ς;refine(rJ rfl (λK l=>?_) (rJ rfl (λK l=>?_) AllReadyH.nil))
    ·skip
     go_simp;apply (ay _ aF).mono;rintro e w8 ⟨v8,rfl,a7⟩;have aG:=a7.lift (aV.trans ((C.trans (aF.mono a6)).mono b5));obtain⟨bL,aH,a8,G,aJ⟩:=a7;obtain⟨W,c8,rfl, -⟩:=qX a8;have ad:=(a1 _ (C.trans (aF.mono a6))).trans G (λ_ _ e=>e);have b9:=G.size;have bX:wc.1.size<=w8.1.size:=b9;obtain⟨-,R,s1, -,T⟩:=m _ ad;clear G aJ aH a8;refine l _ _ ⟨R,s1,T⟩ (λhS=>?_);clear l;refine qU 9 ?_;refine rR 10 (λK l=>?_);go_simp;obtain⟨V9,D⟩:=xQ (w8.alloc (.cells #[.int .u64 0,.int .u64 0,.int .u64 0,.slice jC 0 0] 53));have s:Below w8.1.size w8 V9:=by rw[<-D];exact bR.alloc lR _
     have z:V9.1[w8.1.size]? =jB (.cells #[.int .u64 0,.int .u64 0,.int .u64 0,.slice jC 0 0] 53):=by rw[<-D];exact heap_alloc_new _ _
     rw[D];clear D;have aq:=ad.trans (qW.of_below s) ω;have bM:=aG.below s;obtain⟨-,R,s1, -,T⟩:=m _ aq;refine l _ _ ⟨R,s1,T⟩ (λhS=>?_);clear l;refine rR 11 (λK l=>?_);obtain⟨X,y1,y2,y3⟩:=yt z;have f0:=frozen_of_row _ _ 0 _ _ z;have f1:=frozen_of_row _ _ 1 _ _ z;have f2:=frozen_of_row _ _ 2 _ _ z;have f3:=frozen_of_row _ _ 3 _ _ z;have yl:=rX z;go_simp;obtain⟨bN,H,I,n⟩:=VE (a:=.int .u64 x.need) (b:=.int .u64 x.ban) (c:=.int .u64 0) (d:=.slice W (η (vF (uF (uP x.to (rY a p)) L) x.to (rY a p))) c8) z rfl;rw[H];have aK:V.1.size<=w8.1.size:=ω;have r:=aq.trans n ω;have J:=bM.keep n ω HT.lt.2.1 z;obtain⟨af,ag,ah⟩:=iA I J r;obtain⟨-,R,s1, -,T⟩:=m _ r;clear X y1 y2 y3 f0 f1 f2 f3 H I n J r;refine l _ _ ⟨R,s1,T⟩ (λhS=>?_);clear l;refine wpAnyH_done rfl ?_ _;clear hS;go_wp2
     go_meet
     case rel=>exact⟨_,_,rfl,aK,af,ag,ah⟩
    ·skip
     go_simp;obtain⟨V9,D⟩:=xQ (wc.alloc (.cells #[.int .u64 0,.int .u64 0,.int .u64 0,.slice jC 0 0] 53)).drew;have s:Below wc.1.size wc V9:=by rw[<-D];exact Below.drew (bR.alloc lR _)
     have z:V9.1[wc.1.size]? =jB (.cells #[.int .u64 0,.int .u64 0,.int .u64 0,.slice jC 0 0] 53):=by rw[<-D];exact heap_alloc_new _ _
     rw[D];clear D;have aq:=a1 _ (C.trans (s.mono a6));obtain⟨-,R,s1, -,T⟩:=m _ aq;refine l _ _ ⟨R,s1,T⟩ (λhS=>?_);clear l;refine rR 8 (λK l=>?_);go_simp;apply (ay _ s).mono;rintro e w8 ⟨v8,rfl,a7⟩;have aG:=a7.lift (aV.trans ((C.trans (s.mono a6)).mono b5));obtain⟨bL,aH,a8,G,aJ⟩:=a7;obtain⟨W,c8,rfl, -⟩:=qX a8;have ad:=(a1 _ (C.trans (s.mono a6))).trans G (λ_ _ e=>e);have b9:=G.size;have k8:=G.blk z (λe=>by have:=ao _ e;omega);obtain⟨-,R,s1, -,T⟩:=m _ ad;clear G aJ aH a8;refine l _ _ ⟨R,s1,T⟩ (λhS=>?_);clear l;refine qU 9 ?_;refine rR 11 (λK l=>?_);obtain⟨X,y1,y2,y3⟩:=yt k8;have f0:=frozen_of_row _ _ 0 _ _ k8;have f1:=frozen_of_row _ _ 1 _ _ k8;have f2:=frozen_of_row _ _ 2 _ _ k8;have f3:=frozen_of_row _ _ 3 _ _ k8;have yl:=rX k8;go_simp;obtain⟨bN,H,I,n⟩:=VE (a:=.int .u64 x.need) (b:=.int .u64 x.ban) (c:=.int .u64 0) (d:=.slice W (η (vF (uF (uP x.to (rY a p)) L) x.to (rY a p))) c8) k8 rfl;rw[H];have aK:V.1.size<=wc.1.size:=ω;have r:=ad.trans n ω;have J:=aG.keep n ω HT.lt.2.1 k8;obtain⟨af,ag,ah⟩:=iA I J r;obtain⟨-,R,s1, -,T⟩:=m _ r;clear X y1 y2 y3 f0 f1 f2 f3 H I n J r;refine l _ _ ⟨R,s1,T⟩ (λhS=>?_);clear l;refine wpAnyH_done rfl ?_ _;clear hS;go_wp2
     go_meet
     case rel=>exact⟨_,_,rfl,aK,af,ag,ah⟩
   case rest=>
    obtain⟨ob,v,rfl,cm,bc,bd,bh⟩:=hcut;have bj:=rX bc.o;obtain⟨⟨p0,p1⟩, -⟩:=m _ bh.o;obtain⟨bO,ar, -, -, -⟩:=bd.o;have cp:=dh ar;have k0:=(Lv ar.bk).1;have bP:Hd (∀k,k=w.1.size+1->¬Tz _ _ _ k):=dh (λk hk e=>by have:=ao _ e;omega)
    have az:Hd (Calls jJ 78 #[.pointer (jB ⟨kb,0,jC⟩),.agg #[.int .i64 (p.1:Int),.int .i64 (p.2:Int)],.int .i64 (0:Int)] wc (AX wc (x.inn.testBit 0))):=dh (by
     have h:=aaK n0 B kb nb a Ai ni ci (jB ⟨b,o,jC⟩) nn cn wc _ bO p 0 ar hk ω ω;rwa [E.o]at h)
    let⟨tb,aL⟩:=xQ (x.inn.testBit 0)
    rw[aL]at az;have bm:=dh aL;clear ar aL;go_upto_region 6 with fail
    go_cut [66] (λu wF=>u=.bool (decide (a.sets=0)||(decide (p.2=0)&&tb))/\Hd (Below wc.1.size wc wF))
    case first=>
     by_cases hz:a.sets=0
     ·have hd:=lV.2 hz;have au:=decide_eq_true hz;clear hz;go_wp2
      go_meet
      case rel=>exact⟨by rw[au];rfl,dh bR⟩
     ·have hd:=kF.2 hz;have au:=decide_eq_false hz;clear hz;by_cases hp:p.2=0
      ·have he:((p.2:Int)==0)=jD:=lV.2 ω;have aM:=decide_eq_true hp;clear hp;go_wp2_with fail
       apply az.mono;rintro e w9 ⟨rfl,s⟩;have bQ:=dh s;clear s p0 p1 k0;go_wp2
       go_meet
       case rel=>exact⟨by rw[au,aM];rfl,bQ⟩
      ·have he:((p.2:Int)==0)=jE:=kF.2 ω;have aM:=decide_eq_false hp;clear hp;go_wp2
       go_meet
       case rel=>exact⟨by rw[au,aM];rfl,dh bR⟩
    case rest=>
     obtain⟨rfl,aN⟩:=hcut;have U:=(aN.block _ bj).trans bc.o;have aO:=bd.below aN.o;have i:=(aN.block _ ω).trans (bh.blk bK (bP _ rfl))
     have bS:∃W n8 c8,v=.slice W n8 c8:=by
      obtain⟨_,_,ho,_⟩:=aO;obtain⟨W,c8,e, -⟩:=qX ho;exact⟨_,_,_,e⟩
     obtain⟨W,n8,c8,rfl⟩:=bS;have aj:NZ a p=if(decide (a.sets=0)||(decide (p.2=0)&&tb))=jD then 1 else 0:=by unfold NZ;rw[E.o,bm.o]
     let⟨zb,bn⟩:=xQ (decide (a.sets=0)||(decide (p.2=0)&&tb))
     rw[bn]at aj⊢;clear bn p0 p1 k0;go_upto_if 66 with(fail)
     cases zb
     ·have aP:Hd (NZ a p=0):=dh (by rw[aj];rfl);clear aj;let⟨r0,r1,r2,r3⟩:=yt U
      let⟨X,y1,y2,y3⟩:=yt i
      have f0:=frozen_of_row _ _ 0 _ _ i;have f1:=frozen_of_row _ _ 1 _ _ i;have f2:=frozen_of_row _ _ 2 _ _ i;have f3:=frozen_of_row _ _ 3 _ _ i;have yl:=rX i;go_wp2
      obtain⟨Y,hY,kY,tY⟩:=VE (a:=.int .u64 x.need) (b:=.int .u64 x.ban) (c:=.int .u64 0) (d:=.slice W n8 c8) i rfl;rw[hY];obtain⟨g0,g1,g2,g3⟩:=yt kY;have bT:=aO.keep tY ω HT.lt.2.1 i;refine bodyPost_ret (v:=.agg #[.int .u64 x.need,.int .u64 x.ban,.int .u64 0,.slice W n8 c8]) ?_ rfl ?_
      ·simp[results,Tryz.results53,go_sem,g0,g1,g2,g3]
      ·refine⟨_,?_,by rwa [E.o]⟩;rw[E.o,aP.o];rfl
     ·have aP:Hd (NZ a p=1):=dh (by rw[aj];rfl);clear aj;let⟨r0,r1,r2,r3⟩:=yt U
      have f2:=frozen_of_row _ _ 2 _ _ U;have ol:=rX U;go_upto_region 8 with fail
      have kI:=heap_setCell_same _ _ 2 _ _ (.int .u64 1) U;have tI:qW _ _ (wc.setCell _ (.int .u64 1)):=(qW.refl (λk=>k=ob) _).setCell (p:=⟨_,2,jC⟩) (λ_=>rfl) _;let⟨WI,bp⟩:=xQ (wc.setCell ⟨ob,2,jC⟩ (.int .u64 1))
      rw[bp]at kI tI⊢;have bU:=aO.keep tI ω HT.lt.2.1 U;have i:=tI.blk i ω;have kI:WI.1[ob]? =jB (.cells #[.int .u64 x.need,.int .u64 x.ban,.int .u64 1,.slice W n8 c8] 53 (0,0)):=by rw[kI];rfl
      clear bp r0 r1 r2 r3 f2 ol;let⟨r0,r1,r2,r3⟩:=yt kI
      let⟨X,y1,y2,y3⟩:=yt i
      have f0:=frozen_of_row _ _ 0 _ _ i;have f1:=frozen_of_row _ _ 1 _ _ i;have f2:=frozen_of_row _ _ 2 _ _ i;have f3:=frozen_of_row _ _ 3 _ _ i;have yl:=rX i;go_wp2
      obtain⟨Y,hY,kY,tY⟩:=VE (a:=.int .u64 x.need) (b:=.int .u64 x.ban) (c:=.int .u64 1) (d:=.slice W n8 c8) i rfl;rw[hY];obtain⟨g0,g1,g2,g3⟩:=yt kY;have bT:=bU.keep tY ω HT.lt.2.1 i;refine bodyPost_ret (v:=.agg #[.int .u64 x.need,.int .u64 x.ban,.int .u64 1,.slice W n8 c8]) ?_ rfl ?_
      ·simp[results,Tryz.results53,go_sem,g0,g1,g2,g3]
      ·refine⟨_,?_,by rwa [E.o]⟩;rw[E.o,aP.o];rfl
set_option maxHeartbeats 4000000
set_option maxRecDepth 100000
theorem Oa {size:Nat}{xs:List Value}(h:w.1[b]? =jB (.cells cs T (0,0)))(c:cs.toList=xs)(a:η xs=n*size)(hm:n<=maxLen)(hb:b<B):Sl w B size (jB ⟨b,0,jC⟩) n n xs:=by
 refine⟨a,lR,hm,λh=>γ,.inr ⟨b,0,rfl,hb,λj u hu=>?_⟩⟩;rw[ng,cell_of_row w b j _ _ _ h]
 grind
theorem ND {p:Value}(h:w.1[b]? =jB (.cells #[p,q,r] t (0,0))):w.cell? ⟨b,0,jC⟩=jB p/\w.cell? ⟨b,1,jC⟩=jB q/\w.cell? ⟨b,2,jC⟩=jB r:=by
 refine⟨?_,?_,?_⟩<;>(rw[cell_of_row _ _ _ _ _ _ h];rfl)
theorem aat {g:Nat}{b:Value}(h:w.1[g]? =jB (.cells cs T (0,0)))(hc:cs.size=3):
  (((w.setCell ⟨g,0,jC⟩ a).setCell ⟨g,1,jC⟩ b).setCell ⟨g,2,jC⟩ c).1[g]? =jB (.cells #[a,b,c] T (0,0)):=by
 have d:=heap_setCell_same w g 0 _ _ a h;have e:=heap_setCell_same _ g 1 _ _ b d;have f:=heap_setCell_same _ g 2 _ _ c e;rw[f];clear d e f h;obtain⟨l⟩:=cs
 match l,hc with
 |[p,q,r],_=>simp
theorem agi {w0:jF}{g:Nat}(h:Below B w w0)(d:B<=g)(a b c):Below B w (((w0.setCell ⟨g,0,jC⟩ a).setCell ⟨g,1,jC⟩ b).setCell ⟨g,2,jC⟩ c):=
 ((h.setCell (p:=⟨g,0,jC⟩) d _).setCell (p:=⟨g,1,jC⟩) d _).setCell (p:=⟨g,2,jC⟩) d _
structure OL (n0 kb nb ob:Nat)(Af:Option Addr)(cf:Nat)(f:List Nd)(sets:Int)(w4:jF)(A1:Option Addr)(c1:Nat)(L:List uI)(rows:List (List Nat))(vn:Value)(wr:jF):Prop where
 len:η L<=256
 ts:TS n0 wr.1.size kb nb ob Af cf f sets wr L (η rows) rows (.slice A1 (η (tC f)) c1) vn
 ini:zV wr 3 A1 (η (ζ (η (tC f)))) c1 (qO (iE (ζ (η (tC f)))))
 xq:Below n0 w4 wr
 inv:DU f L rows
 it:Dc f (257-η rows) L rows=Dc f 257 (tC f) []
 inL:∀a,A1=jB a->n0<=a.block
theorem abI (A c f w)(hf:Sl w w.1.size 2 A (η f) c (qP f))(hT:xJ w)(hl:η f<=1000):
  Calls jJ 31 #[.slice A (η f) c] w (UW w (Kl f) (Kj f)):=by
 have ad:Below _ w (w.alloc (.cells #[.int .i64 0,.slice jC 0 0,.slice jC 0 0] 32)):=bR.alloc lR _;have aO:=heap_alloc_new w (.cells #[.int .i64 0,.slice jC 0 0,.slice jC 0 0] 32);have cp:(w.alloc (.cells #[.int .i64 0,.slice jC 0 0,.slice jC 0 0] 32)).1.size=w.1.size+1:=ς;let⟨W0,aP⟩:=xQ (w.alloc (.cells #[.int .i64 0,.slice jC 0 0,.slice jC 0 0] 32))
 rw[aP]at ad aO cp;obtain⟨cq,HU,HF,HT⟩:=iB aP (QK A c f W0 w.1.size (hf.below ad lR) ω ω) hf hT;clear aP hf hT;go_enter Tryz.func31,Tryz.ntmps31;go_wp2_with fail
 rw[cq.o];apply Calls.mono HU.o;rintro e w1 ⟨v1,rfl,br,aQ, -⟩;obtain⟨Au,cu,rfl,cr⟩:=qX br;have s:=ad.trans (aQ.mono ω);have HI:=dh (UQ A c f w1 w.1.size (HF.below s lR) s.size ω);have bu:=(aQ.block _ ω).trans aO;clear br cr ad aO;go_wp2_with fail
 apply Calls.mono HI.o;rintro e w2 ⟨rfl,aR⟩;have N:=s.trans (aR.mono s.size);have cT:=s.size;have cN:=aQ.size;have D:=(aR.block _ ω).trans bu;let⟨k0,k1,k2⟩:=ND D
 have af:=frozen_of_row _ _ 0 _ _ D;have ag:=frozen_of_row _ _ 1 _ _ D;have ah:=frozen_of_row _ _ 2 _ _ D
 have HE:∀e,Kj f=e->e≠0->UW w (Kl f) (Kj f) (.returned (.tuple #[.agg #[.int _ 0,.slice _ 0 0,.slice _ 0 0],.int _ e])) (((w2.setCell _ (.int .i64 0)).setCell _ (.slice jC 0 0)).setCell _ (.slice jC 0 0)):=λe he h0=>by
  have ha:Kl f=⟨0,[],[]⟩:=by unfold Kl;grind
  rw[ha,he];exact⟨_,0,0,_,0,0,rfl,xI _ _,agi N lR _ _ _,FL _⟩
 have l:=aat (a:=.int .i64 0) (b:=.slice jC 0 0) (c:=.slice jC 0 0) D rfl;let⟨g0,g1,g2⟩:=ND l
 have aj:=dh HE;clear HE;cases hN:yh f
 ·have E:=dh hN;clear hN;go_wp2
  refine bodyPost_ret ?_ rfl (aj 3 ?_ δ)
  ·simp[results,Tryz.results31,go_sem,g0,g1,g2]
  ·unfold Kj;rw[jd E.o]
 ·have E:=dh hN;clear hN;by_cases O:50<η f
  ·have bw:50<(η f:Int):=ω;go_wp2
   refine bodyPost_ret ?_ rfl (aj 5 ?_ δ)
   ·simp[results,Tryz.results31,go_sem,g0,g1,g2]
   ·unfold Kj;rw[d9 (by rw[E.o];decide),jd O]
  ·have bw:¬50<(η f:Int):=ω;by_cases ak:16<η (uh f)
   ·have bz:16<(η (uh f):Int):=ω;go_wp2
    refine bodyPost_ret (v:=.tuple #[.agg _,.int _ 11]) ?_ rfl (aj _ ?_ δ)
    ·simp[results,Tryz.results31,go_sem,g0,g1,g2]
    ·unfold Kj;rw[d9 (by rw[E.o];decide),d9 O,jd ak]
   ·have bz:¬16<(η (uh f):Int):=ω;have bA:η f<=50:=ω;have cO:=run_makeMap (P:=jJ) 83;have cP:=run_makeMap (P:=jJ) 84;have av:=F8 E.o;have cU:=aR.size;let⟨W4,bB,aS,y0,y1,y2,y3,yz⟩:=al4 w2 (.map #[] 0) (.map #[] 0) (.cells #[.slice A (η f) c,.map (jB w2.1.size),.map (jB (w2.1.size+1)),.int .i64 (η (uh f)),.slice jC 0 0,.slice jC 0 0] 86) (.cells #[.int .i64 (η f-1)] 3)
    have ct:=dh bB;have F:=N.trans (aS.mono N.size);have bE:=(aS.block _ ω).trans D
    have Q:TS (w.1.size+1) W4.1.size (w2.1.size+1+1) w2.1.size (w2.1.size+1) A c f (η (uh f):Nat) W4 [] 0 [] (.slice jC 0 0) (.slice jC 0 0):=
     TS.start y2 y0 y1 ⟨ω,ω,ω,ω,ω⟩ ((HF.below F lR).up ω)
    have bF:=(Gd E av).nodup;have aw:([(η f:Int)-1]).map Int.toNat=[η f-1]:=ς
    have bG:=dh (aa5 (w.1.size+1) W4.1.size (w2.1.size+1+1) w2.1.size (w2.1.size+1) A c f (η (uh f):Nat) W4 [] 0 [] (.slice jC 0 0) (.slice jC 0 0) (jB ⟨w2.1.size+1+1+1,0,jC⟩) 1 1 [(η f:Int)-1] Q lR
     (Oa y3 rfl (by simp[qO]) δ ω) rfl E (λx hx=>by simp at hx;omega) bA ς ω (zW HT F) ω)
    rw[aw]at bG;obtain⟨aT,G,aU⟩:=iA bE F bF;clear k0 k1 k2 l g0 g1 g2 af ag ah bu D y0 y1 y2 y3 aS aw bB bE F aj bF;go_wp2_with fail
    rw[<-ct.o];apply Calls.mono bG.o;rintro e w5 ⟨hA,hB⟩;have cv:rV f _ =tC f:=rfl;rw[cv,ae4 aU.o]at hA hB;by_cases bH:η (tC f)<=256
    ·obtain⟨A1,c1,cw,rfl,u,R,bI,bJ, -⟩:=hA bH;rw[VK aU.o,kL]at R;rw[VK aU.o,kL];clear hA hB;have aV:=u.ag2 (.slice A1 (η (tC f)) c1);let⟨q0,q1,q2,q3,q4,q5⟩:=D5 u.bk
     have qf:=frozen_of_row _ _ 4 _ _ u.bk;let⟨W6,aW⟩:=xQ (w5.setCell ⟨w2.1.size+1+1,4,jC⟩ (.slice A1 (η (tC f)) c1))
     rw[aW]at aV;obtain⟨ao,cx,bK,cy,ax⟩:=iC aV aW R bJ u;clear aV aW R bJ u;go_wp2
     rw[cx.o];have bL:=ax.bk;have bM:=ao.2.size;have bN:=ax.lt;have bO:Below (w.1.size+1) W4 W6:=(cy.below ω (λk hk e=>by have:=Q.Vk e;omega)).trans (ao.2.below ω (λk hk e=>ω))
     have ay:OL (w.1.size+1) (w2.1.size+1+1) w2.1.size (w2.1.size+1) A c f (η (uh f)) W4 A1 c1 (tC f) [] cw W6:=by
      refine⟨bH,ao.1.up bM,?_,bO,Gd E av,rfl,λa ha=>by have:=bI a ha;omega⟩;rw[kL];exact bK.keep ao.2 (uM bL δ)
     clear bL bM bN bO q0 q1 q2 q3 q4 q5 qf Q;go_loopw [8] (λv wr=>∃(L:List uI) (rows:List (List Nat)) (vn:Value),v=.int .i64 (η rows:Nat)/\Hd (OL (w.1.size+1) (w2.1.size+1+1) w2.1.size (w2.1.size+1) A c f (η (uh f):Nat) W4 A1 c1 L rows vn wr)) (λv _=>257-(intOf v).toNat)
     case atStart=>exact⟨_,_,_,rfl,dh ay⟩
     case round=>
      obtain⟨L,rows,vn,rfl,j⟩:=hrel;clear ay;have cV:=j.inv.le;have cz:=j.len;let⟨q0,q1,q2,q3,q4,q5⟩:=D5 j.ts.bk
      let⟨cW,az,aX⟩:=j.ts.Wq
      obtain⟨An,cn,rfl,cC⟩:=qX az;clear cC az aX;have hx:=(j.xq.block _ ω).trans aT.o;by_cases J:η rows<η L
      ·have bP:η rows<(η L:Int):=ω;have aq:=gE J;let⟨g,hg,aY⟩:=j.ts.opn
       let⟨E1,e1,E2,e2,aZ,b4⟩:=aY _ _ lR aq
       have U:=mM J;let⟨x,bQ⟩:=xQ (L[η rows])
       rw[bQ]at aq aZ b4 U;have b5:=j.ts.oks x U;have b6:=hg.look jE Fh Tryz.underlying84 κ (ME (q:=η rows) ω) (z:=.agg #[.int .u64 0,.int .u64 0,.slice jC 0 0,.slice jC 0 0]);rw[aZ]at b6;simp at b6;unfold ads at b6;have r:Below _ _ (wr.alloc (.cells #[.int .u64 x.1,.int .u64 x.2.1,.slice E1 (η (uw x.2.2.1)) e1,.slice E2 (η (uw x.2.2.2)) e2] 90)):=bR.alloc lR _;have ar:=heap_alloc_new wr (.cells #[.int .u64 x.1,.int .u64 x.2.1,.slice E1 (η (uw x.2.2.1)) e1,.slice E2 (η (uw x.2.2.2)) e2] 90);have cD:(wr.alloc (.cells #[.int .u64 x.1,.int .u64 x.2.1,.slice E1 (η (uw x.2.2.1)) e1,.slice E2 (η (uw x.2.2.2)) e2] 90)).1.size=wr.1.size+1:=ς;let⟨W7,bc⟩:=xQ (wr.alloc (.cells #[.int .u64 x.1,.int .u64 x.2.1,.slice E1 (η (uw x.2.2.1)) e1,.slice E2 (η (uw x.2.2.2)) e2] 90))
       rw[bc]at r ar cD;have bS:=dh bc;have y:=j.ts.below r;have m2:=bC r (rX j.ts.bk) q2;have bT:=hg.blk (r.block _ hg.lt);let⟨W8,bU,bV,aA⟩:=bT.delete (ty:=0) Fh Tryz.underlying84 (ME (q:=η rows) ω)
       have cX:(wr.alloc (.cells #[.int .u64 x.1,.int .u64 x.2.1,.slice E1 (η (uw x.2.2.1)) e1,.slice E2 (η (uw x.2.2.2)) e2] 90)).cell? ⟨w2.1.size+1+1,2,jC⟩=jB (.map (jB (w2.1.size+1))):=by rwa [bS.o]
       have cE:(Builtin.delete_ #[84,3] 0 #[.map (jB (w2.1.size+1)),.int .i64 (η rows)]).run jJ (wr.alloc (.cells #[.int .u64 x.1,.int .u64 x.2.1,.slice E1 (η (uw x.2.2.1)) e1,.slice E2 (η (uw x.2.2.2)) e2] 90))=.ok (.tuple #[]) W8:=by rwa [bS.o]
       have t8:qW (λk=>k=w2.1.size+1) _ _:=(qW.uy aA).mono (λi _ e=>by injection e with e;exact e.symm);have aB:=y.yP ar;have bW:=t8.blk ar aB;have n2:=(yt bW).2.2.1;have bd:LD (λk=>k=w2.1.size+1) _ wr.1.size:=λk cs _ hk e=>y.yP hk e
       have W:=ahg (λq d hq hd=>by
        obtain⟨F1,f1,F2,f2,a,b⟩:=aY q d hq hd;exact⟨_,_,_,_,a,(b.keep (qW.of_below r) (LD.of (ug _ _))).keep t8 bd⟩) bV
       have X:=y.pop t8 W;have aC:=(b4.keep (qW.of_below r) (LD.of (ug _ _))).keep t8 bd;have bX:=j.ts.lt.1;have au:=(j.xq.trans (r.mono bX)).trans (t8.below ω (λk hk e=>ω));have cY:=OU HT.o;have bY:=ad1 (zW HT G.o) (qW.of_below au) ω;have aD:=Y3 b5.l1;have bZ:η (uw _)<=1000:=Nat.le_trans (KY _) (by rw[b5.l1];omega)
       have c0:=dh (aa5 (w.1.size+1) wr.1.size (w2.1.size+1+1) w2.1.size (w2.1.size+1) A c f (η (uh f):Nat) W8 L (η rows+1) rows (.slice A1 (η (tC f)) c1) (.slice An (η L) cn) E1 (η (uw x.2.2.1)) e1 (iE (uw x.2.2.1)) X (by have:=t8.size;omega) aC.1.t.sl (by simp[iE]) E.o
        (λz hz=>by obtain⟨m,hm,rfl⟩:=jg.1 hz;have:=aD m hm;omega) bA cz bZ bY ω)
       rw[acQ]at c0;obtain⟨cF,Y,c4,cG,bh,cH,Z⟩:=iD t8 X y r aq (au.block _ (show w.1.size<w.1.size+1 by omega)) au;have cZ:w.1.size<w.1.size+1:=ω;clear bQ aZ U bc bU m2 t8 aB bd W X y aC au bY aD b4 hg aY bT bV aA ar r aq b5 bW;go_wp2_with fail
       apply Calls.mono c0.o;rintro e W9 ⟨hA,hB⟩;obtain⟨T,bj⟩:=xQ (rV f (uw x.2.2.1));rw[bj]at hA hB;have bm:=dh bj;clear bj;by_cases aE:η (rA T L)<=256
       ·obtain⟨A9,c9,da,rfl,H,aF,aG,bn,cI⟩:=hA aE;clear hA hB;let⟨db,B,aH⟩:=H.Wq
        have dc:η L<=η (rA T L):=by obtain⟨m,hm⟩:=EZ T L;rw[hm,lA];omega
        obtain⟨gn,dd,rfl,de,cQ, -, -⟩:=sP B ω;let⟨r0,r1,r2,r3,r4,r5⟩:=D5 H.bk
        have aJ:(rA T L)[η rows]? =jB x:=by
         obtain⟨m,hm⟩:=EZ T L;rwa [hm,gC J]
        obtain⟨Ao,co, -, -, -,e9, -⟩:=aH _ x aJ;have df:=(B.cellAt _ ω).trans e9;have di:=B.frozenAt (η rows*4+3);have cS:η rows<(η (rA T L):Int):=ω;have p:=H.ael ω (uG (rA T L) T) (OA.ofL aF (λa ha=>by have:=aG a ha;have:=Y.lt.1;omega));let⟨dj,aK⟩:=sK B (g:=gn) rfl
        have aL:=((j.ini.below cG.o).keep cF (λk cs hk e=>c4.yP hk e)).keep bn (Y.spares δ δ);let⟨dk,a1⟩:=xQ (W9.setCell ⟨gn,η rows*4+3,jC⟩ (.slice A9 (η (uG (rA T L) T)) c9))
        rw[a1]at p;have c5:=dh a1;have I:=aL.keep p.2 (uM aK δ);have b9:=Z.trans (bn.below (by have:=Z.size;omega) (λk hk e=>by have:=Y.Vk e;omega));have ca:=b9.trans (p.2.below ω ω);have hinv:=j.inv.step' E J bh.o;rw[bm.o]at hinv
        have hit:Dc f (257-η (rows++[uG (rA T L) T])) (rA T L) (rows++[uG (rA T L) T])=Dc f 257 (tC f) []:=by
         rw[<-j.it,show 257-η rows=(256-η rows)+1 by omega,O5 J bh.o,bm.o,d9 ω];rw[lA,jU,show 257-(η rows+1)=256-η rows by omega]
        have cb:=dh (show OL _ _ _ _ A c f _ _ _ _ _ _ _ _ from
         ⟨aE,by rw[lA,jU];exact p.1.up p.2.size,I,ca,hinv,hit,j.inL⟩)
        have wi:IntKind.i64.wrap (η rows+1)=η rows+1:=by rw[wI];omega
        clear H aF aG bn cI B aH e9 p aL I aK b9 ca hinv hit a1 aJ;go_wp2
        rw[c5.o];go_roundw
        case rel=>exact⟨_,_,_,by rw[lA,jU];go_num,cb⟩
        case measure=>simp[intOf];omega
       ·obtain⟨rfl,cd⟩:=hB ω;clear hA hB;have K:=(cd.block _ ω).trans (cH.trans aT.o);have l:=aat (a:=.int .i64 0) (b:=.slice jC 0 0) (c:=.slice jC 0 0) K rfl;let⟨g0,g1,g2⟩:=ND l
        let⟨k0,k1,k2⟩:=ND K
        have af:=frozen_of_row _ _ 0 _ _ K;have ag:=frozen_of_row _ _ 1 _ _ K;have ah:=frozen_of_row _ _ 2 _ _ K
        have n:Kj f=11:=by
         unfold Kj JK;rw[d9 (by rw[E.o];decide),d9 O,d9 ak,d9 ω,<-j.it,show 257-η rows=(256-η rows)+1 by omega,O5 J bh.o,bm.o,jd ω]
        have C:Kl f=⟨0,[],[]⟩:=by unfold Kl;rw[n,d9 δ]
        have cJ:=(G.trans (Z.mono ω)).trans (cd.mono ω);obtain⟨a6,a7⟩:=iw C n;clear l n C K hx;go_wp2
        refine bodyPost_ret (v:=.tuple #[.agg #[.int .i64 0,.slice jC 0 0,.slice jC 0 0],.int .i64 11]) ?_ rfl ?_
        ·simp[results,Tryz.results31,go_sem,g0,g1,g2]
        ·rw[a6.o,a7.o];exact⟨_,0,0,_,0,0,rfl,xI _ _,agi cJ lR _ _ _,FL _⟩
      ·have bP:¬η rows<(η L:Int):=ω;have cK:η rows=η L:=ω;let⟨k0,k1,k2⟩:=ND hx
       have af:=frozen_of_row _ _ 0 _ _ hx;have ag:=frozen_of_row _ _ 1 _ _ hx;have ah:=frozen_of_row _ _ 2 _ _ hx
       have a8:JK f=jB (L,rows):=by
        unfold JK;rw[d9 ω,<-j.it,show 257-η rows=(256-η rows)+1 by omega];exact abJ ω
       have n:Kj f=0:=by
        unfold Kj;rw[d9 (by rw[E.o];decide),d9 O,d9 ak,a8]
       have C:Kl f=vW f L rows (ζ (η (tC f))):=by unfold Kl;rw[n,jd rfl,a8]
       have l:=aat (a:=.int .i64 (η (uh f))) (b:=.slice A1 (η (tC f)) c1) (c:=.slice An (η L) cn) hx rfl;let⟨g0,g1,g2⟩:=ND l
       let⟨V,hV⟩:=xQ (((wr.setCell ⟨w.1.size,0,jC⟩ (.int .i64 (η (uh f)))).setCell ⟨w.1.size,1,jC⟩ (.slice A1 (η (tC f)) c1)).setCell ⟨w.1.size,2,jC⟩ (.slice An (η L) cn))
       have bp:qW (λk=>k=w.1.size) wr V:=by
        rw[<-hV];exact(((qW.refl (λk=>k=w.1.size) _).setCell (λ_=>rfl) _).setCell (λ_=>rfl) _).setCell (λ_=>rfl) _
       obtain⟨dm,bq, -⟩:=j.ts.Wq
       have aM:Gw w.1.size V (vW f L rows (ζ (η (tC f)))) A1 (η (tC f)) c1 An (η L) cn:=λS W2 ht hS=>by
        have cg:∀{k:Nat} {o:Obj},w.1.size<k->wr.1[k]? =jB o->k=w.1.size\/S k->∃cs,o=.cells cs 32 (0,0):=λ{k o} hk ho e=>by
         rcases e with e|e
         ·omega
         ·have ch:=bp.blk ho ω;rcases hS k e (aI.1 ch).1 with h0|⟨cs,hc⟩
          ·omega
          ·rw[ch]at hc;exact⟨_,jY hc⟩
        let⟨dp,dr,cL,cj⟩:=j.ts.ake (S:=λk=>k=w.1.size\/S k) cK _ (OA.ofL j.ini j.inL) ((bp.mono ω).trans (ht.mono (λ_ _ e=>.inr e)) (λ_ _ e=>e)) (λgg ck e=>by
         obtain⟨cs,hcs⟩:=sK bq ck;obtain⟨cs',he⟩:=cg (by have:=(bq.lt _ ck).1;omega) hcs e;injection he with _ he _
         exact absurd he δ) (λk cs h1 h2 e=>by
         obtain⟨cs',he⟩:=cg ω h2 e;injection he with _ he _
         exact absurd he δ)
        cases cL;rwa [kL]at cj
       have cM:=(G.trans (j.xq.mono ω)).trans (bp.below (by have:=j.xq.size;omega) (λk hk e=>ω));rw[hV]at g0 g1 g2;obtain⟨HV,a6,a7,aN⟩:=iB hV C n aM;clear l hV C n aM bq a8 hx;go_wp2
       rw[HV.o];refine bodyPost_ret (v:=.tuple #[.agg #[.int .i64 (η (uh f)),.slice A1 (η (tC f)) c1,.slice An (η L) cn],.int .i64 0]) ?_ rfl ?_
       ·simp[results,Tryz.results31,go_sem,g0,g1,g2]
       ·rw[a6.o,a7.o];refine⟨_,_,_,_,_,_,?_,aN.rd,cM,aN.o⟩;have hu:uh f=EK 0 f:=by unfold uh;rw[jd (zm E.o)]
        rw[hu];rfl
    ·obtain⟨rfl,cm⟩:=hB ω;clear hA hB;have M:=(cm.block _ ω).trans aT.o;have l:=aat (a:=.int .i64 0) (b:=.slice jC 0 0) (c:=.slice jC 0 0) M rfl;let⟨g0,g1,g2⟩:=ND l
     let⟨k0,k1,k2⟩:=ND M
     have af:=frozen_of_row _ _ 0 _ _ M;have ag:=frozen_of_row _ _ 1 _ _ M;have ah:=frozen_of_row _ _ 2 _ _ M
     have n:Kj f=11:=by
      unfold Kj JK;rw[d9 (by rw[E.o];decide),d9 O,d9 ak,jd ω]
     have C:Kl f=⟨0,[],[]⟩:=by unfold Kl;rw[n,d9 δ]
     obtain⟨a6,a7⟩:=iw C n;clear l n C M;go_wp2
     refine bodyPost_ret (v:=.tuple #[.agg #[.int .i64 0,.slice jC 0 0,.slice jC 0 0],.int .i64 11]) ?_ rfl ?_
     ·simp[results,Tryz.results31,go_sem,g0,g1,g2]
     ·rw[a6.o,a7.o];exact⟨_,0,0,_,0,0,rfl,xI _ _,agi (G.trans (cm.mono ω)) lR _ _ _,FL _⟩
def nxR (m:Nat)(r:List Nat):Nat:=r.foldl (λm x=>max m (x+1)) m
def nxA (m:Nat)(rows:List (List Nat)):Nat:=rows.foldl nxR m
theorem afc (m r x):nxR m (r++[x])=max (nxR m r) (x+1):=by simp[nxR]
theorem afd (m rows r):nxA m (rows++[r])=nxR (nxA m rows) r:=by simp[nxA]
theorem Tc (L c):(uO L c).idxOf c<=η L/\max (η L) ((uO L c).idxOf c+1)=η (uO L c):=by
 unfold uO;by_cases hm:c∈L
 ·rw[jd hm];have:=mO hm;omega
 ·rw[d9 hm,mK,d9 hm,lA,jU];simp
theorem ab9 {T L:List uI}:uG (rA T L) (T.take k)=uG (rA (T.take k) L) (T.take k):=by
 have e:rA T L=rA (T.drop k) (rA (T.take k) L):=by rw[<-I7,lK]
 obtain⟨m,hm⟩:=EZ (T.drop k) (rA (T.take k) L);rw[e,hm];exact GZ (λc hc=>KW hc)
theorem aav {T L:List uI}(a:k<η T):(uG (rA T L) T)[k]? =jB ((uO (rA (T.take k) L) T[k]).idxOf T[k]):=by
 have b:(uG (rA T L) (T.take (k+1)))[k]? =jB ((uO (rA (T.take k) L) T[k]).idxOf T[k]):=by
  rw[ab9,VJ a];rw[gR (by simp[uG];omega)];simp[uG,mg (nS a)]
 have c:uG (rA T L) (T.take (k+1))=(uG (rA T L) T).take (k+1):=by simp[uG,List.map_take]
 rw[c,nX]at b;simpa using b
theorem Y4 {T L:List uI}:∀k,k<=η T->nxR (η L) ((uG (rA T L) T).take k)=η (rA (T.take k) L)
 |0,_=>by simp[nxR,rA]
 |k+1,b=>by
  have hl:k<η (uG (rA T L) T):=by simp[uG];omega
  have a:(uG (rA T L) T)[k]=(uO (rA (T.take k) L) T[k]).idxOf T[k]:=by
   have:=aav (L:=L) (show k<η T by omega);rw[gE hl]at this;exact jY this
  rw[rE _ k hl,afc,Y4 k ω,a,EX ω];exact(Tc _ _).2
structure Scan (m0:Nat)(L:List uI)(rows:List (List Nat)):Prop where
 eq:nxA m0 rows=η L
 lt:∀i,i<η rows->i<nxA m0 (rows.take i)
 le:∀i k x,i<η rows->(rows.getD i [])[k]? =jB x->x<=nxR (nxA m0 (rows.take i)) ((rows.getD i []).take k)
theorem Scan.step {m0:Nat}{L:List uI}{rows:List (List Nat)}(h:Scan m0 L rows)(e:η rows<η L)(T):Scan m0 (rA T L) (rows++[uG (rA T L) T]):=by
 have c:nxA m0 (rows++[uG (rA T L) T])=η (rA T L):=by
  rw[afd,h.eq];have:=Y4 (T:=T) (L:=L) (η T) lR;rw[kH,tL (by simp[uG])]at this;exact this
 have d:∀i,i<=η rows->(rows++[uG (rA T L) T]).take i=rows.take i:=λi hi=>by rw[oL hi]
 refine⟨c,λi hi=>?_,λi k x hi b=>?_⟩
 ·rw[lA,jU]at hi;rw[d i ω];by_cases a:i<η rows
  ·exact h.lt i a
  ·have:i=η rows:=ω;subst this;rw[kH,h.eq];exact e
 ·rw[lA,jU]at hi;rw[d i ω];by_cases a:i<η rows
  ·have f:(rows++[uG (rA T L) T]).getD i []=rows.getD i []:=by
    rw[gD,gC a,<-gD]
   rw[f]at b⊢;exact h.le i k x a b
  ·have:i=η rows:=ω;subst this;have f:(rows++[uG (rA T L) T]).getD (η rows) []=uG (rA T L) T:=by rw[gD,gR lR];simp
   rw[f]at b⊢;rw[kH,h.eq];have g:k<η T:=by have:=(gB.1 b).1;simpa[uG]using this
   rw[aav g]at b;rw[Y4 k (nS g),<-jY b];exact(Tc _ _).1
theorem O6 {f:List Nd}{m0:Nat}:∀(k:Nat) (L:List uI) (rows:List (List Nat)),Scan m0 L rows->∀L' c,Dc f k L rows=jB (L',c)->Scan m0 L' c/\(η L<=256->η L'<=256)
 |0,_,_,_,_,_,h=>by cases h
 |k+1,L,rows,hi,L',c,h=>by
  unfold Dc at h;split at h
  ·next d=>
   split at h
   ·cases h
   ·next hb=>
    obtain⟨a,b⟩:=O6 k _ _ (hi.step d _) L' c h;exact⟨a,λ_=>b ω⟩
  ·injection h with h
   injection h with e g
   subst e;subst g;exact⟨hi,λh=>h⟩
theorem O3 {L:List uI}(h:JK f=jB (L,rows)):Scan (η (tC f)) L rows/\η L<=256:=by
 unfold JK at h;split at h
 ·cases h
 ·next hb=>
  obtain⟨a,b⟩:=O6 _ _ _ (show Scan (η (tC f)) (tC f) []from⟨rfl,λi hi=>by simp at hi,λi k x hi=>by simp at hi⟩) L rows h;exact⟨a,b ω⟩
theorem Ww (f now):aaG f now<2^η (EK 0 f):=by
 unfold aaG;split
 ·refine Nat.lt_pow_two_of_testBit _ (λi hi=>?_);rw[Sm];simp;omega
 ·exact Nat.two_pow_pos _
set_option maxHeartbeats 1000000
theorem Rx (a w):
  Calls jJ 64 #[.int .i64 a] w λe w'=>e=.returned (.int .i64 (takes a))/\w=w':=by
 go_enter Tryz.func64,Tryz.ntmps64;go_wp2
 all_goals (go_ret;exact⟨by simp_all [takes],rfl⟩)
theorem abh (A c f w B)(hs:Sl w B 2 A (η f) c (qP f))(hl:η f<=1000000000):
  Calls jJ 41 #[.slice A (η f) c] w λe w'=>e=.returned (.int .i64 (wrong f))/\w=w':=by
 have hf:=hs.rd;clear hs;by_cases l:η f=0
 ·have p:((η f:Int)==0)=jD:=by simp[l]
  go_enter Tryz.func41,Tryz.ntmps41;go_wp2
  go_ret
  have:f=[]:=jv l;exact⟨by rw[this];rfl,rfl⟩
 ·have p:((η f:Int)==0)=jE:=by simp;rintro rfl;simp at l
  go_enter Tryz.func41,Tryz.ntmps41;go_wp2
  go_loop [3,4,5] (λn i _=>∃k d:Nat,k<=η f/\i=.int .i64 k/\n=.int .i64 d/\d<=k/\scan (f.take k) 0=(0,d)) (λ_ i _=>η f-(intOf i).toNat)
  case atStart=>exact⟨0,0,ω,rfl,rfl,ω,rfl⟩
  case round=>
   obtain⟨k,d,I,rfl,rfl,hd,hs⟩:=hrel;have m:=dh hs;clear hs;by_cases a:k<η f
   ·obtain⟨b,off,rfl,_,F,G⟩:=vZ hf a;have H:=zY f[k].op;have t:=λh=>(GR a m h).1
    have u:=λh=>Oe a m h
    obtain⟨q,v⟩:=iw t u;clear t u;generalize y:f[k]=x at *;have J:=dh y;clear y;obtain⟨op,n⟩:=x;dsimp only at *;by_cases z:op=3
    ·subst z;rw[Db]at H;go_wp2_with (first|(go_at_call 64;refine(Rx _ _).mono ?_;rw[Db];rintro e w' ⟨rfl,rfl⟩))
     all_goals first
      |(have e:bad ⟨3,n⟩ d=10:=SY (by simp[Db]) (by simp[Db]) rfl (by dsimp only;omega)
        go_ret;exact⟨BI (by rw[q.out (by rw[e];omega),e]),rfl⟩)
      |(go_round
        case rel=>exact⟨k+1,d+1,ω,by go_num,by go_num,ω,by rw[v.out (Fu (by simp[Db]) (by simp[Db]) (.inr (by dsimp only;omega)))];simp[Db]⟩
        case measure=>simp[intOf];omega)
    ·go_wp2_with (first|(go_at_call 64;refine(Rx _ _).mono ?_;rintro e w' ⟨rfl,rfl⟩))
     all_goals first
      |(have r:takes op<0:=μ
        have e:bad ⟨op,n⟩ d=3:=XD r;go_ret;exact⟨BI (by rw[q.out (by rw[e];omega),e]),rfl⟩)
      |(have r:(d:Int)<takes op:=μ
        have e:bad ⟨op,n⟩ d=4:=SX (by dsimp only;omega) r;go_ret;exact⟨BI (by rw[q.out (by rw[e];omega),e]),rfl⟩)
      |(go_round
        case rel=>exact⟨k+1,d-(takes op).toNat+1,ω,by go_num,by go_num,ω,by rw[v.out (Fu (by dsimp only;omega) (by dsimp only;omega) (.inl z))]⟩
        case measure=>simp[intOf];omega)
   ·have g:k=η f:=ω;have C:=λs=>IC (f:=f) (d:=d) s (by rw[g,tL lR]at m;exact m.o)
    have D:=C (by rintro rfl;simp at l);have E:=dh D;clear C D g;by_cases j:1<d
    ·go_wp2
     go_ret
     exact⟨BI (by rw[E.out,jd j]),rfl⟩
    ·go_wp2
     go_ret
     exact⟨BI (by rw[E.out,d9 j]),rfl⟩
theorem Ti (A c f w B)(hf:Sl w B 2 A (η f) c (qP f))(hl:η f<=1000000000):
  Calls jJ 26 #[.slice A (η f) c] w λe w'=>e=.returned (.bool (wrong f==0))/\w=w':=by
 go_enter Tryz.func26,Tryz.ntmps26;go_wp2_with (go_at_call 41;refine(abh A c f w B hf hl).mono ?_;rintro e w' ⟨rfl,rfl⟩)
 go_ret
 exact⟨rfl,rfl⟩
theorem Vm {L:List uI}{init:List Nat}{x:BM}(h:(vW f L rows init).nodes[k]? =jB x):
  ∃c,L[k]? =jB c/\x=⟨c.1,c.2.1,aaG f (iE (uw c.2.2.2)),iE (rows.getD k [])⟩:=by
 have a:k<η L:=by have:=(gB.1 h).1;rwa [EL]at this
 have hc:=gE a;refine⟨_,hc,?_⟩;have:=KF (f:=f) (rows:=rows) (init:=init) hc;unfold rQ.at at this;rw[gD,h]at this;exact this
theorem Oh (h:Kj f=0):∃L rows,yh f=jD/\η (uh f)<=16/\JK f=jB (L,rows)/\Kl f=vW f L rows (ζ (η (tC f))):=by
 have b:=h;unfold Kj at h;split at h
 ·cases h
 ·next c=>
  split at h
  ·cases h
  ·split at h
   ·cases h
   ·next d=>
    cases a:JK f with
    |none=>rw[a]at h;cases h
    |some p=>
     obtain⟨L,rows⟩:=p;refine⟨L,rows,by simpa using c,ω,rfl,?_⟩;unfold Kl;rw[jd b,a]
theorem JF (h:yh f=jD):uh f=EK 0 f:=by unfold uh;rw[jd (zm h)]
theorem ahY {L:List uI}(a:yh f=jD)(e:η (uh f)<=16)(d:JK f=jB (L,rows)):tO (vW f L rows (ζ (η (tC f))))=0:=by
 have g:=Yp a (F8 a) d;have hu:=JF a;refine MP (by rw[EL];exact(O3 d).2) ?_ (TI g) (λx h=>?_)
 ·show(0:Int)<=(η (EK 0 f):Int)/\(η (EK 0 f):Int)<=16;rw[<-hu];omega
 ·obtain⟨k,i,rfl⟩:=lZ.1 h;obtain⟨c,_,b⟩:=Vm (gE i);rw[b];show aaG f _<2^(η (EK 0 f):Int).toNat;simpa using Ww f _
theorem and_zero {x y:Nat}(a:x<2^64)(hy:y<2^64)(h:x&&&y=0):bits .and .u64 (x:Int) (y:Int)=0:=by
 have:bits .and .u64 (x:Int) (y:Int)=((x&&&y:Nat):Int):=by
  have hand:x&&&y<2^64:=kJ oO a;show IntKind.u64.wrap ((BitVec.ofInt 64 (x:Int)&&&BitVec.ofInt 64 (y:Int)).toNat:Int)= _;rw[mY,jW,ko,jW,ko,j5 a,j5 hy,IntKind.wrap_u64];omega
 rw[this,h];rfl
theorem J4:Keyed jJ 3:=int_keyed Tryz.underlying3
theorem MF (h: -9223372036854775808<=x/\x<=9223372036854775807):keyOf jJ 3 (.int .i64 x)=jB (.int .i64 x):=
 keyOf_int_mk Tryz.underlying3 (by rw[Lit.wf,show IntKind.i64.min= -9223372036854775808 from rfl,show IntKind.i64.max=9223372036854775807 from rfl];simp;omega)
def Ki (w:jF)(mb:Nat)(L:List Int):Prop:=
 ∃D:DataW Unit,w.ownsMap jJ 3 (plainElem jJ 4) mb (η L) D/\IsMap D/\∀x:Int,D.atKey (.int .i64 x) (.lit (.bool jE))=.lit (.bool (decide (x∈L)))
theorem Ki.lt {L:List Int}(h:Ki w mb L):mb<w.1.size:=by obtain⟨D,a,_⟩:=h;exact a.lt
theorem Ki.keep {L:List Int}(h:Ki w mb L)(a:qW S w w')(hS:¬S mb):Ki w' mb L:=by
 obtain⟨D,⟨es,clock,hb,F,hs,b⟩,c,d⟩:=h;exact⟨D,⟨es,clock,a.blk hb hS,F,hs,b⟩,c,d⟩
theorem Ki.Ho (h:w.1[mb]? =jB (.map #[] 0)):Ki w mb []:=
 ⟨.map [],⟨#[],0,h,⟨ς,MapKept.stamped_empty 0,ς⟩,lR,rfl⟩,isMap_empty,λx=>rfl⟩
theorem Ki.lookup {L:List Int}(h:Ki w mb L)(a: -9223372036854775808<=x/\x<=9223372036854775807):
  (Instr.lookup 143 (.map (jB mb)) (.int .i64 x) jE).run jJ w=.ok (.bool (decide (x∈L))) w:=by
 obtain⟨D,b,_,c⟩:=h;have d:(zeroValue 4).run jJ w=.ok (.bool jE) w:=κ;obtain⟨v,ps,f,hv⟩:=b.lookup J4 Tryz.underlying143 d (plainElem_bool Tryz.underlying4 jE) (MF a);rw[c x]at hv;have e:=Dp Tryz.underlying4 hv;rw[<-e];exact f
theorem Ki.update {L:List Int}(h:Ki w mb L)(a: -9223372036854775808<=x/\x<=9223372036854775807)(hl:η L<=1000000):
  ∃w',(Instr.mapUpdate 143 (.map (jB mb)) (.int .i64 x) (.bool jD)).run jJ w=.ok () w'/\Ki w' mb (L++[x])/\w.grownBy w' (jB mb):=by
 obtain⟨D,c,b,d⟩:=h;obtain⟨w',f,g,i⟩:=c.update J4 Tryz.underlying143 (by unfold maxLen;omega) (MF a) (plainElem_bool Tryz.underlying4 jD);refine⟨w',f,⟨_,by rw[lA];exact g,b.put _ _,λy=>?_⟩,i⟩;by_cases e:y=x
 ·subst e;rw[atKey_put_same b (J4.key (MF a))];simp
 ·rw[atKey_put_other (by simp;exact e),d y];simp[e]
set_option maxHeartbeats 2000000
theorem PS (x:BM)(A n c w):
  Calls jJ 89 #[.agg #[.int .u64 (x.need:Int),.int .u64 (x.ban:Int),.int .u64 (x.inn:Int),.slice A n c]] w (λe w'=>e=.returned (.agg #[.int .u64 (x.need:Int),.int .u64 (x.ban:Int),.int .u64 (x.inn:Int)])/\Below w.1.size w w'):=by
 obtain⟨b,x0,d,z0⟩:=uS w (.cells #[.int .u64 (x.need:Int),.int .u64 (x.ban:Int),.int .u64 (x.inn:Int),.slice A n c] 53) (.cells #[.int .u64 0,.int .u64 0,.int .u64 0] 141);obtain⟨i,g⟩:=xQ ((w.alloc (.cells #[.int .u64 (x.need:Int),.int .u64 (x.ban:Int),.int .u64 (x.inn:Int),.slice A n c] 53)).alloc (.cells #[.int .u64 0,.int .u64 0,.int .u64 0] 141));rw[g]at b x0 d z0;obtain⟨u,y,z,B⟩:=DK x0;obtain⟨m,C,D⟩:=sQ d;have f0:=frozen_of_row i (w.1.size+1) 0 _ _ d;have f1:=frozen_of_row i (w.1.size+1) 1 _ _ d;have f2:=frozen_of_row i (w.1.size+1) 2 _ _ d;have E:w.1.size+1<i.1.size:=ω;have l:=dh g;obtain⟨Y,k⟩:=xQ (((i.setCell ⟨w.1.size+1,0,jC⟩ (.int .u64 (x.need:Int))).setCell ⟨w.1.size+1,1,jC⟩ (.int .u64 (x.ban:Int))).setCell ⟨w.1.size+1,2,jC⟩ (.int .u64 (x.inn:Int)))
 have a:Y.1[w.1.size+1]? =jB (.cells #[.int .u64 (x.need:Int),.int .u64 (x.ban:Int),.int .u64 (x.inn:Int)] 141 (0,0)):=by
  rw[<-k,heap_setCell_same _ _ 2 _ _ _ (heap_setCell_same _ _ 1 _ _ _ (heap_setCell_same i _ 0 _ _ _ d))];rfl
 have j:Below w.1.size w Y:=by
  rw[<-k];exact((b.setCell (p:=⟨w.1.size+1,0,jC⟩) (Nat.le_succ _) _).setCell (p:=⟨w.1.size+1,1,jC⟩) (Nat.le_succ _) _).setCell (p:=⟨w.1.size+1,2,jC⟩) (Nat.le_succ _) _
 obtain⟨q,r,s⟩:=iA k a j;clear g b x0 d z0 k a j;go_enter Tryz.func89,Tryz.ntmps89;go_upto_region 1 with fail
 rw[l.o];go_wp2_with fail
 rw[q.o];obtain⟨g0,g1,g2⟩:=sQ r.o;refine bodyPost_ret (v:=.agg #[.int .u64 (x.need:Int),.int .u64 (x.ban:Int),.int .u64 (x.inn:Int)]) ?_ rfl ?_
 ·simp[results,Tryz.results89,go_sem,g0,g1,g2]
 ·exact⟨rfl,s.o⟩
theorem Jb (h:vI w 3 mb n g)(x)(a: -9223372036854775808<=x/\x<=9223372036854775807)(c):
  (Instr.lookup 118 (.map (jB mb)) (.int .i64 x) c).run jJ w=.ok (if c then .tuple #[(g (.int .i64 x)).getD (.int .i64 0),.bool (g (.int .i64 x)).isSome]else(g (.int .i64 x)).getD (.int .i64 0)) w:=
 h.look c J4 Tryz.underlying118 κ (MF a)
theorem Hy (h:vI w 3 mb n g)(x)(a: -9223372036854775808<=x/\x<=9223372036854775807)(b:n<=1000000)(v):
  ∃w1,(Instr.mapUpdate 118 (.map (jB mb)) (.int .i64 x) v).run jJ w=.ok () w1/\(∀g',NT g g' (.int .i64 x) v->vI w1 3 mb (n+1) g')/\w.grownBy w1 (jB mb):=
 h.update J4 Tryz.underlying118 (by unfold maxLen;omega) (MF a) v
def DX (l:List Int)(i:Nat)(g:Lit->Option Value):Prop:=∀t:Int,g (.int .i64 t)=if t∈l.take i then jB (.int .i64 (wV l t:Int))else jC
theorem DX.zero (l):DX l 0 (λ_=>jC):=λt=>ς
theorem DX.same (h:DX l i g)(hi:i<η l)(hm:l[i]∈l.take i):DX l (i+1) g:=λt=>by
 rw[h t]
 have:(t∈l.take (i+1))↔t∈l.take i:=by
  rw[rE l i hi,ν,mS];exact⟨λe=>e.elim id (λe=>e▸hm),.inl⟩
 simp only[this]
theorem ZM (hi:i<η l)(hm:l[i]∉l.take i):wV l l[i]=i:=by
 refine Ic (nS hi) (λj a=>?_) (λ_=>by simp[θ,hi]);refine decide_eq_false (λe=>hm ?_);rw[gD,gE ω]at e;have e:l[j]=l[i]:=e;rw[<-e];exact lZ.2 ⟨j,by rw[jq];omega,ς⟩
theorem DX.put {g':Lit->Option Value}(h:DX l i g)(hi:i<η l)(hm:l[i]∉l.take i)(hp:NT g g' (.int .i64 l[i]) (.int .i64 (i:Int))):DX l (i+1) g':=λt=>by
 rw[rE l i hi];by_cases e:t=l[i]
 ·subst e;rw[hp.1,jd (kM _ (mS.2 rfl)),ZM hi hm]
 ·rw[hp.2 _ (λh=>e (by injection h)),h t]
  have:(t∈l.take i++[l[i]])↔t∈l.take i:=by
   rw[ν,mS];exact⟨λh=>h.elim id (λh=>absurd h e),.inl⟩
  simp only[this]
set_option maxHeartbeats 8000000
set_option maxRecDepth 100000
def Cq (R:List (List Bool))(l:List Int)(i:Nat)(t u:Int):Prop:=u≠t/\vG R t.toNat u.toNat=jD/\(vG R u.toNat t.toNat=jE\/wV l u<i)
theorem RD {t:Int}(f:l.getD i 0=t):Es R l i=jD↔wV l t=i/\∀u∈l,¬Cq R l i t u:=by
 unfold Es;rw[f,jm,jN,jR];refine and_congr_right (λ_=>⟨λh u hu hw=>?_,λh k a=>?_⟩)
 ·obtain⟨k,a,rfl⟩:=lZ.1 hu;have:=h k (jl.2 a);have e:l.getD k 0=l[k]:=γ;rw[e]at this;obtain⟨b,c,d⟩:=hw
  grind
 ·have g:=jl.1 a;have e:l.getD k 0=l[k]:=γ;rw[e];have:=h l[k] (mM _);by_cases b:l[k]=t
  ·grind
  ·cases c:vG R _ _
   ·simp
   ·cases d:vG R _ _
    ·exact absurd ⟨b,c,.inl d⟩ this
    ·by_cases j:wV l l[k]<i
     ·exact absurd ⟨b,c,.inr j⟩ this
     ·grind
def Cx (R:List (List Bool))(l:List Int)(i:Nat):List Int:=((ζ i).filter (Es R l)).map (λi=>l.getD i 0)
theorem Zn (R l i):Cx R l (i+1)=Cx R l i++(if Es R l i=jD then[l.getD i 0]else[]):=by
 unfold Cx;rw[mh,ku,jT]
 grind
theorem afB (R l i):η (Cx R l i)<=i:=by
 unfold Cx
 grind
def AR (R:List (List Bool))(l:List Int)(i:Nat)(t:Int)(left:Lit->Bool)(b:Bool):Prop:=
 (b=jD->wV l t=i/\∀u∈l,left (.int .i64 u)=jE->¬Cq R l i t u)/\(b=jE->¬(wV l t=i/\∀u∈l,¬Cq R l i t u))
theorem AR.start {t:Int}{b:Bool}(hb:b=decide (wV l t=i))(hl:∀u∈l,left (.int .i64 u)=jD):AR R l i t left b:=by
 subst hb;exact⟨λh=>⟨kD h,λu hu e=>γ⟩,λh e=>of_decide_eq_false h e.1⟩
theorem AR.stop {t:Int}{b:Bool}(h:AR R l i t left b)(a:l.getD i 0=t)(hl:∀kl,left kl=jE):Es R l i=b:=by
 cases b
 ·rw[pR];exact λe=>h.2 rfl ((RD a).1 e)
 ·exact(RD a).2 ⟨(h.1 rfl).1,λu hu=>(h.1 rfl).2 u hu γ⟩
theorem AR.good {t:Int}{b:Bool}(h:AR R l i t left b)(d:¬Cq R l i t x):AR R l i t (λz=>left z&& !z.sameKey (.int .i64 x)) b:=by
 refine⟨λhb=>⟨(h.1 hb).1,λu hu e=>?_⟩,h.2⟩;by_cases a:left (.int .i64 u)=jE
 ·exact(h.1 hb).2 u hu a
 ·have:=by
   have hl:=by simpa using a
   have c:(left _&& !(Lit.int _ u).sameKey _)=jE:=e;rw[hl]at c;simpa[Lit.sameKey]using c
  grind
theorem AR.bad {t:Int}(hm:x∈l)(a:Cq R l i t x):AR R l i t left jE:=
 ⟨λh=>γ,λ_ e=>e.2 x hm a⟩
theorem YM {A:Option Addr}{c:Nat}(h:Gx w B 1 A n c (R.map qV))(l:∀r∈R,η r=η R)(hi:i<η R):
  ∃b o A' c',A=jB ⟨b,o,jC⟩/\w.cell? ⟨b,o+i,jC⟩=jB (.slice A' (η R) c')/\η R<=c'/\c'<=maxLen/\∃b' f,A'=jB ⟨b',f,jC⟩/\∀k,k<η R->w.cell? ⟨b',f+k,jC⟩=jB (.bool (vG R i k)):=by
 obtain⟨b,o,A',n',c',m, -,p,a⟩:=h.at_ (j:=i) (ys:=qV R[i]) γ;have hl:=l _ (mM hi);have q:n'=η R:=by have:=a.len;rw[yV,hl]at this;omega
 subst q;refine⟨b,o,_,_,m,p,a.cap,a.max,?_⟩
 have d:∀k,k<η R->(qV _)[k]? =jB (.bool (vG R i k)):=λk g=>by
  have e:vG R i k=R[i].getD k jE:=by unfold vG;grind
  rw[e];exact uN ω
 obtain⟨b',f,s, -, -⟩:=a.rd.at_ (d 0 ω);refine⟨_,_,s,λk g=>?_⟩;obtain⟨b2,t,u, -,v⟩:=a.rd.at_ (d k g)
 grind
theorem Zm (l A n c Ar nr cr R w B)(hs:Sl w B 1 A n c (qO l))(hR:Gx w B 1 Ar nr cr (R.map qV))(hB:B<=w.1.size)(hn:n=η l)(bL:n<=1000000)(bM:nr=η R)(bN:η R<=1000)(hq:∀r∈R,η r=η R)(hl:∀t∈l,sG (η R) t=jD):
  Calls jJ 88 #[.slice A n c,.slice Ar nr cr] w (FD w (uK R l)):=by
 have p:Below _ w (w.alloc (.map #[] 0)):=bR.alloc lR _;have x0:=heap_alloc_new w (.map #[] 0);have z0:(w.alloc (.map #[] 0)).1.size=w.1.size+1:=ς;let⟨W0,a7⟩:=xQ (w.alloc (.map #[] 0))
 rw[a7]at p x0 z0;obtain⟨aR,aS,au,av,aw⟩:=iC a7 p hs hR (hs.below p hB);have ax:Hd (vI _ 3 _ 0 _):=dh (vI.Ho x0);obtain⟨HL,HQ⟩:=iw hl hq;have a8:=run_makeMap (P:=jJ) 118;have aT:B<=W0.1.size:=ω;have aU:w.1.size<=W0.1.size:=ω
 have ay:∀i (h:i<η l), -9223372036854775808<=l[i]/\l[i]<=9223372036854775807:=λi h=>by
  obtain⟨q,e,hq⟩:=rO (hl _ (mM h));omega
 have az:=dh ay;have bO:=hs.cap;have aV:=hs.max;unfold maxLen at aV;subst hn;clear a7 p x0 z0 hs hR hl hq ay;go_enter Tryz.func88,Tryz.ntmps88;go_upto_region 2 with fail
 rw[aR.o];clear a8;go_wp2
 go_loopw [19] (λi wr=>∃(k m:Nat) (g:Lit->Option _),k<=η l/\m<=k/\i=.int .i64 k/\Hd (vI wr 3 w.1.size m g)/\Hd (DX l k g)/\Hd (qW (λx=>x=w.1.size) W0 wr)) (λi _=>η l-(intOf i).toNat)
 case atStart=>exact⟨0,0,_,ω,lR,rfl,ax,dh (DX.zero l),dh (qW.refl _ _)⟩
 case round=>
  obtain⟨k,m,g,hk,a8,rfl,HG,HF,HT⟩:=hrel;have bP:=HT.size;by_cases s:k<η l
  ·obtain⟨bb,o,rfl,aW,G⟩:=(aw.uQ HT aT ω).rd.at_ (yD s);have wk:IntKind.i64.wrap (k+1)=k+1:=by rw[wI];omega
   have aX:0<=(k:Int):=ω;have aY:k<(η l:Int):=ω;have d:=Jb HG l[k] (az k _) jD;rw[HF _]at d;by_cases hm:l[k]∈l.take k
   ·have ad:=dh (HF.same _ hm);go_wp2
    go_roundw
    case rel=>exact⟨_,m,g,ω,ω,jM _ ω,HG,ad,HT⟩
    case measure=>simp[intOf];omega
   ·let⟨w1,bQ,H,aZ⟩:=Hy HG l[k] (az k _) ω (.int .i64 k)
    let⟨g',hp⟩:=D9 g (.int .i64 l[k]) (.int .i64 k)
    obtain⟨ad,b4,b5⟩:=iA (HF.put _ hm hp) (H _ hp) (HT.grown aZ (λk e _=>(jY e).symm));go_wp2
    go_roundw
    case rel=>exact⟨_,_,_,ω,ω,jM _ ω,b4,ad,b5⟩
    case measure=>simp[intOf];omega
  ·have L:k=η l:=ω;have af:=dh (by have:=HF.o;rwa [L]at this);have hle:¬k<(η l:Int):=ω;have C:=dh (aS.trans (HT.below aU ω));clear L HF
   rename jF=>V
   obtain⟨b6,b9⟩:=iw (au.below C hB) (av.below C hB);have aA:=Nat.le_trans hB C.size;have bc:=HG.lt;have bS:m<=1000000:=ω;clear HT aw ax au av hk a8 s;go_wp2
   clear hle;go_loopw [10,38] (λo i wr=>∃(k:Nat),k<=η l/\i=.int .i64 (k:Int)/\Hd (wr.ownsRow V.1.size 3 1 o (η (Cx R l k)) (qO (Cx R l k)))/\Hd (Below V.1.size V wr)) (λ_ i _=>η l-(intOf i).toNat)
   case atStart=>exact⟨0,ω,rfl,dh (jF.ownsRow_nil _ _ _ _),dh bR⟩
   case round=>
    obtain⟨k,hk,rfl,HO,HB⟩:=hrel;by_cases s:k<η l
    ·obtain⟨Av,cv,rfl, -⟩:=qX HO.o
     rename jF=>U1
     have bd:=HB.size;obtain⟨bb,o,rfl,aW,G⟩:=(b6.rd.below HB aA).at_ (yD s);let⟨tn,M,aB⟩:=rO (HL _ (mM s))
     have wk:IntKind.i64.wrap (k+1)=k+1:=by rw[wI];omega
     have aX:0<=(k:Int):=ω;have aY:k<(η l:Int):=ω;have bh:=dh (M▸mM _);have aC:Hd (l.getD k 0=tn):=dh (by rw[gD,gE s,M];rfl);rw[M]at G;have aD:=HG.blk (HB.block _ bc);have d:=Jb aD tn ω jE;rw[af _,tL lR,jd bh.o]at d;simp at d;obtain⟨D,hD, -,ag⟩:=aD
     have X:∀u∈l,has D _ =jD:=λu hu=>by
      obtain⟨un,rfl,bT⟩:=rO (HL u hu);refine has_true_of_atKey (y:=.held (.int .i64 (wV l un))) (λz=>?_);rw[ag _ _ (MF ω) z,af.o,tL lR,jd hu];rfl
     let⟨b0,p⟩:=xQ ((wV l tn)==(k:Int))
     have aE:Hd (AR R l k tn _ b0):=dh (AR.start (by rw[<-p,lG,lV,jN];omega) X);obtain⟨bj,bm⟩:=iw hD ag;clear M hD ag X;go_wp2_with (at_range;refine wpList_range_own _ rfl _ _ rfl 3 3 J4 rfl _ _ m D rfl bj ?_;intro w0 Y ah bn)
     go_frame
     obtain⟨Z,a1,aF⟩:=iA Y (HB.grown ah HB.size (λj hj=>by cases hj)) (own_below HO ((Below.refl _ _).grown ah lR (λj hj=>by cases hj)));clear d p G Y ah bn;go_loopw [13] (λb wq=>∃(bv:Bool) (left:Lit->Bool) (cnt:Nat),b=.bool bv/\Hd (wq.ranges jJ 3 Rv w.1.size U1.1.size m D left cnt)/\Hd (AR R l k tn left bv)/\Hd (Below V.1.size V wq)/\Hd (wq.ownsRow V.1.size 3 1 (.slice Av (η (Cx R l k)) cv) (η (Cx R l k)) (qO (Cx R l k)))) (λ_ wq=>wq.rangeLeft w.1.size U1.1.size)
     case atStart=>exact⟨_,_,_,rfl,Z,aE,a1,aF⟩
     case round=>
      obtain⟨bv,left,cnt,rfl,E,N,O,Q⟩:=hrel;have aG:=O.size;clear Z aE a1 aF;go_wp2_with (at_next;refine wpList_next_ranges _ rfl _ rfl 3 J4 Rv (Value.int .i64) id (λkey kl hk=>by obtain⟨x,rfl,_⟩:=Maps.keyOf_int_inv Tryz.underlying3 hk;exact⟨x,rfl⟩) (λv y _=>⟨v,rfl⟩) w.1.size U1.1.size m D left cnt rfl E ?_ ?_)
      ·intro G aH;obtain⟨aJ,aK⟩:=iw (N.stop aC aH) (Zn R l k);have hle:=afB R l k;clear G aH;cases bv
       ·go_wp2
        go_roundw
        case rel=>exact⟨k+1,ω,jM _ rfl,dh (by rw[aK.o,aJ.o];simpa using Q.o),O⟩
        case measure=>simp[intOf];omega
       ·have bp:=dh (heap_alloc_new wr (.cells #[.int .i64 (tn:Int)] 3));go_wp2_with (at_builtin;refine rD rfl (.tmp 83) (.tmp 85) 29 rfl V.1.size 3 1 8 rW _ _ _ (Q.alloc _) rfl wr.1.size #[.int .i64 (tn:Int)] rfl bp.out rfl (by simp[Value.oneCell']) ω ω (by simp;omega) ?_;intro u' wA aj bq bH bI;have br:=dh aj;have bu:=dh (O.trans ((qW.trans ((qW.refl _ wr).alloc _) bq (λ_ _ h=>h)).below aG (λq hq e=>by have:=(Q.lt q e).1;omega))))
        go_roundw
        case rel=>exact⟨k+1,ω,jM (Value.int .i64) ω,dh (by rw[aK.o,aJ.o,jd rfl,aC.o,lA,sJ];exact br.o),bu⟩
        case measure=>simp[intOf];omega
      ·intro x v kl y ps wn bJ ak bw aL aM a6 bK H bU aN;obtain⟨x',ex,rfl,bz⟩:=Maps.keyOf_int_inv Tryz.underlying3 ak;cases ex
       have hv:x∈l/\v=.int .i64 (wV l x:Int):=by
        obtain⟨rfl, -⟩:DataW.held v=y/\[]=ps:=by simpa[Rv]using aL
        have S:=bm _ _ ak (.lit (.bool jD));rw[aM,af.o,tL lR]at S;by_cases hm:x∈l
        ·rw[jd hm]at S;exact⟨hm,DataW.held.inj S⟩
        ·rw[d9 hm]at S;cases S
       obtain⟨ao,rfl⟩:=hv;obtain⟨F,rfl,aO⟩:=rO (HL x ao);let⟨fp,T⟩:=xQ (wV l F)
       try simp[id_eq]at aN⊢
       rw[T]at aN;try rw[T]
       have aq:=O.grown H aG (λj hj=>by cases hj;exact bd)
       have aP:=qR Q ((qW.refl _ _).grown H (λq e _=>(jY e).symm)) (λg hg e=>by
        have:=(HO.lt g hg).2;omega)
       have ar:=b9.below aq aA;let⟨bt,ot,At,ct,bA,r0,bV,bW,bX,bY,bB,r1⟩:=YM ar HQ aB
       let⟨bx,ox,Ax,cx,bE,r2,bZ,c0,c4,c5,bF,r3⟩:=YM ar HQ aO
       have t1:=r1 _ aO;have t2:=r3 _ aB
       have I:Hd (Cq R l k tn F↔F≠tn/\vG R _ _ =jD/\(vG R _ _ =jE\/fp<k)):=dh (by
        unfold Cq;rw[tN,tN,T];refine and_congr_left (λ_=>?_);omega)
       obtain⟨a,J,K,aQ⟩:=iB a6 aq aP ao;subst bA;cases bE;subst bB bF;have x0:0<=(F:Int):=ω;have x1:F<(η R:Int):=ω;have y0:0<=(tn:Int):=ω;have y1:tn<(η R:Int):=ω;clear a6 aq aP ao T bw aL aM ak bz H ar r1 r3;by_cases S:F=tn
       ·have U:Hd (¬Cq R l k _ _):=dh (λh=>(I.1 h).1 S);have W:=dh (N.good U.o);go_wp2
        go_roundw
        case rel=>exact⟨_,_,_,rfl,a,W,J,K⟩
        case measure=>rwa [a.left_eq,E.left_eq]
       ·have e1:(F !=(tn:Int))=jD:=by simp;omega
        have e2:(F==(tn:Int))=jE:=by simp;omega
        have H1:=dh S;clear S;cases h2:vG R tn F
        ·have U:Hd (¬Cq R l k _ _):=dh (λh=>by have:=(I.1 h).2.1;rw[h2]at this;cases this);have W:=dh (N.good U.o);go_wp2
         go_roundw
         case rel=>exact⟨_,_,_,rfl,a,W,J,K⟩
         case measure=>rwa [a.left_eq,E.left_eq]
        ·rw[h2]at t1;have H2:=dh h2;clear h2;cases h3:vG R F tn
         ·rw[h3]at t2;have U:=dh (I.2 ⟨H1.o,H2.o,.inl h3⟩);clear h3;have W:Hd (AR R l k _ (λz=>left z&& !z.sameKey (.int .i64 F)) _):=dh (AR.bad aQ U.o);go_wp2
          go_roundw
          case rel=>exact⟨_,_,_,rfl,a,W,J,K⟩
          case measure=>rwa [a.left_eq,E.left_eq]
         ·rw[h3]at t2;by_cases h4:fp<k
          ·have e4:fp<(k:Int):=ω;have U:=dh (I.2 ⟨H1.o,H2.o,.inr h4⟩);clear h3 h4;have W:Hd (AR R l k _ (λz=>left z&& !z.sameKey (.int .i64 F)) _):=dh (AR.bad aQ U.o);go_wp2
           go_roundw
           case rel=>exact⟨_,_,_,rfl,a,W,J,K⟩
           case measure=>rwa [a.left_eq,E.left_eq]
          ·have e4:¬fp<(k:Int):=ω
           have U:Hd (¬Cq R l k _ _):=dh (λh=>by
            rcases(I.1 h).2.2 with h5|h5
            ·rw[h3]at h5;cases h5
            ·exact h4 h5)
           clear h3 h4;have W:=dh (N.good U.o);go_wp2
           go_roundw
           case rel=>exact⟨_,_,_,rfl,a,W,J,K⟩
           case measure=>rwa [a.left_eq,E.left_eq]
    ·have L:k=η l:=ω;have bG:Hd (wr.ownsRow _ 3 1 _ (η (uK R l)) (qO (uK R l))):=dh (by have:=HO.o;rwa [L]at this);go_wp2
     go_ret
     exact⟨_,rfl,rC bG C.size,C.trans (HB.mono C.size)⟩
