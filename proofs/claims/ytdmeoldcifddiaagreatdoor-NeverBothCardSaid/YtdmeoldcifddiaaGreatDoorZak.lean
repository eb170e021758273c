/- A part of the proof. -/
import Derived.Test.YtdmeoldcifddiaaGreatDoorMk
import Derived.Test.YtdmeoldcifddiaaGreatDoorZah
import Derived.IntWalk
import Derived.Test.YtdmeoldcifddiaaGreatDoorZai
import Derived.Test.YtdmeoldcifddiaaGreatDoorZaj
import Derived.Test.YtdmeoldcifddiaaGreatDoorZad
import Derived.RangeFuncBox
/- The walks of layer 3 (sets of small numbers): New, Len, Has, Put. -/
set_option maxHeartbeats 400000
namespace Go.Proofs.YtdmeoldcifddiaaGreatDoor
open Go.RowKit
open Go.Value renaming slice -> iX, int -> iY, pointer -> jH, bool -> jI
open Go.IntKind renaming i64 -> iZ, u64 -> jA
open Option renaming some -> jB, none -> jC
open Bool renaming true -> jD, false -> jE
open Go renaming World -> jF
open Go.Obj renaming cells -> jG
open Go.Proofs.Tryz renaming prog -> jJ
open List renaming length -> η, replicate -> ρ, range -> ζ, getD -> θ
variable {a:rQ}{E:List (List Nd)}{asks:List (Nat->Bool)}{D:List Int}{ins l of place:List Nat}{N X b base c i j k m n q qi ql qn qp qx t u x y:Nat}{r:Nat->Nat}{S:Nat->Prop}{xo:Obj}{A:Option Addr}{s:Sc}{EA vs vs' vw M4:Value}{w w' w1:jF}
theorem UG (a:x<2^64):bits .and jA (x:Int) 1=((x%2:Nat):Int):=by
 show IntKind.u64.wrap ((BitVec.ofInt 64 (x:Int)&&&BitVec.ofInt 64 ((1:Nat):Int)).toNat:Int)= _;rw[mY,jW,ko,jW,ko,j5 a,j5 ω,qG,IntKind.wrap_u64];omega
theorem ahO (a:x<2^64):(bits .and jA ((x:Int)/2^j) 1==1)=x.testBit j:=by
 have e:(x:Int)/2^j=((x/2^j:Nat):Int):=ς;rw[e,UG (kJ (Nat.div_le_self _ _) a),Nat.testBit_eq_decide_div_mod_eq,lG];simp;omega
theorem OG (a:j<64):IntKind.u64.wrap (2^j)=((2^j:Nat):Int):=by
 have hp:2^j<=2^63:=lI ω ω;have e2:(2:Int)^j=((2^j:Nat):Int):=ς;rw[IntKind.wrap_u64,e2];generalize 2^j=c at hp⊢;omega
theorem G7 (a:j<64):2^j<2^64:=oF ω a
theorem or_bit (a:x<2^64)(hy:y<2^64):bits .or jA (x:Int) (y:Int)=((x|||y:Nat):Int):=by
 have b:=nP a hy;show IntKind.u64.wrap ((BitVec.ofInt 64 (x:Int)|||BitVec.ofInt 64 (y:Int)).toNat:Int)= _;rw[BitVec.toNat_or,jW,ko,jW,ko,j5 a,j5 hy,IntKind.wrap_u64];omega
def OM (W:List Nat):List Value:=W.map (λ(x:Nat)=>iY jA (x:Int))
def Cr (S q n:Nat)(W:List Nat)(w:jF):Prop:=
 w.1[S]? =jB (jG #[iY iZ n,iX (jB ⟨q,0,jC⟩) (η W) (η W)] 177 (0,0))/\w.ownsRow 0 45 1 (iX (jB ⟨q,0,jC⟩) (η W) (η W)) (η W) (OM W)/\
  η W=(n+63)/64/\(∀x∈W,x<2^64)/\n<=65536
theorem ah6 {g T:Nat}{a b:Value}(h:w.1[g]? =jB (jG #[a,b] T (0,0))):(w.cell? ⟨g,0,jC⟩=jB a/\w.cell? ⟨g,1,jC⟩=jB b)/\(w.frozen? ⟨g,0,jC⟩=jE/\w.frozen? ⟨g,1,jC⟩=jE)/\g<w.1.size:=
 ⟨⟨by rw[cell_of_row w g 0 _ _ _ h];rfl,by rw[cell_of_row w g 1 _ _ _ h];rfl⟩,⟨frozen_of_row w g 0 _ _ h,frozen_of_row w g 1 _ _ h⟩,lt_of_block h⟩
theorem ajJ:(Tryz.prog.info? 45).map (λi=>(i.zero,i.size,i.bytes))=jB (jB (iY jA 0),1,8):=κ
section
variable {S q n:Nat}{W:List Nat}{w w':jF}
theorem Cr.below (h:Cr S q n W w)(hb:Below w.1.size w w'):Cr S q n W w':=
 ⟨(hb.block S (lt_of_block h.1)).trans h.1,own_below h.2.1 hb,h.2.2⟩
theorem Cr.uQ {F:Nat->Prop}(h:Cr S q n W w)(a:qW F w w')(c:¬F S)(d:¬F q):Cr S q n W w':=
 ⟨a.blk h.1 c,qR h.2.1 a (λg b=>by simp[Value.ownBlock]at b;subst b;exact d),h.2.2⟩
theorem Cr.ne (h:Cr S q n W w):S≠q:=λe=>qQ h.2.1 h.1 δ (by rw[e];rfl)
theorem Cr.lt (h:Cr S q n W w):S<w.1.size/\q<w.1.size:=⟨lt_of_block h.1,(h.2.1.lt q rfl).2⟩
theorem Cr.at_ (h:Cr S q n W w)(a:j<η W):w.cell? ⟨q,j,jC⟩=jB (iY jA (W.getD j 0:Nat))/\w.frozen? ⟨q,j,jC⟩=jE/\W.getD j 0<2^64:=by
 refine⟨?_,h.2.1.frozenAt j,?_⟩
 ·rw[h.2.1.cellAt j ω,OM,kR,gE a];simp[θ,a]
 ·simp only[θ,gE a,jS];exact h.2.2.2.1 _ (mM a)
theorem Cr.set (h:Cr S q n W w)(j x:Nat)(c:x<2^64):Cr S q n (W.set j x) (w.setCell ⟨q,j,jC⟩ (iY jA (x:Int)))/\qW (λk=>k=q) w (w.setCell ⟨q,j,jC⟩ (iY jA (x:Int))):=by
 have b:qW (λk=>k=q) w (w.setCell ⟨q,j,jC⟩ (iY jA (x:Int))):=qW.setCell (S:=λk=>k=q) (p:=⟨q,j,jC⟩) (qW.refl _ w) (λ_=>rfl) _;refine⟨⟨?_,?_,by rw[nE];exact h.2.2.1,λy hy=>?_,h.2.2.2.2⟩,b⟩
 ·rw[nE];exact b.blk h.1 h.ne
 ·have:=(h.2.1.stored j (iY jA (x:Int))).1;rw[nE];simpa[OM,lX]using this
 ·rcases List.mem_or_eq_of_mem_set hy with a|a
  ·exact h.2.2.2.1 y a
  ·rw[a];exact c
end
theorem agd (n k:Nat)(w)(c:n<=65536)(b:k=(n+63)/64):Calls jJ 80 #[iY iZ (n:Int)] w λe w'=>e=.returned (jH (jB ⟨w.1.size+1,0,jC⟩))/\w'=(w.alloc (jG (madeCells #[iY jA 0] k) 45)).alloc (jG #[iY iZ (n:Int),iX (jB ⟨w.1.size,0,jC⟩) k k] 177):=by
 have d1:decide ((65536:Int)<(n:Int))=jE:=by simp;omega
 have d2:decide ((n:Int)<0)=jE:=ς;have a:=run_make_row' (P:=jJ) 23 45 (iY jA 0) 8 Tryz.underlying23 ajJ rfl iZ iZ k ω ω;have e:((n:Int)+64-1)/64=(k:Int):=ω;simp only[<-e]at a;clear e b;go_enter Tryz.func80,Tryz.ntmps80;go_wp2
 go_ret
 exact⟨rfl,rfl⟩
theorem Xw (S q n:Nat)(W:List Nat)(w:jF)(h:Cr S q n W w):Calls jJ 124 #[jH (jB ⟨S,0,jC⟩)] w λe w'=>e=.returned (iY iZ (n:Int))/\w=w':=by
 obtain⟨⟨a,c1⟩,_,hS⟩:=ah6 h.1;clear h;go_enter Tryz.func124,Tryz.ntmps124;go_wp2
 go_ret
 exact⟨rfl,rfl⟩
def yU (W:List Nat)(i:Nat):Bool:=(W.getD (i/64) 0).testBit (i%64)
theorem Xy (S q n:Nat)(W:List Nat)(i:Nat)(w:jF)(h:Cr S q n W w)(hi:i<n):Calls jJ 85 #[jH (jB ⟨S,0,jC⟩),iY iZ (i:Int)] w λe w'=>e=.returned (jI (yU W i))/\w=w':=by
 have a:=dh (Xw S q n W w h);obtain⟨⟨d,c1⟩,_,hS⟩:=ah6 h.1;have b:i/64<η W:=by rw[h.2.2.1];omega
 obtain⟨c2,_,hb⟩:=h.at_ b;have c:η W<=1024:=by rw[h.2.2.1];have:=h.2.2.2.2;omega
 unfold yU;generalize W.getD (i/64) 0=x at *;have d1:decide ((i:Int)<(n:Int))=jD:=by simp;omega
 clear h;go_enter Tryz.func85,Tryz.ntmps85;go_wp2_with fail
 refine Calls.mono a ?_;rintro e w1 ⟨rfl,rfl⟩;go_wp2
 go_ret
 exact⟨rH (ahO hb),rfl⟩
def aj4 (S q n:Nat)(W:List Nat)(b:Bool)(w:jF)(en:Ending)(w':jF):Prop:=en=.returned (jI b)/\Cr S q n W w'/\qW (λk=>k=q) w w'
def Q8 (W:List Nat)(i:Nat):List Nat:=if yU W i=jD then W else W.set (i/64) (W.getD (i/64) 0|||2^(i%64))
theorem af9 (S q n:Nat)(W:List Nat)(i:Nat)(w:jF)(h:Cr S q n W w)(hi:i<n):Calls jJ 83 #[jH (jB ⟨S,0,jC⟩),iY iZ (i:Int)] w (aj4 S q n (Q8 W i) (!yU W i) w):=by
 obtain⟨D,E⟩:=iw (Xw S q n W w h) (Xy S q n W i w h hi);have d1:decide ((n:Int)<=(i:Int))=jE:=by simp;omega
 have d2:decide ((i:Int)<0)=jE:=ς;cases hb:yU W i
 ·have b:Q8 W i=W.set (i/64) (W.getD (i/64) 0|||2^(i%64)):=by rw[Q8,hb];rfl
  obtain⟨m,s⟩:=iw b hb;obtain⟨⟨L,c1⟩,_,hS⟩:=ah6 h.1;have H:i/64<η W:=by rw[h.2.2.1];omega
  obtain⟨c2,f2,k⟩:=h.at_ H;have l:i%64<64:=qI _ ω;have j:=h.set (i/64) (W.getD (i/64) 0|||2^(i%64)) (nP k (G7 l))
  have I:η W<=1024:=by rw[h.2.2.1];have:=h.2.2.2.2;omega
  have d:Op.shift .shl jA 1 iZ ((i%64:Nat):Int)=pure (iY jA ((2^(i%64):Nat):Int)):=by
   rw[shift_shl jA iZ 1 _ ω (by show((i%64:Nat):Int)<=64;omega),tN,Int.one_mul,OG l]
  have g:=or_bit k (G7 l);have c:=or_bit k (G7 l);rw[<-OG l]at c;have t:=dh c;clear c;have e1:IntKind.i64.wrap ((i:Int)/64)=((i/64:Nat):Int):=by rw[IntWalk.i64_in _ (by have:=h.2.2.2.2;omega)];omega
  have e2:((i:Int)).tmod 64=((i%64:Nat):Int):=by rw[nN ω];omega
  have hpl:=G7 l;generalize 2^(i%64)=p at *;generalize W.getD (i/64) 0=x at *;generalize u:i/64=a at *;generalize v:i%64=r at *;have M:=h.lt.2;have i0:(0:Int)<=(a:Int):=ω;have i1:(a:Int)<(η W:Int):=ω;clear u v;have F:=dh j;clear h b hb j;obtain⟨y,J,z,B⟩:=iB d g e1 e2;clear d g e1 e2;go_enter Tryz.func83,Tryz.ntmps83;go_wp2_with fail
  refine Calls.mono D ?_;rintro e w1 ⟨rfl,rfl⟩;go_wp2_with fail
  refine Calls.mono E ?_;rw[s.o];rintro e w1 ⟨rfl,rfl⟩;go_wp2_with fail
  have d:=y.o;have g:=J.o;have e1:=z.o;have e2:=B.o;refine sM (S:=λw'=>q9 w' S 1 (iX (jB ⟨q,0,jC⟩) (η W) (η W))/\q9 w' q a (iY jA (x:Int))) 13 κ ⟨c1,c2⟩ (λhS=>?_);refine rT 0 ?_;refine rT 1 ?_;refine rT 2 ?_;refine rT 3 ?_;refine rT 4 ?_;refine rT 5 ?_;refine rT 6 ?_;refine rT 7 ?_;refine rT 8 ?_;refine rT 9 ?_;refine rT 10 ?_;refine rT 11 ?_;refine rT 12 ?_;refine sN rfl κ κ (λK G=>?_);go_simp;refine G _ _ ?_;clear G;clear d g e1 e2;go_wp2
  go_ret
  rw[t.o];exact⟨rfl,by rw[m.o];exact F.1.below (Below.drew bR),qW.drewN F.2 1⟩
 ·have b:Q8 W i=W:=by rw[Q8,hb];rfl
  obtain⟨m,s,C⟩:=iA b hb h;clear b hb h;go_enter Tryz.func83,Tryz.ntmps83;go_wp2_with fail
  refine Calls.mono D ?_;rintro e w1 ⟨rfl,rfl⟩;go_wp2_with fail
  refine Calls.mono E ?_;rw[s.o];rintro e w1 ⟨rfl,rfl⟩;go_wp2
  go_ret
  exact⟨rfl,by rw[m.o];exact C.o,qW.refl _ _⟩
theorem aeT {ne:Nat}{d:Int}(h:w.ownsRow base 3 1 (iX (jB ⟨q,0,jC⟩) ne ne) ne (qO D)):
  (w.setCell ⟨q,t,jC⟩ (iY iZ d)).ownsRow base 3 1 (iX (jB ⟨q,0,jC⟩) ne ne) ne (qO (D.set t d)):=by
 have:=(h.stored t (iY iZ d)).1;rw[qO,lX];exact this
theorem aeV {ne:Nat}(h:w.ownsRow base 3 1 (iX (jB ⟨q,0,jC⟩) ne ne) ne (qO D))(a:t<ne):
  w.cell? ⟨q,t,jC⟩=jB (iY iZ (D.getD t 0))/\w.frozen? ⟨q,t,jC⟩=jE/\q<w.1.size/\η D=ne:=by
 have hl:η D=ne:=by have:=h.1;simpa[qO]using this
 refine⟨?_,h.frozenAt t,(h.lt q rfl).2,hl⟩;rw[h.cellAt t ω];simp[qO,θ,hl,a]
theorem sD (b o v):qW (λk=>k=b) w (w.setCell ⟨b,o,jC⟩ v):=qW.setCell (S:=λk=>k=b) (p:=⟨b,o,jC⟩) (qW.refl _ w) (λ_=>rfl) v
def DS (qf qd B:Nat):Nat->Prop:=λk=>k=qf\/k=qd\/B<=k
structure ajA (wR:jF)(qf qd Sd ne:Nat)(v:Value)(s:List Int×List Int)(p:Nat)(wr:jF):Prop where
 far:wr.ownsRow 0 3 1 (iX (jB ⟨qf,0,jC⟩) ne ne) ne (qO s.1)
 nx:wr.ownsRow wR.1.size 3 1 v (η (s.2.drop p)) (qO (s.2.drop p))
 dn:∃W,Cr Sd qd ne W wr
 t:qW (DS qf qd wR.1.size) wR wr
section
variable {wR w w' w1 w2:jF}{qf qd Sd ne p:Nat}{v:Value}{s:List Int×List Int}
theorem ajA.below (h:ajA wR qf qd Sd ne v s p w)(hb:Below w.1.size w w'):ajA wR qf qd Sd ne v s p w':=by
 obtain⟨W,a⟩:=h.dn;refine⟨own_below h.far hb,own_below h.nx hb,⟨W,a.below hb⟩,qW.trans h.t (qW.of_below hb) (λi hi hS=>?_)⟩;have:=h.t.size;omega
theorem DS.up {qf qd B B':Nat}(hi:i<B)(a:B<=B')(h:DS qf qd B' i):DS qf qd B i:=by rcases h with h|h|h;exact .inl h;exact .inr (.inl h);omega
end
structure yM (X:Nat)(xo:Obj)(base b:Nat)(EA:Value)(N qn ql qx qi qp:Nat)(vs vw:Value)(s:Sc)(w:jF):Prop where
 blk:w.1[b]? =jB (jG #[EA,iX (jB ⟨qn,0,jC⟩) N N,iX (jB ⟨ql,0,jC⟩) N N,iX (jB ⟨qx,0,jC⟩) N N,vs,vw,iX (jB ⟨qi,0,jC⟩) N N,iX (jB ⟨qp,0,jC⟩) N N,iY iZ (s.cnt:Int)] 241 (0,0))
 num:w.ownsRow base 3 1 (iX (jB ⟨qn,0,jC⟩) N N) N (qO (iE s.num))
 low:w.ownsRow base 3 1 (iX (jB ⟨ql,0,jC⟩) N N) N (qO (iE s.low))
 uW:w.ownsRow base 3 1 (iX (jB ⟨qx,0,jC⟩) N N) N (qO (iE s.uW))
 prt:w.ownsRow base 3 1 (iX (jB ⟨qp,0,jC⟩) N N) N (qO (iE s.prt))
 inn:w.ownsRow base 4 1 (iX (jB ⟨qi,0,jC⟩) N N) N (qV s.inn)
 stk:w.ownsRow base 3 1 vs (η s.stk) (qO (iE s.stk))
 way:w.ownsRow base 3 1 vw (η s.way) (qO (iE s.way))
 bb:base<=b
 d:qn≠ql/\qn≠qx/\qn≠qp/\ql≠qx/\ql≠qp/\qx≠qp
 ds:∀g,vs.ownBlock=jB g->g≠qn/\g≠ql/\g≠qx/\g≠qp
 dw:∀g,vw.ownBlock=jB g->g≠qn/\g≠ql/\g≠qx/\g≠qp/\vs.ownBlock≠jB g
 xo:w.1[X]? =jB xo
 xd:X≠b/\X≠qn/\X≠ql/\X≠qx/\X≠qi/\X≠qp/\vs.ownBlock≠jB X/\vw.ownBlock≠jB X
theorem Sg (l:List Nat)(k:Nat):(iE l).getD k 0=((l.getD k 0:Nat):Int):=by
 unfold iE
 grind
theorem afs (l)(k v:Nat):iE (l.set k v)=(iE l).set k (v:Int):=by simp[iE]
section
variable {X:Nat}{xo:Obj}{base b:Nat}{EA:Value}{N qn ql qx qi qp:Nat}{vs vw:Value}{s:Sc}{w w':jF}
theorem ahe (h:w.ownsRow base 3 1 (iX (jB ⟨q,0,jC⟩) N N) N (qO (iE l))):η l=N:=by have:=h.1;simpa[qO,iE]using this
theorem uU (h:w.ownsRow base 3 1 (iX (jB ⟨q,0,jC⟩) N N) N (qO (iE l)))(a:k<N):w.cell? ⟨q,k,jC⟩=jB (iY iZ ((l.getD k 0:Nat):Int))/\w.frozen? ⟨q,k,jC⟩=jE/\q<w.1.size:=by
 obtain⟨b,c,d,_⟩:=aeV h a;rw[Sg]at b
 grind
theorem G8 {v:Nat}(h:w.ownsRow base 3 1 (iX (jB ⟨q,0,jC⟩) N N) N (qO (iE l))):(w.setCell ⟨q,k,jC⟩ (iY iZ (v:Int))).ownsRow base 3 1 (iX (jB ⟨q,0,jC⟩) N N) N (qO (iE (l.set k v))):=by
 rw[afs];exact aeT h
theorem yM.far (h:yM X xo base b EA N qn ql qx qi qp vs vw s w):qn≠b/\ql≠b/\qx≠b/\qp≠b/\qi≠b/\vs.ownBlock≠jB b/\vw.ownBlock≠jB b/\b<w.1.size:=by
 have key:∀{q} {e} {xs},w.ownsRow base e 1 (iX (jB ⟨q,0,jC⟩) N N) N xs->e≠241->q≠b:=λc a e=>qQ c h.blk a (by rw[e];rfl)
 exact⟨key h.num δ,key h.low δ,key h.uW δ,key h.prt δ,key h.inn δ,qQ h.stk h.blk δ,qQ h.way h.blk δ,(aI.1 h.blk).1⟩
theorem yM.Xh (h:yM X xo base b EA N qn ql qx qi qp vs vw s w):qi≠qn/\qi≠ql/\qi≠qx/\qi≠qp/\vs.ownBlock≠jB qi/\vw.ownBlock≠jB qi:=by
 have key:∀{q} {xs},w.ownsRow base 3 1 (iX (jB ⟨q,0,jC⟩) N N) N xs->qi≠q:=λa e=>own_ne h.inn a δ qi rfl (by rw[e];rfl)
 exact⟨key h.num,key h.low,key h.uW,key h.prt,λe=>own_ne h.stk h.inn δ _ e rfl,λe=>own_ne h.way h.inn δ _ e rfl⟩
theorem yM.cells (h:yM X xo base b EA N qn ql qx qi qp vs vw s w):w.cell? ⟨b,0,jC⟩=jB EA/\w.cell? ⟨b,1,jC⟩=jB (iX (jB ⟨qn,0,jC⟩) N N)/\w.cell? ⟨b,2,jC⟩=jB (iX (jB ⟨ql,0,jC⟩) N N)/\w.cell? ⟨b,3,jC⟩=jB (iX (jB ⟨qx,0,jC⟩) N N)/\w.cell? ⟨b,4,jC⟩=jB vs/\w.cell? ⟨b,5,jC⟩=jB vw/\w.cell? ⟨b,6,jC⟩=jB (iX (jB ⟨qi,0,jC⟩) N N)/\w.cell? ⟨b,7,jC⟩=jB (iX (jB ⟨qp,0,jC⟩) N N)/\w.cell? ⟨b,8,jC⟩=jB (iY iZ (s.cnt:Int)):=by
 refine⟨?_,?_,?_,?_,?_,?_,?_,?_,?_⟩<;>(rw[cell_of_row _ _ _ _ _ _ h.blk];rfl)
theorem yM.soft (h:yM X xo base b EA N qn ql qx qi qp vs vw s w)(o):w.frozen? ⟨b,o,jC⟩=jE:=frozen_of_row w b o _ _ h.blk
theorem yM.swap (h:yM X xo base b EA N qn ql qx qi qp vs vw s w){c:Nat}{a:Obj}(d:w.1[c]? =jB a)(f:c<base):yM c a base b EA N qn ql qx qi qp vs vw s w:=by
 have g:=(h.num.lt qn rfl).1;have i:=(h.low.lt ql rfl).1;have j:=(h.uW.lt qx rfl).1;have k:=(h.inn.lt qi rfl).1;have l:=(h.prt.lt qp rfl).1;have m:=h.bb;exact {h with xo:=d,xd:=⟨ω,ω,ω,ω,ω,ω,λe=>by have:=(h.stk.lt _ e).1;omega,λe=>by have:=(h.way.lt _ e).1;omega⟩}
theorem yM.fresh (h:yM X xo base b EA N qn ql qx qi qp vs vw s w)(o):yM w.1.size o base b EA N qn ql qx qi qp vs vw s (w.alloc o):=by
 have g:=(h.num.lt qn rfl).2;have i:=(h.low.lt ql rfl).2;have j:=(h.uW.lt qx rfl).2;have k:=(h.inn.lt qi rfl).2;have l:=(h.prt.lt qp rfl).2;have a:=h.far.2.2.2.2.2.2.2
 have c:yM X xo base b EA N qn ql qx qi qp vs vw s (w.alloc o):=by
  have key:∀{e} {v} {n} {xs},w.ownsRow _ e 1 v n _->(w.alloc o).ownsRow base e 1 v n xs:=λf=>yF f
  exact⟨tH a h.blk,key h.num,key h.low,key h.uW,key h.prt,key h.inn,key h.stk,key h.way,h.bb,h.d,h.ds,h.dw,tH (aI.1 h.xo).1 h.xo,h.xd⟩
 exact {c with xo:=heap_alloc_new w o,xd:=⟨ω,ω,ω,ω,ω,ω,λe=>by have:=(h.stk.lt _ e).2;omega,λe=>by have:=(h.way.lt _ e).2;omega⟩}
theorem yM.uQ (h:yM X xo base b EA N qn ql qx qi qp vs vw s w)(a:qW S w w')(hS:∀k,k<w.1.size->¬S k):yM X xo base b EA N qn ql qx qi qp vs vw s w':=by
 have key:∀{e} {v} {n} {xs},w.ownsRow _ e 1 v n _->w'.ownsRow base e 1 v n xs:=λc=>qR c a (λg f=>hS g (c.lt g f).2)
 exact⟨a.blk h.blk (hS b h.far.2.2.2.2.2.2.2),key h.num,key h.low,key h.uW,key h.prt,key h.inn,key h.stk,key h.way,h.bb,h.d,h.ds,h.dw,a.blk h.xo (hS X (aI.1 h.xo).1),h.xd⟩
theorem yM.ag0 (h:yM X xo base b EA N qn ql qx qi qp vs vw s w)(k v:Nat){x:Int}(f:x=(v:Int)):yM X xo base b EA N qn ql qx qi qp vs vw {s with num:=s.num.set k v} (w.setCell ⟨qn,k,jC⟩ (iY iZ x)):=by
 subst f;have a:=sD (w:=w) qn k (iY iZ v);let⟨f1,f2,f3,f4,f5,f6,f7,f8⟩:=h.far
 let⟨g1,g2,g3,g4,g5,g6⟩:=h.Xh
 let⟨d1,d2,d3,d4,d5,d6⟩:=h.d
 have hv:∀{e:TypeId} {q:Nat} {xs:List Value},w.ownsRow base e 1 (iX (jB ⟨q,0,jC⟩) N N) N xs->q≠qn->(w.setCell ⟨qn,k,jC⟩ (iY iZ (v:Int))).ownsRow base e 1 (iX (jB ⟨q,0,jC⟩) N N) N xs:=
  λi j=>qR i a (λg c e=>by simp[Value.ownBlock]at c;omega)
 exact⟨a.blk h.blk (λe=>ω),G8 h.num,hv h.low ω,hv h.uW ω,hv h.prt ω,hv h.inn ω,qR h.stk a (λg c e=>by have:=h.ds g c;omega),qR h.way a (λg c e=>by have:=h.dw g c;omega),h.bb,h.d,h.ds,h.dw,a.blk h.xo (λe=>by have:=h.xd;omega),h.xd⟩
theorem yM.aas (h:yM X xo base b EA N qn ql qx qi qp vs vw s w)(k v:Nat){x:Int}(f:x=(v:Int)):yM X xo base b EA N qn ql qx qi qp vs vw {s with low:=s.low.set k v} (w.setCell ⟨ql,k,jC⟩ (iY iZ x)):=by
 subst f;have a:=sD (w:=w) ql k (iY iZ v);let⟨f1,f2,f3,f4,f5,f6,f7,f8⟩:=h.far
 let⟨g1,g2,g3,g4,g5,g6⟩:=h.Xh
 let⟨d1,d2,d3,d4,d5,d6⟩:=h.d
 have hv:∀{e} {q} {xs},w.ownsRow _ e 1 _ N _->q≠ql->(w.setCell _ _).ownsRow base e 1 (iX (jB ⟨q,0,jC⟩) N N) N xs:=
  λi j=>qR i a (λg c e=>by simp[Value.ownBlock]at c;omega)
 exact⟨a.blk h.blk (λe=>ω),hv h.num ω,G8 h.low,hv h.uW ω,hv h.prt ω,hv h.inn ω,qR h.stk a (λg c e=>by have:=h.ds g c;omega),qR h.way a (λg c e=>by have:=h.dw g c;omega),h.bb,h.d,h.ds,h.dw,a.blk h.xo (λe=>by have:=h.xd;omega),h.xd⟩
theorem yM.agZ (h:yM X xo base b EA N qn ql qx qi qp vs vw s w)(k v:Nat){x:Int}(f:x=(v:Int)):yM X xo base b EA N qn ql qx qi qp vs vw {s with uW:=s.uW.set k v} (w.setCell ⟨qx,k,jC⟩ (iY iZ x)):=by
 subst f;have a:=sD (w:=w) qx k (iY iZ v);let⟨f1,f2,f3,f4,f5,f6,f7,f8⟩:=h.far
 let⟨g1,g2,g3,g4,g5,g6⟩:=h.Xh
 let⟨d1,d2,d3,d4,d5,d6⟩:=h.d
 have hv:∀{e} {q} {xs},w.ownsRow _ e 1 _ N _->q≠qx->(w.setCell _ _).ownsRow base e 1 (iX (jB ⟨q,0,jC⟩) N N) N xs:=
  λi j=>qR i a (λg c e=>by simp[Value.ownBlock]at c;omega)
 exact⟨a.blk h.blk (λe=>ω),hv h.num ω,hv h.low ω,G8 h.uW,hv h.prt ω,hv h.inn ω,qR h.stk a (λg c e=>by have:=h.ds g c;omega),qR h.way a (λg c e=>by have:=h.dw g c;omega),h.bb,h.d,h.ds,h.dw,a.blk h.xo (λe=>by have:=h.xd;omega),h.xd⟩
theorem yM.agY (h:yM X xo base b EA N qn ql qx qi qp vs vw s w)(k v:Nat){x:Int}(f:x=(v:Int)):yM X xo base b EA N qn ql qx qi qp vs vw {s with prt:=s.prt.set k v} (w.setCell ⟨qp,k,jC⟩ (iY iZ x)):=by
 subst f;have a:=sD (w:=w) qp k (iY iZ v);let⟨f1,f2,f3,f4,f5,f6,f7,f8⟩:=h.far
 let⟨g1,g2,g3,g4,g5,g6⟩:=h.Xh
 let⟨d1,d2,d3,d4,d5,d6⟩:=h.d
 have hv:∀{e} {q} {xs},w.ownsRow _ e 1 _ N _->q≠qp->(w.setCell _ _).ownsRow base e 1 (iX (jB ⟨q,0,jC⟩) N N) N xs:=
  λi j=>qR i a (λg c e=>by simp[Value.ownBlock]at c;omega)
 exact⟨a.blk h.blk (λe=>ω),hv h.num ω,hv h.low ω,hv h.uW ω,G8 h.prt,hv h.inn ω,qR h.stk a (λg c e=>by have:=h.ds g c;omega),qR h.way a (λg c e=>by have:=h.dw g c;omega),h.bb,h.d,h.ds,h.dw,a.blk h.xo (λe=>by have:=h.xd;omega),h.xd⟩
theorem yM.Oc (h:yM X xo base b EA N qn ql qx qi qp vs vw s w)(k v):yM X xo base b EA N qn ql qx qi qp vs vw {s with inn:=s.inn.set k v} (w.setCell ⟨qi,k,jC⟩ (jI v)):=by
 have a:=sD (w:=w) qi k (jI v);let⟨f1,f2,f3,f4,f5,f6,f7,f8⟩:=h.far
 let⟨g1,g2,g3,g4,g5,g6⟩:=h.Xh
 have hv:∀{e} {q} {xs},w.ownsRow _ e 1 _ N _->q≠qi->(w.setCell _ _).ownsRow base e 1 (iX (jB ⟨q,0,jC⟩) N N) N xs:=
  λc f=>qR c a (λg i e=>by simp[Value.ownBlock]at i;omega)
 exact⟨a.blk h.blk ω,hv h.num ω,hv h.low ω,hv h.uW ω,hv h.prt ω,Dq h.inn,qR h.stk a γ,qR h.way a γ,h.bb,h.d,h.ds,h.dw,a.blk h.xo (λe=>by have:=h.xd;omega),h.xd⟩
theorem yM.ag1 (h:yM X xo base b EA N qn ql qx qi qp vs vw s w)(c:Nat){x:Int}(f:x=(c:Int)):yM X xo base b EA N qn ql qx qi qp vs vw {s with cnt:=c} (w.setCell ⟨b,8,jC⟩ (iY iZ x)):=by
 subst f;have a:=sD (w:=w) b 8 (iY iZ c);let⟨f1,f2,f3,f4,f5,f6,f7,f8⟩:=h.far
 have hv:∀{e:TypeId} {q:Nat} {xs:List Value},w.ownsRow base e 1 (iX (jB ⟨q,0,jC⟩) N N) N xs->q≠b->(w.setCell ⟨b,8,jC⟩ (iY iZ (c:Int))).ownsRow base e 1 (iX (jB ⟨q,0,jC⟩) N N) N xs:=
  λi j=>qR i a (λg k e=>by simp[Value.ownBlock]at k;omega)
 refine⟨?_,hv h.num f1,hv h.low f2,hv h.uW f3,hv h.prt f4,hv h.inn f5,qR h.stk a γ,qR h.way a γ,h.bb,h.d,h.ds,h.dw,a.blk h.xo (λe=>h.xd.1 e),h.xd⟩;rw[heap_setCell_same w b 8 _ _ _ h.blk];rfl
theorem yM.ahc (h:yM X xo base b EA N qn ql qx qi qp vs vw s w)(n:qW S w w1)(hS:∀k,S k->vs.ownBlock=jB k\/w.1.size<=k)(o:w1.ownsRow base 3 1 vs' (η l) (qO (iE l)))(i:∀g,vs'.ownBlock=jB g->vs.ownBlock=jB g\/w.1.size<=g):
  w1.cell? ⟨b,4,jC⟩=jB vs/\w1.frozen? ⟨b,4,jC⟩=jE/\b<w1.1.size/\yM X xo base b EA N qn ql qx qi qp vs' vw {s with stk:=l} (w1.setCell ⟨b,4,jC⟩ vs'):=by
 obtain⟨f1,f2,f3,f4,f5,f6,f7,f8⟩:=h.far;obtain⟨g1,g2,g3,g4,g5,g6⟩:=h.Xh;have c:=n.blk h.blk (λe=>γ)
 have j:∀{e:TypeId} {q:Nat} {xs:List Value},w.ownsRow base e 1 (iX (jB ⟨q,0,jC⟩) N N) N xs->vs.ownBlock≠jB q->w1.ownsRow base e 1 (iX (jB ⟨q,0,jC⟩) N N) N xs:=
  λm r=>qR m n (λg a e=>by
   simp[Value.ownBlock]at a;subst a;rcases hS _ e with e|e
   ·grind
   ·have v:=(m.lt _ rfl).2
    grind)
 have u:=qR h.way n (λg a e=>by
  rcases hS _ e with e|e
  ·exact(h.dw g a).2.2.2.2 e
  ·have:=(h.way.lt _ a).2;omega)
 have f:=sD (w:=w1) b 4 vs'
 have hd:∀g,vs'.ownBlock=jB g->g≠qn/\g≠ql/\g≠qx/\g≠qp:=λg a=>by
  rcases i g a with e|e
  ·exact h.ds g e
  ·have v:=(h.num.lt qn rfl).2;have B:=(h.low.lt ql rfl).2;have C:=(h.uW.lt qx rfl).2;have D:=(h.prt.lt qp rfl).2;omega
 have p:∀{q},(∀g,vs.ownBlock=jB g->g≠q)->vs.ownBlock≠jB q:=λx e=>x _ e rfl
 have hv:∀{e} {q} {xs},w1.ownsRow _ e 1 _ N _->q≠b->(w1.setCell _ _).ownsRow base e 1 (iX (jB ⟨q,0,jC⟩) N N) N xs:=
  λo r=>qR o f (λg a e=>by simp[Value.ownBlock]at a;omega)
 refine⟨cR c,frozen_of_row _ b 4 _ _ c,γ,?_,hv (j h.num (p λg a=>(h.ds g a).1)) f1,hv (j h.low (p λg a=>(h.ds g a).2.1)) f2,hv (j h.uW (p λg a=>(h.ds g a).2.2.1)) f3,hv (j h.prt (p λg a=>(h.ds g a).2.2.2)) f4,hv (j h.inn g5) f5,
  qR o f (λg a e=>qQ o c δ γ),qR u f (λg a e=>f7 γ),h.bb,h.d,hd,λg a=>?_,f.blk (n.blk h.xo (λe=>by rcases hS _ e with e|e;exact h.xd.2.2.2.2.2.2.1 e;(have:=(aI.1 h.xo).1;omega))) (λe=>h.xd.1 e),⟨h.xd.1,h.xd.2.1,h.xd.2.2.1,h.xd.2.2.2.1,h.xd.2.2.2.2.1,h.xd.2.2.2.2.2.1,λe=>by rcases i _ e with e|e;exact h.xd.2.2.2.2.2.2.1 e;(have:=(aI.1 h.xo).1;omega),h.xd.2.2.2.2.2.2.2⟩⟩
 ·rw[heap_setCell_same _ b 4 _ _ _ c];rfl
 ·obtain⟨e1,e2,y,z,E⟩:=h.dw g a;refine⟨e1,e2,y,z,λe=>?_⟩;rcases i g e with A|A
  ·grind
  ·have:=(h.way.lt _ a).2;omega
theorem yM.ahb (h:yM X xo base b EA N qn ql qx qi qp vs vw s w)(n:qW S w w1)(hS:∀k,S k->vw.ownBlock=jB k\/w.1.size<=k)(o:w1.ownsRow base 3 1 M4 (η l) (qO (iE l)))(i:∀g,M4.ownBlock=jB g->vw.ownBlock=jB g\/w.1.size<=g):
  w1.cell? ⟨b,5,jC⟩=jB vw/\w1.frozen? ⟨b,5,jC⟩=jE/\b<w1.1.size/\yM X xo base b EA N qn ql qx qi qp vs M4 {s with way:=l} (w1.setCell ⟨b,5,jC⟩ M4):=by
 obtain⟨f1,f2,f3,f4,f5,f6,f7,f8⟩:=h.far;obtain⟨g1,g2,g3,g4,g5,g6⟩:=h.Xh;have a:=n.blk h.blk (λe=>γ)
 have j:∀{e:TypeId} {q:Nat} {xs:List Value},w.ownsRow base e 1 (iX (jB ⟨q,0,jC⟩) N N) N xs->vw.ownBlock≠jB q->w1.ownsRow base e 1 (iX (jB ⟨q,0,jC⟩) N N) N xs:=
  λm r=>qR m n (λg c e=>by
   simp[Value.ownBlock]at c;subst c;rcases hS _ e with e|e
   ·grind
   ·have v:=(m.lt _ rfl).2
    grind)
 have u:=qR h.stk n (λg c e=>by
  rcases hS _ e with e|e
  ·exact(h.dw g e).2.2.2.2 c
  ·have:=(h.stk.lt _ c).2;omega)
 have f:=sD (w:=w1) b 5 M4;have p:∀{q},(∀g,vw.ownBlock=jB g->g≠q)->vw.ownBlock≠jB q:=λx e=>x _ e rfl
 have hv:∀{e} {q} {xs},w1.ownsRow _ e 1 _ N _->q≠b->(w1.setCell _ _).ownsRow base e 1 (iX (jB ⟨q,0,jC⟩) N N) N xs:=
  λo r=>qR o f (λg c e=>by simp[Value.ownBlock]at c;omega)
 refine⟨cR a,frozen_of_row _ b 5 _ _ a,γ,?_,hv (j h.num (p λg c=>(h.dw g c).1)) f1,hv (j h.low (p λg c=>(h.dw g c).2.1)) f2,hv (j h.uW (p λg c=>(h.dw g c).2.2.1)) f3,hv (j h.prt (p λg c=>(h.dw g c).2.2.2.1)) f4,hv (j h.inn g6) f5,
  qR u f (λg c e=>f6 γ),qR o f (λg c e=>qQ o a δ γ),h.bb,h.d,h.ds,λg c=>?_,f.blk (n.blk h.xo (λe=>by rcases hS _ e with e|e;exact h.xd.2.2.2.2.2.2.2 e;(have:=(aI.1 h.xo).1;omega))) (λe=>h.xd.1 e),⟨h.xd.1,h.xd.2.1,h.xd.2.2.1,h.xd.2.2.2.1,h.xd.2.2.2.2.1,h.xd.2.2.2.2.2.1,h.xd.2.2.2.2.2.2.1,λe=>by rcases i _ e with e|e;exact h.xd.2.2.2.2.2.2.2 e;(have:=(aI.1 h.xo).1;omega)⟩⟩
 ·rw[heap_setCell_same _ b 5 _ _ _ a];rfl
 ·rcases i g c with e|e
  ·exact h.dw g e
  ·have v:=(h.num.lt qn rfl).2;have z:=(h.low.lt ql rfl).2;have A:=(h.uW.lt qx rfl).2;have B:=(h.prt.lt qp rfl).2;refine⟨ω,ω,ω,ω,λy=>?_⟩;have:=(h.stk.lt _ y).2;omega
theorem yM.Ub (h:yM X xo base b EA N qn ql qx qi qp vs vw s w){m:List Nat}(A:qW S w w1)(hS:∀k,S k->vs.ownBlock=jB k\/vw.ownBlock=jB k\/w.1.size<=k)
  (y:w1.ownsRow base 3 1 vs' (η l) (qO (iE l)))(r:∀g,vs'.ownBlock=jB g->vs.ownBlock=jB g\/w.1.size<=g)
  (u:w1.ownsRow base 3 1 M4 (η m) (qO (iE m)))(j:∀g,M4.ownBlock=jB g->vw.ownBlock=jB g\/w.1.size<=g)(n:∀g,M4.ownBlock=jB g->vs'.ownBlock≠jB g):
  w1.cell? ⟨b,4,jC⟩=jB vs/\w1.cell? ⟨b,5,jC⟩=jB vw/\(∀o,w1.frozen? ⟨b,o,jC⟩=jE)/\b<w1.1.size/\yM X xo base b EA N qn ql qx qi qp vs' M4 {s with stk:=l,way:=m} ((w1.setCell ⟨b,4,jC⟩ vs').setCell ⟨b,5,jC⟩ M4):=by
 obtain⟨f1,f2,f3,f4,f5,f6,f7,f8⟩:=h.far;obtain⟨g1,g2,g3,g4,g5,g6⟩:=h.Xh;have a:=A.blk h.blk (λe=>γ)
 have v:∀{e:TypeId} {q:Nat} {xs:List Value},w.ownsRow base e 1 (iX (jB ⟨q,0,jC⟩) N N) N xs->vs.ownBlock≠jB q->vw.ownBlock≠jB q->w1.ownsRow base e 1 (iX (jB ⟨q,0,jC⟩) N N) N xs:=
  λx n C=>qR x A (λg c e=>by
   simp[Value.ownBlock]at c;subst c;rcases hS _ e with e|e|e
   ·grind
   ·grind
   ·have D:=(x.lt _ rfl).2
    grind)
 have f:=(sD (w:=w1) b 4 vs').setCell (p:=⟨b,5,jC⟩) (λ_=>rfl) M4;have z:∀{q},(∀g,vs.ownBlock=jB g->g≠q)->vs.ownBlock≠jB q:=λB e=>B _ e rfl
 have i:∀{q},(∀g,vw.ownBlock=jB g->g≠q)->vw.ownBlock≠jB q:=λB e=>B _ e rfl
 have hv:∀{e} {q} {xs},w1.ownsRow _ e 1 _ N _->q≠b->((w1.setCell _ _).setCell _ _).ownsRow base e 1 (iX (jB ⟨q,0,jC⟩) N N) N xs:=
  λy n=>qR y f (λg c e=>by simp[Value.ownBlock]at c;omega)
 have D:=(h.num.lt qn rfl).2;have G:=(h.low.lt ql rfl).2;have H:=(h.uW.lt qx rfl).2;have I:=(h.prt.lt qp rfl).2
 refine⟨cR a,cR a,λo=>frozen_of_row _ b o _ _ a,γ,?_,
  hv (v h.num (z λg c=>(h.ds g c).1) (i λg c=>(h.dw g c).1)) f1,hv (v h.low (z λg c=>(h.ds g c).2.1) (i λg c=>(h.dw g c).2.1)) f2,hv (v h.uW (z λg c=>(h.ds g c).2.2.1) (i λg c=>(h.dw g c).2.2.1)) f3,hv (v h.prt (z λg c=>(h.ds g c).2.2.2) (i λg c=>(h.dw g c).2.2.2.1)) f4,hv (v h.inn g5 g6) f5,
  qR y f (λg c e=>qQ y a δ γ),qR u f (λg c e=>qQ u a δ γ),h.bb,h.d,λg c=>?_,λg c=>?_,f.blk (A.blk h.xo (λe=>by rcases hS _ e with e|e|e;exact h.xd.2.2.2.2.2.2.1 e;exact h.xd.2.2.2.2.2.2.2 e;(have:=(aI.1 h.xo).1;omega))) (λe=>h.xd.1 e),⟨h.xd.1,h.xd.2.1,h.xd.2.2.1,h.xd.2.2.2.1,h.xd.2.2.2.2.1,h.xd.2.2.2.2.2.1,λe=>by rcases r _ e with e|e;exact h.xd.2.2.2.2.2.2.1 e;(have:=(aI.1 h.xo).1;omega),λe=>by rcases j _ e with e|e;exact h.xd.2.2.2.2.2.2.2 e;(have:=(aI.1 h.xo).1;omega)⟩⟩
 ·have e1:=heap_setCell_same _ b 4 _ _ vs' a;rw[heap_setCell_same _ b 5 _ _ _ e1];rfl
 ·rcases r g c with e|e
  ·exact h.ds g e
  ·omega
 ·have E:=n g c;rcases j g c with e|e
  ·let⟨F,a2,a3,a4,_⟩:=h.dw g e
   exact⟨F,a2,a3,a4,E⟩
  ·grind
end
set_option maxHeartbeats 2000000
set_option maxRecDepth 100000
theorem zq (w:jF):qW (λ_=>False) w w.drew:=⟨rfl,rfl,rfl,lR,λ_ _ _=>rfl⟩
def agA (X:Nat)(xo:Obj)(base b:Nat)(EA:Value)(N qn ql qx qi qp:Nat)(s:Sc)(w:jF)(en:Ending)(w':jF):Prop:=
 (∃v,en=.returned v)/\(∃vs vw,yM X xo base b EA N qn ql qx qi qp vs vw s w')/\Below base w w'
theorem vM (h:Below base w w'):Below base w w'.drew:=⟨h.os,h.tape,h.output,h.size,h.block⟩
theorem yM.drew (h:yM X xo base b EA N qn ql qx qi qp vs vw s w):yM X xo base b EA N qn ql qx qi qp vs vw s w.drew:=h.uQ (zq w) (λ_ _ e=>e)
def SS (vs vw:Value)(w:jF):Nat->Prop:=λk=>vs.ownBlock=jB k\/vw.ownBlock=jB k\/w.1.size<=k
theorem Po (h:yM X xo base b EA N qn ql qx qi qp vs vw s w)(T:qW (SS vs vw w) w w'):w'.cell? ⟨b,4,jC⟩=jB vs/\w'.cell? ⟨b,5,jC⟩=jB vw:=by
 obtain⟨f1,f2,f3,f4,f5,f6,f7,f8⟩:=h.far;have hb:=T.blk h.blk (λe=>by rcases e with e|e|e;grind;grind;omega);constructor<;>(rw[cell_of_row _ _ _ _ _ _ hb];rfl)
theorem aem (h:yM X xo base b EA N qn ql qx qi qp vs vw s w)(hb:base<=w.1.size)(a:k<base)(e:SS vs vw w k):False:=by
 rcases e with e|e|e
 ·have:=(h.stk.lt _ e).1;omega
 ·have:=(h.way.lt _ e).1;omega
 ·omega
theorem af3 (X:Nat)(xo:Obj)(base b:Nat)(EA:Value)(N qn ql qx qi qp:Nat)(vs vw:Value)(s:Sc)(w:jF)(n:Nat)(h:yM X xo base b EA N qn ql qx qi qp vs vw s w)(hn:n<N)(_hN:N<=1000000000)(hc:s.cnt<=1000000000)(hs:η s.stk<=1000000000)(hw:η s.way<=1000000000):
  Calls jJ 187 #[jH (jB ⟨b,0,jC⟩),iY iZ (n:Int)] w (agA X xo base b EA N qn ql qx qi qp (s.come n) w):=by
 have wc:IntKind.i64.wrap (s.cnt+1)=s.cnt+1:=by rw[wI];omega
 have bL:0<=(n:Int):=ω;have bM:n<(N:Int):=ω;let⟨c0,c1,c2,c3,c4,c5,c6,c7,c8⟩:=h.cells
 have bI:=h.soft 8;have bJ:=h.far.2.2.2.2.2.2.2;have bN:=h.bb;have hA:=h.ag1 (s.cnt+1) (x:=s.cnt+1) ω;have b4:Below _ w (w.setCell _ (iY iZ (s.cnt+1))):=(Below.refl _ w).setCell (p:=⟨b,8,jC⟩) h.bb _;have HH:=dh h;clear h;go_enter Tryz.func187,Tryz.ntmps187;go_wp2
 clear c0 c1 c2 c3 c4 c5 c6 c7 c8 bI bJ HH;obtain⟨wA,bn⟩:=xQ (w.setCell ⟨b,8,jC⟩ (iY iZ (s.cnt+1)));rw[bn]at hA b4⊢;clear bn;obtain⟨c0,c1,c2,c3,c4,c5,c6,c7,c8⟩:=hA.cells;rw[show({s with cnt:=s.cnt+1}:Sc).cnt=(s.cnt:Int)+1 from by simp]at c8;obtain⟨HA,bp⟩:=iw hA b4;let⟨n1,n2,n3⟩:=uU hA.num hn
 clear hA b4 c0 c3 c4 c5 c6 c7;refine wp_region_held_drew (S:=λw'=>q9 w' b 1 _/\q9 w' b 2 _/\q9 w' b 8 _) rfl ⟨c1,c2,c8⟩ (λhS=>?_);apply qU 0;apply qU 1;apply qU 2;apply qU 3;apply qU 4;apply qU 5;apply qU 6;apply qU 7;apply qU 8;apply qU 9;apply qU 10;apply qU 11;apply qU 12;apply qU 13;apply qU 14;apply qU 15;apply qU 16;apply qU 17;apply qU 18;refine rR 19 (λK c=>?_);go_simp;have hB:=HA.ag0 n (s.cnt+1) (x:=s.cnt+1) ω;have b5:=bp.setCell (p:=⟨_,n,jC⟩) (HA.num.lt qn rfl).1 (iY iZ (s.cnt+1));let⟨wB,bq⟩:=xQ (wA.setCell ⟨qn,n,jC⟩ (iY iZ (s.cnt+1)))
 rw[bq]at hB b5⊢;clear bq;have hc:=hB.cells;have b6:=hc.2.2.2.2.2.2.2.2;rw[show({s with cnt:=s.cnt+1}:Sc).cnt=(s.cnt:Int)+1 from by simp]at b6;let⟨l1,l2,l3⟩:=uU hB.low hn
 obtain⟨HB,br⟩:=iw hB b5;have k1:=hc.2.1;have k2:=hc.2.2.1;clear hB b5 n1 n2 n3 c1 c2 c8 hc;refine c _ _ ⟨k1,k2,b6⟩ (λhS=>?_);clear c;apply qU 20;refine rR 21 (λK c=>?_);go_simp;have hC:=HB.aas n (s.cnt+1) (x:=s.cnt+1) ω;have b9:=br.setCell (p:=⟨_,n,jC⟩) (HB.low.lt ql rfl).1 (iY iZ (s.cnt+1));let⟨wC,bu⟩:=xQ (wB.setCell ⟨ql,n,jC⟩ (iY iZ (s.cnt+1)))
 rw[bu]at hC b9⊢;clear bu;have hc:=hC.cells;have aO:=hc.2.2.2.2.2.2.2.2;rw[show({s with cnt:=s.cnt+1}:Sc).cnt=(s.cnt:Int)+1 from by simp]at aO;have m1:=hc.2.1;have m2:=hc.2.2.1;refine c _ _ ⟨m1,m2,aO⟩ (λhS=>?_);clear c;refine wpAnyH_done κ ?_ _;have hD:=hC.drew;have bw:=vM b9;clear hC b9 HB br HA bp hc b6 aO m1 m2 k1 k2 l1 l2 l3 hS;obtain⟨s1,aP⟩:∃s1,s1={ { {s with cnt:=s.cnt+1}with num:=s.num.set n (s.cnt+1)}with low:=s.low.set n (s.cnt+1)}:=⟨_,rfl⟩;have bc:s1.stk=s.stk:=by rw[aP]
 have bd:s1.way=s.way:=by rw[aP]
 have bz:({ {s1 with stk:=s1.stk++[n],way:=s1.way++[n]}with inn:=s1.inn.set n jD})=s.come n:=by rw[aP];rfl
 replace hD:yM X xo base b EA N qn ql qx qi qp vs vw s1 wC.drew:=by rwa [aP]
 obtain⟨bh,bO,bP⟩:=iA bz bc bd;have bQ:η s1.stk<=1000000000:=by rwa [bc]
 have bS:η s1.way<=1000000000:=by rwa [bd]
 clear aP bc bd bz;go_wp2
 refine vP (S:=λw'=>q9 w' b 4 _/\q9 w' b 5 _) 18 rfl ⟨hD.cells.2.2.2.2.1,hD.cells.2.2.2.2.2.1⟩ (λhS=>?_);have hE:=hD.drew;have aD:=vM bw;let⟨wE,bA⟩:=xQ wC.drew.drew
 rw[bA]at hE aD hS⊢;have aL:=hE.bb;have aM:base<=wE.1.size:=by have:=hE.far.2.2.2.2.2.2.2;omega
 have rs:=hE.stk;have bB:=hE.way;have F:=dh hE;have T:=qW.refl (SS vs vw wE) wE;clear hD bw bA hE;apply tF 0 [];apply tkW 1;apply tF 2 [];apply tF 3 [];apply tF 4 [];apply tF 5 [];apply tF 6 [];apply tF 9 [12,11,10];apply tF 10 [12,11];apply tF 11 [12];apply tF 12 [];apply tF 13 [15,14];apply Cy (rs:=[7,14]) κ ς;refine(yx rfl rfl (λK c=>?_) (yx rfl rfl (λK c=>?_) xL.nil))
 ·skip
  go_simp;obtain⟨ar,aJ⟩:=xQ (wE.alloc (jG #[iY iZ n] 3));have aN:=T.alloc (jG #[iY iZ n] 3);have aQ:=yF (o:=jG #[iY iZ n] 3) rs;have aR:=yF (o:=jG #[iY iZ n] 3) bB;have C:=heap_alloc_new wE (jG #[iY iZ n] 3);have bK:=T.size;have G:wE.1.size<(wE.alloc (jG #[iY iZ n] 3)).1.size:=ς;rw[aJ]at aN aQ aR C G⊢;clear aJ;let⟨r,u⟩:=Po F aN
  refine c _ _ ⟨r,u⟩ (λhS=>?_);clear c;apply Cy (rs:=[8,14]) κ ς;refine(yx rfl rfl (λK c=>?_) (yx rfl rfl (λK c=>?_) xL.nil))
  ·skip
   apply su rfl _ _ _ rfl _ 3 1 8 rW _ _ _ aQ rfl _ _ rfl C rfl (by simp[Value.oneCell']) ω ω ω;intro v8 I au D q _;obtain⟨g8,d8,rfl⟩:=ownsRow_succ au;have aX:=au;have aY:=qR aR D (λg d e=>(F.dw g d).2.2.2.2 e);have aE:=aN.trans D (λ_ _ e=>.inl e);replace q:∀g,(Value.slice (jB ⟨g8,0,jC⟩) (η s1.stk+1) d8).ownBlock=jB g->vs.ownBlock=jB g\/wE.1.size<=g:=λg d=>by rcases q with e|e;exact .inl (e▸d);(rw[e]at d;cases d;exact .inr aN.size)
   replace C:=D.blk C (λe=>by have:=(F.stk.lt _ e).2;omega);replace G:=jh G D.size;let⟨r,u⟩:=Po F aE
   refine c _ _ ⟨r,u⟩ (λhS=>?_);clear c;refine rZ (i:=14) rfl κ (λK c=>?_);go_simp;obtain⟨aF,J⟩:=xQ (I.alloc (jG #[iY iZ n] 3));have E:=aE.alloc (jG #[iY iZ n] 3);have H:=yF (o:=jG #[iY iZ n] 3) aX;have U:=yF (o:=jG #[iY iZ n] 3) aY;have j:=heap_alloc_new I (jG #[iY iZ n] 3);have aZ:=aE.size;have B:I.1.size<(I.alloc (jG #[iY iZ n] 3)).1.size:=ς;replace C:=tH (o:=jG #[iY iZ n] 3) G C;rw[J]at E H U j B C⊢;replace G:=jh G (by omega:I.1.size<=aF.1.size);clear J;let⟨r,u⟩:=Po F E
   refine c _ _ ⟨r,u⟩ (λhS=>?_);clear c;refine rZ (i:=15) rfl κ (λK c=>?_);apply su rfl _ _ _ rfl _ 3 1 8 rW _ _ _ U rfl _ _ rfl j rfl (by simp[Value.oneCell']) ω ω ω;intro bE a8 O P a _;obtain⟨g15,Xm,rfl⟩:=ownsRow_succ O;have ad:=O;have av:∀g,(Value.slice _ _ _).ownBlock=jB g->vw.ownBlock≠jB g:=λg d e=>by rcases q g d with e'|e';exact(F.dw g e).2.2.2.2 e';(have:=(F.way.lt _ e).2;omega)
   have af:=qR H P (λg d e=>av g d e);have v:=E.trans P (λ_ _ e=>.inr (.inl e));have V:∀g,(Value.slice (jB ⟨g15,0,jC⟩) (η s1.way+1) Xm).ownBlock=jB g->(Value.slice (jB ⟨g8,0,jC⟩) (η s1.stk+1) d8).ownBlock≠jB g:=λg d e=>by rcases a with e'|e';exact av g e (e'▸d);(rw[e']at d;cases d;have h9:=(H.lt _ e).2;omega)
   replace a:∀g,(Value.slice (jB ⟨g15,0,jC⟩) (η s1.way+1) Xm).ownBlock=jB g->vw.ownBlock=jB g\/wE.1.size<=g:=λg d=>by rcases a with e|e;exact .inl (e▸d);(rw[e]at d;cases d;exact .inr E.size)
   let⟨r,u⟩:=Po F v
   refine c _ _ ⟨r,u⟩ (λhS=>?_);clear c;apply tF 16 [17];apply tF 17 [];refine rM (i:=18) rfl κ rfl (λK c=>?_);obtain⟨q4,q5,qf,qb,hF⟩:=F.Ub v (λk e=>e) (l:=s1.stk++[n]) (m:=s1.way++[n]) (by simpa[iE,qO]using af) q (by simpa[iE,qO]using ad) a V;have bF:=qf 4;go_simp;apply c.out;clear c;apply gU 19;apply gU 20;refine rM (i:=21) rfl κ rfl (λK c=>?_);have bG:=(jF.cell?_setCell_other _ ⟨b,4,jC⟩ _ (iX (jB ⟨g8,0,jC⟩) (η s1.stk+1) d8) ς).trans q5;have bH:=qf 5;go_simp;apply c.out;clear c;apply tX κ;have W:=((v.below aM (λk hk e=>aem F aM hk e)).setCell (p:=⟨b,4,jC⟩) aL (iX (jB ⟨g8,0,jC⟩) (η s1.stk+1) d8)).setCell (p:=⟨b,5,jC⟩) aL (iX (jB ⟨g15,0,jC⟩) (η s1.way+1) Xm);let⟨wF,aw⟩:=xQ ((a8.setCell ⟨b,4,jC⟩ (iX (jB ⟨g8,0,jC⟩) (η s1.stk+1) d8)).setCell ⟨b,5,jC⟩ (iX (jB ⟨g15,0,jC⟩) (η s1.way+1) Xm))
   rw[aw]at hF W⊢;let⟨i1,i2,i3,_⟩:=yj hF.inn hn
   have c6:=hF.cells.2.2.2.2.2.2.1;have hG:=hF.Oc n jD;have ax:=(aD.trans W).setCell (p:=⟨_,n,jC⟩) (hF.inn.lt qi rfl).1 (jI jD);rw[bh.o]at hG;obtain⟨HG,aS⟩:=iw hG ax;clear hF W aw hG ax aD;go_wp2
   go_end0
   exact⟨⟨_,rfl⟩,⟨_,_,HG.o⟩,aS.o⟩
  ·skip
   go_simp;obtain⟨aT,Y⟩:=xQ (ar.alloc (jG #[iY iZ n] 3));have Q:=aN.alloc (jG #[iY iZ n] 3);have ay:=yF (o:=jG #[iY iZ n] 3) aQ;have az:=yF (o:=jG #[iY iZ n] 3) aR;have j:=heap_alloc_new ar (jG #[iY iZ n] 3);have aZ:=aN.size;have B:ar.1.size<(ar.alloc (jG #[iY iZ n] 3)).1.size:=ς;replace C:=tH (o:=jG #[iY iZ n] 3) G C;rw[Y]at Q ay az j B C⊢;replace G:=jh G (by omega:ar.1.size<=aT.1.size);clear Y;let⟨r,u⟩:=Po F Q
   refine c _ _ ⟨r,u⟩ (λhS=>?_);clear c;refine rZ (i:=8) rfl κ (λK c=>?_);apply su rfl _ _ _ rfl _ 3 1 8 rW _ _ _ ay rfl _ _ rfl C rfl (by simp[Value.oneCell']) ω ω ω;intro v8 bj au D q _;obtain⟨g8,d8,rfl⟩:=ownsRow_succ au;have Z:=au;have aG:=qR az D (λg d e=>(F.dw g d).2.2.2.2 e);have L:=Q.trans D (λ_ _ e=>.inl e);replace q:∀g,(Value.slice (jB ⟨g8,0,jC⟩) (η s1.stk+1) d8).ownBlock=jB g->vs.ownBlock=jB g\/wE.1.size<=g:=λg d=>by rcases q with e|e;exact .inl (e▸d);(rw[e]at d;cases d;exact .inr Q.size)
   replace C:=D.blk C (λe=>by have:=(F.stk.lt _ e).2;omega);replace G:=jh G D.size;replace j:=D.blk j (λe=>by have:=(F.stk.lt _ e).2;omega);replace B:=jh B D.size;let⟨r,u⟩:=Po F L
   refine c _ _ ⟨r,u⟩ (λhS=>?_);clear c;refine rZ (i:=15) rfl κ (λK c=>?_);apply su rfl _ _ _ rfl _ 3 1 8 rW _ _ _ aG rfl _ _ rfl j rfl (by simp[Value.oneCell']) ω ω ω;intro bE ag O P a _;obtain⟨g15,Xm,rfl⟩:=ownsRow_succ O;have ah:=O;have av:∀g,(Value.slice _ _ _).ownBlock=jB g->vw.ownBlock≠jB g:=λg d e=>by rcases q g d with e'|e';exact(F.dw g e).2.2.2.2 e';(have:=(F.way.lt _ e).2;omega)
   have aj:=qR Z P (λg d e=>av g d e);have y:=L.trans P (λ_ _ e=>.inr (.inl e));have V:∀g,(Value.slice (jB ⟨g15,0,jC⟩) (η s1.way+1) Xm).ownBlock=jB g->(Value.slice (jB ⟨g8,0,jC⟩) (η s1.stk+1) d8).ownBlock≠jB g:=λg d e=>by rcases a with e'|e';exact av g e (e'▸d);(rw[e']at d;cases d;have h9:=(Z.lt _ e).2;omega)
   replace a:∀g,(Value.slice (jB ⟨g15,0,jC⟩) (η s1.way+1) Xm).ownBlock=jB g->vw.ownBlock=jB g\/wE.1.size<=g:=λg d=>by rcases a with e|e;exact .inl (e▸d);(rw[e]at d;cases d;exact .inr L.size)
   let⟨r,u⟩:=Po F y
   refine c _ _ ⟨r,u⟩ (λhS=>?_);clear c;apply tF 16 [17];apply tF 17 [];refine rM (i:=18) rfl κ rfl (λK c=>?_);obtain⟨q4,q5,qf,qb,hF⟩:=F.Ub y (λk e=>e) (l:=s1.stk++[n]) (m:=s1.way++[n]) (by simpa[iE,qO]using aj) q (by simpa[iE,qO]using ah) a V;have bF:=qf 4;go_simp;apply c.out;clear c;apply gU 19;apply gU 20;refine rM (i:=21) rfl κ rfl (λK c=>?_);have bG:=(jF.cell?_setCell_other _ ⟨b,4,jC⟩ _ (iX (jB ⟨g8,0,jC⟩) (η s1.stk+1) d8) ς).trans q5;have bH:=qf 5;go_simp;apply c.out;clear c;apply tX rfl;have W:=((y.below aM (λk hk e=>aem F aM hk e)).setCell (p:=⟨b,4,jC⟩) aL (iX (jB ⟨g8,0,jC⟩) (η s1.stk+1) d8)).setCell (p:=⟨b,5,jC⟩) aL (iX (jB ⟨g15,0,jC⟩) (η s1.way+1) Xm);let⟨wF,aw⟩:=xQ ((ag.setCell ⟨b,4,jC⟩ (iX (jB ⟨g8,0,jC⟩) (η s1.stk+1) d8)).setCell ⟨b,5,jC⟩ (iX (jB ⟨g15,0,jC⟩) (η s1.way+1) Xm))
   rw[aw]at hF W⊢;let⟨i1,i2,i3,_⟩:=yj hF.inn hn
   have c6:=hF.cells.2.2.2.2.2.2.1;have hG:=hF.Oc n jD;have ax:=(aD.trans W).setCell (p:=⟨_,n,jC⟩) (hF.inn.lt qi rfl).1 (jI jD);rw[bh.o]at hG;obtain⟨HG,aS⟩:=iw hG ax;clear hF W aw hG ax aD;go_wp2
   go_end0
   exact⟨⟨_,rfl⟩,⟨_,_,HG.o⟩,aS.o⟩
 ·skip
  go_simp;obtain⟨a1,aA⟩:=xQ (wE.alloc (jG #[iY iZ n] 3));have aK:=T.alloc (jG #[iY iZ n] 3);have aU:=yF (o:=jG #[iY iZ n] 3) rs;have aV:=yF (o:=jG #[iY iZ n] 3) bB;have j:=heap_alloc_new wE (jG #[iY iZ n] 3);have aZ:=T.size;have B:wE.1.size<(wE.alloc (jG #[iY iZ n] 3)).1.size:=ς;rw[aA]at aK aU aV j B⊢;clear aA;let⟨r,u⟩:=Po F aK
  refine c _ _ ⟨r,u⟩ (λhS=>?_);clear c;refine rZ (i:=7) rfl κ (λK c=>?_);go_simp;obtain⟨aW,a6⟩:=xQ (a1.alloc (jG #[iY iZ n] 3));have R:=aK.alloc (jG #[iY iZ n] 3);have aB:=yF (o:=jG #[iY iZ n] 3) aU;have aC:=yF (o:=jG #[iY iZ n] 3) aV;have C:=heap_alloc_new a1 (jG #[iY iZ n] 3);have bK:=aK.size;have G:a1.1.size<(a1.alloc (jG #[iY iZ n] 3)).1.size:=ς;replace j:=tH (o:=jG #[iY iZ n] 3) B j;rw[a6]at R aB aC C G j⊢;replace B:=jh B (by omega:a1.1.size<=aW.1.size);clear a6;let⟨r,u⟩:=Po F R
  refine c _ _ ⟨r,u⟩ (λhS=>?_);clear c;refine rZ (i:=8) rfl κ (λK c=>?_);apply su rfl _ _ _ rfl _ 3 1 8 rW _ _ _ aB rfl _ _ rfl C rfl (by simp[Value.oneCell']) ω ω ω;intro v8 bm au D q _;obtain⟨g8,d8,rfl⟩:=ownsRow_succ au;have a7:=au;have aH:=qR aC D (λg d e=>(F.dw g d).2.2.2.2 e);have M:=R.trans D (λ_ _ e=>.inl e);replace q:∀g,(Value.slice (jB ⟨g8,0,jC⟩) (η s1.stk+1) d8).ownBlock=jB g->vs.ownBlock=jB g\/wE.1.size<=g:=λg d=>by rcases q with e|e;exact .inl (e▸d);(rw[e]at d;cases d;exact .inr R.size)
  replace C:=D.blk C (λe=>by have:=(F.stk.lt _ e).2;omega);replace G:=jh G D.size;replace j:=D.blk j (λe=>by have:=(F.stk.lt _ e).2;omega);replace B:=jh B D.size;let⟨r,u⟩:=Po F M
  refine c _ _ ⟨r,u⟩ (λhS=>?_);clear c;refine rZ (i:=15) rfl κ (λK c=>?_);apply su rfl _ _ _ rfl _ 3 1 8 rW _ _ _ aH rfl _ _ rfl j rfl (by simp[Value.oneCell']) ω ω ω;intro bE ak O P a _;obtain⟨g15,Xm,rfl⟩:=ownsRow_succ O;have ao:=O;have av:∀g,(Value.slice _ _ _).ownBlock=jB g->vw.ownBlock≠jB g:=λg d e=>by rcases q g d with e'|e';exact(F.dw g e).2.2.2.2 e';(have:=(F.way.lt _ e).2;omega)
  have aq:=qR a7 P (λg d e=>av g d e);have z:=M.trans P (λ_ _ e=>.inr (.inl e));have V:∀g,(Value.slice (jB ⟨g15,0,jC⟩) (η s1.way+1) Xm).ownBlock=jB g->(Value.slice (jB ⟨g8,0,jC⟩) (η s1.stk+1) d8).ownBlock≠jB g:=λg d e=>by rcases a with e'|e';exact av g e (e'▸d);(rw[e']at d;cases d;have h9:=(a7.lt _ e).2;omega)
  replace a:∀g,(Value.slice (jB ⟨g15,0,jC⟩) (η s1.way+1) Xm).ownBlock=jB g->vw.ownBlock=jB g\/wE.1.size<=g:=λg d=>by rcases a with e|e;exact .inl (e▸d);(rw[e]at d;cases d;exact .inr M.size)
  let⟨r,u⟩:=Po F z
  refine c _ _ ⟨r,u⟩ (λhS=>?_);clear c;apply tF 16 [17];apply tF 17 [];refine rM (i:=18) rfl κ rfl (λK c=>?_);obtain⟨q4,q5,qf,qb,hF⟩:=F.Ub z (λk e=>e) (l:=s1.stk++[n]) (m:=s1.way++[n]) (by simpa[iE,qO]using aq) q (by simpa[iE,qO]using ao) a V;have bF:=qf 4;go_simp;apply c.out;clear c;apply gU 19;apply gU 20;refine rM (i:=21) rfl κ rfl (λK c=>?_);have bG:=(jF.cell?_setCell_other _ ⟨b,4,jC⟩ _ (iX (jB ⟨g8,0,jC⟩) (η s1.stk+1) d8) ς).trans q5;have bH:=qf 5;go_simp;apply c.out;clear c;apply tX rfl;have W:=((z.below aM (λk hk e=>aem F aM hk e)).setCell (p:=⟨b,4,jC⟩) aL (iX (jB ⟨g8,0,jC⟩) (η s1.stk+1) d8)).setCell (p:=⟨b,5,jC⟩) aL (iX (jB ⟨g15,0,jC⟩) (η s1.way+1) Xm);let⟨wF,aw⟩:=xQ ((ak.setCell ⟨b,4,jC⟩ (iX (jB ⟨g8,0,jC⟩) (η s1.stk+1) d8)).setCell ⟨b,5,jC⟩ (iX (jB ⟨g15,0,jC⟩) (η s1.way+1) Xm))
  rw[aw]at hF W⊢;let⟨i1,i2,i3,_⟩:=yj hF.inn hn
  have c6:=hF.cells.2.2.2.2.2.2.1;have hG:=hF.Oc n jD;have ax:=(aD.trans W).setCell (p:=⟨_,n,jC⟩) (hF.inn.lt qi rfl).1 (jI jD);rw[bh.o]at hG;obtain⟨HG,aS⟩:=iw hG ax;clear hF W aw hG ax aD;go_wp2
  go_end0
  exact⟨⟨_,rfl⟩,⟨_,_,HG.o⟩,aS.o⟩
set_option maxHeartbeats 2000000
set_option maxRecDepth 100000
theorem Sq (X:Nat)(xo)(base b bx:Nat)(EA)(N qn ql qx qi qp:Nat)(vs vw s w)(x y:Nat)(h:yM X xo base b EA N qn ql qx qi qp vs vw s w)(d:q9 w bx 0 (jH (jB ⟨b,0,jC⟩)))(l:x<N):
  Calls jJ 188 #[iY iZ (x:Int),iY iZ (y:Int),jH (jB ⟨bx,0,jC⟩)] w (λe w'=>(∃v,e=.returned v)/\yM X xo base b EA N qn ql qx qi qp vs vw (s.lower x y) w'/\Below base w w'):=by
 have m:(0:Int)<=(x:Int):=ω;have n:(x:Int)<(N:Int):=ω;have c2:=h.cells.2.2.1;obtain⟨l1,l2,t⟩:=uU h.low l;have g:=(h.low.lt ql rfl).1;obtain⟨lw,a⟩:=xQ (s.low.getD x 0);rw[a]at l1;obtain⟨c,j⟩:=iw a h;clear h a;go_enter Tryz.func188,Tryz.ntmps188;go_wp2_with fail
 refine vP (S:=λw'=>q9 w' bx 0 (jH (jB ⟨b,0,jC⟩))/\q9 w' b 2 (iX (jB ⟨ql,0,jC⟩) N N)/\q9 w' ql x (iY iZ (lw:Int))) 15 κ (⟨d,c2,l1⟩) (λhS=>?_);refine tF 0 [] ?_;refine tF 1 [] ?_;refine tF 2 [] ?_;refine tF 3 [] ?_;refine tF 4 [] ?_;refine tF 5 [] ?_;refine tF 6 [] ?_;refine tF 7 [] ?_;refine tF 8 [] ?_;refine tF 9 [] ?_;refine tF 10 [] ?_;refine tF 11 [] ?_;refine tF 12 [] ?_;refine tF 13 [] ?_;refine tF 14 [] ?_;refine rM (i:=15) rfl κ κ (λK k=>?_);go_simp;refine k _ _ ?_;clear k;refine tX κ ?_;have hm:(if y<lw then(y:Int)else(lw:Int))=((min (s.low.getD x 0) y:Nat):Int):=by rw[c.o];split<;>omega
 have hA:=(j.aas x (min (s.low.getD x 0) y) hm).drew;have hb:=vM ((Below.refl base w).setCell (p:=⟨ql,x,jC⟩) g (iY iZ (if y<lw then(y:Int)else(lw:Int))));obtain⟨q,r⟩:=iw hA hb;clear hA hb hm j c;generalize (if y<lw then(y:Int)else(lw:Int))=vv at *;go_wp2_with fail
 go_end0
 exact⟨⟨_,rfl⟩,q.o,r.o⟩
theorem yD {l:List Int}(h:i<η l):(qO l)[i]? =jB (iY iZ l[i]):=by simp[qO,h]
theorem FY (h:i<η l):(qO (iE l))[i]? =jB (iY iZ ((l.getD i 0:Nat):Int)):=by
 rw[yD (by rw[Ah];exact h),<-Sg,gD,gE (by rw[Ah];exact h)];rfl
theorem ahE (A n c l w B)(hl:Sl w B 1 A n c (qO (iE l)))(K:n=η l)(O:0<n):
  Calls jJ 192 #[iX A n c] w (λe w'=>∃m,m∈l/\(∀y∈l,m<=y)/\Num w (m:Int) e w'):=by
 have L:=hl.cap;have z:=hl.max;unfold maxLen at z
 have hcell:∀i (hi:i<n),∃b o,A=jB ⟨b,o,jC⟩/\w.cell? ⟨b,o+i,jC⟩=jB (iY iZ ((l.getD i 0:Nat):Int)):=λi hi=>by
  obtain⟨b,o,C,_,D⟩:=hl.rd.at_ (j:=i) (u:=iY iZ ((l.getD i 0:Nat):Int)) (by rw[yD (by rw[Ah];omega)];simp[iE,θ,show i<η l by omega]);exact⟨b,o,C,D⟩
 obtain⟨b,o,rfl,g⟩:=hcell 0 O
 have a:∀i,i<n->w.cell? ⟨b,o+i,jC⟩=jB (iY iZ ((l.getD i 0:Nat):Int)):=λi hi=>by
  obtain⟨b',U,C,D⟩:=hcell i hi;cases C;exact D
 rw[nG]at g;have P:=dh a;have E:((n:Int)<1)=False:=by simp;omega
 obtain⟨m0,r⟩:=xQ (l.getD 0 0);rw[r]at g
 have d:m0∈l/\∀j,j<1->m0<=l.getD j 0:=by
  refine⟨?_,λj t=>by have:j=0:=ω
                     subst this;omega⟩
  rw[<-r,gD,gE (by omega:0<η l)];exact mM ω
 obtain⟨Q,M⟩:=iw d K;have R:decide ((n:Int)<1)=jE:=by simp;omega
 clear hcell a hl r K E d;go_enter Tryz.func192,Tryz.ntmps192;go_wp2_with fail
 go_loopw [4,3] (λp q wr=>∃(k m:Nat),k<=n/\1<=k/\p=iY iZ k/\q=iY iZ m/\(m∈l/\∀j,j<k->m<=l.getD j 0)/\wr=w) (λp _ _=>n-(intOf p).toNat)
 case atStart=>exact⟨1,m0,ω,ω,rfl,rfl,Q.o,rfl⟩
 case round=>
  obtain⟨k,m,V,S,rfl,rfl,hm,rfl⟩:=hrel;have v:=dh hm;clear hm g;by_cases s:k<n
  ·have F:=P k s;have T:(0:Int)<=(k:Int):=ω;have W:IntKind.i64.wrap ((k:Int)+1)=(k:Int)+1:=by rw[wI];omega
   obtain⟨x,G⟩:=xQ (l.getD k 0);rw[G]at F;have N:=dh G;clear G;go_wp2_with fail
   have H:x∈l:=by
    rw[<-N.o,gD,gE (by rw[<-M.o];exact s:k<η l)];exact mM _
   refine⟨⟨k+1,if x<m then x else m,ω,ω,jM (Value.int iZ) ω,jM (Value.int iZ) (by split<;>rfl),⟨by split<;>first|exact H|exact v.1,λj t=>?_⟩,trivial⟩,by simp[intOf];omega⟩;by_cases e:j=k
   ·subst e;rw[N.o];split<;>omega
   ·have:=v.2 j ω;split<;>omega
  ·have I:k=n:=ω;subst I;go_wp2_with fail
   go_ret
   refine⟨m,v.1,λy hy=>?_,rfl,bR⟩;obtain⟨j,t⟩:=mV hy;have J:=(gB.1 t).1;have:=v.2 j (by rw[M.o];exact J);rwa [gD,t]at this
set_option maxHeartbeats 8000000
set_option maxRecDepth 100000
theorem Xr (x:Int)(b n:Nat)(w:jF)(g:q9 w b 0 (iY iZ (n:Int))):
  Calls jJ 74 #[iY iZ x,jH (jB ⟨b,0,jC⟩)] w (AX w (!sG n x)):=by
 by_cases a:sG n x=jD
 ·have c:=sU.1 a;have d1:decide (x<0)=jE:=γ;have d2:decide (n<=x)=jE:=γ;have d:=dh a;go_enter Tryz.func74,Tryz.ntmps74;go_wp2
  go_ret
  exact⟨rH γ,bR⟩
 ·have c:=Uu a;have d:=dh (by simpa using a);rcases c with c|⟨c,e⟩
  ·go_enter Tryz.func74,Tryz.ntmps74;go_wp2
   go_ret
   exact⟨rH γ,bR⟩
  ·go_enter Tryz.func74,Tryz.ntmps74;go_wp2
   go_ret
   exact⟨rH γ,bR⟩
theorem adC (l:List Int):l.any (λx=> !sG N x)= !(l.all (sG N)):=by
 grind
theorem WO (b:Nat)(p:Int->Bool)(l:List Int)(A:Option Addr)(n c:Nat)(w:jF)(B:Nat)(hs:Sl w B 1 A n c (qO l))(z:B<=w.1.size)(C:n=η l)(hl:n<=100000000000)
  (D:Hd (∀(x:Int) (w':jF),x∈l->Below w.1.size w w'->Calls jJ 74 #[iY iZ x,jH (jB ⟨b,0,jC⟩)] w' (AX w' (p x)))):
  Calls jJ 114 #[iX A n c,.func (.func 74) #[] #[jH (jB ⟨b,0,jC⟩)]] w (Fnd w (l.any p)):=by
 subst C;go_enter Tryz.func114,Tryz.ntmps114;go_wp2
 go_loopw [8] (λi wr=>∃k,k<=η l/\i=iY iZ k/\Below w.1.size w wr/\Hd ((l.take k).any p=jE)) (λi _=>η l-(intOf i).toNat)
 case atStart=>exact⟨0,ω,rfl,bR,rfl⟩
 case round=>
  obtain⟨k,G,rfl,a,t⟩:=hrel;have q:=a.size;by_cases g:k<η l
  ·obtain⟨bb,o,rfl,_,u⟩:=(hs.rd.below a z).at_ (yD g);have hC:=D l[k] _ (mM _) a;have d:=mM g;have j:(l.take (k+1)).any p=(p l[k]):=by rw[rE l k g,oP,t.o];simp
   let⟨x,v⟩:=xQ (l[k])
   rw[v]at u;rw[v]at hC j d;obtain⟨r,E,F⟩:=iA hC j d;clear v hC j d;cases hb:p x
   ·have s:=dh hb;clear hb;go_wp2_with fail
    apply Calls.mono r.o;rw[s.o];rintro e w2 ⟨rfl,m⟩;go_wp2
    go_roundw
    case rel=>exact⟨k+1,ω,by go_num,a.trans (m.mono q),by rwa [E.o]⟩
    case measure=>simp[intOf];omega
   ·have s:=dh hb;clear hb;go_wp2_with fail
    apply Calls.mono r.o;rw[s.o];rintro e w2 ⟨rfl,m⟩;go_wp2
    go_ret
    exact⟨_,rfl,ω,ω,a.trans (m.mono q),by rw[kT.2 ⟨x,F.o,s.o⟩];simp⟩
  ·have y:k=η l:=ω;subst y;rw[tL lR]at t;go_wp2
   go_ret
   exact⟨_,rfl,ω,ω,a,by rw[t.o];rfl⟩
theorem Qw (b:Nat)(p:Int->Bool)(l:List Int)(A:Option Addr)(n c:Nat)(w:jF)(B:Nat)(hs:Sl w B 1 A n c (qO l))(d:B<=w.1.size)(a:n=η l)(hl:n<=100000000000)
  (g:Hd (∀(x:Int) (w':jF),x∈l->Below w.1.size w w'->Calls jJ 74 #[iY iZ x,jH (jB ⟨b,0,jC⟩)] w' (AX w' (p x)))):
  Calls jJ 75 #[iX A n c,.func (.func 74) #[] #[jH (jB ⟨b,0,jC⟩)]] w (AX w (l.any p)):=by
 go_enter Tryz.func75,Tryz.ntmps75;have i:=dh (WO b p l A n c w B hs d a hl g);clear a hs hl;go_wp2_with fail
 apply Calls.mono i.out;rintro e w1 ⟨k,rfl,_,_,hb,j⟩;go_wp2
 go_ret
 exact⟨rfl,hb⟩
theorem aac (a Ai ni ci An nn cn w B)(h:sW w B a Ai ni ci An nn cn)(hB:B<=w.1.size)(Z:η a.init<=100000000)(a1:∀x∈a.nodes,η x.to<=100000000):
  Calls jJ 51 #[.agg #[iY iZ a.sets,iX Ai ni ci,iX An nn cn]] w (Num w (tO a)):=by
 obtain⟨E,x0,y0,z0⟩:=uS w (jG #[iY iZ a.sets,iX Ai ni ci,iX An nn cn] 32) (jG #[iY iZ nn] 3);obtain⟨L,F⟩:=xQ ((w.alloc (jG #[iY iZ a.sets,iX Ai ni ci,iX An nn cn] 32)).alloc (jG #[iY iZ nn] 3));rw[F]at E x0 y0 z0;have a6:=h.below E hB;have a7:=h.eni;have a8:=h.Ov;have aS:=h.init.cap;have az:=h.init.max;obtain⟨aT,Q, -⟩:=h.nodes;have g:=Q.cap;have aA:=Q.max;let⟨s,hs⟩:=xQ a.sets
 have HS:=dh hs;have ad:B<=L.1.size:=ω;rw[hs]at F x0;obtain⟨G,R,af,j⟩:=iB F x0 y0 z0;clear Q;unfold maxLen at az aA;obtain⟨HR,aB,k,r,aU,aC⟩:=dh6 a6 a7 a8 E Z a1;have aO:ni<=100000000:=ω
 have ag:Hd (∀(w':jF) (l:List Int) (A:Option Addr) (n c:Nat),Below L.1.size L w'->Sl w' w'.1.size 1 A n c (qO l)->n=η l->n<=100000000000->
   Calls jJ 75 #[iX A n c,.func (.func 74) #[] #[jH (jB ⟨w.1.size+1,0,jC⟩)]] w' (AX w' (!(l.all (sG nn))))):=
  dh (λw' l A n c hb aD hn hl=>by
   have hc:w'.cell? ⟨w.1.size+1,0,jC⟩=jB (iY iZ (nn:Int)):=(hb.cell (p:=⟨w.1.size+1,0,jC⟩) γ).trans (cR af.o);have S:w.1.size+1<w'.1.size:=by have:=hb.size;omega
   have:=Qw _ _ l A n c _ _ aD lR hn hl (dh (λx w2 _ m=>Xr x _ _ _ (bC m S hc)))
   grind)
 clear a6 F h a7 a8 x0 y0 z0 E Z a1;let⟨k0,k1,k2⟩:=sQ R.o
 have kn:L.cell? ⟨_,0,_⟩=jB (.int _ _):=cR af.o;rw[hs];by_cases aP:256<nn
 ·have ah:256<(nn:Int):=ω;have y:Hd (tO a=11):=dh (by unfold tO;rw[jd (.inl (by rwa [<-k.o]))]);clear hs;go_enter Tryz.func51,Tryz.ntmps51;go_upto_region 3 with fail
  rw[G.o];go_wp2
  go_ret
  exact⟨by rw[y.o];rfl,r.o⟩
 ·have ah:¬256<(nn:Int):=ω;by_cases aV:16<s
  ·have y:Hd (tO a=11):=dh (by unfold tO;omega);clear hs;go_enter Tryz.func51,Tryz.ntmps51;go_upto_region 3 with fail
   rw[G.o];go_wp2
   go_ret
   exact⟨by rw[y.o];rfl,r.o⟩
  ·have aj:¬(256<η a.nodes\/16<a.sets):=by rw[<-k.o,hs];omega
   by_cases aW:s<0
   ·have y:Hd (tO a=10):=dh (by unfold tO;omega);clear hs aj;go_enter Tryz.func51,Tryz.ntmps51;go_upto_region 3 with fail
    rw[G.o];go_wp2
    go_ret
    exact⟨by rw[y.o];rfl,r.o⟩
   ·have aE:¬a.sets<0:=ω
    have ak:tO a=if a.init.all (sG (η a.nodes))=jD then zI (η a.nodes) a.sets a.nodes else 10:=by
     unfold tO;omega
    obtain⟨HC,ao⟩:=iw ak (ag _ _ _ _ _ bR (HR.init.up ad) aB ω);clear ak;clear hs aj aE;go_enter Tryz.func51,Tryz.ntmps51;go_upto_region 3 with fail
    rw[G.o];go_wp2_with fail
    apply ao.mono;cases d:a.init.all _
    ·rintro e w1 ⟨rfl,z⟩;have y:Hd (tO a=10):=dh (by rw[HC.o,d9 (by rw[<-k.o,d];decide)]);have H:=dh (r.trans (z.mono (by have:=j.o;omega)));go_wp2
     go_ret
     exact⟨by rw[y.o];rfl,H.o⟩
    ·rintro e w1 ⟨rfl,z⟩;have aq:tO a=zI (η a.nodes) a.sets a.nodes:=by rw[HC.o,jd (by rwa [<-k.o])]
     obtain⟨ar,H⟩:=iw aq z;have I:=bC z (by have:=j.o;omega) k0;have aF:=bC z (by have:=j.o;omega) k2;clear d aq z k0 k1 k2 kn HC ao;go_wp2
     go_loopw [32] (λv wr=>∃i,i<=nn/\v=iY iZ i/\Below L.1.size L wr/\Hd (∀x∈a.nodes.take i,vE (η a.nodes) a.sets x=0)) (λv _=>nn-(intOf v).toNat)
     case atStart=>exact⟨0,ω,rfl,H.o,dh (λx hx=>γ)⟩
     case round=>
      clear H I aF;obtain⟨i,hi,rfl,u,HQ⟩:=hrel;have au:=u.size;have I:wr.cell? _ =jB (.int _ s):=(u.cell (p:=⟨_,0,_⟩) (by show w.1.size<L.1.size;have:=j.o;omega)).trans (cR R.o);by_cases S:i<nn
      ·have aQ:i<(nn:Int):=ω;have aX:0<=(i:Int):=ω;obtain⟨b,o,x,At,ct,rfl,aY,hx,c0,c1,c2,c3,J⟩:=wh (HR.below u ad) S;have av:i<η a.nodes:=by rwa [<-k.o]
       have C:=by
        rw[gE av]at hx;exact jY hx
       have aZ:=aC x (by rw[<-C];exact mM _);have aw:=λh=>Fw _ HQ (by rwa [C])
       have M:vE _ _ x≠0->tO a=vE _ _ x:=λh=>by
        rw[ar.o,MO _ HQ (by rwa [C]),C]
       have aG:=J.max;have b4:=J.cap;unfold maxLen at aG;have wi:IntKind.i64.wrap (i+1)=i+1:=by rw[wI];omega
       obtain⟨aH,N⟩:=iw aw M;have D:Below _ _ (wr.alloc (jG #[iY jA x.need,iY jA x.ban,iY jA x.inn,iX At (η x.to) ct] 53)):=bR.alloc lR _;have T:=heap_alloc_new wr (jG #[iY jA x.need,iY jA x.ban,iY jA x.inn,iX At (η x.to) ct] 53);have U:(wr.alloc (jG #[iY jA x.need,iY jA x.ban,iY jA x.inn,iX At (η x.to) ct] 53)).1.size=wr.1.size+1:=ς;let⟨wx,V⟩:=xQ (wr.alloc (jG #[iY jA x.need,iY jA x.ban,iY jA x.inn,iX At (η x.to) ct] 53))
       rw[V]at D T U;obtain⟨aJ,ax,aK,K,aL⟩:=iC V T (ag wx x.to At (η x.to) ct (u.trans (D.mono au)) ((J.below D ω).up ω) rfl ω) (u.trans (D.mono au)) U;clear aw M J hx C D T U V u;go_upto_region 10 with fail
       rw[aJ.o];have e3:wx.cell? ⟨_,3,_⟩=jB (iX _ _ _):=cR ax.o;clear c0 c1 c2 c3;go_wp2_with fail
       apply aK.mono;cases d:x.to.all _
       ·rintro e w2 ⟨rfl,m⟩;have g:vE (η a.nodes) a.sets x=10:=by unfold vE;rw[d9 (by rw[<-k.o,d];decide)]
        have y:Hd (tO a=10):=dh (by rw[N ω,g]);have W:=dh (r.trans ((K.trans (m.mono (by have:=K.size;omega))).mono (by have:=j.o;omega)));go_wp2
        go_ret
        exact⟨by rw[y.o];rfl,W.o⟩
       ·rintro e w2 ⟨rfl,m⟩
        have g:vE (η a.nodes) a.sets x=if x.inn>>>s.toNat=0 then 0 else 3:=by
         unfold vE;rw[jd (by rwa [<-k.o]),HS.o]
        obtain⟨t,ht⟩:∃t:Nat,s=t:=⟨s.toNat,ω⟩;have b5:t<=16:=ω;have e2:w2.cell? _ =jB (.int _ _):=(m.cell (p:=⟨_,2,_⟩) (by show wr.1.size<wx.1.size;have:=aL.o;omega)).trans (cR ax.o);have q:=K.trans (m.mono (by have:=K.size;omega));have aR:w2.cell? _ =jB (.int _ s):=(q.cell (p:=⟨_,0,_⟩) (by show w.1.size<L.1.size;have:=j.o;omega)).trans (cR R.o);have W:=dh q;subst ht;rw[tN]at g;have ay:=aej x.inn t;cases Y:(x.inn>>>t==0)
        ·have O:vE (η a.nodes) a.sets x=3:=by rw[g,d9 (by simpa using Y)]
         have y:Hd (tO a=3):=dh (by rw[N ω,O]);have X:=dh (r.trans (q.mono (by have:=j.o;omega)));rw[Y]at ay;clear d g O m q e3 I Y;go_wp2
         go_ret
         exact⟨by rw[y.o];rfl,X.o⟩
        ·have P:vE (η a.nodes) a.sets x=0:=by rw[g,jd (by simpa using Y)]
         have aM:=dh (aH P);rw[Y]at ay;clear d g P m q e3 I Y;go_wp2
         exact⟨⟨_,ω,jM _ ω,W.o,aM⟩,by simp[intOf];omega⟩
      ·have aN:i=nn:=ω;subst aN;have y:Hd (tO a=0):=dh (by rw[ar.o];exact Ji (λx hx=>HQ x (by rwa [k.o,kH])));have X:=dh (r.trans (u.mono (by have:=j.o;omega)));go_wp2
       go_ret
       exact⟨by rw[y.o];rfl,X.o⟩
set_option maxHeartbeats 4000000
set_option maxRecDepth 100000
instance:DecidableEq BM:=λx y=>decidable_of_iff (x.need=y.need/\x.ban=y.ban/\x.inn=y.inn/\x.to=y.to) (by
 constructor
 ·rintro⟨h1,h2,h3,h4⟩;cases x;cases y;simp only at h1 h2 h3 h4;subst h1;subst h2;subst h3;subst h4;rfl
 ·rintro rfl;exact⟨rfl,rfl,rfl,rfl⟩)
instance:DecidableEq rQ:=λx y=>decidable_of_iff (x.sets=y.sets/\x.init=y.init/\x.nodes=y.nodes) (by
 constructor
 ·rintro⟨h1,h2,h3⟩;cases x;cases y;simp only at h1 h2 h3;subst h1;subst h2;subst h3;rfl
 ·rintro rfl;exact⟨rfl,rfl,rfl⟩)
theorem aie (x y:BM):x=y↔x.need=y.need/\x.ban=y.ban/\x.inn=y.inn/\x.to=y.to:=by
 constructor
 ·rintro rfl;exact⟨rfl,rfl,rfl,rfl⟩
 ·rintro⟨a,b,c,d⟩;cases x;cases y;simp only at a b c d;subst a;subst b;subst c;subst d;rfl
theorem ah8 (x y:rQ):x=y↔x.sets=y.sets/\x.init=y.init/\x.nodes=y.nodes:=by
 constructor
 ·rintro rfl;exact⟨rfl,rfl,rfl⟩
 ·rintro⟨a,b,c⟩;cases x;cases y;simp only at a b c;subst a;subst b;subst c;rfl
theorem Hw (x y:Nat):((x:Int)==(y:Int))=decide (x=y):=by
 by_cases h:x=y
 ·subst h;simp
 ·rw[decide_eq_false h];exact kF.2 ω
theorem UN (x y:BM)(A1 A2 c1 c2 w B)(p:Sl w B 1 A1 (η x.to) c1 (qO x.to))(q:Sl w B 1 A2 (η y.to) c2 (qO y.to))(r:B<=w.1.size)(hl:η x.to<=100000000):
  Calls jJ 93 #[.agg #[iY jA (x.need:Int),iY jA (x.ban:Int),iY jA (x.inn:Int),iX A1 (η x.to) c1],.agg #[iY jA (y.need:Int),iY jA (y.ban:Int),iY jA (y.inn:Int),iX A2 (η y.to) c2]] w (AX w (decide (x=y))):=by
 obtain⟨a,x0,k,z0⟩:=uS w (jG #[iY jA (x.need:Int),iY jA (x.ban:Int),iY jA (x.inn:Int),iX A1 (η x.to) c1] 53) (jG #[iY jA (y.need:Int),iY jA (y.ban:Int),iY jA (y.inn:Int),iX A2 (η y.to) c2] 53);obtain⟨s,d⟩:=xQ ((w.alloc (jG #[iY jA (x.need:Int),iY jA (x.ban:Int),iY jA (x.inn:Int),iX A1 (η x.to) c1] 53)).alloc (jG #[iY jA (y.need:Int),iY jA (y.ban:Int),iY jA (y.inn:Int),iX A2 (η y.to) c2] 53));rw[d]at a x0 k z0;obtain⟨u,v,z,C⟩:=DK x0;obtain⟨D,l1,l2,E⟩:=DK k;obtain⟨l,b,c,m⟩:=iB ((Lm A1 A2 (η x.to) c1 (η y.to) c2 x.to y.to s B B (p.below a r) (q.below a r) rfl rfl ω).mono (λ_ _ h=>RP h)) d a z0;have b1:=Hw x.need y.need;have b2:=Hw x.ban y.ban;have b3:=Hw x.inn y.inn;clear p q a d x0 k z0;by_cases e1:x.need=y.need
 ·rw[decide_eq_true e1]at b1;by_cases e2:x.ban=y.ban
  ·rw[decide_eq_true e2]at b2;by_cases i:x.inn=y.inn
   ·rw[decide_eq_true i]at b3;have g:Hd (decide (x.to=y.to)=decide (x=y)):=dh (ou.2 (by rw[aie];exact⟨λh=>⟨e1,e2,i,h⟩,λh=>h.2.2.2⟩));clear e1 e2 i;go_enter Tryz.func93,Tryz.ntmps93;go_upto_region 1 with fail
    rw[b.o];go_wp2_with fail
    refine l.mono ?_;rintro e w1 ⟨rfl,j⟩;have n:=dh (c.trans (j.mono (by have:=m.o;omega)));clear j;go_wp2_with fail
    go_ret
    exact⟨rH g.o,n.o⟩
   ·rw[decide_eq_false i]at b3;have g:Hd (jE=decide (x=y)):=dh (decide_eq_false (λh=>i (by rw[h]))).symm;clear e1 e2 i;go_enter Tryz.func93,Tryz.ntmps93;go_upto_region 1 with fail
    rw[b.o];go_wp2_with fail
    go_ret
    exact⟨rH g.o,c.o⟩
  ·rw[decide_eq_false e2]at b2;have g:Hd (jE=decide (x=y)):=dh (decide_eq_false (λh=>e2 (by rw[h]))).symm;clear e1 e2;go_enter Tryz.func93,Tryz.ntmps93;go_upto_region 1 with fail
   rw[b.o];go_wp2_with fail
   go_ret
   exact⟨rH g.o,c.o⟩
 ·rw[decide_eq_false e1]at b1;have g:Hd (jE=decide (x=y)):=dh (decide_eq_false (λh=>e1 (by rw[h]))).symm;clear e1;go_enter Tryz.func93,Tryz.ntmps93;go_upto_region 1 with fail
  rw[b.o];go_wp2_with fail
  go_ret
  exact⟨rH g.o,c.o⟩
theorem Zj {α:Type}{l m:List α}{x y:α}(b:l[k]? =jB x)(a:m[k]? =jB y)(h:x≠y):l≠m:=by
 rintro rfl;rw[b]at a;exact h (jY a)
theorem Xk (a b Ai ni ci An nn cn Di mi di Z mn dn w B)(I:sW w B a Ai ni ci An nn cn)(J:sW w B b Di mi di Z mn dn)(hB:B<=w.1.size)(a6:η a.nodes<=100000)(s:∀x∈a.nodes,η x.to<=100000000):
  Calls jJ 92 #[iX An nn cn,iX Z mn dn,.func (.func 93) #[] #[]] w (AX w (decide (a.nodes=b.nodes))):=by
 have e2:=I.Ov;have K:=J.Ov;obtain⟨a7,m, -⟩:=I.nodes;obtain⟨a8,n, -⟩:=J.nodes;have ad:=m.cap;have M:=m.max;have af:=n.cap;have N:=n.max;unfold maxLen at M N;obtain⟨H1,H2,O⟩:=iA I J s;clear I J s m n;by_cases u:nn=mn
 ·subst u;obtain⟨E2,E4⟩:=iw e2 K;have P:nn<=100000:=ω;clear e2 K;go_enter Tryz.func92,Tryz.ntmps92;go_wp2_with fail
  go_loopw [17] (λv wr=>∃i:Nat,i<=nn/\v=iY iZ i/\Below w.1.size w wr/\Hd (a.nodes.take i=b.nodes.take i)) (λv _=>nn-(intOf v).toNat)
  case atStart=>exact⟨0,ω,rfl,bR,dh rfl⟩
  case round=>
   obtain⟨i,hi,rfl,c,HQ⟩:=hrel;have Q:=c.size;by_cases z:i<nn
   ·have ag:(0:Int)<=(i:Int):=ω;have ah:(i:Int)<(nn:Int):=ω;have wi:IntKind.i64.wrap ((i:Int)+1)=i+1:=by rw[wI];omega
    obtain⟨b1,o1,x,At,L,rfl,R,C,c0,c1,c2,c3,D⟩:=wh (H1.below c hB) z;obtain⟨b2,o2,y,S,T,rfl,E,hy,d0,d1,d2,d3,l⟩:=wh (H2.below c hB) z;have U:=O x (jy C);obtain⟨d,x0,V,z0⟩:=uS wr (jG #[iY jA (x.need:Int),iY jA (x.ban:Int),iY jA (x.inn:Int),iX At (η x.to) L] 53) (jG #[iY jA (y.need:Int),iY jA (y.ban:Int),iY jA (y.inn:Int),iX S (η y.to) T] 53);obtain⟨W0,p⟩:=xQ ((wr.alloc (jG #[iY jA (x.need:Int),iY jA (x.ban:Int),iY jA (x.inn:Int),iX At (η x.to) L] 53)).alloc (jG #[iY jA (y.need:Int),iY jA (y.ban:Int),iY jA (y.inn:Int),iX S (η y.to) T] 53));rw[p]at d x0 V z0;obtain⟨HS,F,G,W,q⟩:=iC (UN x y At S L T W0 B (D.below d ω) (l.below d ω) ω U) (c.trans (d.mono Q)) z0 p (And.intro C hy);obtain⟨k0,k1,k2,k3⟩:=DK x0;obtain⟨l0,l1,l2,l3⟩:=DK V;have g:Below wr.1.size wr (wr.alloc (jG #[iY jA (x.need:Int),iY jA (x.ban:Int),iY jA (x.inn:Int),iX At (η x.to) L] 53)):=bR.alloc lR _;have d0:=(g.cell (show b2<wr.1.size by omega)).trans d0;have d1:=(g.cell (show b2<wr.1.size by omega)).trans d1;have d2:=(g.cell (show b2<wr.1.size by omega)).trans d2;have d3:=(g.cell (show b2<wr.1.size by omega)).trans d3;clear g;clear D l d p C hy x0 V z0 R E;go_upto_region 7 with fail
    rw[W.o];clear c0 c1 c2 c3 d0 d1 d2 d3;go_wp2_with fail
    refine HS.mono ?_;by_cases k:x=y
    ·rw[decide_eq_true k];rintro e w2 ⟨rfl,j⟩;have r:=dh (F.trans (j.mono (by have:=G.o;omega)))
     have X:Hd (a.nodes.take (i+1)=b.nodes.take (i+1)):=dh (by
      obtain⟨C,hy⟩:=q.o;rw[List.take_add_one,List.take_add_one,HQ.o,C,hy,k])
     clear j k0 k1 k2 k3 l0 l1 l2 l3;go_wp2_with fail
     exact⟨⟨i+1,ω,jM (Value.int iZ) ω,r.o,X⟩,by simp[intOf];omega⟩
    ·rw[decide_eq_false k];rintro e w2 ⟨rfl,j⟩;have r:=dh (F.trans (j.mono (by have:=G.o;omega)));have H:=dh (decide_eq_false (Zj q.1 q.2 k)).symm;clear j k0 k1 k2 k3 l0 l1 l2 l3;go_wp2_with fail
     go_ret
     exact⟨rH H.o,r.o⟩
   ·have Y:i=nn:=ω;subst Y;have H:=dh (decide_eq_true (by have:=HQ.o;rwa [E2.o,kH,<-E2.o,E4.o,kH]at this)).symm;go_wp2_with fail
    go_ret
    exact⟨rH H.o,c⟩
 ·have H:Hd (jE=decide (a.nodes=b.nodes)):=dh (decide_eq_false (λh=>u (by rw[e2,K,h]))).symm;have a1:((nn:Int)==(mn:Int))=jE:=by simp;omega
  have P:nn<=100000:=ω;clear e2 K;go_enter Tryz.func92,Tryz.ntmps92;go_wp2_with fail
  go_ret
  exact⟨rH H.o,bR⟩
theorem UM (a b Ai ni ci An nn cn n p q u mn dn w B)(v:sW w B a Ai ni ci An nn cn)(E:sW w B b n p q u mn dn)(F:B<=w.1.size)(H:η a.nodes<=100000)(N:η a.init<=1000000)(y:∀x∈a.nodes,η x.to<=100000000):
  Calls jJ 57 #[.agg #[iY iZ a.sets,iX Ai ni ci,iX An nn cn],.agg #[iY iZ b.sets,iX n p q,iX u mn dn]] w (AX w (decide (a=b))):=by
 obtain⟨s,hs⟩:=xQ a.sets;obtain⟨t,r⟩:=xQ b.sets;rw[hs,r];obtain⟨d,x0,G,z0⟩:=uS w (jG #[iY iZ s,iX Ai ni ci,iX An nn cn] 32) (jG #[iY iZ t,iX n p q,iX u mn dn] 32);obtain⟨z,k⟩:=xQ ((w.alloc (jG #[iY iZ s,iX Ai ni ci,iX An nn cn] 32)).alloc (jG #[iY iZ t,iX n p q,iX u mn dn] 32));rw[k]at d x0 G z0;obtain⟨O,P,M⟩:=sQ x0;obtain⟨Q,l1,l2⟩:=sQ G;have g:=dh ((Lm Ai n ni ci p q a.init b.init z B B (v.init.below d F) (E.init.below d F) v.eni E.eni (by rw[v.eni];omega)).mono (λ_ _ h=>RP h));have I:=dh (λ(w':jF) (hb:Below z.1.size z w')=>Xk a b Ai ni ci An nn cn n p q u mn dn w' B ((v.below d F).below hb ω) ((E.below d F).below hb ω) (by have:=hb.size;omega) H y);obtain⟨l,m,i,R,S⟩:=iC k d z0 x0 G;clear v E d k x0 G z0 y;by_cases e1:s=t
 ·have b1:((s:Int)==t)=jD:=by simp[e1]
  by_cases e2:a.init=b.init
  ·rw[decide_eq_true e2]at g;have C:Hd (decide (a.nodes=b.nodes)=decide (a=b)):=dh (ou.2 (by rw[ah8];exact⟨λh=>⟨by rw[hs,r];exact e1,e2,h⟩,λh=>h.2.2⟩));clear e1 e2 hs r;go_enter Tryz.func57,Tryz.ntmps57;go_upto_region 1 with fail
   rw[l.o];go_wp2_with fail
   refine g.mono ?_;rintro e w1 ⟨rfl,c⟩;have J:=bC c (by show w.1.size<z.1.size;have:=i.o;omega) M;have l2':=bC c (by show w.1.size+1<z.1.size;have:=i.o;omega) l2;obtain⟨j,K⟩:=iw c (I w1 c);clear c O P M Q l1 l2;go_wp2_with fail
   refine K.mono ?_;rintro e w2 ⟨rfl,D⟩;have L:=dh (m.trans ((j.trans (D.mono j.size)).mono (by have:=i.o;omega)));clear D J l2';go_wp2_with fail
   go_ret
   exact⟨rH C.o,L.o⟩
  ·rw[decide_eq_false e2]at g;have C:Hd (jE=decide (a=b)):=dh (decide_eq_false (λh=>e2 (by rw[h]))).symm;clear e1 e2 hs r;go_enter Tryz.func57,Tryz.ntmps57;go_upto_region 1 with fail
   rw[l.o];go_wp2_with fail
   refine g.mono ?_;rintro e w1 ⟨rfl,c⟩;have j:=dh (m.trans (c.mono (by have:=i.o;omega)));clear c;go_wp2_with fail
   go_ret
   exact⟨rH C.o,j.o⟩
 ·have b1:=kF.2 e1;have C:Hd (jE=decide (a=b)):=dh (decide_eq_false (λh=>e1 (by rw[<-hs,<-r,h]))).symm;clear e1 hs r;go_enter Tryz.func57,Tryz.ntmps57;go_upto_region 1 with fail
  rw[l.o];go_wp2_with fail
  go_ret
  exact⟨rH C.o,m.o⟩
structure DV (E:List (List Nd))(of:List Nat):Prop where
 len:η of=η E
 at_:∀x,x<η E->ED E x (of.getD x 0)
def Mf (of:List Nat)(m:Nat):List Nat:=(ζ (η of)).filter (λi=>of.getD i 0==m)
def VQ (of:List Nat):List Nat:=(ζ (η of)).filter (λi=>of.getD i 0==i)
def sO (of:List Nat):List (List Nat):=(VQ of).map (Mf of)
theorem JN:x∈Mf of m↔x<η of/\of.getD x 0=m:=by
 unfold Mf;simp
theorem RS:x∈VQ of↔x<η of/\of.getD x 0=x:=by
 unfold VQ;simp
section
variable {E:List (List Nd)}{of:List Nat}
theorem Us (h:tT (DY E) x y)(c:x<η E):y<η E:=by
 induction h with
 |refl a=>omega
 |step r _ b=>exact b r.2.1
theorem DV.lt (h:DV E of)(a:x<η E):of.getD x 0<η E:=Us (h.at_ x a).1.1 a
theorem DV.le (h:DV E of)(a:x<η E):of.getD x 0<=x:=(h.at_ x a).2 x (Rk.refl E x)
theorem DV.idem (h:DV E of)(a:x<η E):of.getD (of.getD x 0) 0=of.getD x 0:=by
 have b:=h.at_ x a;have c:=h.at_ _ (h.lt a);exact c.uniq ⟨Rk.refl E _,λy hy=>b.2 y (b.1.trans hy)⟩
theorem DV.mut (h:DV E of)(a:x<η E)(hy:y<η E):of.getD x 0=of.getD y 0↔Rk E x y:=by
 constructor
 ·intro e;exact(h.at_ x a).1.trans (e▸(h.at_ y hy).1.symm)
 ·intro hm;have c:=h.at_ x a;have b:=h.at_ y hy;exact c.uniq ⟨hm.trans b.1,λz d=>b.2 z (hm.symm.trans d)⟩
theorem DV.rep (h:DV E of)(a:x<η E):of.getD x 0∈VQ of:=RS.2 ⟨by rw[h.len];exact h.lt a,h.idem a⟩
theorem PZ (h:DV E of)(hl:l∈sO of):∃m,m<η E/\m∈l/\∀x,x∈l↔x<η E/\Rk E m x:=by
 obtain⟨m,hm,rfl⟩:=jg.1 hl;obtain⟨b,c⟩:=RS.1 hm;rw[h.len]at b;refine⟨m,b,JN.2 ⟨by rwa [h.len],c⟩,λx=>?_⟩;rw[JN,h.len];constructor
 ·rintro⟨a,e⟩;exact⟨a,(h.mut b a).1 ω⟩
 ·rintro⟨a,e⟩;exact⟨a,by rw[<-(h.mut b a).2 e,c]⟩
theorem acw (h:DV E of)(a:x<η E):Mf of (of.getD x 0)∈sO of/\x∈Mf of (of.getD x 0):=
 ⟨jg.2 ⟨_,h.rep a,rfl⟩,JN.2 ⟨by rwa [h.len],rfl⟩⟩
end
def UZ (ins:List Nat)(l:List Nat):Nat:=l.foldl (λu i=>u|||ins.getD i 0) 0
theorem aeY (ins l x):UZ ins (l++[x])=UZ ins l|||ins.getD x 0:=by simp[UZ]
theorem aaz:∀(l:List Nat),(UZ ins l).testBit i=jD↔∃x∈l,(ins.getD x 0).testBit i=jD:=by
 have key:∀(l:List _) (u),(l.foldl (λu i=>u|||ins.getD i 0) u).testBit i=jD↔u.testBit i=jD\/∃x∈l,(ins.getD x 0).testBit i=jD:=by
  intro l;induction l with
  |nil=>intro u;simp
  |cons x l a=>
   intro u
   grind
 intro l;rw[UZ,key];simp
theorem aeZ (h:∀i,ins.getD i 0<2^64):∀l,UZ ins l<2^64:=by
 have key:∀(l:List _) (u),u<2^64->l.foldl (λu i=>u|||ins.getD i 0) u<2^64:=by
  intro l;induction l with
  |nil=>intro u hu;grind
  |cons x l a=>intro u hu;exact a _ (nP hu (h x))
 exact λl=>key l 0 δ
def Hz (E:List (List Nd))(n:Nat):Bool:=(E.getD n []).any (λe=>e.op==(n:Int))
def NR (E:List (List Nd)):List Nat->Bool
 |[]=>jE
 |x::l=>l.any (λy=>y !=x)||Hz E x
def uH (s:Nat):Nat:=2^s-1
theorem Fx {s:Nat}:(uH s).testBit i=decide (i<s):=by rw[uH,Nat.testBit_two_pow_sub_one]
def Gn (E:List (List Nd))(ins:List Nat)(s:Nat)(l:List Nat):Bool:=decide (UZ ins l&&&uH s=uH s)&&NR E l
def LC (ins:List Nat)(s:Nat):List (Nat->Bool):=(λ_=>jD)::(ζ s).map (λi m=>(ins.getD m 0).testBit i)
theorem S9 {s:Nat}{P:(Nat->Bool)->Prop}:(∀p∈LC ins s,P p)↔P (λ_=>jD)/\∀i,i<s->P (λm=>(ins.getD m 0).testBit i):=by
 constructor
 ·intro h;exact⟨h _ (ji ..),λi hi=>h _ (jc _ γ)⟩
 ·rintro⟨a,b⟩ p hp;rcases jk.1 hp with rfl|hp
  ·omega
  ·grind
theorem aif {s:Nat}:u&&&uH s=uH s↔∀i,i<s->u.testBit i=jD:=by
 constructor
 ·intro h i hi;have:=jM (λx=>x.testBit i) h;simp[Fx,decide_eq_true hi]at this;omega
 ·intro h;apply l6;intro i;rw[lF,Fx]
  grind
section
variable {E:List (List Nd)}{of:List Nat}{ins:List Nat}{s:Nat}
theorem ahW (hm:m∈l)(t:m<η E)(hl:∀x,x∈l↔x<η E/\Rk E m x):NR E l=jD↔∃j,DY E m j/\tT (DY E) j m:=by
 have b:∀{x y},tT (DY E) x y->x≠y->∃j,DY E x j/\tT (DY E) j y:=by
  intro x y h;cases h with
  |refl a=>omega
  |step r k=>grind
 cases l with
 |nil=>grind
 |cons x l=>
  have g:=(hl x).1 (ji ..);unfold NR;rw[kX];constructor
  ·rintro(h|h)
   ·rw[kT]at h;obtain⟨y,hy,u⟩:=h;have o:y≠x:=γ;have i:=(hl y).1 (jc _ hy);by_cases e:m=x
    ·subst e;let⟨j,c,f⟩:=b i.2.1 ω
     exact⟨j,c,f.trans i.2.2⟩
    ·let⟨j,c,f⟩:=b g.2.1 e
     exact⟨j,c,f.trans g.2.2⟩
   ·unfold Hz at h;rw[kT]at h;obtain⟨e,he,p⟩:=h;have v:=by simpa using p
    have w:DY E x x:=⟨g.1,g.1,by simp only[tgts,jg];grind⟩;by_cases e2:m=x
    ·subst e2;exact⟨m,w,.refl _⟩
    ·let⟨j,c,f⟩:=b g.2.1 e2
     exact⟨j,c,f.trans g.2.2⟩
  ·rintro⟨j,c,f⟩;by_cases q:l.any (λy=>y !=x)=jD
   ·grind
   ·right
    have d:∀y,y∈x::l->y=x:=by
     intro y hy
     grind
    have n:=d m hm;subst n;have z:=d j ((hl j).2 ⟨c.2.1,.step c (.refl _),f⟩);subst z;have s:=c.2.2;simp only[tgts,jg]at s;obtain⟨e,he,p⟩:=s;exact kT.2 γ
theorem Core.mut (h:Core E asks x)(hm:Rk E x y):Core E asks y:=by
 obtain⟨⟨j,e,f⟩,d⟩:=h;refine⟨?_,λp hp=>?_⟩
 ·have hl:=hm.2;cases hl with
  |refl a=>grind
  |step r k=>exact⟨_,r,k.trans hm.1⟩
 ·obtain⟨u,a,b,c⟩:=d p hp;exact⟨u,hm.2.trans a,b.trans hm.1,c⟩
theorem Sz (h:DV E of)(hl:l∈sO of)(k:x∈l):Gn E ins s l=jD↔Core E (LC ins s) x:=by
 obtain⟨m,e,hm,d⟩:=PZ h hl;obtain⟨n,f⟩:=(d x).1 k
 have g:Gn E ins s l=jD↔Core E (LC ins s) m:=by
  unfold Gn Core;rw[jm,jN,ahW hm e d,aif,S9];constructor
  ·rintro⟨j,o⟩;refine⟨o,⟨m,.refl _,.refl _,rfl⟩,λi hi=>?_⟩;obtain⟨u,hu,hb⟩:=(aaz l).1 (j i hi);have:=(d u).1 hu;exact⟨u,this.2.1,this.2.2,hb⟩
  ·rintro⟨j,_,p⟩;refine⟨λi hi=>?_,j⟩;obtain⟨u,a,b,c⟩:=p i hi;exact(aaz l).2 ⟨u,(d u).2 ⟨Us a e,a,b⟩,c⟩
 rw[g];exact⟨λh=>h.mut f,λh=>h.mut f.symm⟩
def WY (E:List (List Nd))(ins:List Nat)(s:Nat)(P:List (List Nat)):List Bool:=((P.filter (Gn E ins s)).flatten).foldl (λr x=>r.set x jD) (ρ (η E) jE)
theorem SB (h:DV E of)(f:x<η E):(WY E ins s (sO of)).getD x jE=jD↔Core E (LC ins s) x:=by
 have c:∀y∈((sO of).filter (Gn E ins s)).flatten,y<η (ρ (η E) jE):=by
  intro y hy;obtain⟨l,hl,g⟩:=List.mem_flatten.1 hy;obtain⟨m,_,_,i⟩:=PZ h (jL.1 hl).1
  grind
 have e:(WY E _ s _).getD x _ =if x∈((sO _).filter _).flatten then jD else(ρ _ _).getD x jE:=IX c x
 rw[e,PE]
 have:x∈((sO of).filter (Gn E ins s)).flatten↔Core E (LC ins s) x:=by
  rw[List.mem_flatten];constructor
  ·rintro⟨l,hl,d⟩;obtain⟨a,b⟩:=jL.1 hl;exact(Sz h a d).1 b
  ·intro hc;obtain⟨a,b⟩:=acw h f;exact⟨_,jL.2 ⟨a,(Sz h a b).2 hc⟩,b⟩
 grind
theorem Wz (h:DV E of)(a:x<η E):(xg.UK (η E) E (WY E ins s (sO of))).getD x jE=jD↔Runs E (LC ins s) x:=by
 have b:=FP (n:=η E) (E:=yI E) (from_:=xC (η E) (WY E ins s (sO of))) (i:=(x:Int)) (sU.2 ⟨ω,ω⟩);rw[tN]at b;unfold xg.UK;rw[b,PO rfl a,aeu];constructor
 ·rintro⟨k,c,d,hl⟩;exact⟨k,hl,(SB h c).1 ((Gb c).1 d)⟩
 ·rintro⟨v,hl,hc⟩;have hv:=Us hl a;exact⟨v,hv,(Gb hv).2 ((SB h hv).2 hc),hl⟩
theorem Runs.congr {c:List (Nat->Bool)}(hl:∀p'∈c,∃p∈asks,∀k,k<η E->p k=p' k)(h:Runs E asks x):Runs E c x:=by
 obtain⟨r,f,e,g⟩:=h;refine⟨r,f,e,λp' d k=>?_⟩;obtain⟨p,hp,he⟩:=hl p' d;obtain⟨m,a,b⟩:=g p hp k;exact⟨m,a,by rw[<-he _ (e m).1];exact b⟩
end
def DZ (of:List Nat)(k:Nat):List Nat:=(ζ k).filter (λi=>of.getD i 0==i)
def JQ (of:List Nat)(k m:Nat):List Nat:=(ζ k).filter (λi=>of.getD i 0==m)
def wD (of:List Nat)(k:Nat):List (List Nat):=(DZ of k).map (JQ of k)
theorem YV (of):wD of (η of)=sO of:=rfl
theorem IW (of k):DZ of (k+1)=DZ of k++(if of.getD k 0=k then[k]else[]):=by
 unfold DZ;rw[mh,ku]
 grind
theorem IV (of k m):JQ of (k+1) m=JQ of k m++(if of.getD k 0=m then[k]else[]):=by
 unfold JQ;rw[mh,ku]
 grind
theorem PG:m∈DZ of k↔m<k/\of.getD m 0=m:=by
 unfold DZ;simp
theorem aeB (of k):η (DZ of k)<=k:=by
 have:=jO (λi=>of.getD i 0==i) (ζ k);rwa [kL]at this
theorem aey (of k m):η (JQ of k m)<=k:=by
 have:=jO (λi=>of.getD i 0==m) (ζ k);rwa [kL]at this
def Jk (of place:List Nat)(k:Nat):Prop:=∀j m,(DZ of k)[j]? =jB m->place.getD m 0=j
theorem VZ (h:Jk of place k)(b:k<η place)(he:of.getD k 0=k):Jk of (place.set k (η (DZ of k))) (k+1):=by
 intro j m a;rw[IW,jd he]at a;rw[Gu b];by_cases hl:j<η (DZ of k)
 ·rw[gC hl]at a;have hm:=(PG.1 (jy a)).1;rw[d9 ω];exact h j m a
 ·grind
theorem VY (h:Jk of place k)(he:of.getD k 0≠k):Jk of place (k+1):=by
 intro j m a;rw[IW,d9 he,kZ]at a;exact h j m a
theorem acz (h:(DZ of k)[j]? =jB m):(wD of k)[j]? =jB (JQ of k m):=by
 unfold wD
 grind
theorem YT (c:DV E of)(d:k<η E)(he:of.getD k 0≠k):∃j,(DZ of k)[j]? =jB (of.getD k 0)/\wD of (k+1)=(wD of k).set j (JQ of k (of.getD k 0)++[k]):=by
 have hle:=c.le d;let⟨j,a⟩:=mV (PG.2 ⟨show of.getD k 0<k by omega,c.idem d⟩)
 refine⟨j,a,?_⟩;have b:(DZ of k).Nodup:=List.Pairwise.filter _ List.nodup_range;refine List.ext_getElem? (λi=>?_);unfold wD;rw[IW,d9 he,kZ,kR,mE];have f:=(gB.1 a).1;by_cases e:j=i
 ·subst e;rw[jd rfl,a,jd γ,oQ,IV,jd rfl]
 ·rw[d9 e,kR];cases hi:(DZ _ k)[i]? with
  |none=>rfl
  |some m=>
   rw[oQ,oQ,IV]
   have g:of.getD k 0≠m:=λe2=>by
    rw[e2]at a;obtain⟨h,l⟩:=gB.1 a;obtain⟨n,o⟩:=gB.1 hi;exact e ((List.getElem_inj b).1 ω)
   grind
theorem YU (a:DV E of)(d:k<η E)(he:of.getD k 0=k):wD of (k+1)=((wD of k)++[[]]).set (η (DZ of k)) [k]:=by
 have b:JQ of k k=[]:=by
  unfold JQ;rw[nL];intro i hi;have c:=jl.1 hi;have:=a.le (show i<η E by omega)
  grind
 have hold:∀m∈DZ of k,JQ of (k+1) m=JQ _ k m:=λm hm=>by
  rw[IV,d9 (by have:=(PG.1 hm).1;omega),kZ]
 unfold wD;rw[IW,jd he,jT,j6 hold,List.map_singleton,IV,b,jd he];simp
def BM.put (x:BM)(l:List Int):BM:=⟨x.need,x.ban,x.inn,l⟩
def EB (x:BM):Bool:=decide (x.need&&&x.ban=0)
def Ee (a:rQ)(q:Nat):List Nd:=((a.at q).to.filter (λt=>EB (a.at q)&&EB (a.at t.toNat))).map (λt=>⟨t,0⟩)
def wL (a:rQ):List (List Nd):=(ζ (η a.nodes)).map (Ee a)
def Dr (a:rQ):List Int:=a.init.filter (λt=>EB (a.at t.toNat))
def Bv (a:rQ):List Nat:=a.nodes.map (·.inn)
def rQ.zero:rQ:=⟨0,[],[]⟩
theorem CU (a):η (wL a)=η a.nodes:=by simp[wL]
theorem ae0 (b:q<η a.nodes):(wL a).getD q []=Ee a q:=by simp[wL,θ,b]
theorem aaM (q):(Bv a).getD q 0=(a.at q).inn:=by
 unfold Bv rQ.at;by_cases h:q<η a.nodes
 ·simp[θ,h]
 ·simp[θ,jQ (by omega:η a.nodes<=q),BM.none]
theorem at_mem (b:q<η a.nodes):a.at q∈a.nodes:=by
 unfold rQ.at;rw[gD,gE b];exact mM b
theorem rQ.Ok.to (h:a.Ok)(b:q<η a.nodes){t:Int}(c:t∈(a.at q).to):∃k:Nat,t=k/\k<η a.nodes:=rO (h.2 _ (at_mem b) t c)
theorem rQ.Ok.first (h:a.Ok){t:Int}(b:t∈a.init):∃k:Nat,t=k/\k<η a.nodes:=rO (h.1 t b)
theorem agn (_hA:a.Ok)(hi:i<η a.nodes):DY (wL a) i j↔j<η a.nodes/\(j:Int)∈(a.at i).to/\EB (a.at i)=jD/\EB (a.at j)=jD:=by
 unfold DY;rw[CU,ae0 hi];unfold Ee;simp only[tgts,jg,nQ];constructor
 ·rintro⟨_,c,t,f,e⟩;obtain⟨d,b⟩:=jL.1 f;have g:t=(j:Int):=e;subst g;rw[tN,jm]at b;exact⟨c,d,b.1,b.2⟩
 ·rintro⟨h,c,d,b⟩;exact⟨hi,h,(j:Int),jL.2 ⟨c,by rw[tN,d,b];rfl⟩,rfl⟩
theorem Ua {x:BM}(h:zD x u=jD):EB x=jD:=by
 unfold zD at h;rw[jm,jN,jN]at h;unfold EB;refine decide_eq_true ?_;rw[<-h.1,Nat.and_assoc,Nat.and_comm u,h.2,Nat.and_zero]
def ajl (a:rQ)(q:Nat):Prop:=gP (η a.nodes) (wL a) (Dr a) (q:Int)/\Runs (wL a) (LC (Bv a) a.sets.toNat) q
noncomputable def CB (a:rQ):List Bool:=Aj (η a.nodes) (ajl a)
def uR (u:List Bool)(n:Nat):Nat:=η ((ζ n).filter (λi=>u.getD i jE))
def sV (u:List Bool)(l:List Int):List Int:=(l.filter (λt=>u.getD t.toNat jE)).map (λt=>((uR u t.toNat:Nat):Int))
def zX (a:rQ)(u:List Bool):rQ:=⟨a.sets,sV u a.init,((ζ (η a.nodes)).filter (λi=>u.getD i jE)).map (λi=>(a.at i).put (sV u (a.at i).to))⟩
noncomputable def BN (a:rQ):rQ:=zX a (CB a)
noncomputable def trimF (a:rQ):rQ:=if tO a=0 then BN a else rQ.zero
section
variable {u:List Bool}
theorem E8 (n):uR u (n+1)=uR u n+(if u.getD n jE=jD then 1 else 0):=by
 unfold uR;rw[mh,ku,lA];congr 1;rw[kW,lN];split<;>simp
theorem F7:∀{n i:Nat},i<n->u.getD i jE=jD->((ζ n).filter (λi=>u.getD i jE))[uR u i]? =jB i
 |0,_,hi,_=>ω
 |n+1,i,hi,hu=>by
  rw[mh,ku];by_cases e:i=n
  ·subst e;rw[gR (by unfold uR;exact lR),uR,mZ,kW,jd hu];rfl
  ·have h:=F7 (n:=n) ω hu;rw[gC (gB.1 h).1];exact h
theorem aaI:∀{n m:Nat},m<uR u n->∃i,i<n/\u.getD i jE=jD/\uR u i=m
 |0,m,h=>by simp[uR]at h
 |n+1,m,h=>by
  rw[E8]at h;by_cases e:m<uR u n
  ·obtain⟨i,a,b,c⟩:=aaI e;exact⟨i,ω,b,c⟩
  ·split at h
   ·next hu=>exact⟨n,ω,hu,ω⟩
   ·omega
theorem Ol (hi:i<n)(hu:u.getD i jE=jD):uR u i<uR u n:=(gB.1 (F7 hi hu)).1
theorem afo (hi:u.getD i jE=jD)(b:u.getD j jE=jD)(h:uR u i=uR u j):i=j:=by
 have a:=F7 (n:=max i j+1) (by omega:i<max i j+1) hi;have c:=F7 (n:=max i j+1) (by omega:j<max i j+1) b;rw[h,c]at a;injection a with a
 exact a.symm
theorem Je {l:List Int}:(x:Int)∈sV u l↔∃t∈l,u.getD t.toNat jE=jD/\uR u t.toNat=x:=by
 unfold sV;rw[jg];constructor
 ·rintro⟨t,c,e⟩;obtain⟨a,b⟩:=jL.1 c;exact⟨t,a,b,ω⟩
 ·rintro⟨t,a,b,d⟩;exact⟨t,jL.2 ⟨a,b⟩,ω⟩
theorem Zv {l:List Int}(hi:i<η l):sV u (l.take (i+1))=sV u (l.take i)++(if u.getD l[i].toNat jE=jD then[((uR u l[i].toNat:Nat):Int)]else[]):=by
 unfold sV;rw[rE l i hi,ku,jT];congr 1;rw[kW,lN];split<;>simp
theorem H7 {l:List Int}:η (sV u l)<=η l:=by
 unfold sV;rw[jr];exact jO _ _
theorem IG (a u):(zX a u).nodes.length=uR u (η a.nodes):=by simp[zX,uR]
theorem Vj (hi:i<η a.nodes)(hu:u.getD i jE=jD):(zX a u).at (uR u i)=(a.at i).put (sV u (a.at i).to):=by
 have h:=F7 hi hu;show(((ζ (η a.nodes)).filter (λi=>u.getD i jE)).map (λi=>((a.at i).put (sV u (a.at i).to)))).getD (uR u i) BM.none= _;rw[gD,kR,h];rfl
theorem I9 (h:∀i,i<n->u.getD i jE=jD):uR u n=n:=by
 induction n with
 |zero=>simp[uR]
 |succ n a=>rw[E8,a (λi hi=>h i ω),jd (h n ω)]
theorem Um (n):uR u n<=n:=by
 have:=jO (λi=>u.getD i jE) (ζ n);rw[kL]at this;exact this
end
section
variable {a:rQ}{W:List Nat}{lp:Nat}
theorem aai (b:q<η a.nodes):(CB a).getD q jE=jD↔ajl a q:=Ja b
theorem agQ (hA:a.Ok)(u):(zX a u).Ok:=by
 have key:∀l:List Int,(∀t∈l,∃k:Nat,t=k/\k<η a.nodes)->∀t∈sV u l,sG (zX a u).nodes.length t=jD:=by
  intro l hl t b;unfold sV at b;obtain⟨x,c,rfl⟩:=jg.1 b;obtain⟨f,e⟩:=jL.1 c;obtain⟨k,rfl,g⟩:=hl x f;rw[tN]at e⊢;have:=Ol g e;rw[IG];exact sU.2 ⟨ω,ω⟩
 refine⟨key _ (λt b=>hA.first b),λx c=>?_⟩;obtain⟨i,hi,rfl⟩:=jg.1 c;have d:=jl.1 (jL.1 hi).1;exact key _ (λt b=>hA.to d b)
theorem ad8 (_h:tO a=0)(c:∀x∈a.nodes,x.inn<2^a.sets.toNat)(b:η a.nodes<=256/\0<=a.sets/\a.sets<=16)(hA:a.Ok)(u):tO (zX a u)=0/\∀x∈(zX a u).nodes,x.inn<2^(zX a u).sets.toNat:=by
 have e:∀x∈(zX a u).nodes,x.inn<2^(zX a u).sets.toNat:=by
  intro x f;obtain⟨i,hi,rfl⟩:=jg.1 f;have d:=jl.1 (jL.1 hi).1;exact c (a.at i) (at_mem d)
 refine⟨MP ?_ b.2 (agQ hA u) e,e⟩;rw[IG];have:=Um (u:=u) (η a.nodes);omega
theorem agl {_E:List (List Nd)}(h:∀i,i<a.sets.toNat->∀k,∃m,k<=m/\(a.at (r m)).inn.testBit i=jD):∀p∈LC (Bv a) a.sets.toNat,∀k,∃m,k<=m/\p (r m)=jD:=by
 rw[S9];refine⟨λk=>⟨k,lR,rfl⟩,λi hi k=>?_⟩;obtain⟨m,b,c⟩:=h i hi k;exact⟨m,b,by dsimp only;rw[aaM];exact c⟩
theorem XT.use (hA:a.Ok)(d:((r 0:Nat):Int)∈a.init)(h:XT a W lp r):∀k,(CB a).getD (r k) jE=jD:=by
 have b:=λk=>(agn hA (h.lt k)).2 ⟨h.lt (k+1),h.to k,Ua (h.gN k),Ua (h.gN (k+1))⟩
 have c:∀k,gP (η a.nodes) (wL a) (Dr a) ((r k:Nat):Int):=by
  intro k;induction k with
  |zero=>
   refine .start (jL.2 ⟨d,?_⟩) (sU.2 ⟨ω,by have:=h.lt 0;omega⟩);rw[tN];exact Ua (h.gN 0)
  |succ k e=>exact .step e (by rw[tN];exact(b k).2.2) (sU.2 ⟨ω,by have:=h.lt (k+1);omega⟩)
 exact λk=>(aai (h.lt k)).2 ⟨c k,Runs.shift b (agl (_E:=wL a) h.met) k⟩
theorem Vi (hA:a.Ok):Acc (BN a) W lp↔Acc a W lp:=by
 unfold BN;constructor
 ·rintro⟨r',j,h⟩;have hex:=λk=>aaI (by have:=h.lt k;rwa [IG]at this)
  obtain⟨r,e⟩:=Classical.axiomOfChoice hex
  have b:∀k,(zX a (CB a)).at (r' k)=(a.at (r k)).put (sV (CB a) (a.at (r k)).to):=λk=>by
   rw[<-(e k).2.2];exact Vj (e k).1 (e k).2.1
  have c:∀k {t:Int},(∃m:Nat,t=m/\m<η a.nodes)->(CB a).getD t.toNat jE=jD->uR (CB a) t.toNat=r' k->t=((r k:Nat):Int):=by
   rintro k t ⟨m,rfl,hm⟩ hu he;rw[tN]at hu he;have:=afo hu (e k).2.1 (by rw[he,(e k).2.2]);rw[this]
  refine⟨r,?_,λk=>(e k).1,λk=>?_,λk=>?_,λi hi k=>?_⟩
  ·have l:((r' 0:Nat):Int)∈sV (CB a) a.init:=j;obtain⟨t,g,f,d⟩:=Je.1 l;rw[<-c 0 (hA.first g) f d];exact g
  ·have:=h.gN k;rw[b k]at this;exact this
  ·have:=h.to k;rw[b k]at this;obtain⟨t,g,f,d⟩:=Je.1 this;rw[<-c (k+1) (hA.to (e k).1 g) f d];exact g
  ·obtain⟨m,f,d⟩:=h.met i hi k;rw[b m]at d;exact⟨m,f,d⟩
 ·rintro⟨r,j,h⟩;have hu:=h.use hA j;have b:=λk=>Vj (h.lt k) (hu k)
  refine⟨λk=>uR (CB a) (r k),Je.2 ⟨_,j,by rw[tN];exact hu 0,by rw[tN]⟩,λk=>?_,λk=>?_,λk=>?_,λi hi k=>?_⟩
  ·rw[IG];exact Ol (h.lt k) (hu k)
  ·rw[b k];exact h.gN k
  ·rw[b k];exact Je.2 ⟨_,h.to k,by rw[tN];exact hu (k+1),by rw[tN]⟩
  ·obtain⟨m,f,d⟩:=h.met i hi k;exact⟨m,f,by rw[b m];exact d⟩
theorem Qj {u:List Bool}(hu:∀i,i<n->u.getD i jE=jD){l:List Int}(hl:∀t∈l,∃k:Nat,t=k/\k<n):sV u l=l:=by
 unfold sV;rw[nu.2 (λt a=>by obtain⟨k,rfl,b⟩:=hl t a;rw[tN];exact hu k b)]
 conv=>rhs;rw[<-List.map_id l]
 refine j6 (λt a=>?_);obtain⟨k,rfl,b⟩:=hl t a;rw[tN,I9 (λi hi=>hu i ω)];rfl
theorem Yl (hA:a.Ok){u:List Bool}(hu:∀i,i<η a.nodes->u.getD i jE=jD):zX a u=a:=by
 obtain⟨s,i,ns⟩:=a;unfold zX;rw[Qj hu (λt c=>hA.first c)];congr 1;refine jw ?_ (λk g b=>?_)
 ·have:=I9 (u:=u) (n:=η ns) hu;unfold uR at this;rw[jr];exact this
 ·have f:=F7 (u:=u) b (hu k b);rw[I9 (λi hi=>hu i (pW hi b))]at f;have d:((ζ (η ns)).filter (λi=>u.getD i jE))[k]'(by simpa using g)=k:=(gB.1 f).2;rw[lJ];dsimp only;rw[d];have e:(rQ.mk s i ns).at k=ns[k]:=by simp[rQ.at,θ,b]
  have:=Qj hu (l:=((rQ.mk s i ns).at k).to) (λt c=>hA.to b c);rw[this,e];rfl
end
set_option maxHeartbeats 2000000
set_option maxRecDepth 100000
theorem agq (a:x<2^64)(hy:y<2^64):bits .and jA (x:Int) (y:Int)=((x&&&y:Nat):Int):=by
 have b:x&&&y<2^64:=Nat.and_lt_two_pow _ hy;show IntKind.u64.wrap ((BitVec.ofInt 64 (x:Int)&&&BitVec.ofInt 64 (y:Int)).toNat:Int)= _;rw[mY,jW,ko,jW,ko,j5 a,j5 hy,IntKind.wrap_u64];omega
theorem adr (vi vn)(s:Nat)(w)(hs:s<=16):Calls jJ 116 #[.agg #[iY iZ (s:Int),vi,vn]] w (aju w ((uH s:Nat):Int)):=by
 have a:Below w.1.size w (w.alloc (jG #[iY iZ (s:Int),vi,vn] 32)):=bR.alloc lR _;have b:=heap_alloc_new w (jG #[iY iZ (s:Int),vi,vn] 32);obtain⟨g,c⟩:=xQ (w.alloc (jG #[iY iZ (s:Int),vi,vn] 32));rw[c]at a b;obtain⟨i,j,k⟩:=sQ b;have d:(0:Int)<=(s:Int):=ω;go_enter Tryz.func116,Tryz.ntmps116;go_upto_region 1 with fail
 go_wp2_with fail
 go_ret
 refine⟨BI ?_,a⟩;have e:((2:Int)^s)=((2^s:Nat):Int):=ς;have l:2^s<=2^16:=lI δ hs;have n:1<=2^s:=Nat.one_le_two_pow;unfold uH;rw[e];generalize 2^s=m at *;rw[IntKind.wrap_u64,IntKind.wrap_u64];omega
theorem ahZ (a:rQ)(Ai:Option Addr)(ni ci:Nat)(An:Option Addr)(nn cn:Nat)(w:jF)(B ab q:Nat)(h:sW w B a Ai ni ci An nn cn)(d:q9 w ab 2 (iX An nn cn))(t:q<nn)(e:∀x∈a.nodes,x.need<2^64/\x.ban<2^64):
  Calls jJ 117 #[iY iZ (q:Int),jH (jB ⟨ab,0,jC⟩)] w (AX w (EB (a.at q))):=by
 obtain⟨b,o,x,At,z,j,u,k,s,c1,c2,c3,l⟩:=wh h t;subst j;have g:a.at q=x:=by unfold rQ.at;rw[gD,k];rfl
 rw[g];obtain⟨n,p⟩:=e x (jy k);have v:(0:Int)<=(q:Int):=ω;have y:(q:Int)<(nn:Int):=ω;have hand:=agq n p;have hb:=vM (Below.refl w.1.size w);clear h l k g c2 c3 e;cases i:EB x
 ·have c:((x.need&&&x.ban:Nat):Int)≠0:=by
   unfold EB at i;have:=of_decide_eq_false i;omega
  have r:=kF.2 c;generalize x.need&&&x.ban=m at *;go_enter Tryz.func117,Tryz.ntmps117;go_wp2_with fail
  refine wp_region_held_drew (S:=λw'=>q9 w' ab 2 (iX (jB ⟨b,o,jC⟩) nn cn)/\q9 w' b (o+q*4) (iY jA (x.need:Int))/\q9 w' b (o+q*4+1) (iY jA (x.ban:Int))) κ ⟨d,s,c1⟩ (λhS=>?_);refine qU 0 ?_;refine qU 1 ?_;refine qU 2 ?_;refine qU 3 ?_;refine qU 4 ?_;refine qU 5 ?_;refine qU 6 ?_;refine qU 7 ?_;refine qU 8 ?_;refine qU 9 ?_;refine qU 10 ?_;refine qU 11 ?_;refine qU 12 ?_;refine qU 13 ?_;refine qU 14 ?_;refine wpAnyH_done κ ?_ _;go_wp2_with fail
  go_ret
  exact⟨rfl,hb⟩
 ·have c:((x.need&&&x.ban:Nat):Int)=0:=by
   unfold EB at i;have:=kD i;omega
  have r:(((x.need&&&x.ban:Nat):Int)==0)=jD:=by rw[c];rfl
  generalize x.need&&&x.ban=m at *;go_enter Tryz.func117,Tryz.ntmps117;go_wp2_with fail
  refine wp_region_held_drew (S:=λw'=>q9 w' ab 2 (iX (jB ⟨b,o,jC⟩) nn cn)/\q9 w' b (o+q*4) (iY jA (x.need:Int))/\q9 w' b (o+q*4+1) (iY jA (x.ban:Int))) κ ⟨d,s,c1⟩ (λhS=>?_);refine qU 0 ?_;refine qU 1 ?_;refine qU 2 ?_;refine qU 3 ?_;refine qU 4 ?_;refine qU 5 ?_;refine qU 6 ?_;refine qU 7 ?_;refine qU 8 ?_;refine qU 9 ?_;refine qU 10 ?_;refine qU 11 ?_;refine qU 12 ?_;refine qU 13 ?_;refine qU 14 ?_;refine wpAnyH_done κ ?_ _;go_wp2_with fail
  go_ret
  exact⟨rfl,hb⟩
set_option maxHeartbeats 4000000
set_option maxRecDepth 100000
def ain (X:Nat)(xo:Obj)(base b:Nat)(EA:Value)(N qn ql qx qi qp:Nat)(vw:Value)(s:Sc)(a L:List Nat)(w:jF)(e:Ending)(w':jF):Prop:=
 (∃v,e=.returned v)/\(∃m vs',m∈L/\(∀y∈L,m<=y)/\yM X xo base b EA N qn ql qx qi qp vs' vw (s.cut a L m) w')/\Below base w w'
theorem Vx {i:Int}(hi:i=k)(a:k<=n)(w):(Instr.sliceAt 29 (iX A n c) (jB (iY iZ i)) jC jC).run jJ w=.ok (iX (if c=k then A else A.map (·.add (k*1))) (n-k) (c-k)) w:=by
 subst hi;rw[run_sliceAt_slice _ _ _ _ _ _ rfl,run_slice_l _ _ _ _ _ rfl _ _ ω ω];have:(sizeOf (Tryz.prog.elem 29)).run jJ w=.ok 1 w:=κ;rw[this];rfl
theorem aij (g k):(jB (⟨g,0,jC⟩:Addr)).map (·.add (k*1))=jB ⟨g,k,jC⟩:=by
 rw[oQ,mU];unfold Addr.add
 grind
theorem RJ (a:k<=c)(w):(Instr.sliceAt 29 (iX A n c) jC (jB (iY iZ (k:Int))) jC).run jJ w=.ok (iX A k c) w:=by
 rw[run_sliceAt_slice _ _ _ _ _ _ rfl,run_slice_h _ _ _ _ _ rfl _ _ ω ω];have:(sizeOf (Tryz.prog.elem 29)).run jJ w=.ok 1 w:=κ;rw[this]
 have he:(if c=0 then A else A.map (·.add (0*1)))=A:=by
  split
  ·rfl
  ·cases A with
   |none=>rfl
   |some p=>rfl
 simp[Result.andThen,sliced,he]
theorem Zq (X:Nat)(xo:Obj)(base b:Nat)(EA:Value)(N qn ql qx qi qp:Nat)(vs vw:Value)(s:Sc)(w:jF)(n:Nat)(h:yM X xo base b EA N qn ql qx qi qp vs vw s w)(d:n<N)(hd:s.low.getD n 0≠s.num.getD n 0):
  Calls jJ 189 #[jH (jB ⟨b,0,jC⟩),iY iZ (n:Int)] w (λe w'=>(∃v,e=.returned v)/\yM X xo base b EA N qn ql qx qi qp vs vw s w'/\Below base w w'):=by
 have j:0<=(n:Int):=ω;have k:n<(N:Int):=ω;have c1:=h.cells.2.1;have c2:=h.cells.2.2.1;let⟨l1,l2,l⟩:=uU h.low d
 let⟨g,m,o⟩:=uU h.num d
 let⟨lw,a⟩:=xQ (s.low.getD n 0)
 let⟨nm,c⟩:=xQ (s.num.getD n 0)
 rw[a]at l1 hd;rw[c]at g hd;have p:(lw==(nm:Int))=jE:=γ;have i:(lw=(nm:Int))=False:=γ;obtain⟨hA,q⟩:=iw h.drew (vM (Below.refl base w));clear h a c l2 l m o;go_enter Tryz.func189,Tryz.ntmps189;go_wp2
 refine wp_region_held_drew (S:=λw'=>q9 w' b 2 _/\q9 w' b 1 _/\q9 w' _ n _/\q9 w' _ n _) rfl ⟨c2,c1,l1,g⟩ (λhS=>?_);apply qU 0;apply qU 1;apply qU 2;apply qU 3;apply qU 4;apply qU 5;apply qU 6;apply qU 7;apply qU 8;apply qU 9;apply qU 10;apply qU 11;apply qU 12;apply qU 13;apply qU 14;refine wpAnyH_done rfl ?_ _;go_wp2
 apply bodyPost_ret (results_none rfl _ _ _) rfl;exact⟨ς,hA.out,q.out⟩
theorem acZ (X:Nat)(xo:Obj)(base b:Nat)(EA:Value)(N qn ql qx qi qp:Nat)(vs vw:Value)(s:Sc)(w:jF)(n:Nat)(h:yM X xo base b EA N qn ql qx qi qp vs vw s w)(hn:n<N)(a bb:List Nat)(hd:s.low.getD n 0=s.num.getD n 0)(hs:s.stk=a++n::bb)(aO:n∉bb)(a7:∀x∈s.stk,x<N)(_hN:N<=1000000000)(bp:η s.stk<=1000000000):
  Calls jJ 189 #[jH (jB ⟨b,0,jC⟩),iY iZ (n:Int)] w (ain X xo base b EA N qn ql qx qi qp vw s a (n::bb) w):=by
 have bq:0<=(n:Int):=ω;have br:n<(N:Int):=ω;have c1:=h.cells.2.1;have c2:=h.cells.2.2.1;let⟨l1,l2,l3⟩:=uU h.low hn
 let⟨m1,m2,m3⟩:=uU h.num hn
 let⟨lw,a8⟩:=xQ (s.low.getD n 0)
 let⟨nm,ad⟩:=xQ (s.num.getD n 0)
 rw[a8]at l1 hd;rw[ad]at m1 hd;have af:(lw==(nm:Int))=jD:=γ;have J:(lw=(nm:Int))=True:=γ;obtain⟨hA,C,HD,aP⟩:=iB h.drew (vM (Below.refl base w)) hs a7;clear h a8 ad l2 l3 m2 m3 hs a7;go_enter Tryz.func189,Tryz.ntmps189;go_wp2
 refine wp_region_held_drew (S:=λw'=>q9 w' b 2 _/\q9 w' b 1 _/\q9 w' _ n _/\q9 w' _ n _) rfl ⟨c2,c1,l1,m1⟩ (λhS=>?_);apply qU 0;apply qU 1;apply qU 2;apply qU 3;apply qU 4;apply qU 5;apply qU 6;apply qU 7;apply qU 8;apply qU 9;apply qU 10;apply qU 11;apply qU 12;apply qU 13;apply qU 14;refine wpAnyH_done rfl ?_ _;clear c1 c2 l1 m1 hS af J;have h1:=hA.out;have T:=C.out;let⟨w1,ag⟩:=xQ w.drew
 rw[ag]at h1 T⊢;clear ag hA C;have c4:=h1.cells.2.2.2.2.1;have bh:0<η s.stk:=by rw[HD.o,lA,jP];omega
 obtain⟨ns,U⟩:∃k,η s.stk=k+1:=⟨η s.stk-1,ω⟩;have d:=h1.stk;rw[U]at d;let⟨gs,cs,aQ⟩:=ownsRow_succ d
 subst aQ
 have ah:∀j,j<ns+1->w1.cell? ⟨gs,j,jC⟩=jB (iY iZ ((s.stk.getD j 0:Nat):Int)):=λj hj=>by
  rw[d.cellAt j ω];exact FY ω
 let⟨As,bu,aR,bj,aS,_⟩:=CF d
 cases aR;unfold maxLen at aS;have wl:IntKind.i64.wrap ((ns+1:Nat)-1)=ns:=by rw[wI];omega
 have bw:IntKind.i64.wrap (ns+1-1)=ns:=by rw[wI];omega
 obtain⟨H1,aT,aU,aj,r⟩:=iC h1 T d ah U;clear h1 T d ah U;go_wp2
 obtain⟨l,D⟩:=xQ (η a);have aV:l<=ns:=by have:=r.o;rw[HD.o]at this;simp at this;omega
 have ak:∀j,s.stk.getD (l+j) 0=(n::bb).getD j 0:=λj=>by
  rw[HD.o,gD,gR ω,show l+j-η a=j by omega,<-gD]
 have ao:η (n::bb)=ns+1-l:=by have:=r.o;rw[HD.o]at this;simp at this⊢;omega
 obtain⟨E,y⟩:=iw ak ao;clear ak ao;go_loopw [4] (λv wr=>∃k,l<=k/\k<=ns/\v=iY iZ k/\wr=w1) (λv _=>(intOf v).toNat)
 case atStart=>exact⟨_,aV,lR,rfl,rfl⟩
 case round=>
  obtain⟨k,bz,bA,rfl,rfl⟩:=hrel;have V:=aj k ω;have bB:0<=(k:Int):=ω;have bE:k<(ns:Int)+1:=ω;by_cases bF:l<k
  ·have hx:s.stk.getD k 0≠n:=by
    have:=E (k-l);rw[show l+(k-l)=k by omega]at this;rw[this,show k-l=(k-l-1)+1 by omega];intro e;have aq:k-l-1<η bb:=by have:=y.o;simp at this;omega
    apply aO;rw[<-e];simp only[qA];rw[gD,gE aq];exact mM _
   let⟨x,z⟩:=xQ (s.stk.getD k 0)
   rw[z]at V hx;have af:(x==(n:Int))=jE:=by simp;omega
   have J:(x=(n:Int))=False:=by simp;omega
   let⟨km,aW⟩:=xR (k-1)
   have wk:IntKind.i64.wrap (k-1)=km:=by rw[wI];omega
   have B:l<=km/\km<=ns/\km<k:=ω;clear z aW;go_wp2
   exact⟨⟨_,B.1,B.2.1,rfl,trivial⟩,by exact B.2.2⟩
  ·have aX:k=l:=ω
   have hx:s.stk.getD k 0=n:=by
    have:=E 0;rw[show l+0=k by omega]at this;rw[this];rfl
   rw[hx]at V;subst aX
   have F:∀w',(Instr.sliceAt 29 (iX (jB ⟨gs,0,jC⟩) (ns+1) cs) (jB (iY iZ (k:Int))) jC jC).run jJ w'=.ok (iX (jB ⟨gs,k,jC⟩) (ns+1-k) (cs-k)) w':=λw'=>by
    rw[Vx rfl ω,d9 ω,aij]
   let⟨nl,G⟩:=xR (ns+1-k)
   let⟨cl,ar⟩:=xR (cs-k)
   rw[<-ar]at F
   have M:Sl wr wr.1.size 1 (jB ⟨gs,k,jC⟩) nl cl (qO (iE (n::bb))):=by
    refine⟨by rw[xY,Ah,y.o,G],ω,by unfold maxLen;omega,λe=>(by cases e),.inr ⟨_,k,rfl,(aU.lt _ rfl).2,λj u hu=>?_⟩⟩;have aY:=(gB.1 hu).1;rw[xY,Ah,y.o,mU]at aY;rw[aj _ ω,E j,<-hu,FY (by rwa [y.o])]
   rw[<-G]at F;obtain⟨au,aZ⟩:=iw (ahE _ _ _ _ _ _ M (by rw[y.o,G]) ω) F;have O:nl<=cl/\0<nl/\cl<=9223372036854775807/\nl=ns+1-k/\cl=cs-k:=ω;have W:=dh O;clear F M G ar O;have b4:=aZ wr;go_wp2_with fail
   apply au.mono;rintro e w2 ⟨m,av,aw,rfl,H⟩;clear b4 V c4;have b5:=H.size;have h2:=H1.uQ (qW.of_below H) ω;have P:=aT.trans (H.mono (by have:=H1.bb;have:=H1.far.2.2.2.2.2.2.2;omega));go_wp2
   obtain⟨L,hL⟩:=xQ (n::bb);have ax:η L=nl:=by rw[<-hL,y.o];have:=W.o;omega
   have hx:∀i,i<nl->s.stk.getD _ 0=L.getD i 0/\L.getD i 0<N/\k+i<η s.stk:=λi hi=>by
    have h3:=E i;rw[hL]at h3;have h4:k+i<η s.stk:=by have:=W.o;have:=r.o;omega
    refine⟨h3,?_,h4⟩;rw[<-h3];apply aP.o;rw[gD,gE h4];exact mM _
   obtain⟨HX,Y,HL,HM⟩:=iB hx ax hL (And.intro av aw);have ay:yM X _ _ b _ N _ _ _ _ _ _ _ {s with prt:=wo (L.take 0) m _,inn:=wo (L.take 0) jE _} _:=h2;clear ax hL hx av aw h2 H b5;go_loopw [51] (λv wr=>∃i,i<=nl/\v=iY iZ i/\yM X xo base b EA N qn ql qx qi qp (iX (jB ⟨gs,0,jC⟩) (ns+1) cs) vw {s with prt:=wo (L.take i) m s.prt,inn:=wo (L.take i) jE s.inn} wr/\Below base w wr) (λv _=>nl-(intOf v).toNat)
   case atStart=>exact⟨0,ω,rfl,ay,P⟩
   case round=>
    obtain⟨i,hi,rfl,q,I⟩:=hrel;clear ay P;by_cases az:i<nl
    ·have bG:0<=(i:Int):=ω;have bH:i<(nl:Int):=ω;have wi:IntKind.i64.wrap (i+1)=i+1:=by have:=W.o;rw[wI];omega
     let⟨aA,Z,aB⟩:=HX i az
     have hcell:wr.cell? ⟨gs,k+i,jC⟩=jB (iY iZ (L.getD i 0)):=by
      have d:=q.stk;have e1:({s with prt:=wo (L.take i) m s.prt,inn:=wo (L.take i) jE s.inn}).stk=s.stk:=rfl;rw[e1,r.o]at d;rw[d.cellAt _ (by have:=r.o;omega),<-aA];exact FY aB
     let⟨x,z⟩:=xQ (L.getD i 0)
     rw[z]at hcell Z
     have aC:L.take (i+1)=L.take i++[x]:=by
      rw[rE L i (by rwa [Y.o]),<-z,gD,gE (by rwa [Y.o])];rfl
     have b6:=dh aC;have bm:0<=(x:Int):=ω;have bn:x<(N:Int):=ω;let⟨p1,p2,p3⟩:=uU q.prt Z
     have c7:=q.cells.2.2.2.2.2.2.2.1;have c6:=q.cells.2.2.2.2.2.2.1;obtain⟨HR,aD⟩:=iw q I;clear q I z aC aA aB;go_wp2
     refine wp_region_held_drew (S:=λw'=>q9 w' b 7 _/\q9 w' b 6 _) rfl ⟨c7,c6⟩ (λhS=>?_);apply qU 0;apply qU 1;apply qU 2;apply qU 3;apply qU 4;apply qU 5;apply qU 6;apply qU 7;apply qU 8;apply qU 9;apply qU 10;apply qU 11;refine rR 12 (λK hK=>?_);go_simp;have C:=HR.agY x m rfl;have a1:=aD.setCell (p:=⟨_,x,jC⟩) (HR.prt.lt qp rfl).1 (iY iZ m);let⟨wB,aE⟩:=xQ (wr.setCell ⟨qp,x,jC⟩ (iY iZ m))
     rw[aE]at C a1⊢;clear aE;have aF:=C.cells.2.2.2.2.2.2.2.1;have aG:=C.cells.2.2.2.2.2.2.1;let⟨i1,i2,i3,_⟩:=yj C.inn Z
     obtain⟨HB,aH⟩:=iw C a1;clear C a1 p1 p2 p3 c6 c7;refine hK _ _ ⟨aF,aG⟩ (λhS=>?_);clear hK;apply qU 13;refine rR 14 (λK hK=>?_);go_simp;have hC:=HB.Oc x jE;have a6:=aH.setCell (p:=⟨_,x,jC⟩) (HB.inn.lt qi rfl).1 (jI jE);let⟨wC,aJ⟩:=xQ (wB.setCell ⟨qi,x,jC⟩ (jI jE))
     rw[aJ]at hC a6⊢;clear aJ;have m7:=hC.cells.2.2.2.2.2.2.2.1;have m6:=hC.cells.2.2.2.2.2.2.1;refine hK _ _ ⟨m7,m6⟩ (λhS=>?_);clear hK;refine wpAnyH_done rfl ?_ _;obtain⟨HC,b9⟩:=iw hC.drew (vM a6);clear hC a6 HB aH HR aD m7 m6 aF aG i1 i2 i3 hS;go_wp2
     refine⟨⟨i+1,ω,jM _ rfl,?_,b9.o⟩,by simp[intOf];omega⟩;rw[b6.o,Ng,Ng];exact HC.o
    ·have bc:i=nl:=ω;subst bc;have aK:=tL (by rwa [Y.o]);rw[aK]at q;have c4:=q.cells.2.2.2.2.1;have bI:=q.soft 4;have bJ:=q.far.2.2.2.2.2.2.2;have d:=q.stk;have e1:({s with prt:=wo L m s.prt,inn:=wo L jE s.inn}).stk=s.stk:=rfl;rw[e1,r.o]at d;have D:=D;have aL:=Ug d (k:=k) ω
     have ha:(qO (iE s.stk)).take (k*1)=qO (iE a):=by
      rw[HD.o,mU,<-D];simp[qO,iE]
     rw[ha]at aL;obtain⟨_,_,_,Q⟩:=q.ahc (vs':=iX _ k _) (qW.refl (λ_=>False) _) (λ_ e=>e.elim) (by rwa [D]) (λg e=>.inl e);have aM:=I.setCell (p:=⟨b,4,jC⟩) q.bb (iX (jB ⟨gs,0,jC⟩) k cs);have R:=RJ (A:=jB ⟨gs,0,jC⟩) (n:=ns+1) (c:=cs) (k:=k) ω;obtain⟨aN,HF,bd⟩:=iA R Q aM;have bK:=aN wr;clear q I d aL ha Q aM aK e1 R;go_wp2
     go_end0
     exact⟨⟨_,rfl⟩,⟨m,_,HM.1,HM.2,by rwa [HL.o]⟩,bd.o⟩
