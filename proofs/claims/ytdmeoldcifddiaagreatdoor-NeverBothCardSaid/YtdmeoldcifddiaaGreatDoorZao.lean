/- A part of the proof. -/
import Derived.Test.YtdmeoldcifddiaaGreatDoorZam
import Derived.Test.YtdmeoldcifddiaaGreatDoorZal
import Derived.Test.YtdmeoldcifddiaaGreatDoorZaj
import Derived.ScopeJumps
import Derived.Test.YtdmeoldcifddiaaGreatDoorZan
/- The walks of layer 32 (sim): alone. -/
set_option maxHeartbeats 4000000
namespace Go.Proofs.YtdmeoldcifddiaaGreatDoor
open Go.RowKit
open Go.Value renaming slice -> iX, pointer -> jH
open Go.IntKind renaming i64 -> iZ, u64 -> jA
open Option renaming some -> jB, none -> jC
open Bool renaming true -> jD, false -> jE
open Go renaming World -> jF
open Go.Obj renaming cells -> jG
open Go.Proofs.Tryz renaming prog -> jJ
open List renaming length -> η, replicate -> ρ, range -> ζ
variable {a:rQ}{Q:Exit->Act->jF->Prop}{R:List (List Bool)}{L L0:List Bool}{base c g i j k n x y:Nat}{w w':jF}
theorem QD (a:x<2^64)(hy:y<2^64):xH y x=0↔y&&&x=y:=by
 rw[GJ];constructor
 ·intro h b hb;have:=DR hy a b;rw[h,nJ,hb,lH]at this;simpa using this.symm
 ·intro h;refine l6 (λb=>?_);rw[DR hy a,nJ];cases hb:y.testBit b
  ·rfl
  ·rw[h b hb];rfl
theorem agj {s:Nat}(a:x<2^64)(hy:y<2^64):xH x y&&&uH s=0↔x&&&y&&&uH s=x&&&uH s:=by
 rw[aaN];constructor
 ·intro h b hs hb;have:=jM (λz=>z.testBit b) h;simp only[lF,DR a hy,Fx,hb,decide_eq_true hs,nJ,lH,Bool.and_true]at this;simpa using this
 ·intro h;refine l6 (λb=>?_);rw[lF,DR a hy,Fx,nJ];by_cases hs:b<s
  ·cases hb:x.testBit b
   ·rfl
   ·rw[h b hs hb];rfl
  ·rw[decide_eq_false hs,Bool.and_false]
theorem adF (x y:BM)(s:Nat)(l m)(nx n q r:Nat)(w)(b:x.need<2^64/\x.ban<2^64/\x.inn<2^64)(hy:y.need<2^64/\y.ban<2^64/\y.inn<2^64)(hs:s<=16):
  Calls jJ 127 #[.agg #[.int jA (x.need:Int),.int jA (x.ban:Int),.int jA (x.inn:Int),iX l nx n],.agg #[.int jA (y.need:Int),.int jA (y.ban:Int),.int jA (y.inn:Int),iX m q r],.int iZ (s:Int)] w (AX w (yH x y s)):=by
 obtain⟨c,x0,j,z0⟩:=uS w (jG #[.int jA (x.need:Int),.int jA (x.ban:Int),.int jA (x.inn:Int),iX l nx n] 53) (jG #[.int jA (y.need:Int),.int jA (y.ban:Int),.int jA (y.inn:Int),iX m q r] 53);obtain⟨i,d⟩:=xQ ((w.alloc (jG #[.int jA (x.need:Int),.int jA (x.ban:Int),.int jA (x.inn:Int),iX l nx n] 53)).alloc (jG #[.int jA (y.need:Int),.int jA (y.ban:Int),.int jA (y.inn:Int),iX m q r] 53));rw[d]at c x0 j z0;have F:=OG (show s<64 by omega);obtain⟨p,hp⟩:=xQ (2^s);have u:0<p:=by rw[<-hp];exact Nat.pow_pos ω
 have v:p<2^64:=by rw[<-hp];exact G7 ω
 rw[hp]at F;have G:IntKind.u64.wrap ((p:Int)-1)=((uH s:Nat):Int):=by rw[IntKind.wrap_u64,uH,hp];omega
 have e:uH s<2^64:=by rw[uH,hp];omega
 have H:¬(s:Int)<0:=ω;have I:(0:Int)<=(s:Int):=ω
 have J:Op.shift .shl jA 1 iZ (s:Int)=pure (.int jA (p:Int)):=by
  rw[shift_shl jA iZ 1 _ ω (by show(s:Int)<=64;omega),tN,Int.one_mul,F]
 obtain⟨al,a⟩:=xQ (uH s)
 have k:Hd (yH x y s=(decide (xH y.need x.need=0)&&decide (xH y.ban x.ban=0)&&decide (xH x.inn y.inn&&&al=0))):=dh (by
  unfold yH;rw[<-a];rw[ou.2 (QD b.1 hy.1),ou.2 (QD b.2.1 hy.2.1),ou.2 (agj (s:=s) b.2.2 hy.2.2)])
 have K:=Kg hy.1 b.1;have a2:=Kg hy.2.1 b.2.1;have a3:=Kg b.2.2 hy.2.2;rw[a]at G e;have a4:=XL (SV y.inn b.2.2) e;obtain⟨z,g⟩:=iw d c;have L:i.cell? ⟨w.1.size,0,jC⟩=jB (.int jA (x.need:Int)):=cR x0;have M:i.cell? ⟨w.1.size,1,jC⟩=jB (.int jA (x.ban:Int)):=cR x0;have N:i.cell? ⟨w.1.size,2,jC⟩=jB (.int jA (x.inn:Int)):=cR x0;have O:i.cell? ⟨w.1.size+1,0,jC⟩=jB (.int jA (y.need:Int)):=cR j;have P:i.cell? ⟨w.1.size+1,1,jC⟩=jB (.int jA (y.ban:Int)):=cR j;have Q:i.cell? ⟨w.1.size+1,2,jC⟩=jB (.int jA (y.inn:Int)):=cR j;obtain⟨b1,B⟩:=xQ (((xH y.need x.need:Nat):Int)==0);obtain⟨b2,C⟩:=xQ (((xH y.ban x.ban:Nat):Int)==0);obtain⟨b3,D⟩:=xQ (((xH x.inn y.inn&&&al:Nat):Int)==0)
 have E:Hd (yH x y s=(b1&&b2&&b3)):=dh (by
  rw[k.o,<-B,<-C,<-D];congr 1
  ·congr 1<;>(rw[lG,jN,lV];omega)
  ·rw[lG,jN,lV];omega)
 generalize xH y.need x.need=n1 at *;generalize xH y.ban x.ban=n2 at *;generalize xH x.inn y.inn&&&al=n4 at *;generalize xH x.inn y.inn=n3 at *;clear d c x0 j b hy hp k a e u v;go_enter Tryz.func127,Tryz.ntmps127;go_upto_region 1 with fail
 rw[z.o];cases b1
 ·go_wp2_with fail
  go_ret
  exact⟨by rw[E.o];rfl,g.o⟩
 ·cases b2
  ·go_wp2_with fail
   go_ret
   exact⟨by rw[E.o];rfl,g.o⟩
  ·go_wp2_with fail
   go_ret
   exact⟨by rw[E.o];rfl,g.o⟩
set_option maxHeartbeats 2000000
def zT (L:List Bool)(i k:Nat):Bool:=L.getD (i*256+k) jE
def DC (a:rQ)(L:List Bool)(i k:Nat):Bool:=(a.at i).to.all (λt=>(a.at k).to.any (λu=>zT L t.toNat u.toNat))
structure wQ (w:jF)(base:Nat)(g n c:Nat)(L:List Bool):Prop where
 own:w.ownsRow base 190 256 (iX (jB ⟨g,0,jC⟩) n c) n (qV L)
theorem wQ.len (h:wQ w base g n c L):η L=n*256:=by have:=h.own.1;rwa [yV]at this
theorem wQ.cell (h:wQ w base g n c L)(hi:i<n)(a:k<256):w.cell? ⟨g,i*256+k,jC⟩=jB (.bool (zT L i k)):=by
 have hl:i*256+k<n*256:=ω;have b:=h.len;rw[h.own.cellAt (i*256+k) hl];exact uN ω
theorem wQ.below (h:wQ w base g n c L)(hb:Below w.1.size w w'):wQ w' base g n c L:=⟨own_below h.own hb⟩
theorem wQ.cap (h:wQ w base g n c L):n<=c/\c<=maxLen:=by
 obtain⟨A,c',e,hs⟩:=qX h.own;cases e;exact⟨hs.cap,hs.max⟩
theorem aeD (L)(base g n c rb tb t u:Nat)(w)(h:wQ w base g n c L)(i:q9 w rb 0 (iX (jB ⟨g,0,jC⟩) n c))(j:q9 w tb 0 (.int iZ (t:Int)))(b:t<n)(hu:u<256):
  Calls jJ 155 #[.int iZ (u:Int),jH (jB ⟨rb,0,jC⟩),jH (jB ⟨tb,0,jC⟩)] w (AX w (zT L t u)):=by
 have q:=h.cell b hu;have k:(0:Int)<=(t:Int):=ω;have l:(t:Int)<(n:Int):=ω;have m:(0:Int)<=(u:Int):=ω;have o:(u:Int)<256:=ω;have a:=h.cap;unfold maxLen at a;obtain⟨d,e⟩:=a;clear h;go_enter Tryz.func155,Tryz.ntmps155;go_wp2_with fail
 go_ret
 exact⟨rfl,bR⟩
theorem Zx (rb tb:Nat)(p:Int->Bool)(l:List Int)(A:Option Addr)(n c:Nat)(w:jF)(B:Nat)(hs:Sl w B 1 A n c (qO l))(z:B<=w.1.size)(C:n=η l)(hl:n<=100000000000)
  (D:Hd (∀(x:Int) (w':jF),x∈l->Below w.1.size w w'->Calls jJ 155 #[.int iZ x,jH (jB ⟨rb,0,jC⟩),jH (jB ⟨tb,0,jC⟩)] w' (AX w' (p x)))):
  Calls jJ 114 #[iX A n c,.func (.func 155) #[] #[jH (jB ⟨rb,0,jC⟩),jH (jB ⟨tb,0,jC⟩)]] w (Fnd w (l.any p)):=by
 subst C;go_enter Tryz.func114,Tryz.ntmps114;go_wp2
 go_loopw [8] (λi wr=>∃k:Nat,k<=η l/\i=.int iZ k/\Below w.1.size w wr/\Hd ((l.take k).any p=jE)) (λi _=>η l-(intOf i).toNat)
 case atStart=>exact⟨0,ω,rfl,bR,rfl⟩
 case round=>
  obtain⟨k,G,rfl,a,t⟩:=hrel;have q:=a.size;by_cases d:k<η l
  ·obtain⟨bb,o,rfl,_,u⟩:=(hs.rd.below a z).at_ (j:=k) (yD d);have hC:=D l[k] wr (mM d) a;have b:=mM d;have g:(l.take (k+1)).any p=(p l[k]):=by rw[rE l k d,oP,t.o];simp
   obtain⟨x,v⟩:=xQ (l[k]);rw[v]at u;rw[v]at hC g b;obtain⟨r,E,F⟩:=iA hC g b;clear v hC g b;cases hb:p x
   ·have s:=dh hb;clear hb;go_wp2_with fail
    refine Calls.mono r ?_;rw[s.o];rintro e w2 ⟨rfl,m⟩;go_wp2
    go_roundw
    case rel=>exact⟨k+1,ω,by go_num,a.trans (m.mono q),by show _ = _;rw[E.o];exact s.o⟩
    case measure=>simp[intOf];omega
   ·have s:=dh hb;clear hb;go_wp2_with fail
    refine Calls.mono r ?_;rw[s.o];rintro e w2 ⟨rfl,m⟩;go_wp2
    go_ret
    exact⟨_,rfl,ω,ω,a.trans (m.mono q),by rw[kT.2 ⟨x,F.o,s.o⟩];simp⟩
  ·have y:k=η l:=ω;subst y;rw[tL lR]at t;go_wp2
   go_ret
   exact⟨_,rfl,ω,ω,a,by rw[t.o];rfl⟩
theorem Rb (rb tb:Nat)(p:Int->Bool)(l:List Int)(A:Option Addr)(n c:Nat)(w:jF)(B:Nat)(hs:Sl w B 1 A n c (qO l))(b:B<=w.1.size)(a:n=η l)(hl:n<=100000000000)
  (d:Hd (∀(x:Int) (w':jF),x∈l->Below w.1.size w w'->Calls jJ 155 #[.int iZ x,jH (jB ⟨rb,0,jC⟩),jH (jB ⟨tb,0,jC⟩)] w' (AX w' (p x)))):
  Calls jJ 75 #[iX A n c,.func (.func 155) #[] #[jH (jB ⟨rb,0,jC⟩),jH (jB ⟨tb,0,jC⟩)]] w (AX w (l.any p)):=by
 go_enter Tryz.func75,Tryz.ntmps75;have g:=dh (Zx rb tb p l A n c w B hs b a hl d);clear a hs hl;go_wp2_with fail
 refine Calls.mono g.out ?_;rintro e w1 ⟨k,rfl,_,_,hb,i⟩;go_wp2
 go_ret
 exact⟨rfl,hb⟩
set_option maxHeartbeats 4000000
set_option maxRecDepth 100000
theorem Xd (a:rQ)(Ai:Option Addr)(ni ci:Nat)(An:Option Addr)(nn cn:Nat)(w:jF)(B:Nat)(h:sW w B a Ai ni ci An nn cn)(hB:B<=w.1.size)(hA:a.Ok)(base g c:Nat)(L:List Bool)(hr:wQ w base g nn c L)(i k:Nat)(hi:i<nn)(hk:k<nn)(hn:nn<=256)(z:∀x∈a.nodes,η x.to<=100000000):
  Calls jJ 128 #[.agg #[.int iZ a.sets,iX Ai ni ci,iX An nn cn],iX (jB ⟨g,0,jC⟩) nn c,.int iZ (i:Int),.int iZ (k:Int)] w (AX w (DC a L i k)):=by
 obtain⟨d,x0,y0,z0⟩:=uS w (jG #[.int iZ a.sets,iX Ai ni ci,iX An nn cn] 32) (jG #[iX (jB ⟨g,0,jC⟩) nn c] 187);obtain⟨v,C⟩:=xQ ((w.alloc (jG #[.int iZ a.sets,iX Ai ni ci,iX An nn cn] 32)).alloc (jG #[iX (jB ⟨g,0,jC⟩) nn c] 187));rw[C]at d x0 y0 z0;have aA:w.1.size+1<v.1.size:=ω;obtain⟨n,a7,D,a8,G,ad,af⟩:=iD (h.below d hB) (hr.below d) h.Ov C d x0 y0;have H:B<=v.1.size:=ω;obtain⟨bx,ox,x,At,ct,ag,aB,hx, -, -, -,c3,q⟩:=wh n hi;have I:a.at i=x:=by unfold rQ.at;rw[gD,hx];rfl
 have J:=jy hx;have K:=dh (λt ht=>hA.2 x J t ht);have aC:=z x J;obtain⟨y,hy⟩:∃y,a.nodes[k]? =jB y:=⟨_,gE (by rw[<-D.o];exact hk)⟩;have M:a.at k=y:=by unfold rQ.at;rw[gD,hy];rfl
 have N:=dh (jy hy);have aD:=z y N.o;have O:Hd (DC a L i k=x.to.all (λt=>y.to.any (λu=>zT L t.toNat u.toNat))):=dh (by unfold DC;rw[I,M]);obtain⟨ah,aj,ak⟩:=iA hy q hA;obtain⟨k0,k1,k2⟩:=sQ x0;have i0:(0:Int)<=(i:Int):=ω;have i1:(i:Int)<(nn:Int):=ω;have j0:(0:Int)<=(k:Int):=ω;have j1:(k:Int)<(nn:Int):=ω;have aE:=(lU n.nodes).1.cap;have ao:=(lU n.nodes).1.max;unfold maxLen at ao;have aF:=q.cap;have aq:=q.max;unfold maxLen at aq;subst ag;clear C d x0 y0 z0 h hr q hx I hy M z hA;go_enter Tryz.func128,Tryz.ntmps128;go_upto_region 1 with fail
 rw[a8.o];go_wp2_with fail
 clear k0 k1 k2 c3;go_loopw [10,18] (λ_ j wr=>∃m:Nat,m<=η x.to/\j=.int iZ (m:Int)/\Hd (Below v.1.size v wr)/\Hd ((x.to.take m).all (λt=>y.to.any (λu=>zT L t.toNat u.toNat))=jD)) (λ_ j _=>η x.to-(intOf j).toNat)
 case atStart=>exact⟨0,ω,rfl,dh bR,dh rfl⟩
 case round=>
  obtain⟨m,hm,rfl,r,P⟩:=hrel;have ar:=r.size;by_cases s:m<η x.to
  ·obtain⟨bb,o,rfl,_,Q⟩:=(aj.rd.below r H).at_ (j:=m) (yD s);obtain⟨tn,l,au⟩:=rO (K _ (mM s));have aG:=dh l;rw[l]at Q;have R:tn<nn:=by rw[D.o];exact au
   have wm:IntKind.i64.wrap ((m:Int)+1)=(m:Int)+1:=by rw[wI];omega
   have aH:(0:Int)<=(m:Int):=ω;have aJ:(m:Int)<(η x.to:Int):=ω;obtain⟨X,S⟩:=xQ (wr.alloc (jG #[.int iZ (tn:Int)] 3));have T:Below wr.1.size wr X:=by rw[<-S];exact bR.alloc lR _
   have av:X.1.size=wr.1.size+1:=by rw[<-S];simp
   have U:X.1[wr.1.size]? =jB (jG #[.int iZ (tn:Int)] 3 (0,0)):=by rw[<-S];exact heap_alloc_new wr _
   obtain⟨b,aw⟩:=iw (r.trans (T.mono ar)) S;have V:=n.below b H;obtain⟨b2,o2,y2,Ay,cy,ax, -,E, -, -, -,e3,F⟩:=wh V hk;cases ax;obtain rfl:y=y2:=by have:=ah.o;rw[this]at E;exact jY E
   have ay:=dh (a7.below b.o)
   have az:=dh (Rb (w.1.size+1) wr.1.size (λu=>zT L tn u.toNat) y.to Ay (η y.to) cy X B F ω rfl ω (dh (λu w' hu hb=>by
    obtain⟨un,rfl,aK⟩:=rO (ak.2 y N u hu);rw[tN]
    exact aeD L base g nn c (w.1.size+1) wr.1.size tn un w' (ay.below hb)
     ((hb.cell (p:=⟨w.1.size+1,0,jC⟩) (show w.1.size+1<X.1.size by omega)).trans ((b.cell (p:=⟨w.1.size+1,0,jC⟩) (show w.1.size+1<v.1.size by omega)).trans (cR af.o)))
     ((hb.cell (p:=⟨wr.1.size,0,jC⟩) (show wr.1.size<X.1.size by omega)).trans (cR U)) R (by have:=D.o;omega))))
   have HS:Hd ((x.to.take (m+1)).all (λt=>y.to.any (λu=>zT L t.toNat u.toNat))=y.to.any (λu=>zT L tn u.toNat)):=dh (by
    rw[rE x.to m s,List.all_append,P.o,l];simp)
   have HE:Hd (x.to.all (λt=>y.to.any (λu=>zT L t.toNat u.toNat))=jD->y.to.any (λu=>zT L tn u.toNat)=jD):=dh (λh=>by
    have:=jR.1 h _ (mM s);rw[l]at this;simpa using this)
   have q2:X.cell? ⟨w.1.size,2,jC⟩=jB (iX (jB ⟨bx,ox,jC⟩) nn cn):=(b.cell (p:=⟨w.1.size,2,jC⟩) (show w.1.size<v.1.size by omega)).trans (cR ad.o);generalize y.to.any (λu=>zT L tn u.toNat)=bv at *;have aL:=F.cap;clear S T U V F E l;go_upto_region 4 with fail
   rw[aw.o];go_wp2_with fail
   refine az.mono ?_;rintro e w2 ⟨rfl,W⟩;have Y:=dh (b.trans (W.mono b.size));clear W Q e3 q2 av;cases bv
   ·go_wp2_with fail
    go_ret
    refine⟨?_,G.trans (Y.mono (show w.1.size<=v.1.size by omega))⟩;rw[O.o];cases Z:x.to.all (λt=>y.to.any (λu=>zT L t.toNat u.toNat))
    ·rfl
    ·have:=HE Z;cases this
   ·go_wp2_with fail
    go_roundw
    case rel=>exact⟨m+1,ω,jM (Value.int iZ) ω,Y,dh HS.o⟩
    case measure=>simp[intOf];omega
  ·have a1:m=η x.to:=ω;have a6:Hd (DC a L i k=jD):=dh (by have:=P.o;rw[a1,tL lR]at this;rw[O.o,this]);have hle:¬(m:Int)<(η x.to:Int):=ω;clear a1;go_wp2_with fail
   go_ret
   exact⟨by rw[a6.o];rfl,G.trans (r.mono (show w.1.size<=v.1.size by omega))⟩
open Go
theorem exists_least {P:Nat->Prop}(h:∃n,P n):∃n,P n/\∀m,P m->n<=m:=by
 obtain⟨n,a⟩:=h;induction n using Nat.strongRecOn with
 | _ n b=>
  by_cases h:∃m,m<n/\P m
  ·obtain⟨m,hm,hp⟩:=h;exact b m hm hp
  ·exact⟨n,a,λm hm=>pE (λhl=>h ⟨m,hl,hm⟩)⟩
theorem VF {P:Program}{a:Act}{c R:Code}(l)(J:Nat->Act->jF->Prop)(hf:findLabel c l=jB (.seq .skip R))(pass:∀n a w,J n a w->R.wp P (Exit.jump l (λa' w'=>∃m,m<n/\J m a' w') Q) a w)(first:(∀n a w,J n a w->R.wp P (Exit.jump l (λa' w'=>∃m,J m a' w') Q) a w)->c.wp P (Exit.jump l (λa' w'=>∃m,J m a' w') Q) a w):(Code.scope c).wp P Q a w:=by
 classical
 have hle:∀n a w,J n a w->R.wp P (Exit.jump l (λa' w'=>∃m,J m a' w') Q) a w:=λn a w h=>wp_mono (pass n a w h) (λe a w he=>by
  cases e with
  |goto f=>exact⟨he.1,he.2.choose,he.2.choose_spec.2⟩
  | _=>exact he)
 refine wp_scope_jumps l (λa w=>∃m,J m a w) (λa w=>if h:∃m,J m a w then(exists_least h).choose else 0) hf (first hle) (λa w d=>?_);have hs:=(exists_least d).choose_spec;refine wp_seq (wp_skip ?_);refine wp_mono (pass _ a w hs.1) (λe a' w' he=>?_);cases e with
 |goto f=>
  obtain⟨g,m,hm,b⟩:=he;refine⟨g,⟨m,b⟩,?_⟩;rw[dif_pos (⟨m,b⟩:∃m,J m a' w'),dif_pos d];exact kJ ((exists_least (⟨m,b⟩:∃m,J m a' w')).choose_spec.2 m b) hm
 | _=>exact he
structure Rl (a:rQ)(L:List Bool):Prop where
 len:η L=η a.nodes*256
 sim:∀i k,OB a i k->zT L i k=jD
 one:∀i k,i<η a.nodes->k<η a.nodes->zT L i k=jD->yH (a.at i) (a.at k) a.sets.toNat=jD
theorem SL:∀{l:List Bool} {j:Nat},l.getD j jE=jD->Cm (l.set j jE)<Cm l
 |[],j,h=>by simp at h
 |x::r,0,h=>by
  have:x=jD:=by simpa using h
  subst this;simp[Cm]
 |x::r,j+1,h=>by
  have:=SL (l:=r) (j:=j) (by simpa using h);simp only[Cm,lQ,lC]at this⊢;omega
theorem PI {m:Nat}{b:Bool}(a:k<256)(hm:m<256)(hl:i*256+k<η L):zT (L.set (i*256+k) b) j m=if i=j/\k=m then b else zT L j m:=by
 unfold zT;by_cases h:i=j/\k=m
 ·obtain⟨rfl,rfl⟩:=h;rw[jd ⟨rfl,rfl⟩,gD,l7 hl];rfl
 ·rw[d9 h,gD,kG ω,<-gD]
theorem aei (hA:a.Ok)(hs:∀i k,OB a i k->zT L i k=jD)(h:OB a i k):DC a L i k=jD:=by
 obtain⟨hi,d⟩:=(zx a).lt i k h;refine jR.2 (λt b=>?_);obtain⟨tn,rfl,_⟩:=rO (hA.2 _ (at_mem hi) t b);obtain⟨u,hu,c⟩:=(zx a).go i k h tn b;exact kT.2 ⟨u,hu,by rw[tN,tN];exact hs _ _ c⟩
theorem Rl.drop (h:Rl a L)(hA:a.Ok)(d:η a.nodes<=256)(hi:i<η a.nodes)(f:k<η a.nodes)(hf:DC a L i k=jE):Rl a (L.set (i*256+k) jE):=by
 have hl:i*256+k<η L:=by rw[h.len];omega
 refine⟨by rw[nE,h.len],λj m hs=>?_,λj m c hm b=>?_⟩
 ·obtain⟨c,hm⟩:=(zx a).lt j m hs;rw[PI ω ω hl];by_cases e:i=j/\k=m
  ·obtain⟨rfl,rfl⟩:=e;rw[aei hA h.sim hs]at hf;cases hf
  ·rw[d9 e];exact h.sim j m hs
 ·rw[PI ω ω hl]at b;by_cases e:i=j/\k=m
  ·rw[jd e]at b;cases b
  ·rw[d9 e]at b;exact h.one j m c hm b
theorem Rl.done (h:Rl a L)(hA:a.Ok)(hf:∀i k,i<η a.nodes->k<η a.nodes->zT L i k=jD->DC a L i k=jD)(hi:i<η a.nodes)(g:k<η a.nodes):zT L i k=jD↔OB a i k:=by
 refine⟨λj=>⟨λi k=>i<η a.nodes/\k<η a.nodes/\zT L i k=jD,⟨λi k h=>⟨h.1,h.2.1⟩,λi k e=>h.one i k e.1 e.2.1 e.2.2,λi k e t f=>?_⟩,hi,g,j⟩,λhs=>h.sim i k hs⟩;have:=jR.1 (hf i k e.1 e.2.1 e.2.2) _ f;obtain⟨u,hu,b⟩:=kT.1 this;obtain⟨un,rfl,c⟩:=rO (hA.2 _ (at_mem e.2.1) u hu);obtain⟨tn,l,d⟩:=rO (hA.2 _ (at_mem e.1) _ f);have:t=tn:=ω;subst this;rw[tN,tN]at b;exact⟨un,hu,d,c,b⟩
def Q7 (L:List Bool)(n i:Nat):List Bool:=(ζ n).map (λk=>zT L i k)
theorem aez (h:Rl a L)(hA:a.Ok)(hf:∀i k,i<η a.nodes->k<η a.nodes->zT L i k=jD->DC a L i k=jD)(hi:i<η a.nodes):(iF a)[i]? =jB (Q7 L (η a.nodes) i):=by
 unfold iF Q7;rw[kR,List.getElem?_range hi];simp only[oQ,Option.some.injEq];refine j6 (λk c=>?_);have b:=jl.1 c;rw[lG,@decide_eq_true_iff _ (Classical.propDecidable _),h.done hA hf hi b]
def Gr (a:rQ)(L:List Bool)(i k:Nat):Prop:=η L=η a.nodes*256/\∀j m,j<η a.nodes->m<η a.nodes->(j<i\/j=i/\m<k)->zT L j m=yH (a.at j) (a.at m) a.sets.toNat
theorem Gr.put (h:Gr a L i k)(c:η a.nodes<=256)(hi:i<η a.nodes)(d:k<η a.nodes):Gr a (L.set (i*256+k) (yH (a.at i) (a.at k) a.sets.toNat)) i (k+1):=by
 have hl:i*256+k<η L:=by rw[h.1];omega
 refine⟨by rw[nE,h.1],λj m b hm hc=>?_⟩;rw[PI ω ω hl];by_cases e:i=j/\k=m
 ·rw[jd e,e.1,e.2]
 ·rw[d9 e];exact h.2 j m b hm ω
theorem Gr.row (h:Gr a L i (η a.nodes)):Gr a L (i+1) 0:=⟨h.1,λj m b hm hc=>h.2 j m b hm ω⟩
theorem Gr.inv (h:Gr a L (η a.nodes) k):Rl a L:=by
 refine⟨h.1,λi k hs=>?_,λi k hi b c=>?_⟩
 ·obtain⟨hi,b⟩:=(zx a).lt i k hs;rw[h.2 i k hi b (.inl hi)];exact(zx a).one i k hs
 ·rw[<-h.2 i k hi b (.inl hi)];exact c
def ze (a:rQ)(L0 L:List Bool)(i k:Nat):Prop:=Cm L<Cm L0\/(L=L0/\∀j m,j<η a.nodes->m<η a.nodes->(j<i\/j=i/\m<k)->zT L0 j m=jD->DC a L0 j m=jD)
theorem ze.start (a L):ze a L L 0 0:=.inr ⟨rfl,λj m _ _ h=>absurd h ω⟩
theorem ze.next (h:ze a L0 L i k)(c:zT L i k=jD->DC a L i k=jD):ze a L0 L i (k+1):=by
 rcases h with h|⟨rfl,h⟩
 ·exact .inl h
 ·refine .inr ⟨rfl,λj m d hm hc b=>?_⟩;by_cases e:j=i/\m=k
  ·obtain⟨rfl,rfl⟩:=e;exact c b
  ·exact h j m d hm ω b
theorem ze.row (h:ze a L0 L i (η a.nodes)):ze a L0 L (i+1) 0:=by
 rcases h with h|⟨rfl,h⟩
 ·exact .inl h
 ·exact .inr ⟨rfl,λj m b hm hc c=>h j m b hm ω c⟩
theorem ze.drop {i' k':Nat}(h:ze a L0 L i k)(b:L.getD j jE=jD):ze a L0 (L.set j jE) i' k':=by
 have:=SL b;rcases h with h|⟨rfl,h⟩
 ·exact .inl ω
 ·exact .inl this
theorem ze.less (h:ze a L0 L (η a.nodes) 0)(hi:i<η a.nodes)(b:k<η a.nodes)(c:zT L i k=jD)(hf:DC a L i k=jE):Cm L<Cm L0:=by
 rcases h with h|⟨rfl,h⟩
 ·exact h
 ·rw[h i k hi b (.inl hi) c]at hf;cases hf
theorem wQ.put (h:wQ w base g n c L)(j b):wQ (w.setCell ⟨g,j,jC⟩ (.bool b)) base g n c (L.set j b):=by
 have:=(h.own.stored j (.bool b)).1;exact⟨by rw[qV,lX];exact this⟩
theorem wQ.row (h:wQ w base g n c L)(hi:i<n)(d:n<=256):Sl w w.1.size 1 (jB ⟨g,i*256,jC⟩) n 256 (qV (Q7 L n i)):=by
 refine⟨by simp[qV,Q7],d,by unfold maxLen;omega,λe=>(by cases e),.inr ⟨g,i*256,rfl,(h.own.lt g rfl).2,λk v b=>?_⟩⟩
 have a:k<n:=by
  have:=(gB.1 b).1;simpa[qV,Q7]using this
 rw[h.cell hi ω];rw[<-b];simp[qV,Q7,List.getElem?_range a]
set_option maxHeartbeats 16000000
set_option maxRecDepth 100000
theorem Yx {l:Nat}{J:Act->jF->Prop}{a:Act}:Exit.jump l J Q .ret a w=Q .ret a w:=rfl
theorem Yu (g o n:Nat)(w)(a:(0:Int)<=(n:Int))(c:(n:Int)<=256):(Instr.sliceAt 190 (jH (jB ⟨g,o,jC⟩)) jC (jB (.int iZ (n:Int))) jC).run jJ w=.ok (iX (jB ⟨g,o,jC⟩) n 256) w:=by
 have hl:Tryz.prog.arrayLen 190=256:=κ;have b:Tryz.prog.underlying 190=jB (.array (Tryz.prog.arrayLen 190) (Tryz.prog.elem 190)):=κ;have hs:(sizeOf (Tryz.prog.elem 190)).run jJ w=.ok 1 w:=κ;rw[run_sliceAt_array_h w _ _ b _ _ a ω,hs,hl];rfl
attribute [local go_sem] Yu
theorem afM:(Tryz.prog.info? 190).map (λi=>(i.zero,i.size,i.bytes))=jB (jB (.agg (Array.replicate 256 (.bool jE))),256,256):=κ
theorem Zg (m:Nat)(hm:m<=1000)(w):(Instr.makeSlice 187 (.int iZ (m:Int)) (.int iZ (m:Int))).run jJ w=.ok (iX (jB ⟨w.1.size,0,jC⟩) m m) (w.alloc (jG (madeCells (Array.replicate 256 (.bool jE)) (m*256)) 190)):=by
 obtain⟨i,hi,a⟩:=mH.1 afM;simp[Prod.mk.injEq]at a;obtain⟨b,hs,hb⟩:=a;have h:=run_make (P:=jJ) w 187 190 i _ Tryz.underlying187 hi b iZ iZ (m:Int) (m:Int) ω (Int.le_refl _) γ ω;rwa [tN,hs]at h
theorem ajH (m):madeCells (Array.replicate 256 (Value.bool jE)) (m*256)=(qV (ρ (m*256) jE)).toArray:=by
 refine Array.ext (by simp[madeCells,qV]) (λi a b=>?_)
 have e:(Array.replicate 256 (Value.bool jE))[i%256]! =Value.bool jE:=by
  grind
 simp[madeCells,qV,e]
theorem YB (w:jF)(m:Nat)(hm:m<=1000):wQ (w.alloc (jG (madeCells (Array.replicate 256 (.bool jE)) (m*256)) 190)) w.1.size w.1.size m m (ρ (m*256) jE):=by
 rw[ajH];exact⟨⟨by simp[qV],.inr ⟨_,m,_,rfl,lR,heap_alloc_new w _,lR,by unfold maxLen;omega,by simp[qV],by simp[qV]⟩⟩⟩
theorem aje (a:Act)(x0 c f g h)(hd:a.defers=[])(hs:a.tmps.size=117)(m:a.tmps.toList.getD 0 undef=x0)(j:a.tmps.toList.getD 1 undef=c)(k:a.tmps.toList.getD 2 undef=f)(n:a.tmps.toList.getD 3 undef=g)(o:a.tmps.toList.getD 4 undef=h):∃u:Nat->Value,a={tmps:=(x0::c::f::g::h::u 5::u 6::u 7::u 8::u 9::u 10::u 11::u 12::u 13::u 14::u 15::u 16::u 17::u 18::u 19::u 20::u 21::u 22::u 23::u 24::u 25::u 26::u 27::u 28::u 29::u 30::u 31::u 32::u 33::u 34::u 35::u 36::u 37::u 38::u 39::u 40::u 41::u 42::u 43::u 44::u 45::u 46::u 47::u 48::u 49::u 50::u 51::u 52::u 53::u 54::u 55::u 56::u 57::u 58::u 59::u 60::u 61::u 62::u 63::u 64::u 65::u 66::u 67::u 68::u 69::u 70::u 71::u 72::u 73::u 74::u 75::u 76::u 77::u 78::u 79::u 80::u 81::u 82::u 83::u 84::u 85::u 86::u 87::u 88::u 89::u 90::u 91::u 92::u 93::u 94::u 95::u 96::u 97::u 98::u 99::u 100::u 101::u 102::u 103::u 104::u 105::u 106::u 107::u 108::u 109::u 110::u 111::u 112::u 113::u 114::u 115::u 116::([]:List Value)).toArray,defers:=[]}:=by
 obtain⟨⟨l⟩,d⟩:=a;subst m j k n o;refine⟨λi=>l.getD i undef,?_⟩;have hl:η l=117:=hs
 have e:l=(ζ 117).map (λi=>l.getD i undef):=by
  refine jw γ (λi j k=>?_)
  grind
 have b:d=[]:=hd;subst b;have e2:(ζ 117).map (λi=>l.getD i _)=l.getD 0 _::l.getD 1 _::l.getD 2 _::l.getD 3 _::l.getD 4 _::l.getD 5 _::l.getD 6 _::l.getD 7 _::l.getD 8 _::l.getD 9 _::l.getD 10 _::l.getD 11 _::l.getD 12 _::l.getD 13 _::l.getD 14 _::l.getD 15 _::l.getD 16 _::l.getD 17 _::l.getD 18 _::l.getD 19 _::l.getD 20 _::l.getD 21 _::l.getD 22 _::l.getD 23 _::l.getD 24 _::l.getD 25 _::l.getD 26 _::l.getD 27 _::l.getD 28 _::l.getD 29 _::l.getD 30 _::l.getD 31 _::l.getD 32 _::l.getD 33 _::l.getD 34 _::l.getD 35 _::l.getD 36 _::l.getD 37 _::l.getD 38 _::l.getD 39 _::l.getD 40 _::l.getD 41 _::l.getD 42 _::l.getD 43 _::l.getD 44 _::l.getD 45 _::l.getD 46 _::l.getD 47 _::l.getD 48 _::l.getD 49 _::l.getD 50 _::l.getD 51 _::l.getD 52 _::l.getD 53 _::l.getD 54 _::l.getD 55 _::l.getD 56 undef::l.getD 57 undef::l.getD 58 undef::l.getD 59 undef::l.getD 60 undef::l.getD 61 undef::l.getD 62 undef::l.getD 63 undef::l.getD 64 undef::l.getD 65 undef::l.getD 66 undef::l.getD 67 undef::l.getD 68 undef::l.getD 69 undef::l.getD 70 undef::l.getD 71 undef::l.getD 72 undef::l.getD 73 undef::l.getD 74 undef::l.getD 75 undef::l.getD 76 undef::l.getD 77 undef::l.getD 78 undef::l.getD 79 undef::l.getD 80 undef::l.getD 81 undef::l.getD 82 undef::l.getD 83 undef::l.getD 84 undef::l.getD 85 undef::l.getD 86 undef::l.getD 87 undef::l.getD 88 undef::l.getD 89 undef::l.getD 90 undef::l.getD 91 undef::l.getD 92 undef::l.getD 93 undef::l.getD 94 undef::l.getD 95 undef::l.getD 96 undef::l.getD 97 undef::l.getD 98 undef::l.getD 99 undef::l.getD 100 undef::l.getD 101 undef::l.getD 102 undef::l.getD 103 undef::l.getD 104 undef::l.getD 105 undef::l.getD 106 undef::l.getD 107 undef::l.getD 108 undef::l.getD 109 undef::l.getD 110 undef::l.getD 111 undef::l.getD 112 undef::l.getD 113 undef::l.getD 114 undef::l.getD 115 undef::l.getD 116 undef::[]:=rfl;rw[e2]at e
 grind
theorem Qt (a Ai ni ci An nn cn w B)(h:sW w B a Ai ni ci An nn cn)(hB:B<=w.1.size)(ao:tO a=0)(aJ:∀x∈a.nodes,x.need<2^64/\x.ban<2^64)(ah:∀x∈a.nodes,x.inn<2^64)(KE)(hr:∀x∈a.nodes,η x.to<=KE)(bd:η a.init<=100000000)(bW:KE<=1000000):
  Calls jJ 87 #[.agg #[.int iZ a.sets,iX Ai ni ci,iX An nn cn]] w (XW w (iF a)):=by
 have a1:Below _ w (w.alloc (jG #[.int iZ a.sets,iX Ai ni ci,iX An nn cn] 32)):=bR.alloc lR _;have x0:=heap_alloc_new w (jG #[.int iZ a.sets,iX Ai ni ci,iX An nn cn] 32);have z0:(w.alloc (jG #[.int iZ a.sets,iX Ai ni ci,iX An nn cn] 32)).1.size=w.1.size+1:=ς;let⟨l,aq⟩:=xQ (w.alloc (jG #[.int iZ a.sets,iX Ai ni ci,iX An nn cn] 32))
 rw[aq]at a1 x0 z0;have U:=dh (h.below a1 hB);have bh:=dh (aac a Ai ni ci An nn cn l B U ω bd (λx hx=>γ));obtain⟨bj,⟨bX,bT⟩,hA, -⟩:=vY.1 ao;have c:=dh h.Ov;have aK:nn<=256:=by rwa [c.o]
 obtain⟨bm,bn,HA⟩:=iA aq a1 hA;have aL:B<=l.1.size:=ω;have bp:w.1.size<l.1.size:=ω
 have W:Hd (∀W',Below _ _ W'->W'.cell? ⟨_,0,_⟩=jB (.int _ _)/\W'.cell? ⟨_,1,_⟩=jB (iX _ _ _)/\W'.cell? ⟨_,2,_⟩=jB (iX _ _ _)):=dh (λW' hb=>by
  have k0:=(hb.block _ bp).trans x0;refine⟨?_,?_,?_⟩<;>(rw[cell_of_row _ _ _ _ _ _ k0];rfl))
 have aM:=dh (λg L i k W' hb hm hi hk=>
  Xd a Ai ni ci An nn cn W' B (U.below hb aL) (Nat.le_trans aL hb.size) HA l.1.size g nn L hm i k hi hk aK (λx hx=>γ))
 obtain⟨bY,a6,aj,bq,bZ⟩:=iC hr aJ ah ao z0;clear aq a1 x0 z0 h aJ ah hr hA ao;go_enter Tryz.func87,Tryz.ntmps87;go_wp2
 show Code.wp _ _ _ _ (w.alloc (jG _ 32));rw[bm.o];apply VF 0 (λm a' w'=>∃(g:Nat) (L:List _),m=Cm L/\Hd (wQ w' l.1.size g nn nn L)/\Hd (Rl a L)/\Hd (Below l.1.size l w')/\a'.defers=[]/\a'.tmps.size=117/\a'.tmps.toList.getD 0 undef=.agg #[.int iZ a.sets,iX Ai ni ci,iX An nn cn]/\a'.tmps.toList.getD 1 undef=jH (jB ⟨w.1.size,0,jC⟩)/\a'.tmps.toList.getD 2 undef=iX jC 0 0/\a'.tmps.toList.getD 3 undef=.int iZ nn/\a'.tmps.toList.getD 4 undef=iX (jB ⟨g,0,jC⟩) nn nn) rfl
 ·rintro m a' w' ⟨g,L,rfl,HM,HI,HB,hd,hs,f0,f1,f2,f3,f4⟩;obtain⟨u,rfl⟩:=aje _ _ _ _ _ _ hd hs f0 f1 f2 f3 f4;clear hd hs f0 f1 f2 f3 f4;go_wp2
  go_loopw [50] (λi wr=>∃(i1:Nat) (L1:List _),i1<=nn/\i=.int iZ i1/\Hd (wQ wr l.1.size g nn nn L1)/\Hd (Rl a L1)/\Hd (ze a L L1 i1 0)/\Hd (Below l.1.size l wr)) (λi _=>nn-(intOf i).toNat)
  case atStart=>exact⟨0,L,ω,rfl,HM,HI,dh (ze.start a L),HB⟩
  case round=>
   obtain⟨i1,L1,br,rfl,G,H,a7,I⟩:=hrel;clear HM HI HB;by_cases z:i1<nn
   ·have wi:IntKind.i64.wrap (i1+1)=i1+1:=by rw[wI];omega
    have aN:0<=(i1:Int):=ω;have aO:i1<(nn:Int):=ω;go_wp2
    go_loopw [54] (λj X=>∃(d:Nat),d<=nn/\j=.int iZ d/\Hd (wQ X l.1.size g nn nn L1)/\Hd (ze a L L1 i1 d)/\Hd (Below l.1.size l X)) (λj _=>nn-(intOf j).toNat)
    case atStart=>exact⟨0,ω,rfl,G,a7,I⟩
    case round=>
     obtain⟨d,bu,rfl,n,E,p⟩:=hrel;clear G a7 I;by_cases J:d<nn
     ·have wk:IntKind.i64.wrap (d+1)=d+1:=by rw[wI];omega
      have ar:0<=(d:Int):=ω;have au:d<(nn:Int):=ω;have aP:(d:Int)<256:=ω;have q:=n.cell z (show d<256 by omega);have HF:=dh (aM g _ _ _ _ p n z J);let⟨q0,q1,q2⟩:=W _ p.o
      cases F:zT L1 i1 d
      ·have O:=dh F;go_wp2
       go_roundw
       case rel=>exact⟨_,ω,jM _ ω,n,dh (E.next (λh=>by rw[O.o]at h;cases h)),p⟩
       case measure=>simp[intOf];omega
      ·have O:=dh F;rw[F]at q;clear F;go_wp2_with fail
       apply HF.mono;rintro e w3 ⟨rfl,C⟩;obtain⟨b,v⟩:=iw (n.below C) (p.trans (C.mono p.size));clear C q q0 q1 q2;cases Y:DC a _ _ _
       ·have P:=dh Y;have q:=b.cell z (show d<256 by omega);have f:=b.own.frozenAt (i1*256+d);have av:=(b.own.lt g rfl).1;go_wp2
        go_roundw
        case rel=>exact⟨i1+1,_,ω,jM _ rfl,dh (b.put _ _),dh (H.drop HA ω (by rwa [<-c.o]) (by rwa [<-c.o]) P.o),dh (E.drop O.o),dh (v.setCell av _)⟩
        case measure=>simp[intOf];omega
       ·have P:=dh Y;go_wp2
        go_roundw
        case rel=>exact⟨_,ω,jM _ ω,b,dh (E.next (λ_=>P.o)),v⟩
        case measure=>simp[intOf];omega
     ·have M:d=η a.nodes:=by rw[<-c.o];omega
      have Z:=dh (by have:=E.o;rw[M]at this;exact this.row);go_wp2
      go_roundw
      case rel=>exact⟨_,_,ω,jM _ ω,n,H,Z,p⟩
      case measure=>simp[intOf];omega
   ·have Q:i1=η a.nodes:=by rw[<-c.o];omega
    have aQ:=dh (by have:=a7.o;rwa [Q]at this);have hle:¬i1<(nn:Int):=ω;clear Q a7;go_wp2
    go_loopw [79] (λi wr=>∃(i2:Nat),i2<=nn/\i=.int iZ i2/\Hd (wQ wr l.1.size g nn nn L1)/\Hd (ze a L1 L1 i2 0)/\Hd (Below l.1.size l wr)) (λi _=>nn-(intOf i).toNat)
    case atStart=>exact⟨0,ω,rfl,G,dh (ze.start a _),I⟩
    case round=>
     obtain⟨i2,aO,rfl,n,E,p⟩:=hrel;clear G I hle;by_cases z:i2<nn
     ·have wi:IntKind.i64.wrap (i2+1)=i2+1:=by rw[wI];omega
      have aN:0<=(i2:Int):=ω;have c4:i2<(nn:Int):=ω;go_wp2
      go_loopw [83] (λj X=>∃(T:Nat),T<=nn/\j=.int iZ T/\Hd (wQ X l.1.size g nn nn L1)/\Hd (ze a L1 L1 i2 T)/\Hd (Below l.1.size l X)) (λj _=>nn-(intOf j).toNat)
      case atStart=>exact⟨0,ω,rfl,n,E,p⟩
      case round=>
       obtain⟨T,c9,rfl,b,Z,v⟩:=hrel;clear n E p;by_cases J:T<nn
       ·have wk:IntKind.i64.wrap (T+1)=T+1:=by rw[wI];omega
        have ar:0<=(T:Int):=ω;have au:T<(nn:Int):=ω;have aP:(T:Int)<256:=ω;have q:=b.cell z (show T<256 by omega);have HF:=dh (aM g _ _ _ _ v b z J);let⟨q0,q1,q2⟩:=W _ v.o
        cases F:zT L1 i2 T
        ·have O:=dh F;go_wp2
         go_roundw
         case rel=>exact⟨_,ω,jM _ ω,b,dh (Z.next (λh=>by rw[O.o]at h;cases h)),v⟩
         case measure=>simp[intOf];omega
        ·have O:=dh F;rw[F]at q;clear F;go_wp2_with fail
         apply HF.mono;rintro e w3 ⟨rfl,C⟩;obtain⟨a8,R⟩:=iw (b.below C) (v.trans (C.mono v.size));clear C q q0 q1 q2;cases Y:DC a _ _ _
         ·have P:=dh Y;have bw:=dh (aQ.less (by rwa [<-c.o]) (by rwa [<-c.o]) O P.o);go_wp2
          go_step3
          exact⟨rfl,_,bw.o,g,_,rfl,a8,H,R,rfl,rfl,rfl,rfl,rfl,rfl,rfl⟩
         ·have P:=dh Y;go_wp2
          go_roundw
          case rel=>exact⟨_,ω,jM _ ω,a8,dh (Z.next (λ_=>P.o)),R⟩
          case measure=>simp[intOf];omega
       ·have M:T=η a.nodes:=by rw[<-c.o];omega
        have bz:=dh (by have:=Z.o;rw[M]at this;exact this.row);have hle:¬(T:Int)<(nn:Int):=ω;clear M;go_wp2_with fail
        go_roundw
        case rel=>exact⟨i2+1,ω,jM (Value.int iZ) ω,b,bz,v⟩
        case measure=>simp[intOf];omega
     ·have Q:i2=η a.nodes:=by rw[<-c.o];omega
      have bA:=dh (λi k hi hk hr=>by
       have:=E.o;rw[Q]at this;rcases this with h|⟨-,h⟩
       ·exact absurd h (pJ _)
       ·exact h i k hi hk (.inl hi) hr)
      have hle:¬(i2:Int)<(nn:Int):=ω;clear Q E aQ
      rename jF=>w6
      go_wp2_with fail
      go_loopw [11,103] (λo i X=>∃(D:Nat),D<=nn/\i=.int iZ (D:Int)/\Hd (wQ X l.1.size g nn nn L1)/\Hd (zw w6 X o ((iF a).take D))) (λ_ i _=>nn-(intOf i).toNat)
      case atStart=>exact⟨0,ω,rfl,n,dh (zw.nil _)⟩
      case round=>
       obtain⟨D,ca,rfl,b,aw⟩:=hrel;clear n hle;by_cases z:D<nn
       ·have wk:IntKind.i64.wrap ((D:Int)+1)=(D:Int)+1:=by rw[wI];omega
        have ar:(0:Int)<=(D:Int):=ω;have au:(D:Int)<(nn:Int):=ω;have cb:(0:Int)<=(nn:Int):=ω;have cd:(nn:Int)<=256:=ω;obtain⟨vs,hv,aR,aS⟩:=aw.o;have ax:η ((iF a).take D)=D:=by rw[jq,KM];have:=c.o;omega
        have bB:Hd ((iF a).take (D+1)=(iF a).take D++[Q7 L1 nn D]):=dh (by
         have h:=aez H HA bA (i:=D) (by rw[<-c.o];exact z);rw[List.take_add_one,h,c.o];rfl)
        have aT:=dh (Ka (jB ⟨g,D*256,jC⟩) nn 256 (qV (Q7 L1 nn D)) wr wr.1.size (b.row z aK) (Kc _) lR ω);rw[ax]at hv;obtain⟨HV,bE,aU⟩:=iA hv aR aS;have cg:=(b.own.lt g rfl).2;clear hv aR aS;go_wp2_with fail
        apply aT.mono;rintro e w5 ⟨v5,rfl,ay,V, -⟩;obtain⟨A5,c5,rfl, -⟩:=qX ay;have aV:=aw.below V;obtain⟨bF,az,ad,aW,bG,bH⟩:=dh6 (rC ay aU.size) (own_below HV V) V (b.below V) (heap_alloc_new w5 (jG #[iX A5 nn c5] 64)) aV;have ch:=V.size;have cj:=aU.size;clear ay V aV;go_wp2_with (at_builtin;refine rD rfl (.tmp 106) (.tmp 113) 66 rfl w6.1.size 64 1 24 Bp _ _ _ (az.alloc _) rfl w5.1.size #[iX A5 nn c5] rfl bG.out rfl (by simp[Value.oneCell']) ω ω (by simp;omega) ?_;intro u' wA aA aX bU bV;have ck:=dh (bH.push (r:=Q7 L1 nn D) (u:=iX A5 nn c5) (by simpa[Q7]using bF.o) (by rw[ax];exact az.o) (by rw[ax];exact aA) (qW.trans ((qW.refl _ w5).alloc _) aX (λ_ _ h=>h)) (λj r hj=>by obtain⟨u,e1,e2⟩:=bE j r hj;exact⟨u,e1,own_below e2 ad.o⟩));have bI:Hd (wQ wA l.1.size g nn nn L1):=dh ⟨qR aW.own (qW.trans ((qW.refl _ w5).alloc _) aX (λ_ _ h=>h)) (λq hq hS=>own_ne aW.own az δ q hq hS)⟩)
        go_roundw
        case rel=>exact⟨D+1,ω,jM _ rfl,bI,dh (by rwa [bB.o])⟩
        case measure=>simp[intOf];omega
       ·have M:D=nn:=ω;have bJ:=dh (by have:=aw.o;rwa [M,tL (by rw[KM,c.o];exact lR)]at this);have bK:=dh (bn.trans (p.mono (show w.1.size<=l.1.size by omega)));go_wp2
        go_ret
        exact⟨_,rfl,bJ.base bK.o⟩
 ·intro bL;obtain⟨q0,q1,q2⟩:=W _ bR;go_wp2_with fail
  apply bh.mono;rintro e w1 ⟨rfl,aB⟩;rw[bq.o];have I:=dh aB;have cm:=aB.size;clear q0 q1 q2 aB;let⟨q0,q1,q2⟩:=W _ I.o
  have aY:=Zg nn ω w1;let⟨W1,aC⟩:=xQ (w1.alloc (jG (madeCells (Array.replicate 256 (.bool jE)) (nn*256)) 190))
  have aD:=YB w1 nn ω;rw[aC]at aD aY;have p:=dh (show Below _ _ W1 by rw[<-aC];exact I.alloc ω _);have aZ:Hd (wQ _ _ _ _ _ _):=dh ⟨rC aD.own I.size⟩;clear aD aC;go_wp2
  go_loopw [22] (λi wr=>∃(i1:Nat) (L1:List _),i1<=nn/\i=.int iZ i1/\Hd (wQ wr l.1.size w1.1.size nn nn L1)/\Hd (Gr a L1 i1 0)/\Hd (Below l.1.size l wr)) (λi _=>nn-(intOf i).toNat)
  case atStart=>exact⟨0,_,ω,rfl,aZ,dh ⟨by rw[mJ,c.o],λj m _ _ hc=>absurd hc ω⟩,p⟩
  case round=>
   obtain⟨i1,L1,br,rfl,G,H,v⟩:=hrel;clear aZ p q0 q1 q2 aY;by_cases z:i1<nn
   ·have wi:IntKind.i64.wrap (i1+1)=i1+1:=by rw[wI];omega
    have aN:0<=(i1:Int):=ω;have aO:i1<(nn:Int):=ω;go_wp2
    go_loopw [26] (λj X=>∃(d:Nat) (L2:List _),d<=nn/\j=.int iZ d/\Hd (wQ X l.1.size w1.1.size nn nn L2)/\Hd (Gr a L2 i1 d)/\Hd (Below l.1.size l X)) (λj _=>nn-(intOf j).toNat)
    case atStart=>exact⟨0,_,ω,rfl,G,H,v⟩
    case round=>
     obtain⟨d,L2,bu,rfl,n,b4,R⟩:=hrel;clear G H v;by_cases J:d<nn
     ·have wk:IntKind.i64.wrap (d+1)=d+1:=by rw[wI];omega
      have ar:0<=(d:Int):=ω;have au:d<(nn:Int):=ω;have aP:(d:Int)<256:=ω;obtain⟨s,aE⟩:∃s:Nat,a.sets=s:=⟨a.sets.toNat,ω⟩;obtain⟨bx,ox,x,Ax,cx,aF,cp,hx,c0,c1,c2,c3, -⟩:=wh U z;obtain⟨cq,oy,y,Ay,cy,b5, -,hy,d0,d1,d2,d3, -⟩:=wh U J;rw[aF]at b5;cases b5;have b6:a.at i1=x:=by unfold rQ.at;rw[gD,hx];rfl
      have b9:a.at d=y:=by unfold rQ.at;rw[gD,hy];rfl
      have af:=jy hx;have ag:=jy hy;have cr:=(lU U.nodes).1.cap;have bM:=(lU U.nodes).1.max;unfold maxLen at bM;have bN:=dh (λW'=>adF x y s Ax Ay (η x.to) cx (η y.to) cy W' ⟨(a6 x af).1,(a6 x af).2,aj x af⟩ ⟨(a6 y ag).1,(a6 y ag).2,aj y ag⟩ ω)
      have bO:=dh (by
       have h:=b4.put ω (by rwa [<-c.o]) (by rwa [<-c.o]);rwa [b6,b9,aE,tN]at h)
      have N:bx<l.1.size:=ω
      have aG:Hd (∀W',Below _ _ W'->W'.cell? _ =jB _/\W'.cell? _ =jB _/\W'.cell? _ =jB _/\W'.cell? _ =jB _/\W'.cell? _ =jB _/\W'.cell? _ =jB _/\W'.cell? _ =jB _/\W'.cell? _ =jB _/\W'.cell? _ =jB _/\W'.cell? _ =jB _):=dh (λW' hb=>by
       obtain⟨e0, -,e2⟩:=W _ hb;rw[aE]at e0;rw[aF]at e2
       exact⟨e0,e2,bC hb N c0,bC hb N c1,bC hb N c2,bC hb N c3,
        bC hb N d0,bC hb N d1,bC hb N d2,bC hb N d3⟩)
      generalize yH x y s=bv at *;let⟨s0,s1,s2,s3,s4,s5,s6,s7,s8,s9⟩:=aG _ R.o
      clear c0 c1 c2 c3 d0 d1 d2 d3 b6 b9 hx hy af ag aE aF;go_upto_region 11 with fail
      refine wp_region_held_drew (S:=λw'=>q9 w' _ 0 _/\q9 w' _ 2 _/\q9 w' _ _ _/\q9 w' _ _ _/\q9 w' _ _ _/\q9 w' _ _ _/\q9 w' _ _ _/\q9 w' _ _ _/\q9 w' _ _ _/\q9 w' _ _ _) rfl ⟨s0,s1,s2,s3,s4,s5,s6,s7,s8,s9⟩ (λhS=>?_);apply qU 0;apply qU 1;apply qU 2;apply qU 3;apply qU 4;apply qU 5;apply qU 6;apply qU 7;apply qU 8;apply qU 9;apply qU 10;apply qU 11;apply qU 12;apply qU 13;apply qU 14;apply qU 16;refine rR 15 (λK hK=>?_);go_simp;apply (bN _).mono;rintro e w3 ⟨rfl,ak⟩;have C:Below wr.1.size _ _:=rF ak;obtain⟨b,ad⟩:=iw (n.below C) (R.trans (C.mono R.size));clear C ak;dsimp;refine hK _ _ (aG _ ad.o) (λhS=>?_);clear hK;apply qU 17;refine rR 18 (λK hK=>?_);have qq:=b.cell z (show d<256 by omega);have ff:=b.own.frozenAt (i1*256+d);have yl:=(b.own.lt w1.1.size rfl).2;have av:=(b.own.lt w1.1.size rfl).1;let⟨w4,aH⟩:=xQ (w3.setCell ⟨w1.1.size,i1*256+d,jC⟩ (.bool bv))
      have a8:Hd (wQ w4 _ _ _ _ _):=dh (by rw[<-aH];exact b.put _ _);have bc:Hd (Below _ _ w4):=dh (by rw[<-aH];exact ad.setCell av _);go_simp;try rw[aH]
      refine hK _ _ (aG _ bc.o) (λhS=>?_);clear hK;refine wpAnyH_done rfl ?_ _;clear hS;go_wp2
      go_roundw
      case rel=>exact⟨_,_,ω,jM _ ω,a8,bO,bc⟩
      case measure=>simp[intOf];omega
     ·have M:d=η a.nodes:=by rw[<-c.o];omega
      have bP:=dh (by have:=b4.o;rw[M]at this;exact this.row);go_wp2
      go_roundw
      case rel=>exact⟨_,_,ω,jM _ ω,n,bP,R⟩
      case measure=>simp[intOf];omega
   ·have Q:i1=η a.nodes:=by rw[<-c.o];omega
    have bQ:=dh (by have:=H.o;rw[Q]at this;exact this.inv);go_wp2
    go_step3
    rename_i bS;refine bS _ _ (bL (Cm L1) _ _ ?_);exact⟨_,_,rfl,G,bQ,v,rfl,rfl,rfl,rfl,rfl,rfl,rfl⟩
set_option maxHeartbeats 8000000
set_option maxRecDepth 100000
theorem zw.sl2 {v:Value}(h:zw w w' v R):∃A c,v=iX A (η R) c/\Gx w' w'.1.size 1 A (η R) c (R.map qV):=by
 obtain⟨vs,a,d,i⟩:=h;obtain⟨A,c,rfl,hs⟩:=qX a;have hl:η vs=η R:=by rw[a.1];simp
 refine⟨A,c,rfl,_,hs,γ,λj ys b=>?_⟩;rw[kR]at b;obtain⟨r,e,rfl⟩:=mH.1 b;obtain⟨u,hu,f⟩:=d j r e;obtain⟨A',c',rfl,g⟩:=qX f
 grind
theorem Pm (a):∀r∈iF a,η r=η (iF a):=λr b=>by
 unfold iF at b⊢
 grind
def akC (V:jF)(s:Int)(l:List Int)(v:Value)(w:jF):Prop:=∃A c,v=.agg #[.int iZ s,iX A (η l) c,iX jC 0 0]/\w.ownsRow V.1.size 3 1 (iX A (η l) c) (η l) (qO l)
def akA (V:jF)(v:Value)(w:jF):Prop:=∃g,v=jH (jB ⟨g,0,jC⟩)/\V.1.size<=g/\w.1[g]? =jB (jG #[.int iZ 0,iX jC 0 0,iX jC 0 0] 32 (0,0))
theorem YQ (a Ai ni ci An nn cn w B)(h:sW w B a Ai ni ci An nn cn)(hB:B<=w.1.size)(ar:tO a=0)(aP:∀x∈a.nodes,x.need<2^64/\x.ban<2^64)(ak:∀x∈a.nodes,x.inn<2^64)(KE)(hr:∀x∈a.nodes,η x.to<=KE)(bB:η a.init<=1000000)(bE:KE<=1000000):
  Calls jJ 55 #[.agg #[.int iZ a.sets,iX Ai ni ci,iX An nn cn]] w (AV w (vH a)):=by
 obtain⟨a7,x0,y0,z0⟩:=uS w (jG #[.int iZ a.sets,iX Ai ni ci,iX An nn cn] 32) (jG #[.int iZ 0,iX jC 0 0,iX jC 0 0] 32);obtain⟨W0,au⟩:=xQ ((w.alloc (jG #[.int iZ a.sets,iX Ai ni ci,iX An nn cn] 32)).alloc (jG #[.int iZ 0,iX jC 0 0,iX jC 0 0] 32));rw[au]at a7 x0 y0 z0;have av:=dh (h.below a7 hB);have bF:=dh (aac a Ai ni ci An nn cn W0 B av ω ω (λx hx=>γ));obtain⟨bG, -,hA, -⟩:=vY.1 ar;have J:=dh h.Ov;have cy:nn<=256:=by rwa [J.o]
 obtain⟨bH,bI,aQ,bJ,bK⟩:=iC au a7 hA x0 y0;have aw:B<=W0.1.size:=ω;have bL:w.1.size+1<W0.1.size:=ω;have ax:Hd (∀W',Below W0.1.size W0 W'->W'.cell? ⟨w.1.size,0,jC⟩=jB (.int iZ a.sets)/\W'.cell? ⟨w.1.size,1,jC⟩=jB (iX Ai ni ci)/\W'.cell? ⟨w.1.size,2,jC⟩=jB (iX An nn cn)):=dh (λW' hb=>sQ ((hb.block w.1.size ω).trans bJ.o));obtain⟨aR,aS,aT,aU⟩:=iB hr aP ak ar;clear au a7 x0 y0 z0 h aP ak hr hA ar;go_enter Tryz.func55,Tryz.ntmps55;go_upto_region 1 with fail
 rw[bH.o];obtain⟨q0,q1,q2⟩:=ax _ bR;go_wp2_with fail
 apply bF.mono;rintro e w1 ⟨rfl,ay⟩;rw[aU.o];have az:=dh ay;have aV:=ay.size;clear q0 q1 q2 ay;let⟨q0,q1,q2⟩:=ax _ az.o
 have bM:=dh (Qt a Ai ni ci An nn cn w1 B (av.below az aw) (Nat.le_trans aw aV) aU aS aT _ aR ω bE);go_wp2_with fail
 apply bM.mono;rintro e V ⟨v,rfl,hG⟩;obtain⟨Ar,cr,rfl,aW⟩:=hG.sl2;have aX:=hG.choose_spec.2.2;have L:=dh (az.trans (aX.mono aV));have bN:=L.size;have aY:=dh aW;have z:Hd (∀W',Below _ V W'->W'.cell? _ =jB _/\W'.cell? _ =jB _/\W'.cell? _ =jB _):=dh (λW' hb=>ax _ (L.trans (hb.mono bN)));have aA:=dh (av.below L aw);have aB:B<=V.1.size:=ω;have bO:=dh ((L.block _ bL).trans bK.o);have bP:w.1.size+1<V.1.size:=ω;have aC:=dh (bI.trans (L.mono (show w.1.size<=W0.1.size by omega)));have aD:η (iF a)=nn:=by rw[KM,J.o]
 rw[aD]at aY⊢;have bQ:=dh aD
 have aZ:Hd (∀(W':jF) (l:List Int) (A:Option Addr) (n c:Nat),Below V.1.size V W'->Sl W' W'.1.size 1 A n c (qO l)->(∀t∈l,sG nn t=jD)->η l<=1000000->n=η l->Calls jJ 88 #[iX A n c,iX Ar nn cr] W' (FD W' (uK (iF a) l))):=dh (λW' l A n c hb hs hl cC hn=>by
  have hq:=bQ.o;exact Zm l A n c _ _ _ _ _ _ hs ((aY.below hb lR).up hb.size) lR hn ω hq.symm ω (Pm a) (λt ht=>by rw[hq];exact hl t ht))
 clear hG aW aX q0 q1 q2 aD;let⟨ks,aE⟩:=xQ (ζ nn)
 have cD:η ks=nn:=by rw[<-aE];simp
 have b4:=dh aE
 have bS:Hd (vH a=⟨_,_,ks.map _⟩):=dh (by
  unfold vH;rw[Bq,Cj,nu.2 ς,<-b4.o,J.o])
 clear aE;go_upto_region 4 with fail
 obtain⟨x0,x1, -⟩:=z V bR;go_cut [4]from 5 (λp wF=>∃ob vi,p=jH (jB ⟨ob,0,jC⟩)/\V.1.size<=ob/\Hd (yN V.1.size ob a.sets vi (uK (iF a) a.init) (iX jC 0 0) [] [] wF)/\Hd (Below V.1.size V wF))
 case first=>
  refine wp_region_held_drew (S:=λw'=>q9 w' _ 0 _/\q9 w' _ 1 _) rfl ⟨x0,x1⟩ (λhS=>?_);apply qU 0;apply qU 1;apply qU 2;apply qU 3;apply qU 4;have a8:Hd (∀W',Below _ _ _->Below _ V W'):=dh (λW' hb=>(Below.drew (Below.refl _ V)).trans (hb.mono (Below.drew (Below.refl V.1.size V)).size));apply BG 3 [⟨5,_,[],λv w=>w.ownsRow V.1.size 3 1 v (η (uK (iF a) a.init)) (qO (uK (iF a) a.init))⟩,⟨6,_,[5],akC V a.sets (uK (iF a) a.init)⟩,⟨7,4,[],akA V⟩] rfl _ _ _ _ (show[18,19,4].Nodup by decide) (show[5,6,7].Nodup by decide) rfl κ (λW' hb=>⟨(z _ (a8 _ hb)).1,(z _ (a8 _ hb)).2.1⟩)
  ·intro m hm y u1 u2 hb h;simp at hm;rcases hm with rfl|rfl|rfl
   ·exact own_below h hb
   ·obtain⟨A8,c8,e,ho⟩:=h;exact⟨_,_,e,own_below ho hb⟩
   ·obtain⟨g,e,hg,hx⟩:=h;exact⟨g,e,hg,(hb.block g (aI.1 hx).1).trans hx⟩
  ·intro m hm a' w' aF bT hb;have M:=a8 _ hb;simp at hm;rcases hm with rfl|rfl|rfl
   ·have bU:a'.eval (.tmp 16)=iX _ _ _:=aF 16 ς;have bV:a'.eval (.tmp 17)=iX _ _ _:=aF 17 ς;refine yO rfl (by simp[bU,bV]<;>rfl) rfl (aZ _ _ _ _ _ M ((aA.below M aB).init.up (Nat.le_trans aB M.size)) (λt ht=>by rw[J.o];exact aQ.1 t ht) bB aA.eni) (λe w2 h=>?_);obtain⟨v8,rfl,j,hq⟩:=h;exact⟨_,rfl,_,rfl,rC j M.size,hq⟩
   ·have cE:=JI (show a'.eval (.tmp 14)=.int _ _ from aF 14 ς);have ho:=bT _ (.head _) ς;dsimp at ho;obtain⟨A8,c8,b5, -⟩:=qX ho;rw[b5]at ho;have cF:=JI b5;exact EH rfl (by simp[Region.wanted]) (by go_simp;try rfl) ⟨_,rfl,⟨A8,c8,rfl,ho⟩,bR⟩
   ·exact EH rfl rfl rfl ⟨_,rfl,⟨_,rfl,M.size,heap_alloc_new _ _⟩,bR.alloc lR _⟩
  intro v N ao hv;have H:=a8 _ ao;let⟨A8,c8,e6,j⟩:=hv _ (.tail _ (.head _))
  let⟨ob,e7,bW,C⟩:=hv _ (.tail _ (.tail _ (.head _)))
  dsimp at e6 e7;simp only[Jp,jZ,nO,e6,e7,xk];clear e6 e7 hv ao hS;refine rR 8 (λK E=>?_);obtain⟨y0,y1,y2⟩:=sQ C;have f0:=frozen_of_row _ _ 0 _ _ C;have f1:=frozen_of_row _ _ 1 _ _ C;have f2:=frozen_of_row _ _ 2 _ _ C;have yl:=(aI.1 C).1;have d:=Cu (a:=.int iZ a.sets) (b:=iX A8 (η (uK (iF a) a.init)) c8) (c:=iX jC 0 0) C rfl;have r:=Ct N ob (.int iZ a.sets) (iX A8 (η (uK (iF a) a.init)) c8) (iX jC 0 0);have aG:=qR j r (λg hg e=>qQ j C δ (by rw[hg,e]));obtain⟨wF,b6⟩:=xQ (((N.setCell ⟨ob,0,jC⟩ (.int iZ a.sets)).setCell ⟨ob,1,jC⟩ (iX A8 (η (uK (iF a) a.init)) c8)).setCell ⟨ob,2,jC⟩ (iX jC 0 0));rw[b6]at d r aG;have aH:=H.trans (r.below H.size (λx hx e=>ω));have O:Hd (yN _ _ _ _ _ _ _ _ _):=dh ⟨d,rC aG (by first|exact lR|omega),yg.nil _ _⟩;obtain⟨P,bX⟩:=iw aH bW;clear d r aG;go_simp;try rw[b6]
  refine E _ _ ⟨(z _ aH).1,(z _ aH).2.1⟩ (λhS=>?_);clear E;refine wpAnyH_done κ ?_ _;go_wp2
  go_meet
  case rel=>exact⟨_,_,rfl,bX.o,O,P⟩
 case rest=>
  obtain⟨ob,vi,rfl,bY,O,P⟩:=hcut;obtain⟨q0,q1,q2⟩:=z _ P.o;clear x0 x1;go_wp2
  clear q0 q1 q2;go_loopw [6,23] (λ_ i wr'=>∃(k:Nat) (vn:Value) (xs:List _),k<=nn/\i=.int iZ k/\Hd (yN V.1.size ob a.sets vi (uK (iF a) a.init) vn ((ks.take k).map (λi=>(a.at i).put (uK (iF a) (a.at i).to))) xs wr')/\Hd (Below V.1.size V wr')) (λ_ i _=>nn-(intOf i).toNat)
  case atStart=>exact⟨0,_,_,ω,rfl,dh (by rwa [pX]),P⟩
  case round=>
   obtain⟨k,vn,xs,hk,rfl,I,s⟩:=hrel;clear O P;by_cases bZ:k<nn
   ·have wk:IntKind.i64.wrap (k+1)=k+1:=by rw[wI];omega
    have cG:0<=(k:Int):=ω;have cH:k<(nn:Int):=ω;let⟨q0,q1,q2⟩:=z _ s.o
    have ad:=aA.below s aB;have cI:=(lU ad.nodes).1.cap;have c0:=(lU ad.nodes).1.max;unfold maxLen at c0;let⟨bx,ox,nd,At,ct,c4,cJ,Q,d0,d1,d2,d3,b9⟩:=wh ad bZ
    let⟨q,hq⟩:=xR k
    have c5:Hd (a.at q=nd):=dh (by rw[hq];unfold rQ.at;rw[gD,Q];rfl);have bc:=dh (jy Q);have c9:Hd (ks.take (k+1)=ks.take k++[q]):=dh (by subst hq;rw[rE _ q ω];simp[<-b4.o]);have ca:=dh b9;subst c4;clear ad Q b9 hq;obtain⟨Av,cv,rfl, -⟩:=qX I.nodes.own;let⟨ns,af⟩:=xQ ((ks.take k).map (λi=>(a.at i).put (uK (iF a) (a.at i).to)))
    have aJ:η ns=k:=by rw[<-af,jr,jq];omega
    rw[af,aJ]at I;obtain⟨cb,bd⟩:=iw af aJ;let⟨XA,R⟩:=xQ (wr.alloc (jG #[.int jA nd.need,.int jA nd.ban,.int jA nd.inn,iX At (η nd.to) ct] 53))
    have F:Below wr.1.size wr XA:=by rw[<-R];exact bR.alloc lR _
    have cw:XA.1.size=wr.1.size+1:=by rw[<-R];simp
    have bh:XA.1[wr.1.size]? =jB (jG #[.int jA nd.need,.int jA nd.ban,.int jA nd.inn,iX At (η nd.to) ct] 53 (0,0)):=by rw[<-R];exact heap_alloc_new _ _
    obtain⟨aK,cd,ag,bj⟩:=iB bh R (s.trans (F.mono s.size)) (I.below F);have bm:=dh ((ca.below F (show B<=wr.1.size by have:=s.size;omega)).up (show B<=XA.1.size by have:=s.size;omega));have cg:=dh (λg hg=>(I.nodes.own.lt g hg).2);have cx:=ag.size;clear R F bh af aJ;go_upto_region 8 with fail
    rw[cd.o];obtain⟨s0,s1,s2,s3⟩:=DK aK.o;obtain⟨r0,r1,r2⟩:=bj.cells;clear r0 r1 q0 q1 q2 d0 d1 d2 d3;refine vP (S:=λw'=>q9 w' _ 2 _/\q9 w' _ 0 _/\q9 w' _ 1 _/\q9 w' _ 2 _/\q9 w' _ 3 _) 16 rfl (⟨r2,s0,s1,s2,s3⟩) (λhS=>?_);apply tF 0 [];apply tF 1 [];apply tF 2 [];apply tF 3 [];apply tF 4 [];apply tF 5 [];apply tF 6 [];apply tF 7 [];apply tF 8 [];apply tF 9 [];apply tF 10 [];refine rZ (i:=11) rfl κ (λK E=>?_);go_simp;apply (aZ _ _ _ _ _ (Below.drew ag.o) (bm.below (Below.drew bR) lR) (λt ht=>by rw[J.o];exact aQ.2 _ bc t ht) (by have:=aR _ bc.o;omega) rfl).mono;rintro e N ⟨v8,rfl,j,aq⟩;have H:Below XA.1.size _ _:=rF aq;obtain⟨A8,c8,rfl, -⟩:=qX j;obtain⟨ch,T,G⟩:=iA j H (bj.below H);have S8:Hd (∀W',Below N.1.size N W'->W'.cell? ⟨wr.1.size,0,jC⟩=jB (.int jA (nd.need:Int))/\W'.cell? ⟨wr.1.size,1,jC⟩=jB (.int jA (nd.ban:Int))/\W'.cell? ⟨wr.1.size,2,jC⟩=jB (.int jA (nd.inn:Int))/\W'.cell? ⟨wr.1.size,3,jC⟩=jB (iX At (η nd.to) ct)):=dh (λW' hb=>DK ((hb.block wr.1.size (by have:=T.size;omega)).trans ((T.block wr.1.size ω).trans aK.o)));clear j aq H;dsimp;refine E _ _ ⟨G.cells.2.2,S8 _ bR⟩ (λhS=>?_);clear E;refine tF 12 [] ?_;refine rZ (i:=13) rfl κ (λK E=>?_);go_simp;have tb:=heap_alloc_new N (jG #[.int jA nd.need,.int jA nd.ban,.int jA nd.inn,iX A8 (η (uK (iF a) nd.to)) c8] 53);let⟨wY,U⟩:=xQ (N.alloc (jG #[.int jA nd.need,.int jA nd.ban,.int jA nd.inn,iX A8 (η (uK (iF a) nd.to)) c8] 53))
    have ah:Below N.1.size N wY:=by rw[<-U];exact bR.alloc lR _
    have W:=G.below ah;have cK:=T.size;rw[U]at tb⊢;have cj:=dh U;have cL:wY.1.size=N.1.size+1:=by rw[<-U];simp
    clear U;refine E _ _ ⟨W.cells.2.2,S8 _ ah⟩ (λhS=>?_);clear E;refine rZ (i:=14) rfl κ (λK E=>?_);apply su rfl _ _ _ rfl _ _ 4 _ Dh _ _ _ W.nodes.own rfl _ _ rfl tb rfl (by simp[Value.oneCell']) (by have:=bd.o;omega) ω ω;intro uZ wZ D aj bn _;obtain⟨gZ,cZ,hu⟩:=ownsRow_succ D;rw[bd.o]at hu;subst hu;rw[<-cj.o]at aj;have aL:=G.push (x:=nd.put (uK _ _)) (rC ch (by show _<=XA.1.size;omega)) D aj;obtain⟨⟨fz,lz,cz⟩,bp⟩:=aL;have aM:=qW.trans ((qW.refl _ _).alloc _) aj (λ_ _ e=>e);have sz:=DK ((aM.block wr.1.size ω (λe=>by have:=cg _ e;omega)).trans ((T.block wr.1.size ω).trans aK.o));have ck:=dh bp;have cm:=dh ((ag.trans (T.mono ag.size)).trans (aM.below (show V.1.size<=N.1.size by omega) (λq hq e=>by have:=(G.nodes.own.lt q e).1;omega)));clear bp aj aM bn D;refine E _ _ ⟨cz,sz⟩ (λhS=>?_);clear E;apply tF 15 [];refine rM (i:=16) rfl κ rfl (λK E=>?_);go_simp;apply E.out;clear E;apply tX rfl;clear hS r2 s0 s1 s2 s3;have hO:=ck.o;rw[<-c5.o]at hO;have bq:(ks.take (k+1)).map (λi=>(a.at i).put (uK (iF a) (a.at i).to))=ns++[(a.at q).put (uK (iF a) (a.at q).to)]:=by rw[c9.o,jT,cb.o];rfl
    rw[<-bq]at hO;obtain⟨cp,cq⟩:=iw hO (cm.setCell (p:=⟨_,2,jC⟩) (show V.1.size<=ob from bY) (iX (jB ⟨gZ,0,jC⟩) (k+1) cZ));clear hO bq fz lz cz sz;go_wp2
    go_roundw
    case rel=>exact⟨_,_,_,ω,jM _ ω,cp,cq⟩
    case measure=>simp[intOf];omega
   ·have br:k=nn:=ω;have hle:¬k<(nn:Int):=ω;rw[br,tL ω]at I;clear br;have u:=I.o;obtain⟨X,Z,a1,a6,aN,aO, -⟩:=u.rd;let⟨n1,bu⟩:=xQ (η (uK (iF a) a.init))
    let⟨n2,bw⟩:=xQ (η (ks.map (λi=>(a.at i).put (uK (iF a) (a.at i).to))))
    rw[bu]at aN;rw[bw]at aO;rw[aN,aO]at u;have bz:=dh u;let⟨r0,r1,r2⟩:=u.cells
    have hy:=(s.block _ bP).trans bO.o;let⟨y0,y1,y2⟩:=sQ hy
    have f0:=frozen_of_row _ _ 0 _ _ hy;have f1:=frozen_of_row _ _ 1 _ _ hy;have f2:=frozen_of_row _ _ 2 _ _ hy;have yl:=(aI.1 hy).1;have HY:=dh hy;clear bu bw aN aO u hy;go_wp2
    have d:=Cu (a:=.int iZ a.sets) (b:=iX X n1 Z) (c:=iX a1 n2 a6) HY rfl;have r:=Ct wr (w.1.size+1) (.int iZ a.sets) (iX X n1 Z) (iX a1 n2 a6);let⟨Y,hY⟩:=xQ (((wr.setCell ⟨w.1.size+1,0,jC⟩ (.int iZ a.sets)).setCell ⟨w.1.size+1,1,jC⟩ (iX X n1 Z)).setCell ⟨w.1.size+1,2,jC⟩ (iX a1 n2 a6))
    rw[hY]at d r⊢;clear hY y0 y1 y2 f0 f1 f2 r0 r1 r2;have W:=bz.keep r (λe=>ω) (λg hg e=>by exact qQ bz.nodes.own HY δ (by rw[hg,e])) (λu' n ys ho g hg e=>by exact qQ ho HY δ (by rw[hg,e]));have ah:=(aC.trans (s.mono aC.size)).trans (r.below (show w.1.size<=wr.1.size by omega) (λy hy e=>ω));let⟨g0,g1,g2⟩:=sQ d
    have bA:AV w (vH a) (.returned (.agg #[.int iZ a.sets,iX X n1 Z,iX a1 n2 a6])) Y:=by
     rw[bS.o];obtain⟨_,_,_,_,e1,e2,cu⟩:=W.rd;cases e1;cases e2;exact⟨_,_,_,_,_,_,rfl,cu,ah,W.sep.mono aC.size⟩
    refine bodyPost_ret (v:=.agg #[.int iZ a.sets,iX X n1 Z,iX a1 n2 a6]) ?_ rfl ?_
    ·simp[results,Tryz.results55,go_sem,g0,g1,g2]
    ·exact bA
set_option maxHeartbeats 8000000
set_option maxRecDepth 100000
open Go.Maps
theorem ZX (f:Nat->Nat)(N:Nat)(l:List Int)(A:Option Addr)(n c nb mb nm:Nat)(g:Lit->Option Value)(w:jF)(B:Nat)(hs:Sl w B 1 A n c (qO l))(hB:B<=w.1.size)(hn:n=η l)(az:n<=1000000)(z:q9 w nb 0 (.map (jB mb)))(J:nb<w.1.size)(K:vI w 3 mb nm g)(L:∀q,q<N->g (.int iZ (q:Int))=jB (.int iZ (f q:Int)))(hf:∀q,q<N->f q<=1000000)(hN:N<=1000000)(hl:∀t∈l,sG N t=jD):
  Calls jJ 90 #[iX A n c,jH (jB ⟨nb,0,jC⟩)] w (FD w (iy f l)):=by
 have m:Below w.1.size w (w.alloc (.map #[] 0)):=bR.alloc lR _;have x0:=heap_alloc_new w (.map #[] 0);have z0:(w.alloc (.map #[] 0)).1.size=w.1.size+1:=ς;obtain⟨y,C⟩:=xQ (w.alloc (.map #[] 0));rw[C]at m x0 z0;obtain⟨X,M,Y,Z,HG,a1,HL,a6,HF⟩:=dh9 C m (hs.below m hB) (Ki.Ho x0) K z hl L hf;have a7:=run_makeMap (P:=jJ) 143;have a8:B<=y.1.size:=ω;have ad:w.1.size<y.1.size:=ω;have af:=K.lt;have ag:=dh z0;have aA:=hs.cap;have ah:=hs.max;unfold maxLen at ah;subst hn;clear C m x0 hs K hl L z hf z0;go_enter Tryz.func90,Tryz.ntmps90;go_upto_region 3 with fail
 rw[X.o];clear a7;go_wp2_with fail
 go_loopw [4,12] (λv i wr=>∃(k:Nat) (out:List Int),k<=η l/\i=.int iZ (k:Int)/\out=iy f (l.take k)/\Hd (wr.ownsRow y.1.size 3 1 v (η out) (qO out))/\Hd (Ki wr w.1.size out)/\Hd (Below w.1.size w wr)) (λ_ i _=>η l-(intOf i).toNat)
 case atStart=>exact⟨0,[],ω,rfl,rfl,dh (jF.ownsRow_nil _ _ _ _),Z,M⟩
 case round=>
  obtain⟨k,out,hk,rfl,a,I,HT,D⟩:=hrel;have aj:=D.size;have aB:η out<=k:=by rw[a];exact Nat.le_trans (EY _ _) (by rw[jq];omega)
  by_cases E:k<η l
  ·have r:=dh (Du f (l.take k) l[k]);rw[<-rE l k E,<-a]at r;obtain⟨tn,s,O⟩:=rO (HL _ (mM E));obtain⟨bb,o,rfl,aC,Q⟩:=(Y.rd.below (B':=y.1.size) (w':=y) bR a8).at_ (j:=k) (yD E);have R:bb<w.1.size:=ω
   have Q:wr.cell? ⟨bb,o+k,jC⟩=jB (.int iZ (tn:Int)):=by
    rw[<-s];have h1:=M.cell (p:=⟨bb,o+k,jC⟩) R;have h2:=D.cell (p:=⟨bb,o+k,jC⟩) R;rw[h2,<-h1];exact Q
   rw[s,tN]at r;have wk:IntKind.i64.wrap ((k:Int)+1)=(k:Int)+1:=by rw[wI];omega
   have aD:(0:Int)<=(k:Int):=ω;have aE:(k:Int)<(η l:Int):=ω;have z:=bC D J a1.o;have d:=Jb (HG.blk (D.block mb af)) (tn:Int) ω jE;rw[a6 tn O]at d;simp only[jS,mW,nI]at d;have aF:=HF tn O;generalize f tn=x at *;have b:=HT.lookup (x:=(x:Int)) ω;obtain⟨Av,cv,rfl, -⟩:=qX I.o;by_cases hm:(x:Int)∈out
   ·rw[decide_eq_true hm]at b;have F:Hd (iy f (l.take (k+1))=out):=dh (by rw[r.o,jd hm]);clear hm s a;go_wp2_with fail
    go_roundw
    case rel=>exact⟨k+1,out,ω,jM (Value.int iZ) ω,F.symm,I,HT,D⟩
    case measure=>simp[intOf];omega
   ·rw[decide_eq_false hm]at b;have F:Hd (iy f (l.take (k+1))=out++[(x:Int)]):=dh (by rw[r.o,d9 hm]);obtain⟨w1,aG,S,u⟩:=HT.update (x:=(x:Int)) ω ω;have T:=dh S;have U:=dh (D.grown u aj (λj hj=>by cases hj;exact lR))
    have G:=dh (qR I ((qW.refl (λq=>q=w.1.size) wr).grown u (λq e _=>(jY e).symm)) (λg K e=>by
     have e:=e;have:=(I.lt g K).1;omega))
    have ak:=U.size;have aH:=u.size;have aJ:y.1.size<=w1.1.size:=by have:=T.lt;have:=ag.o;omega
    have ao:=dh (heap_alloc_new w1 (jG #[.int iZ (x:Int)] 3));clear hm s S u a;go_wp2_with (at_builtin;refine rD rfl (.tmp 25) (.tmp 27) 29 rfl y.1.size 3 1 8 rW _ _ _ (G.alloc _) rfl w1.1.size #[.int iZ (x:Int)] rfl ao.out rfl (by simp[Value.oneCell']) ω ω (by simp;omega) ?_;intro u' wA H aq ax ay;have ar:=dh H;have V:=dh (qW.trans ((qW.refl _ w1).alloc _) aq (λ_ _ h=>h)))
    have au:=dh (U.trans (V.below ak (λq hq e=>by have:=(G.lt q e).1;omega)));have av:=dh (T.keep V (λe=>by have:=(G.lt _ e).1;omega));go_roundw
    case rel=>exact⟨k+1,out++[(x:Int)],ω,jM (Value.int iZ) ω,F.symm,dh (by rw[lA,sJ];exact ar.o),av,au⟩
    case measure=>simp[intOf];omega
  ·have W:k=η l:=ω;have aw:Hd (wr.ownsRow y.1.size 3 1 _ (η (iy f l)) (qO (iy f l))):=dh (by have:=I.o;rw[a,W,tL lR]at this;exact this);have hle:¬(k:Int)<(η l:Int):=ω;clear W I a;go_wp2_with fail
   go_ret
   exact⟨_,rfl,rC aw (nS ad),D.o⟩
set_option maxRecDepth 100000
def Mj (x y:BM):Bool:=decide (x.need=y.need)&&(decide (x.ban=y.ban)&&decide (x.inn=y.inn))
theorem acu (x y:BM)(w):(binOp .eql 141 (.agg #[.int jA (x.need:Int),.int jA (x.ban:Int),.int jA (x.inn:Int)]) (.agg #[.int jA (y.need:Int),.int jA (y.ban:Int),.int jA (y.inn:Int)])).run jJ w=.ok (.bool (Mj x y)) w:=by
 have a:Tryz.prog.underlying 141=jB (.struct (Tryz.prog.fieldsOf 141)):=κ;have b:Tryz.prog.stoodInHeld 141=jE:=κ;rw[run_eql_struct,run_equalIn_agg w 9999 _ _ _ a b];clear a b;unfold Mj;go_simp;by_cases a:x.need=y.need<;>by_cases b:x.ban=y.ban<;>by_cases c:x.inn=y.inn<;>simp[a,b,c,Int.ofNat_inj]
theorem O7 (h:∀b,x.testBit b=jD->y.testBit b=jD)(k:∀b,y.testBit b=jD->x.testBit b=jD):x=y:=by
 refine l6 (λb=>?_);cases a:x.testBit b<;>cases hy:y.testBit b
 ·rfl
 ·rw[k b hy]at a;cases a
 ·rw[h b a]at hy;cases hy
 ·rfl
theorem Zk (h:uE a)(d:vG (iF a) i k=jD)(e:vG (iF a) k i=jD):Mj (a.at k) (a.at i)=jD:=by
 have s1:=aa8.1 d;have s2:=aa8.1 e;obtain⟨hi,f⟩:=(zx a).lt i k s1;obtain⟨g,a2,a3⟩:=zS.1 ((zx a).one i k s1);obtain⟨b1,b2,b3⟩:=zS.1 ((zx a).one k i s2)
 have c:∀q,q<η a.nodes->∀b,(a.at q).inn.testBit b=jD->b<a.sets.toNat:=λq j b hb=>by
  refine Nat.lt_of_not_le (λhl=>?_);rw[Nat.testBit_lt_two_pow (jh (h.inn _ (at_mem j)) (lI ω hl))]at hb;cases hb
 unfold Mj;rw[jm,jm,jN,jN,jN];exact⟨O7 g b1,O7 a2 b2,O7 (λb hb=>b3 b (c k f b hb) hb) (λb hb=>a3 b (c i hi b hb) hb)⟩
theorem aaw {B:Nat}{A:Option Addr}(h:Gx w B 1 A n c (R.map qV))(a:∀r∈R,η r=η R)(hi:i<η R):
  ∃b o A' c',A=jB ⟨b,o,jC⟩/\w.cell? ⟨b,o+i,jC⟩=jB (iX A' (η R) c')/\η R<=c'/\c'<=maxLen/\b<B/\∃b' d,A'=jB ⟨b',d,jC⟩/\b'<B/\∀k,k<η R->w.cell? ⟨b',d+k,jC⟩=jB (.bool (vG R i k)):=by
 obtain⟨b,o,A',n',c',f,hb,g,l⟩:=h.at_ (j:=i) (ys:=qV R[i]) (by simp[hi]);obtain⟨b1,x,A1,c1,e1,e2,m,p,b2,q,s,t⟩:=YM h a hi;rw[f]at e1;cases e1;rw[g]at e2;cases e2;subst s
 obtain⟨b3,y,u,v, -⟩:=l.rd.at_ (j:=0) (by
  have e:(qV R[i])[0]? =jB (.bool (R[i].getD 0 jE)):=uN (by rw[a _ (mM hi)];omega);exact e)
 cases u;exact⟨b,o,_,c',f,g,m,p,hb,b2,q,rfl,v,t⟩
noncomputable def y9 (a:rQ)(i:Nat):List Nat:=(ζ i).filter (λq=>(za (iF a) (η a.nodes)).getD q jE)
theorem Qh (a i):y9 a (i+1)=y9 a i++(if(za (iF a) (η a.nodes)).getD i jE=jD then[i]else[]):=by
 unfold y9;rw[mh,ku];congr 1;rw[kW,lN]
theorem Wy (a i):η (y9 a i)<=i:=by
 unfold y9;have:=jO (λq=>(za (iF a) (η a.nodes)).getD q jE) (ζ i);rwa [kL]at this
theorem afE {q:Nat}(h:q∈y9 a i):q<i:=jl.1 (jL.1 h).1
def Z9 (a:rQ)(i:Nat)(g:Lit->Option Value):Prop:=∀q,q<i->g (.int iZ (q:Int))=jB (.int iZ (zf (iF a) (η a.nodes) q:Int))
theorem Z9.put {g g':Lit->Option Value}(h:Z9 a i g)(hp:NT g g' (.int iZ (i:Int)) (.int iZ (zf (iF a) (η a.nodes) i:Int))):Z9 a (i+1) g':=λq b=>by
 by_cases e:q=i
 ·subst e;exact hp.1
 ·rw[hp.2 _ (λh=>e (by injection h with _ h;omega))];exact h q ω
theorem afl (h:yK (iF a) i=i):zf (iF a) (η a.nodes) i=η (y9 a i):=by
 unfold zf;rw[h];rfl
theorem afk (hA:a.Ok)(hi:i<η a.nodes):zf (iF a) (η a.nodes) (yK (iF a) i)=zf (iF a) (η a.nodes) i:=by
 unfold zf;rw[Sr hA hi]
theorem aiX (a)(hi:i<η a.nodes):zf (iF a) (η a.nodes) i<=η a.nodes:=by
 unfold zf;exact Nat.le_trans (Um _) (nS (kJ (BK _ _) hi))
def NJ (a:rQ)(i k:Nat):Prop:=∀q,q<k->(vG (iF a) i q&&vG (iF a) q i)=jE
theorem NJ.next (h:NJ a i k)(b:(vG (iF a) i k&&vG (iF a) k i)=jE):NJ a i (k+1):=λq c=>by
 by_cases e:q=k
 ·subst e;exact b
 ·exact h q ω
theorem NJ.all (h:NJ a i i):yK (iF a) i=i:=Ic lR h (λe=>absurd e (pJ _))
theorem NJ.hit (h:NJ a i k)(b:k<i)(c:vG (iF a) i k=jD)(d:vG (iF a) k i=jD):yK (iF a) i=k:=Ic (nS b) h (λ_=>by rw[c,d];rfl)
set_option maxHeartbeats 16000000
set_option maxRecDepth 100000
theorem Zb (a Ai ni ci An nn cn w B)(h:sW w B a Ai ni ci An nn cn)(hB:B<=w.1.size)(bd:tO a=0)(cI:∀x∈a.nodes,x.need<2^64/\x.ban<2^64)(bM:∀x∈a.nodes,x.inn<2^64)(KE)(hr:∀x∈a.nodes,η x.to<=KE)(cJ:η a.init<=1000000)(dN:KE<=1000000):
  Calls jJ 56 #[.agg #[.int iZ a.sets,iX Ai ni ci,iX An nn cn]] w (AV w (xA a)):=by
 obtain⟨bh,x0,y0,z0⟩:=uS w (jG #[.int iZ a.sets,iX Ai ni ci,iX An nn cn] 32) (jG #[.int iZ 0,iX jC 0 0,iX jC 0 0] 32);obtain⟨W0,bQ⟩:=xQ ((w.alloc (jG #[.int iZ a.sets,iX Ai ni ci,iX An nn cn] 32)).alloc (jG #[.int iZ 0,iX jC 0 0,iX jC 0 0] 32));rw[bQ]at bh x0 y0 z0;have ah:=dh (h.below bh hB);have dO:=dh (aac a Ai ni ci An nn cn W0 B ah ω ω (λx hx=>by have:=hr x hx;omega));have dP:=dh (vY.1 bd);obtain⟨bS, -,hA, -⟩:=vY.1 bd;have W:=dh h.Ov;have eQ:nn<=256:=by rw[W.o];exact bS
 obtain⟨dQ,dR,bj,dS,dT⟩:=iC bQ bh hA x0 y0;have bm:B<=W0.1.size:=ω;have dU:w.1.size+1<W0.1.size:=ω;have aB:Hd (∀W',Below W0.1.size W0 W'->W'.cell? ⟨w.1.size,0,jC⟩=jB (.int iZ a.sets)/\W'.cell? ⟨w.1.size,1,jC⟩=jB (iX Ai ni ci)/\W'.cell? ⟨w.1.size,2,jC⟩=jB (iX An nn cn)):=dh (λW' hb=>sQ ((hb.block w.1.size ω).trans dS.o));obtain⟨cK,cL,cM,cN⟩:=iB hr cI bM bd;clear bQ bh x0 y0 z0 h cI bM hr hA bd;go_enter Tryz.func56,Tryz.ntmps56;go_upto_region 1 with fail
 rw[dQ.o];obtain⟨q0,q1,q2⟩:=aB W0 bR;go_wp2_with fail
 refine dO.mono ?_;rintro e w1 ⟨rfl,bT⟩;rw[cN.o];have bU:=dh bT;have cO:=bT.size;clear q0 q1 q2 bT;obtain⟨q0,q1,q2⟩:=aB w1 bU.o;have dV:=dh (Qt a Ai ni ci An nn cn w1 B (ah.below bU bm) (Nat.le_trans bm cO) cN cL cM KE cK ω dN);go_wp2_with fail
 refine dV.mono ?_;rintro e D ⟨v,rfl,hG⟩;obtain⟨Ar,cr,rfl,bV⟩:=hG.sl2;have cP:=hG.choose_spec.2.2;have bW:=dh (bU.trans (cP.mono cO));have cQ:=bW.size;have bn:η (iF a)=nn:=by rw[KM,W.o]
 have aG:=dh bn;obtain⟨W4,bX⟩:=xQ ((D.alloc (.map #[] 0)).alloc (jG #[.map (jB D.1.size)] 118));obtain⟨bp,m4,n4,z4⟩:=uS D (.map #[] 0) (jG #[.map (jB D.1.size)] 118);rw[bX]at bp m4 n4 z4;obtain⟨bY,cS⟩:=iw (bW.trans (bp.mono cQ)) n4;have dW:Hd (vI W4 3 D.1.size 0 (λ_=>jC)):=dh (vI.Ho m4);have cT:=dh (by rw[bn]at bV;exact bV.below bp lR);have dX:=dh bX;have bZ:D.1.size+1<W4.1.size:=ω;have eR:=cQ;have dY:=run_makeMap (P:=jJ) 118;rw[bn];clear hG bV cP q0 q1 q2 bn bX bp m4 n4 z4;obtain⟨q0,q1,q2⟩:=aB D bW.o;go_upto_region 5 with fail
 show Code.wp _ _ _ _ ((D.alloc (.map #[] 0)).alloc (jG #[.map (jB D.1.size)] 118));rw[dX.o];clear dY q0 q1 q2;obtain⟨q0,q1,q2⟩:=aB W4 bY.o;go_wp2_with fail
 clear q0 q1 q2;go_loopw [5,24] (λv j wr=>∃(i m:Nat) (g:Lit->Option Value),i<=nn/\m<=i/\j=.int iZ (i:Int)/\Hd (wr.ownsRow W4.1.size 3 1 v (η (y9 a i)) (qO (iE (y9 a i))))/\Hd (vI wr 3 D.1.size m g)/\Hd (Z9 a i g)/\Hd (qW (λx=>x=D.1.size) W4 wr)) (λ_ j _=>nn-(intOf j).toNat)
 case atStart=>exact⟨0,0,_,ω,lR,rfl,dh (jF.ownsRow_nil _ _ _ _),dW,dh (λq hq=>absurd hq (pK _)),dh (qW.refl _ _)⟩
 case round=>
  obtain⟨i,m,g,hi,eS,rfl,aj,a6,aH,a7⟩:=hrel;have cU:=a7.size;have c4:=dh (bY.trans (a7.below bY.size (λx hx e=>by have e:x=D.1.size:=e;omega)));by_cases a8:i<nn
  ·have wi:IntKind.i64.wrap ((i:Int)+1)=(i:Int)+1:=by rw[wI];omega
   have eT:(0:Int)<=(i:Int):=ω;have eU:(i:Int)<(nn:Int):=ω;have c5:Hd (i<η a.nodes):=dh (by rw[<-W.o];exact a8);obtain⟨Kv,dZ,rfl, -⟩:=qX aj.o
   rename jF=>U
   have cV:Hd (∀W',Below U.1.size U W'->W'.cell? ⟨D.1.size+1,0,jC⟩=jB (.map (jB D.1.size))):=dh (λW' hb=>by
    have h:=(hb.block (D.1.size+1) (jh bZ cU)).trans ((a7.block (D.1.size+1) bZ (λe=>by have e:D.1.size+1=D.1.size:=e;omega)).trans cS.o);rw[cell_of_row _ _ _ _ _ (0,0) h];rfl)
   go_wp2_with fail
   go_loopw [7,29] (λv j wr'=>∃(k:Nat),k<=i/\v=.int iZ (i:Int)/\j=.int iZ (k:Int)/\Hd (NJ a i k)/\Hd (Below U.1.size U wr')) (λ_ j _=>i-(intOf j).toNat)
   case atStart=>exact⟨0,mR _,rfl,rfl,dh (λq hq=>absurd hq (pK _)),dh bR⟩
   case round=>
    obtain⟨k,hk,rfl,rfl,aJ,E⟩:=hrel;have eV:=E.size;by_cases cW:k<i
    ·have wk:IntKind.i64.wrap ((k:Int)+1)=(k:Int)+1:=by rw[wI];omega
     have e0:(0:Int)<=(k:Int):=ω;have e3:(k:Int)<(nn:Int):=ω;have eW:(k:Int)<(i:Int):=ω;have aC:k<nn:=ω;obtain⟨bx,u,x,Ax,cx,aK,c9,hx,c0,c1,c2,c3, -⟩:=wh ah aC;obtain⟨eX,oy,y,Ay,cy,cX, -,hy,d0,d1,d2,d3, -⟩:=wh ah a8;rw[aK]at cX;cases cX;have cY:a.at k=x:=by unfold rQ.at;rw[gD,hx];rfl
     have da:a.at i=y:=by unfold rQ.at;rw[gD,hy];rfl
     have e4:=(lU ah.nodes).1.cap;have ca:=(lU ah.nodes).1.max;unfold maxLen at ca;obtain⟨bu,bw⟩:=iw (λW'=>PS x Ax (η x.to) cx W') (λW'=>PS y Ay (η y.to) cy W');have heq:=λW'=>acu x y W'
     have O:bx<W0.1.size:=ω;obtain⟨br,or,aD,di,db,r0,e5,eY,dc,bi,oi,e6,dd,r1⟩:=aaw cT (Pm a) (i:=i) (by rw[aG.o];exact a8);obtain⟨eZ,fa,fc,dk,bN,r2,e7,fe, -,bk,ok,e8,de,r3⟩:=aaw cT (Pm a) (i:=k) (by rw[aG.o];exact aC);rw[db]at bN;cases bN;subst e6 e8;rw[aG.o]at r0 r2 e5 e7;obtain⟨q1,bz⟩:=xQ (vG (iF a) i k);obtain⟨q2,bA⟩:=xQ (vG (iF a) k i);have cb:=r1 k (by rw[aG.o];exact aC);have cd:=r3 i (by rw[aG.o];exact a8);rw[bz]at cb;rw[bA]at cd;have df:Hd (q1=jD->q2=jD->Mj x y=jD):=dh (λh1 h2=>by rw[<-cY,<-da];exact Zk dP (bz.trans h1) (bA.trans h2));obtain⟨bB,cg⟩:=iw bz bA;have bE:Hd (∀W',Below U.1.size U W'->∀(p:Addr),p.block<W4.1.size->p.block≠D.1.size->W'.cell? p=W4.cell? p):=dh (λW' hb p hp e9=>(hb.cell (p:=p) (jh hp cU)).trans (a7.cell (p:=p) hp e9));have dj:br<W4.1.size/\br≠D.1.size/\bi<W4.1.size/\bi≠D.1.size/\bk<W4.1.size/\bk≠D.1.size:=ω
     have X:Hd (∀W',Below W0.1.size W0 W'->Below U.1.size U W'->W'.cell? ⟨w.1.size,2,jC⟩=jB (iX (jB ⟨bx,u,jC⟩) nn cn)/\W'.cell? ⟨bx,u+k*4,jC⟩=jB (.int jA (x.need:Int))/\W'.cell? ⟨bx,u+k*4+1,jC⟩=jB (.int jA (x.ban:Int))/\W'.cell? ⟨bx,u+k*4+2,jC⟩=jB (.int jA (x.inn:Int))/\W'.cell? ⟨bx,u+k*4+3,jC⟩=jB (iX Ax (η x.to) cx)/\W'.cell? ⟨bx,u+i*4,jC⟩=jB (.int jA (y.need:Int))/\W'.cell? ⟨bx,u+i*4+1,jC⟩=jB (.int jA (y.ban:Int))/\W'.cell? ⟨bx,u+i*4+2,jC⟩=jB (.int jA (y.inn:Int))/\W'.cell? ⟨bx,u+i*4+3,jC⟩=jB (iX Ay (η y.to) cy)/\W'.cell? ⟨br,or+i,jC⟩=jB (iX (jB ⟨bi,oi,jC⟩) nn di)/\W'.cell? ⟨bi,oi+k,jC⟩=jB (.bool q1)/\W'.cell? ⟨br,or+k,jC⟩=jB (iX (jB ⟨bk,ok,jC⟩) nn dk)/\W'.cell? ⟨bk,ok+i,jC⟩=jB (.bool q2)):=dh (λW' hb hu=>by
      obtain⟨-, -,e2⟩:=aB W' hb;rw[aK]at e2;obtain⟨b1,b2,b3,b4,b5,b6⟩:=dj
      exact⟨e2,bC hb O c0,bC hb O c1,bC hb O c2,bC hb O c3,
       bC hb O d0,bC hb O d1,bC hb O d2,bC hb O d3,
       (bE W' hu ⟨br,or+i,jC⟩ b1 b2).trans r0,(bE W' hu ⟨bi,oi+k,jC⟩ b3 b4).trans cb,(bE W' hu ⟨br,or+k,jC⟩ b1 b2).trans r2,(bE W' hu ⟨bk,ok+i,jC⟩ b5 b6).trans cd⟩)
     have L:=dh (c4.trans (E.mono c4.size));subst db;obtain⟨t0,t1,t2,t3,t4,t5,t6,t7,t8,t9,t10,t11,t12⟩:=X wr L E.o;obtain⟨pe,dm⟩:=xQ (Mj x y);rw[dm]at df heq;clear dc dd de cY da hx hy c0 c1 c2 c3 d0 d1 d2 d3 bz bA r0 r1 r2 r3 cb cd dj dm aK;go_upto_region 12 with fail
     cases pe
     ·have aL:Hd ((vG (iF a) i k&&vG (iF a) k i)=jE):=dh (by
       rw[bB.o,cg.o];cases q1
       ·rfl
       ·cases q2
        ·rfl
        ·exact absurd (df rfl rfl) δ)
      refine wp_region_held_drew (S:=λw'=>q9 w' w.1.size 2 (iX (jB ⟨bx,u,jC⟩) nn cn)/\q9 w' bx (u+k*4) (.int jA (x.need:Int))/\q9 w' bx (u+k*4+1) (.int jA (x.ban:Int))/\q9 w' bx (u+k*4+2) (.int jA (x.inn:Int))/\q9 w' bx (u+k*4+3) (iX Ax (η x.to) cx)/\q9 w' bx (u+i*4) (.int jA (y.need:Int))/\q9 w' bx (u+i*4+1) (.int jA (y.ban:Int))/\q9 w' bx (u+i*4+2) (.int jA (y.inn:Int))/\q9 w' bx (u+i*4+3) (iX Ay (η y.to) cy)/\q9 w' br (or+i) (iX (jB ⟨bi,oi,jC⟩) nn di)/\q9 w' bi (oi+k) (.bool q1)/\q9 w' br (or+k) (iX (jB ⟨bk,ok,jC⟩) nn dk)/\q9 w' bk (ok+i) (.bool q2)) κ ⟨t0,t1,t2,t3,t4,t5,t6,t7,t8,t9,t10,t11,t12⟩ (λhS=>?_);refine qU 0 ?_;refine qU 1 ?_;refine qU 2 ?_;refine qU 3 ?_;refine qU 4 ?_;refine qU 6 ?_;refine qU 7 ?_;refine qU 8 ?_;refine qU 9 ?_;refine qU 10 ?_;refine rR 5 (λK d=>?_);go_simp;refine(bu _).mono ?_;rintro e wa ⟨rfl,r⟩;obtain⟨F,G⟩:=iw (E.trans ((rF r).mono E.size)) (L.trans ((rF r).mono L.size));clear r;dsimp only;refine d _ _ (X _ G F.o) (λhS=>?_);clear d;refine rR 11 (λK d=>?_);go_simp;refine(bw _).mono ?_;rintro e wb ⟨rfl,s⟩;obtain⟨H,ak⟩:=iw (F.trans (s.mono F.size)) (G.trans (s.mono G.size));clear s;dsimp only;refine d _ _ (X _ ak H.o) (λhS=>?_);clear d;refine qU 12 ?_;refine qU 13 ?_;refine Gh 14 ?_;refine Gh 15 ?_;refine Gh 16 ?_;refine Gh 17 ?_;refine Gh 18 ?_;refine Gh 19 ?_;refine Gh 20 ?_;refine qU 21 ?_;refine qU 22 ?_;refine Gh 23 ?_;refine Gh 24 ?_;refine Gh 25 ?_;refine Gh 26 ?_;refine Gh 27 ?_;refine Gh 28 ?_;refine Gh 29 ?_;refine qU 30 ?_;refine wpAnyH_done κ ?_ _;clear hS;go_wp2_with fail
      go_roundw
      case rel=>exact⟨k+1,ω,rfl,jM (Value.int iZ) ω,dh (aJ.next aL.o),H⟩
      case measure=>simp[intOf];omega
     ·cases q1
      ·have aL:Hd ((vG (iF a) i k&&vG (iF a) k i)=jE):=dh (by rw[bB.o];rfl);refine wp_region_held_drew (S:=λw'=>q9 w' w.1.size 2 (iX (jB ⟨bx,u,jC⟩) nn cn)/\q9 w' bx (u+k*4) (.int jA (x.need:Int))/\q9 w' bx (u+k*4+1) (.int jA (x.ban:Int))/\q9 w' bx (u+k*4+2) (.int jA (x.inn:Int))/\q9 w' bx (u+k*4+3) (iX Ax (η x.to) cx)/\q9 w' bx (u+i*4) (.int jA (y.need:Int))/\q9 w' bx (u+i*4+1) (.int jA (y.ban:Int))/\q9 w' bx (u+i*4+2) (.int jA (y.inn:Int))/\q9 w' bx (u+i*4+3) (iX Ay (η y.to) cy)/\q9 w' br (or+i) (iX (jB ⟨bi,oi,jC⟩) nn di)/\q9 w' bi (oi+k) (.bool jE)/\q9 w' br (or+k) (iX (jB ⟨bk,ok,jC⟩) nn dk)/\q9 w' bk (ok+i) (.bool q2)) κ ⟨t0,t1,t2,t3,t4,t5,t6,t7,t8,t9,t10,t11,t12⟩ (λhS=>?_);refine qU 0 ?_;refine qU 1 ?_;refine qU 2 ?_;refine qU 3 ?_;refine qU 4 ?_;refine qU 6 ?_;refine qU 7 ?_;refine qU 8 ?_;refine qU 9 ?_;refine qU 10 ?_;refine rR 5 (λK d=>?_);go_simp;refine(bu _).mono ?_;rintro e wa ⟨rfl,r⟩;obtain⟨F,G⟩:=iw (E.trans ((rF r).mono E.size)) (L.trans ((rF r).mono L.size));clear r;dsimp only;refine d _ _ (X _ G F.o) (λhS=>?_);clear d;refine rR 11 (λK d=>?_);go_simp;refine(bw _).mono ?_;rintro e wb ⟨rfl,s⟩;obtain⟨H,ak⟩:=iw (F.trans (s.mono F.size)) (G.trans (s.mono G.size));clear s;dsimp only;refine d _ _ (X _ ak H.o) (λhS=>?_);clear d;refine qU 12 ?_;refine qU 13 ?_;refine qU 14 ?_;refine qU 15 ?_;refine qU 16 ?_;refine qU 17 ?_;refine qU 18 ?_;refine qU 19 ?_;refine qU 20 ?_;refine qU 21 ?_;refine qU 22 ?_;refine Gh 23 ?_;refine Gh 24 ?_;refine Gh 25 ?_;refine Gh 26 ?_;refine Gh 27 ?_;refine Gh 28 ?_;refine Gh 29 ?_;refine qU 30 ?_;refine wpAnyH_done κ ?_ _;clear hS;go_wp2_with fail
       go_roundw
       case rel=>exact⟨k+1,ω,rfl,jM (Value.int iZ) ω,dh (aJ.next aL.o),H⟩
       case measure=>simp[intOf];omega
      ·cases q2
       ·have aL:Hd ((vG (iF a) i k&&vG (iF a) k i)=jE):=dh (by rw[bB.o,cg.o];rfl);refine wp_region_held_drew (S:=λw'=>q9 w' w.1.size 2 (iX (jB ⟨bx,u,jC⟩) nn cn)/\q9 w' bx (u+k*4) (.int jA (x.need:Int))/\q9 w' bx (u+k*4+1) (.int jA (x.ban:Int))/\q9 w' bx (u+k*4+2) (.int jA (x.inn:Int))/\q9 w' bx (u+k*4+3) (iX Ax (η x.to) cx)/\q9 w' bx (u+i*4) (.int jA (y.need:Int))/\q9 w' bx (u+i*4+1) (.int jA (y.ban:Int))/\q9 w' bx (u+i*4+2) (.int jA (y.inn:Int))/\q9 w' bx (u+i*4+3) (iX Ay (η y.to) cy)/\q9 w' br (or+i) (iX (jB ⟨bi,oi,jC⟩) nn di)/\q9 w' bi (oi+k) (.bool jD)/\q9 w' br (or+k) (iX (jB ⟨bk,ok,jC⟩) nn dk)/\q9 w' bk (ok+i) (.bool jE)) κ ⟨t0,t1,t2,t3,t4,t5,t6,t7,t8,t9,t10,t11,t12⟩ (λhS=>?_);refine qU 0 ?_;refine qU 1 ?_;refine qU 2 ?_;refine qU 3 ?_;refine qU 4 ?_;refine qU 6 ?_;refine qU 7 ?_;refine qU 8 ?_;refine qU 9 ?_;refine qU 10 ?_;refine rR 5 (λK d=>?_);go_simp;refine(bu _).mono ?_;rintro e wa ⟨rfl,r⟩;obtain⟨F,G⟩:=iw (E.trans ((rF r).mono E.size)) (L.trans ((rF r).mono L.size));clear r;dsimp only;refine d _ _ (X _ G F.o) (λhS=>?_);clear d;refine rR 11 (λK d=>?_);go_simp;refine(bw _).mono ?_;rintro e wb ⟨rfl,s⟩;obtain⟨H,ak⟩:=iw (F.trans (s.mono F.size)) (G.trans (s.mono G.size));clear s;dsimp only;refine d _ _ (X _ ak H.o) (λhS=>?_);clear d;refine qU 12 ?_;refine qU 13 ?_;refine qU 14 ?_;refine qU 15 ?_;refine qU 16 ?_;refine qU 17 ?_;refine qU 18 ?_;refine qU 19 ?_;refine qU 20 ?_;refine qU 21 ?_;refine qU 22 ?_;refine qU 23 ?_;refine qU 24 ?_;refine qU 25 ?_;refine qU 26 ?_;refine qU 27 ?_;refine qU 28 ?_;refine qU 29 ?_;refine qU 30 ?_;refine wpAnyH_done κ ?_ _;clear hS;go_wp2_with fail
        go_roundw
        case rel=>exact⟨k+1,ω,rfl,jM (Value.int iZ) ω,dh (aJ.next aL.o),H⟩
        case measure=>simp[intOf];omega
       ·have aM:=dh (aJ.hit cW bB cg.o)
        have ea:=dh (by
         have:=afk bj c5.o;rwa [aM.o]at this)
        refine wp_region_held_drew (S:=λw'=>q9 w' w.1.size 2 (iX (jB ⟨bx,u,jC⟩) nn cn)/\q9 w' bx (u+k*4) (.int jA (x.need:Int))/\q9 w' bx (u+k*4+1) (.int jA (x.ban:Int))/\q9 w' bx (u+k*4+2) (.int jA (x.inn:Int))/\q9 w' bx (u+k*4+3) (iX Ax (η x.to) cx)/\q9 w' bx (u+i*4) (.int jA (y.need:Int))/\q9 w' bx (u+i*4+1) (.int jA (y.ban:Int))/\q9 w' bx (u+i*4+2) (.int jA (y.inn:Int))/\q9 w' bx (u+i*4+3) (iX Ay (η y.to) cy)/\q9 w' br (or+i) (iX (jB ⟨bi,oi,jC⟩) nn di)/\q9 w' bi (oi+k) (.bool jD)/\q9 w' br (or+k) (iX (jB ⟨bk,ok,jC⟩) nn dk)/\q9 w' bk (ok+i) (.bool jD)) κ ⟨t0,t1,t2,t3,t4,t5,t6,t7,t8,t9,t10,t11,t12⟩ (λhS=>?_);refine qU 0 ?_;refine qU 1 ?_;refine qU 2 ?_;refine qU 3 ?_;refine qU 4 ?_;refine qU 6 ?_;refine qU 7 ?_;refine qU 8 ?_;refine qU 9 ?_;refine qU 10 ?_;refine rR 5 (λK d=>?_);go_simp;refine(bu _).mono ?_;rintro e wa ⟨rfl,r⟩;obtain⟨F,G⟩:=iw (E.trans ((rF r).mono E.size)) (L.trans ((rF r).mono L.size));clear r;dsimp only;refine d _ _ (X _ G F.o) (λhS=>?_);clear d;refine rR 11 (λK d=>?_);go_simp;refine(bw _).mono ?_;rintro e wb ⟨rfl,s⟩;obtain⟨H,ak⟩:=iw (F.trans (s.mono F.size)) (G.trans (s.mono G.size));clear s;dsimp only;refine d _ _ (X _ ak H.o) (λhS=>?_);clear d;refine qU 12 ?_;refine qU 13 ?_;refine qU 14 ?_;refine qU 15 ?_;refine qU 16 ?_;refine qU 17 ?_;refine qU 18 ?_;refine qU 19 ?_;refine qU 20 ?_;refine qU 21 ?_;refine qU 22 ?_;refine qU 23 ?_;refine qU 24 ?_;refine qU 25 ?_;refine qU 26 ?_;refine qU 27 ?_;refine qU 28 ?_;refine qU 29 ?_;refine qU 30 ?_;refine wpAnyH_done κ ?_ _;clear hS;have c9:=cV wb H.o;have aN:=Jb (a6.blk (H.block _ a6.lt)) (k:Int) ω jE;rw[aH k cW,ea.o]at aN;simp only[jS,mW,nI]at aN;obtain⟨wu,eb,aO,ao⟩:=Hy (a6.blk (H.block _ a6.lt)) (i:Int) ω ω (.int iZ ((zf (iF a) (η a.nodes) i:Nat):Int));obtain⟨g',hp⟩:=D9 g (.int iZ (i:Int)) (.int iZ ((zf (iF a) (η a.nodes) i:Nat):Int));obtain⟨aP,aQ,ay⟩:=iA (aH.put hp) (aO g' hp) ((a7.then_ (xG H.o)).grown ao (λq e _=>(jY e).symm))
        have ch:Hd (y9 a (i+1)=y9 a i):=dh (by rw[Qh,d9 (λe=>by have:=(Ot c5.o).1 e;rw[aM.o]at this;omega),kZ])
        have ad:=dh (qR (own_below aj H.o) ((qW.refl (λq=>q=D.1.size) wb).grown ao (λq e _=>(jY e).symm)) (λy hy e=>by
         have e:=e;have:=(aj.lt y hy).1;omega))
        have e1:((k:Int)==(i:Int))=jE:=by simp;omega
        generalize zf (iF a) (η a.nodes) i=nv at *;clear aO ao hp t0 t1 t2 t3 t4 t5 t6 t7 t8 t9 t10 t11 t12 heq;go_wp2_with fail
        go_roundw
        case rel=>exact⟨i+1,m+1,g',ω,ω,jM (Value.int iZ) ω,dh (by rw[ch.o];exact ad.o),aQ,aP,ay⟩
        case measure=>simp[intOf];omega
    ·have dp:k=i:=ω;have aM:=dh (by have:=aJ.o;rw[dp]at this;exact this.all);have ch:Hd (y9 a (i+1)=y9 a i++[i]):=dh (by rw[Qh,jd ((Ot c5.o).2 aM.o)]);have ff:=Wy a i;obtain⟨ln,hlen⟩:=xQ (η (y9 a i));have ec:Hd (zf (iF a) (η a.nodes) i=ln):=dh (by rw[<-hlen];exact afl aM.o);have c9:=cV wr E.o;obtain⟨wu,eb,aO,ao⟩:=Hy (a6.blk (E.block _ a6.lt)) (i:Int) ω ω (.int iZ (ln:Int));obtain⟨g',hp⟩:=D9 g (.int iZ (i:Int)) (.int iZ (ln:Int));have aP:=dh (aH.put (by rw[ec.o];exact hp));obtain⟨aQ,ay⟩:=iw (aO g' hp) ((a7.then_ (xG E.o)).grown ao (λq e _=>(jY e).symm))
     have ad:=dh (by
      have h:=qR (own_below aj E.o) ((qW.refl (λq=>q=D.1.size) wr).grown ao (λq e _=>(jY e).symm)) (λy hy e=>by
       have e:=e;have:=(aj.lt y hy).1;omega)
      rwa [hlen]at h)
     have fg:=ay.size;have ef:=dh (heap_alloc_new wu (jG #[.int iZ (i:Int)] 3));have hle:¬(k:Int)<(i:Int):=ω;have eg:=dh hlen;have eK:ln<=i:=ω;rw[hlen];clear aO ao hp dp hlen;go_wp2_with (at_builtin;refine rD rfl (.tmp 72) (.tmp 74) 29 rfl W4.1.size 3 1 8 rW _ _ _ (ad.alloc _) rfl wu.1.size #[.int iZ (i:Int)] rfl ef.out rfl (by simp[Value.oneCell']) ω ω (by simp;omega) ?_;intro u' wA cj eh eL eM;have bF:=dh cj;have dr:=dh (qW.trans ((qW.refl _ wu).alloc _) eh (λ_ _ h=>h)))
     have dt:=dh (aQ.keep dr (λe=>by have:=(ad.lt _ e).1;omega));have du:=dh (ay.trans dr (λq hq e=>by have:=(ad.lt q e).1;omega));go_roundw
     case rel=>exact⟨i+1,m+1,g',ω,ω,jM (Value.int iZ) ω,dh (by rw[ch.o,lA,Hu,sJ,eg.o];exact bF.o),dt,aP,du⟩
     case measure=>simp[intOf];omega
  ·have ck:i=nn:=ω;have hle:¬(i:Int)<(nn:Int):=ω;have cm:Hd (wr.ownsRow W4.1.size 3 1 _ (η (y9 a nn)) (qO (iE (y9 a nn)))):=dh (by have:=aj.o;rwa [ck]at this);have ei:=dh (by have:=aH.o;rwa [ck]at this);obtain⟨ks,bG⟩:=xQ (y9 a nn);have fh:η ks<=nn:=by rw[<-bG];exact Wy a nn
   have dv:=dh bG;rw[bG]at cm;obtain⟨Kv,dZ,rfl, -⟩:=qX cm.o;clear ck aj aH bG
   rename jF=>V
   have fi:=a7.size;have aR:=c4;have dx:=aR.size;have I:Hd (∀W',Below V.1.size V W'->W'.cell? ⟨w.1.size,0,jC⟩=jB (.int iZ a.sets)/\W'.cell? ⟨w.1.size,1,jC⟩=jB (iX Ai ni ci)/\W'.cell? ⟨w.1.size,2,jC⟩=jB (iX An nn cn)):=dh (λW' hb=>aB W' (aR.trans (hb.mono dx)));have aS:=dh (ah.below aR bm);have aq:=Nat.le_trans bm dx;have ej:=dh ((aR.block (w.1.size+1) dU).trans dT.o);have ek:w.1.size+1<V.1.size:=ω;have L:=dh (dR.trans (aR.mono (show w.1.size<=W0.1.size by omega)));obtain⟨f,hf⟩:=xQ (zf (iF a) (η a.nodes));have cp:=dh hf
   have bO:V.cell? ⟨D.1.size+1,0,jC⟩=jB (.map (jB D.1.size)):=by
    have h:=(a7.block (D.1.size+1) bZ (λe=>by have e:D.1.size+1=D.1.size:=e;omega)).trans cS.o;rw[cell_of_row _ _ _ _ _ (0,0) h];rfl
   have eo:=dh bO
   have cq:Hd (∀(W':jF) (l:List Int) (A:Option Addr) (n c:Nat),Below V.1.size V W'->Sl W' W'.1.size 1 A n c (qO l)->(∀t∈l,sG nn t=jD)->η l<=1000000->n=η l->Calls jJ 90 #[iX A n c,jH (jB ⟨D.1.size+1,0,jC⟩)] W' (FD W' (iy f l))):=dh (λW' l A n c hb hs hl fj hn=>
    ZX f nn l A n c (D.1.size+1) D.1.size m g W' W'.1.size hs lR hn ω (bC hb ω eo.o) (by have:=hb.size;omega) (a6.blk (hb.block _ a6.lt)) (λq hq=>by rw[<-cp.o];exact ei q hq) (λq hq=>by rw[<-cp.o];have:=aiX a (i:=q) (by rw[<-W.o];exact hq);have:=W.o;omega) ω hl)
   have ep:Hd (xA a=⟨a.sets,iy f a.init,ks.map (λi=>(a.at i).put (iy f (a.at i).to))⟩):=dh (by
    unfold xA;rw[Sk,Cj,cp.o,<-dv.o,y9,W.o])
   clear hf bO;go_upto_region 21 with fail
   obtain⟨x0,x1, -⟩:=I V bR;go_cut [10]from 11 (λp wF=>∃ob vi,p=jH (jB ⟨ob,0,jC⟩)/\V.1.size<=ob/\Hd (yN V.1.size ob a.sets vi (iy f a.init) (iX jC 0 0) [] [] wF)/\Hd (Below V.1.size V wF))
   case first=>
    refine wp_region_held_drew (S:=λw'=>q9 w' w.1.size 0 (.int iZ a.sets)/\q9 w' w.1.size 1 (iX Ai ni ci)) κ ⟨x0,x1⟩ (λhS=>?_);refine qU 0 ?_;refine qU 1 ?_;refine qU 2 ?_;refine qU 3 ?_;refine qU 4 ?_;refine wpAnyH_ready (rs:=[5,7]) κ ς ?_;refine(rJ (i:=5) rfl (λK d=>?_) (rJ (i:=7) rfl (λK d=>?_) AllReadyH.nil))
    ·skip
     go_simp;refine(cq _ a.init Ai ni ci (Below.drew bR) ((aS.below (Below.drew bR) aq).init.up (show B<=_ by first|exact aq|exact Nat.le_trans aq M.size)) (λt ht=>by rw[W.o];exact bj.1 t ht) cJ aS.eni).mono ?_;rintro e z ⟨v8,rfl,R,Q⟩;have J:Below V.1.size V z:=rF Q;obtain⟨A8,c8,rfl, -⟩:=qX R;dsimp only;refine d _ _ ⟨(I _ J).1,(I _ J).2.1⟩ (λhS=>?_);clear d;refine qU 6 ?_;refine rR 7 (λK d=>?_);obtain⟨wA,af⟩:=xQ (z.alloc (jG #[.int iZ 0,iX jC 0 0,iX jC 0 0] 32));have M:Below V.1.size V wA:=by rw[<-af];exact J.alloc J.size _
     have dy:wA.1.size=z.1.size+1:=by rw[<-af];simp
     have Z:wA.1[z.1.size]? =jB (jG #[.int iZ 0,iX jC 0 0,iX jC 0 0] 32):=by rw[<-af];exact heap_alloc_new z _
     have dz:=own_below R (by rw[<-af];exact bR.alloc lR _:Below z.1.size z wA);go_simp;refine d _ _ ⟨(I _ M).1,(I _ M).2.1⟩ (λhS=>?_);clear d;refine rR 8 (λK d=>?_);obtain⟨y0,y1,y2⟩:=sQ Z;have f0:=frozen_of_row wA _ 0 _ _ Z;have f1:=frozen_of_row wA _ 1 _ _ Z;have f2:=frozen_of_row wA _ 2 _ _ Z;have yl:=(aI.1 Z).1;have cu:V.1.size<=z.1.size:=by first|exact lR|exact J.size
     have C:=Cu (a:=.int iZ a.sets) (b:=iX A8 (η (iy f a.init)) c8) (c:=iX jC 0 0) Z rfl;have N:=Ct wA (z.1.size) (.int iZ a.sets) (iX A8 (η (iy f a.init)) c8) (iX jC 0 0);have ar:=qR dz N (λg hg e=>qQ dz Z δ (by rw[hg,e]));obtain⟨wF,aT⟩:=xQ (((wA.setCell ⟨z.1.size,0,jC⟩ (.int iZ a.sets)).setCell ⟨z.1.size,1,jC⟩ (iX A8 (η (iy f a.init)) c8)).setCell ⟨z.1.size,2,jC⟩ (iX jC 0 0));rw[aT]at C N ar;have au:=M.trans (N.below M.size (λx hx e=>by have e:x=z.1.size:=e;omega));have T:Hd (yN V.1.size (z.1.size) a.sets (iX A8 (η (iy f a.init)) c8) (iy f a.init) (iX jC 0 0) [] [] wF):=dh ⟨C,rC ar (by first|exact lR|omega),yg.nil _ _⟩;obtain⟨av,cw⟩:=iw au cu;clear C N ar;go_simp;try rw[aT]
     refine d _ _ ⟨(I _ au).1,(I _ au).2.1⟩ (λhS=>?_);clear d;refine wpAnyH_done κ ?_ _;go_wp2_with fail
     go_meet
     case rel=>exact⟨_,_,rfl,cw.o,T,av⟩
    ·skip
     obtain⟨wA,af⟩:=xQ (V.drew.alloc (jG #[.int iZ 0,iX jC 0 0,iX jC 0 0] 32));have M:Below V.1.size V wA:=by rw[<-af];exact(Below.drew bR).alloc lR _
     have dy:wA.1.size=V.1.size+1:=by rw[<-af];simp
     have Z:wA.1[V.1.size]? =jB (jG #[.int iZ 0,iX jC 0 0,iX jC 0 0] 32):=by rw[<-af];exact heap_alloc_new V.drew _
     go_simp;refine d _ _ ⟨(I _ M).1,(I _ M).2.1⟩ (λhS=>?_);clear d;refine rR 5 (λK d=>?_);go_simp;refine(cq _ a.init Ai ni ci M ((aS.below M aq).init.up (show B<=_ by first|exact aq|exact Nat.le_trans aq M.size)) (λt ht=>by rw[W.o];exact bj.1 t ht) cJ aS.eni).mono ?_;rintro e z ⟨v8,rfl,R,Q⟩;have J:=M.trans (Q.mono M.size);obtain⟨A8,c8,rfl, -⟩:=qX R;have aw:=(Q.block V.1.size (by rw[dy];omega)).trans Z;dsimp only;refine d _ _ ⟨(I _ J).1,(I _ J).2.1⟩ (λhS=>?_);clear d;refine qU 6 ?_;refine rR 8 (λK d=>?_);obtain⟨y0,y1,y2⟩:=sQ aw;have f0:=frozen_of_row z _ 0 _ _ aw;have f1:=frozen_of_row z _ 1 _ _ aw;have f2:=frozen_of_row z _ 2 _ _ aw;have yl:=(aI.1 aw).1;have cu:V.1.size<=V.1.size:=by first|exact lR|exact J.size
     have C:=Cu (a:=.int iZ a.sets) (b:=iX A8 (η (iy f a.init)) c8) (c:=iX jC 0 0) aw rfl;have N:=Ct z (V.1.size) (.int iZ a.sets) (iX A8 (η (iy f a.init)) c8) (iX jC 0 0);have ar:=qR R N (λg hg e=>qQ R aw δ (by rw[hg,e]));obtain⟨wF,aT⟩:=xQ (((z.setCell ⟨V.1.size,0,jC⟩ (.int iZ a.sets)).setCell ⟨V.1.size,1,jC⟩ (iX A8 (η (iy f a.init)) c8)).setCell ⟨V.1.size,2,jC⟩ (iX jC 0 0));rw[aT]at C N ar;have au:=J.trans (N.below J.size (λx hx e=>by have e:x=V.1.size:=e;omega));have T:Hd (yN V.1.size (V.1.size) a.sets (iX A8 (η (iy f a.init)) c8) (iy f a.init) (iX jC 0 0) [] [] wF):=dh ⟨C,rC ar (by first|exact lR|omega),yg.nil _ _⟩;obtain⟨av,cw⟩:=iw au cu;clear C N ar;go_simp;try rw[aT]
     refine d _ _ ⟨(I _ au).1,(I _ au).2.1⟩ (λhS=>?_);clear d;refine wpAnyH_done κ ?_ _;go_wp2_with fail
     go_meet
     case rel=>exact⟨_,_,rfl,cw.o,T,av⟩
   case rest=>
    obtain⟨ob,vi,rfl,er,T,av⟩:=hcut;obtain⟨q0,q1,q2⟩:=I wc av.o;clear x0 x1;go_wp2_with fail
    clear q0 q1 q2;go_loopw [12,13,92] (λ_ _ i wr'=>∃(k:Nat) (vn:Value) (xs:List Value),k<=η ks/\i=.int iZ (k:Int)/\Hd (yN V.1.size ob a.sets vi (iy f a.init) vn ((ks.take k).map (λi=>(a.at i).put (iy f (a.at i).to))) xs wr')/\Hd (Below V.1.size V wr')) (λ_ _ i _=>η ks-(intOf i).toNat)
    case atStart=>exact⟨0,_,_,ω,rfl,dh (by rw[pX];exact T.o),av⟩
    case round=>
     obtain⟨k,vn,xs,hk,rfl,aE,a1⟩:=hrel;clear T av;by_cases a8:k<η ks
     ·have wk:IntKind.i64.wrap ((k:Int)+1)=(k:Int)+1:=by rw[wI];omega
      have e0:(0:Int)<=(k:Int):=ω;have e3:(k:Int)<(η ks:Int):=ω;obtain⟨A',c',et,bH⟩:=qX (own_below cm a1.o);cases et;obtain⟨bq,oq,rfl, -,bP⟩:=bH.rd.at_ (j:=k) (yD (by simpa[iE]using a8));have eN:=bH.cap;have dA:=bH.max;unfold maxLen at dA;obtain⟨q,hq⟩:=xQ (ks[k]);have eu:Hd (q<nn):=dh (by rw[<-hq];exact afE (by rw[dv.o];exact mM a8));have ev:=eu.o
      have fk:wr.cell? ⟨bq,oq+k,jC⟩=jB (.int iZ (q:Int)):=by
       rw[bP];simp only[iE,lJ,hq]
      have fl:(0:Int)<=(q:Int):=ω;have fm:(q:Int)<(nn:Int):=ω;obtain⟨q0,q1,q2⟩:=I wr a1.o;have bI:=aS.below a1 aq;have e4:=(lU bI.nodes).1.cap;have ca:=(lU bI.nodes).1.max;unfold maxLen at ca;obtain⟨bx,u,nd,At,ct,aK,c9,aU,d0,d1,d2,d3,dB⟩:=wh bI ev;have ew:Hd (a.at q=nd):=dh (by unfold rQ.at;rw[gD,aU];rfl);have dC:=dh (jy aU);have ey:Hd (ks.take (k+1)=ks.take k++[q]):=dh (by rw[rE ks k a8,hq]);have ez:=dh dB;subst aK;clear bI aU dB hq bH bP;obtain⟨Av,cv,rfl, -⟩:=qX aE.nodes.own;obtain⟨ns,bJ⟩:=xQ ((ks.take k).map (λi=>(a.at i).put (iy f (a.at i).to)));have cC:η ns=k:=by rw[<-bJ,jr,jq];omega
      rw[bJ,cC]at aE;obtain⟨eA,dD⟩:=iw bJ cC;obtain⟨XA,aV⟩:=xQ (wr.alloc (jG #[.int jA (nd.need:Int),.int jA (nd.ban:Int),.int jA (nd.inn:Int),iX At (η nd.to) ct] 53));have az:Below wr.1.size wr XA:=by rw[<-aV];exact bR.alloc lR _
      have eO:XA.1.size=wr.1.size+1:=by rw[<-aV];simp
      have dE:XA.1[wr.1.size]? =jB (jG #[.int jA (nd.need:Int),.int jA (nd.ban:Int),.int jA (nd.inn:Int),iX At (η nd.to) ct] 53 (0,0)):=by rw[<-aV];exact heap_alloc_new wr _
      obtain⟨cD,eB,aF,bF⟩:=iB dE aV (a1.trans (az.mono a1.size)) (aE.below az);have dF:=dh ((ez.below az (show B<=wr.1.size by have:=a1.size;omega)).up (show B<=XA.1.size by have:=a1.size;omega));have eC:=dh (λg (hg:(Value.slice Av k cv).ownBlock=jB g)=>(aE.nodes.own.lt g hg).2);have eP:=aF.size;clear aV az dE bJ cC;go_upto_region 26 with fail
      rw[eB.o];obtain⟨s0,s1,s2,s3⟩:=DK cD.o;obtain⟨r0,r1,r2⟩:=bF.cells;clear r0 r1 q0 q1 q2 d0 d1 d2 d3;refine vP (S:=λw'=>q9 w' ob 2 (iX Av k cv)/\q9 w' wr.1.size 0 (.int jA (nd.need:Int))/\q9 w' wr.1.size 1 (.int jA (nd.ban:Int))/\q9 w' wr.1.size 2 (.int jA (nd.inn:Int))/\q9 w' wr.1.size 3 (iX At (η nd.to) ct)) 16 κ (⟨r2,s0,s1,s2,s3⟩) (λhS=>?_);refine tF 0 [] ?_;refine tF 1 [] ?_;refine tF 2 [] ?_;refine tF 3 [] ?_;refine tF 4 [] ?_;refine tF 5 [] ?_;refine tF 6 [] ?_;refine tF 7 [] ?_;refine tF 8 [] ?_;refine tF 9 [] ?_;refine tF 10 [] ?_;refine rZ (i:=11) rfl κ (λK d=>?_);go_simp;refine(cq _ nd.to At _ ct (Below.drew aF.o) (dF.below (B':=XA.1.size) (Below.drew bR) lR) (λt ht=>by rw[W.o];exact bj.2 nd dC t ht) (by have:=cK nd dC.o;omega) rfl).mono ?_;rintro e z ⟨v8,rfl,R,Q⟩;have J:Below XA.1.size XA z:=rF Q;obtain⟨A8,c8,rfl, -⟩:=qX R;obtain⟨eD,aW,aA⟩:=iA R J (bF.below J);have S8:Hd (∀W',Below z.1.size z W'->W'.cell? ⟨wr.1.size,0,jC⟩=jB (.int jA (nd.need:Int))/\W'.cell? ⟨wr.1.size,1,jC⟩=jB (.int jA (nd.ban:Int))/\W'.cell? ⟨wr.1.size,2,jC⟩=jB (.int jA (nd.inn:Int))/\W'.cell? ⟨wr.1.size,3,jC⟩=jB (iX At (η nd.to) ct)):=dh (λW' hb=>DK ((hb.block wr.1.size (by have:=aW.size;omega)).trans ((aW.block wr.1.size ω).trans cD.o)));clear R Q J;dsimp only;refine d _ _ ⟨aA.cells.2.2,S8 _ bR⟩ (λhS=>?_);clear d;refine tF 12 [] ?_;refine rZ (i:=13) rfl κ (λK d=>?_);go_simp;have tb:=heap_alloc_new z (jG #[.int jA (nd.need:Int),.int jA (nd.ban:Int),.int jA (nd.inn:Int),iX A8 (η (iy f nd.to)) c8] 53);obtain⟨wY,aX⟩:=xQ (z.alloc (jG #[.int jA (nd.need:Int),.int jA (nd.ban:Int),.int jA (nd.inn:Int),iX A8 (η (iy f nd.to)) c8] 53));have bK:Below z.1.size z wY:=by rw[<-aX];exact bR.alloc lR _
      have aY:=aA.below bK;have fo:=aW.size;rw[aX]at tb⊢;have eE:=dh aX;have fp:wY.1.size=z.1.size+1:=by rw[<-aX];simp
      clear aX;refine d _ _ ⟨aY.cells.2.2,S8 _ bK⟩ (λhS=>?_);clear d;refine rZ (i:=14) rfl κ (λK d=>?_);refine su rfl (.tmp 102) (.tmp 114) 30 rfl V.1.size 53 4 48 Dh _ _ _ aY.nodes.own rfl z.1.size #[.int jA (nd.need:Int),.int jA (nd.ban:Int),.int jA (nd.inn:Int),iX A8 (η (iy f nd.to)) c8] rfl tb rfl (by simp[Value.oneCell']) (by have:=dD.o;omega) ω (by have:=aF.size;omega) ?_;intro uZ wZ ax bL dG _;obtain⟨gZ,cZ,hu⟩:=ownsRow_succ ax;rw[dD.o]at hu;subst hu;rw[<-eE.o]at bL;have cE:=aA.push (x:=nd.put (iy f nd.to)) (rC eD (by show _<=XA.1.size;omega)) ax bL;obtain⟨⟨fz,lz,cz⟩,dH⟩:=cE;have cF:=qW.trans ((qW.refl _ z).alloc _) bL (λ_ _ e=>e);have sz:=DK ((cF.block wr.1.size ω (λe=>by have:=eC _ e;omega)).trans ((aW.block wr.1.size ω).trans cD.o));have eF:=dh dH;have eG:=dh ((aF.trans (aW.mono aF.size)).trans (cF.below (show V.1.size<=z.1.size by have:=aF.size;omega) (λq hq e=>by have:=(aA.nodes.own.lt q e).1;omega)));clear dH bL cF dG ax;refine d _ _ ⟨cz,sz⟩ (λhS=>?_);clear d;refine tF 15 [] ?_;refine rM (i:=16) rfl κ κ (λK d=>?_);go_simp;refine d _ _ ?_;clear d;refine tX κ ?_;clear hS r2 s0 s1 s2 s3;have hO:=eF.o;rw[<-ew.o]at hO;have dI:(ks.take (k+1)).map (λi=>(a.at i).put (iy f (a.at i).to))=ns++[(a.at q).put (iy f (a.at q).to)]:=by rw[ey.o,jT,eA.o];rfl
      rw[<-dI]at hO;obtain⟨eH,eI⟩:=iw hO (eG.setCell (p:=⟨ob,2,jC⟩) (show V.1.size<=ob from er) (iX (jB ⟨gZ,0,jC⟩) (k+1) cZ));clear hO dI fz lz cz sz;go_wp2_with fail
      go_roundw
      case rel=>exact⟨k+1,_,_,ω,jM (Value.int iZ) ω,eH,eI⟩
      case measure=>simp[intOf];omega
     ·have aC:k=η ks:=ω;have hle:¬(k:Int)<(η ks:Int):=ω;rw[aC,tL lR]at aE;clear aC;have ag:=aE.o;obtain⟨aD,aZ,b9,bc,cG,cH, -⟩:=ag.rd;obtain⟨n1,dJ⟩:=xQ (η (iy f a.init));obtain⟨n2,dK⟩:=xQ (η (ks.map (λi=>(a.at i).put (iy f (a.at i).to))));rw[dJ]at cG;rw[dK]at cH;rw[cG,cH]at ag;have dL:=dh ag;obtain⟨r0,r1,r2⟩:=ag.cells;have hy:=(a1.block (w.1.size+1) ek).trans ej.o;obtain⟨y0,y1,y2⟩:=sQ hy;have f0:=frozen_of_row wr _ 0 _ _ hy;have f1:=frozen_of_row wr _ 1 _ _ hy;have f2:=frozen_of_row wr _ 2 _ _ hy;have yl:=(aI.1 hy).1;have HY:=dh hy;clear dJ dK cG cH ag hy;go_wp2_with fail
      have C:=Cu (a:=.int iZ a.sets) (b:=iX aD n1 aZ) (c:=iX b9 n2 bc) HY rfl;have N:=Ct wr (w.1.size+1) (.int iZ a.sets) (iX aD n1 aZ) (iX b9 n2 bc);obtain⟨Y,hY⟩:=xQ (((wr.setCell ⟨w.1.size+1,0,jC⟩ (.int iZ a.sets)).setCell ⟨w.1.size+1,1,jC⟩ (iX aD n1 aZ)).setCell ⟨w.1.size+1,2,jC⟩ (iX b9 n2 bc));rw[hY]at C N⊢;clear hY y0 y1 y2 f0 f1 f2 r0 r1 r2;have aY:=dL.keep N (λe=>by have e:ob=w.1.size+1:=e;omega) (λg hg e=>by have e:g=w.1.size+1:=e;exact qQ dL.nodes.own HY δ (by rw[hg,e])) (λu' n ys ho g hg e=>by have e:g=w.1.size+1:=e;exact qQ ho HY δ (by rw[hg,e]));have bK:=(L.trans (a1.mono L.size)).trans (N.below (show w.1.size<=wr.1.size by omega) (λy hy e=>by have e:y=w.1.size+1:=e;omega));obtain⟨g0,g1,g2⟩:=sQ C
      have dM:AV w (xA a) (.returned (.agg #[.int iZ a.sets,iX aD n1 aZ,iX b9 n2 bc])) Y:=by
       rw[ep.o];obtain⟨_,_,_,_,e1,e2,eJ⟩:=aY.rd;cases e1;cases e2;exact⟨_,_,_,_,_,_,rfl,eJ,bK,aY.sep.mono L.size⟩
      refine bodyPost_ret (v:=.agg #[.int iZ a.sets,iX aD n1 aZ,iX b9 n2 bc]) ?_ rfl ?_
      ·simp[results,Tryz.results56,go_sem,g0,g1,g2]
      ·exact dM
