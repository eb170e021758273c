/- A part of the proof. -/
import Derived.Test.YtdmeoldcifddiaaGreatDoorZah
import Derived.Deep.LoopGhost
import Derived.Test.YtdmeoldcifddiaaGreatDoorMk
import Derived.Test.YtdmeoldcifddiaaGreatDoorZae
import Derived.Test.YtdmeoldcifddiaaGreatDoorZad
/- The walks of layer 5 (queues of ints): Put, Take, Len. -/
set_option maxHeartbeats 400000
namespace Go.Proofs.YtdmeoldcifddiaaGreatDoor
open Go.RowKit
open Go.Value renaming slice -> iX, int -> iY, pointer -> jH, bool -> jI
open Go.IntKind renaming i64 -> iZ, u64 -> jA
open Option renaming some -> jB, none -> jC
open Bool renaming true -> jD, false -> jE
open Go renaming World -> jF
open Go.Obj renaming cells -> jG
open Go.Proofs.Tryz renaming prog -> jJ
open List renaming length -> η, replicate -> ρ, range -> ζ, getD -> θ
variable {E R:List (List Nd)}{as1 asks bs:List (Nat->Bool)}{D y z:List Bool}{xs:List Value}{base e k n ne q r t:Nat}{v:Value}{w w' w0:jF}
def Io (Q B ne:Nat)(L:List Int)(w:jF):Prop:=
 ∃v,w.1[Q]? =jB (jG #[jI jD,iY iZ ne,v] 224 (0,0))/\w.ownsRow B 3 1 v (η L) (qO L)/\Q<B
section
variable {Q B ne:Nat}{L:List Int}{w w' w1:jF}
theorem Io.below (h:Io Q B ne L w)(hb:Below w.1.size w w'):Io Q B ne L w':=by
 obtain⟨v,a,b,c⟩:=h;exact⟨v,(hb.block Q (lt_of_block a)).trans a,own_below b hb,c⟩
theorem Io.set {v':Value}{L':List Int}{a b c:Value}(f:w.1[Q]? =jB (jG #[a,b,c] 224 (0,0)))(g:a=jI jD)(hb:b=iY iZ ne)(d:w.ownsRow B 3 1 v' (η L') (qO L'))(h:Q<B):
  Io Q B ne L' (w.setCell ⟨Q,2,jC⟩ v'):=by
 subst g;subst hb;have i:qW (λk=>k=Q) w (w.setCell ⟨Q,2,jC⟩ v'):=qW.setCell (S:=λk=>k=Q) (p:=⟨Q,2,jC⟩) (qW.refl _ w) (λ_=>rfl) _;refine⟨v',?_,qR d i (λk j e=>by have:=(d.lt k j).1;omega),h⟩;rw[heap_setCell_same w Q 2 _ _ v' f];rfl
theorem aiI (h:w.ownsRow B e 1 v n xs)(a:qW (λk=>v.ownBlock=jB k) w w'):qW (λk=>k=base\/B<=k) w w':=
 a.mono (λ_ _ b=>.inr (h.lt _ b).1)
theorem L6 (hb:Below w.1.size w w'):qW (λk=>k=base\/B<=k) w w':=(qW.of_below hb).mono (λi hi h=>ω)
theorem aam (w o v):qW (λk=>k=base\/B<=k) w (w.setCell ⟨base,o,jC⟩ v):=qW.setCell (S:=λk=>k=base\/B<=k) (p:=⟨base,o,jC⟩) (qW.refl _ w) (λ_=>.inl rfl) v
end
def XV (Q B ne:Nat)(L:List Int)(v:Value)(w:jF)(en:Ending)(w':jF):Prop:=en=.returned v/\Io Q B ne L w'/\qW (λk=>k=Q\/B<=k) w w'
theorem VT (Q B ne:Nat)(L:List Int)(w:jF)(h:Io Q B ne L w):Calls jJ 177 #[jH (jB ⟨Q,0,jC⟩)] w (Num w (η L:Int)):=by
 obtain⟨v,a,b,d⟩:=h;obtain⟨⟨e,c1,c2⟩,_,g⟩:=EC a;obtain⟨A,c,rfl,hs⟩:=qX b;clear a b;go_enter Tryz.func177,Tryz.ntmps177;go_wp2
 go_ret
 exact⟨rfl,bR⟩
theorem acj (Q B ne L w)(h:Io Q B ne L w)(hl:η L<ne):Calls jJ 163 #[jH (jB ⟨Q,0,jC⟩)] w (AX w jE):=by
 obtain⟨v,a,b,e⟩:=h;obtain⟨⟨d,c1,c2⟩,_,g⟩:=EC a;obtain⟨A,c,rfl,hs⟩:=qX b;clear a b;have d1:decide ((ne:Int)<=(η L:Int))=jE:=by simp;omega
 go_enter Tryz.func163,Tryz.ntmps163;go_wp2_with fail
 refine wp_region_held_drew (S:=λw'=>q9 w' Q 0 (jI jD)/\q9 w' Q 1 (iY iZ ne)/\q9 w' Q 2 (iX A (η L) c)) κ ⟨d,c1,c2⟩ (λhS=>?_);refine qU 0 ?_;refine qU 1 ?_;refine qU 2 ?_;refine qU 3 ?_;refine qU 4 ?_;refine qU 5 ?_;refine qU 6 ?_;refine qU 7 ?_;refine qU 8 ?_;refine qU 9 ?_;refine qU 10 ?_;refine qU 11 ?_;refine qU 12 ?_;refine qU 13 ?_;refine qU 14 ?_;refine qU 15 ?_;refine qU 16 ?_;refine qU 17 ?_;refine qU 18 ?_;refine qU 19 ?_;refine qU 20 ?_;refine qU 21 ?_;refine wpAnyH_done κ ?_ _;go_wp2
 go_ret
 exact⟨rH (by simp;omega),Below.drew bR⟩
theorem aeF (Q B ne L x w)(h:Io Q B ne L w)(hl:η L<ne)(r:ne<=1000000000)(F:B<=w.1.size):Calls jJ 146 #[jH (jB ⟨Q,0,jC⟩),iY iZ x] w (XV Q B ne (L++[x]) (jI jD) w):=by
 have m:=dh h;have s:=h;obtain⟨v,g,i,u⟩:=s;have G:=dh g;clear g i h;go_enter Tryz.func146,Tryz.ntmps146;go_wp2_with fail
 refine(acj Q B ne L _ m hl).mono ?_;rintro e w1 ⟨rfl,c⟩;have y:=c.size;obtain⟨v1,g,i,_⟩:=m.below c;obtain⟨⟨H,c1,c2⟩,⟨f0,f1,f2⟩,z⟩:=EC g;have H1:=dh g;clear g
 have b:∀(w3:jF),qW (λk=>v1.ownBlock=jB k) (w1.alloc (jG #[iY iZ x] 3)) w3->w3.1[Q]? =jB (jG #[jI jD,iY iZ ne,v1] 224 (0,0)):=λw3 C=>
  C.blk ((Below.heap_alloc _ _ _ z).trans H1.o) (λD=>by have:=(i.lt _ D).1;omega)
 go_wp2_with (at_builtin;refine rD rfl (.tmp 11) (.tmp 13) 29 rfl B 3 1 8 rW _ _ _ (i.alloc _) rfl w1.1.size #[iY iZ x] rfl (heap_alloc_new w1 _) rfl (by simp[Value.oneCell']) ω ω (by simp;omega) ?_;intro v3 w3 a j n p;obtain⟨g',q,rfl,_⟩:=sP a ω;have d:=b w3 j;obtain⟨⟨d0,d1,d2⟩,⟨I,e1,e2⟩,E⟩:=EC d;have l:=dh d;clear d b)
 go_ret
 refine⟨rfl,Io.set l rfl rfl (by rw[sJ,lA];exact a) u,?_⟩;exact qW.trans (qW.trans (qW.trans (L6 c) ((qW.refl (λk=>k=Q\/B<=k) w1).alloc _) (λ_ _ h=>h)) (aiI (i.alloc _) j) (λ_ _ h=>h)) (aam w3 2 _) (λ_ _ h=>h)
theorem aci (Q B ne w)(h:Io Q B ne [] w):Calls jJ 164 #[jH (jB ⟨Q,0,jC⟩),iY iZ 0] w (XV Q B ne [] (.tuple #[iY iZ 0,jI jE]) w):=by
 have b:=dh h;clear h;go_enter Tryz.func164,Tryz.ntmps164;go_wp2_with fail
 refine(VT Q B ne [] _ b.o).mono ?_;rintro e w1 ⟨rfl,a⟩;go_wp2
 go_ret2
 exact⟨rfl,b.below a,L6 a⟩
theorem aeG (Q B ne x L w)(h:Io Q B ne (x::L) w):Calls jJ 164 #[jH (jB ⟨Q,0,jC⟩),iY iZ 0] w (XV Q B ne L (.tuple #[iY iZ x,jI jD]) w):=by
 have p:=dh h;have r:=h;obtain⟨v,d,b,s⟩:=r;clear d b h v;go_enter Tryz.func164,Tryz.ntmps164;go_wp2_with fail
 refine(VT Q B ne (x::L) _ p.o).mono ?_;rintro e w1 ⟨rfl,j⟩;obtain⟨v1,d,b,_⟩:=p.below j;obtain⟨⟨z,c1,c2⟩,⟨f0,f1,f2⟩,C⟩:=EC d;obtain⟨g,c,rfl,D,t,hc,m⟩:=sP b ς;unfold maxLen at m;have x0:=b.cellAt 0 ς;simp[qO]at x0;obtain⟨u,H1⟩:=iw (Xl B g c (η L) (iY iZ x) (qO L) w1 (by simp[qO]) (Ga L) (by simpa[qO]using b)) d;have hlen:((η L:Int)+1==0)=jE:=by simp;omega
 clear d b;simp only[jP]at c2;simp only[jP]at hc;go_wp2_with fail
 refine Calls.mono u ?_;rintro e w2 ⟨rfl,l,q⟩;have a:=q.blk H1 (show ¬(Q=g) by omega);obtain⟨⟨d0,d1,d2⟩,⟨E,e1,e2⟩,y⟩:=EC a;have n:=dh a;clear a;go_wp2
 go_ret2
 refine⟨rfl,Io.set n rfl rfl l s,?_⟩;exact qW.trans (qW.trans (L6 j) (q.mono (S':=λk=>k=Q\/B<=k) (λi _ hi=>.inr ω)) (λ_ _ h=>h)) (aam w2 2 _) (λ_ _ h=>h)
theorem YO (Q B ne w)(h:Io Q B ne [] w):Calls jJ 147 #[jH (jB ⟨Q,0,jC⟩)] w (XV Q B ne [] (.tuple #[iY iZ 0,jI jE]) w):=by
 have b:=dh h;clear h;go_enter Tryz.func147,Tryz.ntmps147;go_wp2_with fail
 refine(aci Q B ne _ b.o).mono ?_;rintro e w1 ⟨rfl,a,c⟩;go_wp2
 go_ret2
 exact⟨rfl,a,c⟩
theorem ach (Q B ne x L w)(h:Io Q B ne (x::L) w):Calls jJ 147 #[jH (jB ⟨Q,0,jC⟩)] w (XV Q B ne L (.tuple #[iY iZ x,jI jD]) w):=by
 have b:=dh h;clear h;go_enter Tryz.func147,Tryz.ntmps147;go_wp2_with fail
 refine(aeG Q B ne x L _ b.o).mono ?_;rintro e w1 ⟨rfl,a,c⟩;go_wp2
 go_ret2
 exact⟨rfl,a,c⟩
set_option maxHeartbeats 1000000
def adL (Bg b3 b7 b8 Q qm B:Nat):Prop:=(Bg<=qm/\Bg<=Q/\Bg<=B)/\(b3≠qm/\b3≠Q/\b3<B)/\(b7≠qm/\b7≠Q/\b7<B)/\(b8≠qm/\b8≠Q/\b8<B)/\qm≠Q/\qm<B/\Q<B
structure CP (b3 b7 b8 Q qm B ne:Nat)(s:List Bool×List Int)(w:jF):Prop where
 c3:w.cell? ⟨b3,0,jC⟩=jB (iY iZ ne)
 c7:w.cell? ⟨b7,0,jC⟩=jB (iX (jB ⟨qm,0,jC⟩) ne ne)
 c8:w.cell? ⟨b8,0,jC⟩=jB (jH (jB ⟨Q,0,jC⟩))
 q:Io Q B ne s.2 w
 m:w.ownsRow 0 4 1 (iX (jB ⟨qm,0,jC⟩) ne ne) ne (s.1.map .bool)
def FS (Q qm B:Nat):Nat->Prop:=λk=>k=Q\/k=qm\/B<=k
section
variable {Bg b3 b7 b8 Q qm B ne:Nat}{s:List Bool×List Int}{L:List Int}{w w' w1:jF}
theorem CP.below (h:CP b3 b7 b8 Q qm B ne s w)(hb:Below w.1.size w w'):CP b3 b7 b8 Q qm B ne s w':=
 ⟨(hb.cell (jF.block_lt_of_cell? w _ h.c3)).trans h.c3,(hb.cell (jF.block_lt_of_cell? w _ h.c7)).trans h.c7,(hb.cell (jF.block_lt_of_cell? w _ h.c8)).trans h.c8,h.q.below hb,own_below h.m hb⟩
theorem Fq {S:Nat->Prop}{b o:Nat}(h:q9 w b o v)(c:qW S w w')(d:¬S b):w'.cell? ⟨b,o,jC⟩=jB v:=by
 have hb:=jF.block_lt_of_cell? w _ h;rw[jF.cell?_of_block (a:=⟨b,o,jC⟩) (c.block b hb d)];exact h
theorem CP.put (c:adL Bg b3 b7 b8 Q qm B)(h:CP b3 b7 b8 Q qm B ne s w)(d:Io Q B ne L w')(a:qW (λk=>k=Q\/B<=k) w w'):CP b3 b7 b8 Q qm B ne (s.1,L) w':=by
 obtain⟨_,n3,e,f,n1,n2,_⟩:=c;exact⟨Fq h.c3 a ω,Fq h.c7 a ω,Fq h.c8 a ω,d,qR h.m a (λg b=>by simp[Value.ownBlock]at b;subst b;omega)⟩
theorem aiO {base' g c:Nat}(h:w.ownsRow base e 1 (iX (jB ⟨g,0,jC⟩) n c) n xs)(hb:base'<=g):w.ownsRow base' e 1 (iX (jB ⟨g,0,jC⟩) n c) n xs:=by
 obtain⟨a,b⟩:=h;refine⟨a,?_⟩;rcases b with⟨d,_⟩|⟨g',cap,cur,hv,f,r⟩
 ·cases d
 ·cases hv;exact .inr ⟨g,c,cur,rfl,hb,r⟩
theorem CP.mark (c:adL Bg b3 b7 b8 Q qm B)(h:CP b3 b7 b8 Q qm B ne s w):CP b3 b7 b8 Q qm B ne (s.1.set t jD,s.2) (w.setCell ⟨qm,t,jC⟩ (jI jD))/\qW (FS Q qm B) w (w.setCell ⟨qm,t,jC⟩ (jI jD)):=by
 obtain⟨_,n3,i,j,n1,n2,l⟩:=c;have a:qW (λk=>k=qm) w (w.setCell ⟨qm,t,jC⟩ (jI jD)):=qW.setCell (S:=λk=>k=qm) (p:=⟨qm,t,jC⟩) (qW.refl _ w) (λ_=>rfl) _;refine⟨⟨Fq h.c3 a ω,Fq h.c7 a ω,Fq h.c8 a ω,?_,?_⟩,a.mono (λ_ _ h=>.inr (.inl h))⟩
 ·obtain⟨v,d,b,e⟩:=h.q;exact⟨v,a.blk d ω,qR b a (λg f=>by have:=(b.lt g f).1;omega),e⟩
 ·have:=(h.m.stored t (jI jD)).1;rw[lX];exact this
theorem CP.at_ (h:CP b3 b7 b8 Q qm B ne s w)(a:t<ne):w.cell? ⟨qm,t,jC⟩=jB (jI (s.1.getD t jE))/\w.frozen? ⟨qm,t,jC⟩=jE:=by
 have hl:η s.1=ne:=by have:=h.m.1;simpa using this
 refine⟨?_,h.m.frozenAt t⟩;rw[h.m.cellAt t ω];exact uN ω
theorem agL (m T L x):vis n (m,T++L) x=((vis n (m,L) x).1,T++(vis n (m,L) x).2):=by
 unfold vis;dsimp only;split<;>simp
theorem OO:∀(l:List Int) (m:List Bool) (T L:List Int),l.foldl (vis n) (m,T++L)=((l.foldl (vis n) (m,L)).1,T++(l.foldl (vis n) (m,L)).2)
 |[],_,_,_=>rfl
 |x::l,m,T,L=>by rw[jZ,agL,OO l,jZ]
end
def aiE (b3 b7 b8 Q qm B ne:Nat)(s:List Bool×List Int)(w:jF)(en:Ending)(w':jF):Prop:=en=.returned (.tuple #[])/\CP b3 b7 b8 Q qm B ne s w'/\qW (FS Q qm B) w w'
theorem Ro (Bg b3 b7 b8 Q qm B ne)(s:List Bool×List Int)(x w)(z:adL Bg b3 b7 b8 Q qm B)(h:CP b3 b7 b8 Q qm B ne s w)(r:ne<=1000000000)(K:B<=w.1.size)(a:∀t:Nat,t<ne->s.1.getD t jE=jE->η s.2<ne)(hl:η s.1=ne):
  Calls jJ 145 #[iY iZ x,jH (jB ⟨b3,0,jC⟩),jH (jB ⟨b7,0,jC⟩),jH (jB ⟨b8,0,jC⟩)] w (aiE b3 b7 b8 Q qm B ne (vis ne s x) w):=by
 have c3:=h.c3;have c7:=h.c7;have c8:=h.c8;by_cases j:0<=x
 ·have d0:decide (0<=x)=jD:=by simpa using j
  by_cases p:x<(ne:Int)
  ·have d1:decide (x<(ne:Int))=jD:=by simpa using p
   obtain⟨t,rfl⟩:=nY j;have k:t<ne:=ω;have c:=sU.2 ⟨j,p⟩;obtain⟨m0,L⟩:=h.at_ k;have d:=a t k;cases b:s.1.getD t jE
   ·rw[b]at m0;have g:=dh (TB (s:=s) c b ω);have u:=d b;obtain⟨l,C⟩:=CP.mark (t:=t) z h;have E:=dh (l.q);have F:(w.setCell ⟨qm,t,jC⟩ (jI jD)).1.size=w.1.size:=by simp[jF.setCell]
    have hp:=aeF Q B ne s.2 (t:Int) (w.setCell ⟨qm,t,jC⟩ (jI jD)) E u r ω;have G:=l.c7;have H:=l.c8;obtain⟨I,v,y⟩:=iA hp l C;clear b c d a l C hp F d0 d1;go_enter Tryz.func145,Tryz.ntmps145;go_wp2_with fail
    refine Calls.mono I ?_;rintro e w2 ⟨rfl,J,D⟩;go_wp2
    go_end0
    refine⟨rfl,?_,?_⟩
    ·rw[g.o];exact CP.put z v J D
    ·exact qW.trans y D (λi _ hi=>by rcases hi with hi|hi;exact .inl hi;exact .inr (.inr hi))
   ·rw[b]at m0;obtain⟨g,m⟩:=iw (TA (n:=ne) (s:=s) b ω) h;clear b c d a d0 d1 h;go_enter Tryz.func145,Tryz.ntmps145;go_wp2
    go_end0
    exact⟨rfl,by rw[g.o];exact m.o,qW.refl _ _⟩
  ·have d1:decide (x<(ne:Int))=jE:=by simpa using p
   obtain⟨g,m⟩:=iw (N7 (s:=s) (show sG ne x=jE by simp[sG,p])) h;clear h a;go_enter Tryz.func145,Tryz.ntmps145;go_wp2
   go_end0
   exact⟨rfl,by rw[g.o];exact m.o,qW.refl _ _⟩
 ·have d0:decide (0<=x)=jE:=by simpa using j
  obtain⟨g,m⟩:=iw (N7 (s:=s) (show sG ne x=jE by simp[sG,j])) h;clear h a;go_enter Tryz.func145,Tryz.ntmps145;go_wp2
  go_end0
  exact⟨rfl,by rw[g.o];exact m.o,qW.refl _ _⟩
set_option maxHeartbeats 1000000
theorem H9 {Q qm B Bg:Nat}(a:qW (FS Q qm B) w w')(c:Bg<=Q)(d:Bg<=qm)(f:Bg<=B)(b:Bg<=w.1.size):Below Bg w w':=
 a.below b (λk g hS=>by rcases hS with e|e|e<;>omega)
section
variable (ai ae al:Option Addr)(ni ci ne ce nl cl:Nat)
theorem YL (G:iq)(a bg Bg b3 b7 b8 Q qm B:Nat)(s:List Bool×List Int)(T:List Int)(w:jF)(h:DW w Bg ai ni ci ae ne ce al nl cl G)(hg:q9 w bg 1 (iX ae ne ce))(_hbg:bg<Bg)(ha:a<ne)
  (M:adL Bg b3 b7 b8 Q qm B)(hF:CP b3 b7 b8 Q qm B ne s w)(z:X0 ne (s.1,T++s.2))(C:ne<=1000000000)(S:∀l∈G.edges,η l<=1000000000)(hB:B<=w.1.size)(D:Bg<=w.1.size):
  Calls jJ 121 #[iY iZ (a:Int),.func (.func 145) #[] #[jH (jB ⟨b3,0,jC⟩),jH (jB ⟨b7,0,jC⟩),jH (jB ⟨b8,0,jC⟩)],jH (jB ⟨bg,0,jC⟩)] w
   (aiE b3 b7 b8 Q qm B ne ((tgts (G.edges.getD a [])).foldl (vis ne) s) w):=by
 obtain⟨L1,L2,L3⟩:=h.lens;have E:a<η G.edges:=ω;obtain⟨b,o,A',n',c',rfl,U,V,d⟩:=h.he.at_ (Ej E);have hlen:=S G.edges[a] (mM _);have F:n'=G.edges[a].length:=by have:=d.len;rw[uz]at this;omega
 have k:G.edges.getD a []=G.edges[a]:=γ;rw[k];clear k;generalize G.edges[a]=x at *;subst F;have H:=M;obtain⟨⟨g1,g2,g3⟩,n3,n7,n8,n1,n2,n4⟩:=H;have i0:0<=(a:Int):=ω;have i1:a<(ne:Int):=ω;have W:=dh hF;clear hF L1 L2 L3;go_enter Tryz.func121,Tryz.ntmps121;go_wp2
 go_loopw [13] (λi wr=>∃m,m<=η x/\i=iY iZ m/\CP b3 b7 b8 Q qm B ne (((tgts x).take m).foldl (vis ne) s) wr/\qW (FS Q qm B) w wr) (λi _=>η x-(intOf i).toNat)
 case atStart=>exact⟨0,ω,rfl,W.o,qW.refl _ _⟩
 case round=>
  obtain⟨m,hm,rfl,p,j⟩:=hrel;have hz:=j.size;have I:=H9 j g2 g1 g3 D;obtain⟨N,O⟩:=iw j p;clear j p;by_cases q:m<η x
  ·obtain⟨bb,oo,rfl,P,X,Y⟩:=vZ (d.rd.below I lR) q;have r:=aao (n:=ne) q s
   have c:X0 ne ((((tgts x).take m).foldl (vis ne) s).1,T++(((tgts x).take m).foldl (vis ne) s).2):=by
    have:=Gc ((tgts x).take m) z;rwa [OO]at this
   generalize ((tgts x).take m).foldl _ s=R at *;generalize x[m]=e at *;obtain⟨op,act⟩:=e;dsimp at *;have Z:=dh r;have u:=O.below ((Below.refl _ _).alloc lR (jG #[iY iZ op,iY iZ act] 61))
   have g:=Ro Bg b3 b7 b8 Q qm B ne R op (wr.alloc (jG #[iY iZ op,iY iZ act] 61)) M u C (by simp;omega)
    (λt j hf=>by have:=c.lt j (by simp[θ,gE (show t<η R.1 by rwa [c.len])]at hf⊢;exact hf);simp at this;omega) c.len
   obtain⟨J,HO⟩:=iw g c;clear r u g c;go_wp2_with fail
   apply Calls.mono J.o;rintro e w2 ⟨rfl,v,y⟩;have a1:=dh v;have K:=qW.trans N (qW.trans ((qW.refl _ _).alloc _) y (λ_ _ h=>h)) (λ_ _ h=>h);clear v y;go_wp2
   go_roundw
   case rel=>exact⟨m+1,ω,by go_num,by rwa [Z.o],K⟩
   case measure=>simp[intOf];omega
  ·have p:=O.o;rw[tL (by rw[tgts,jr];omega)]at p;have L:=dh p;go_wp2
   go_end0
   exact⟨rfl,L.o,N.o⟩
theorem aeH (w:jF)(a:ne<=65536):Calls jJ 144 #[iY iZ (ne:Int)] w λe w'=>e=.returned (jH (jB ⟨w.1.size,0,jC⟩))/\w'=w.alloc (jG #[jI jD,iY iZ (ne:Int),iX jC 0 0] 224):=by
 have b:(if(ne:Int)<=65536 then(ne:Int)else 65536)=ne:=ω;have c:min (ne:Int) 65536=ne:=ω;go_enter Tryz.func144,Tryz.ntmps144;go_wp2
 go_ret
 simp
theorem afW (w a b c d e):∃W,W=((((w.alloc a).alloc b).alloc c).alloc d).alloc e/\W.1[w.1.size]? =jB a/\W.1[w.1.size+1]? =jB b/\W.1[w.1.size+2]? =jB c/\W.1[w.1.size+3]? =jB d/\W.1[w.1.size+4]? =jB e/\W.1.size=w.1.size+5/\Below w.1.size w W:=by
 refine⟨_,rfl,?_,?_,?_,?_,?_,ς,?_⟩
 ·exact tH (by simp;omega) (tH (by simp;omega) (tH (by simp;omega) (tH ς (heap_alloc_new w _))))
 ·exact tH ς (tH ς (tH ς (vL ς)))
 ·exact tH ς (tH ς (vL ς))
 ·exact tH ς (vL ς)
 ·exact vL ς
 ·exact((((bR.alloc lR _).alloc ς _).alloc (by simp;omega) _).alloc (by simp;omega) _).alloc (by simp;omega) _
theorem ZH (w:jF)(a:ne<=1000000000):∃W,W=((((w.alloc (jG #[iY iZ (ne:Int)] 3)).alloc (jG (madeCells #[jI jE] ne) 4)).alloc (jG #[iX (jB ⟨w.1.size+1,0,jC⟩) ne ne] 64)).alloc (jG #[jI jD,iY iZ (ne:Int),iX jC 0 0] 224)).alloc (jG #[jH (jB ⟨w.1.size+3,0,jC⟩)] 209)/\
  CP w.1.size (w.1.size+2) (w.1.size+4) (w.1.size+3) (w.1.size+1) (w.1.size+5) ne (ρ ne jE,[]) W/\W.1.size=w.1.size+5/\Below w.1.size w W:=by
 obtain⟨W,b,c,d,e,f,g,h,i⟩:=afW w (jG #[iY iZ ne] 3) (jG (madeCells #[jI jE] ne) 4) (jG #[iX (jB ⟨w.1.size+1,0,jC⟩) ne ne] 64) (jG #[jI jD,iY iZ ne,iX jC 0 0] 224) (jG #[jH (jB ⟨w.1.size+3,0,jC⟩)] 209);refine⟨W,b,⟨by rw[cell_of_row W _ 0 _ _ _ c];rfl,by rw[cell_of_row W _ 0 _ _ _ e];rfl,by rw[cell_of_row W _ 0 _ _ _ g];rfl,⟨_,f,jF.ownsRow_nil _ _ _ _,ω⟩,?_⟩,h,i⟩;have hm:(madeCells _ _).toList=ρ ne (jI jE):=toList_madeCells_one _ _;have hs:=by have:=jM List.length hm;simpa using this
 refine⟨ς,.inr ⟨_,_,_,rfl,mR _,d,lR,by unfold maxLen;omega,ω,?_⟩⟩
 simp_all
theorem adl (G:iq)(from_:List Int)(A:Option Addr)(n c bg Bg:Nat)(w:jF)(h:DW w Bg ai ni ci ae ne ce al nl cl G)(hg:q9 w bg 1 (iX ae ne ce))(az:bg<Bg)(hf:Sl w Bg 1 A n c (qO from_))(hn:n=η from_)(M:Bg<=w.1.size)
  (ak:ne<=65536)(hl:n<=1000000000)(hr:∀l∈G.edges,η l<=1000000000):
  Calls jJ 120 #[iY iZ (ne:Int),iX A n c,.func (.func 121) #[] #[jH (jB ⟨bg,0,jC⟩)]] w (sI w 4 1 ne ((yE ne G.edges from_).map .bool) False):=by
 subst hn;obtain⟨W,hW,N,D,v⟩:=ZH (ne:=ne) w ω;have ao:=run_make_row' (P:=jJ) 64 4 (jI jE) 1 Tryz.underlying64 wN rfl iZ iZ ne ω ω;obtain⟨O,HW,R⟩:=iA (λw=>aeH _ w ak) hW N;have aq:=(v.cell (show bg<w.1.size by omega)).trans hg;have HZ:=dh D;clear hW N hg D;go_enter Tryz.func120,Tryz.ntmps120;go_wp2_with fail
 apply Calls.mono (O _);rintro e w1 ⟨rfl,rfl⟩;go_wp2
 simp[mD,Nat.reduceAdd];rw[<-HW.o];have J:adL w.1.size w.1.size (w.1.size+2) (w.1.size+4) (w.1.size+3) (w.1.size+1) (w.1.size+5):=by unfold adL;omega
 have h':=(h.up M).below v lR;have ar:=(hf.up M).below v lR;have D:=Nat.le_of_eq HZ.symm;clear HW O ao h hf HZ;generalize w.1.size+1=qm at *;generalize w.1.size+2=b7 at *;generalize w.1.size+3=Q at *;generalize w.1.size+4=b8 at *;generalize w.1.size+5=B at *;have au:=J;obtain⟨⟨n1,n2,n3⟩,n4,n5,n6,n7,n8,n9⟩:=au;have z:CP _ _ _ Q _ B _ ((from_.take 0).foldl (vis ne) _) W:=R.o;clear R;go_loopw [21] (λi wr=>∃k,k<=η from_/\i=iY iZ k/\CP w.1.size b7 b8 Q qm B ne ((from_.take k).foldl (vis ne) (ρ ne jE,[])) wr/\qW (FS Q qm B) W wr) (λi _=>η from_-(intOf i).toNat)
 case atStart=>exact⟨0,ω,rfl,z,qW.refl _ _⟩
 case round=>
  obtain⟨k,hk,rfl,hF,u⟩:=hrel;clear z;have hz:=u.size;have E:=H9 u n2 n1 n3 (show w.1.size<=W.1.size by omega);obtain⟨K,F⟩:=iw u hF;clear u hF;have d:X0 _ ((from_.take k).foldl _ _):=Gc _ (L9 ne);by_cases r:k<η from_
  ·obtain⟨b,o,rfl,aA,aB⟩:=JV (ar.rd.below E lR) r;have S:=TD (n:=ne) r (ρ ne jE,[]);generalize (from_.take k).foldl _ _ =s at *;generalize from_[k]=x at *
   have C:=Ro w.1.size w.1.size b7 b8 Q qm B ne s x wr J F ω ω
    (λt u hf=>d.lt u (by simp[θ,gE (show t<η s.1 by rwa [d.len])]at hf⊢;exact hf)) d.len
   obtain⟨av,HS,HO⟩:=iA C S d;clear C S d;go_wp2_with fail
   apply Calls.mono av.o;rintro e w2 ⟨rfl,j,g⟩;have U:=dh j;have p:=qW.trans K g (λ_ _ h=>h);clear j g;go_wp2
   go_roundw
   case rel=>exact⟨k+1,ω,by go_num,by rwa [HS.o],p⟩
   case measure=>simp[intOf];omega
  ·have aw:k=η from_:=ω;have hF:=F.o;rw[tL ω]at hF;have V:CP _ _ _ Q _ B _ ((Cc _ G.edges _ 0).1,(Cc _ G.edges _ 0).2.drop 0) _:=hF;have X:=dh V;clear hF V F aw d;go_wp2
   go_loopg [12] (ne+1) (λgk _ wr=>∃k,k+gk=ne+1/\k<=(Cc ne G.edges from_ k).2.length/\CP w.1.size b7 b8 Q qm B ne ((Cc ne G.edges from_ k).1,(Cc ne G.edges from_ k).2.drop k) wr/\qW (FS Q qm B) W wr)
   case atStart=>exact⟨0,ω,ω,X.o,K.o⟩
   case round=>
    clear X K E hz;obtain⟨k,aC,hk,hF,u⟩:=hrel;have hz:=u.size;have E:=H9 u n2 n1 n3 (show w.1.size<=W.1.size by omega);have K:=dh u;have d:=Et ne G.edges from_ k;have hle:=d.le;by_cases r:k<(Cc ne G.edges from_ k).2.length
    ·have Y:=d.rng _ (mM r);have y:=Pg (gE r);have Z:=lS r;rw[Z]at hF;have H:Cc ne G.edges from_ k=((Cc ne G.edges from_ k).1,(Cc ne G.edges from_ k).2.take (k+1)++(Cc ne G.edges from_ k).2.drop (k+1)):=by rw[lK]
     have a1:η ((Cc ne G.edges from_ k).2.take (k+1))=k+1:=by rw[jq];omega
     generalize (Cc _ _ _ k).2[k]=x at *;obtain⟨a,rfl,ax⟩:=rO Y;generalize (Cc _ _ _ k).2.take _ =T at *;generalize (Cc _ _ _ k).2.drop _ =L at *;rw[H]at d;rw[H,tN]at y;generalize (Cc _ _ _ k).1=mk at *;rw[OO]at y;obtain⟨HX,a6,HO,I⟩:=iB y a1 d (ach Q B _ _ L _ hF.q);have c8:=hF.c8;obtain⟨F,HN⟩:=iw hF J;clear y a1 d H Z hF u Y;go_wp2_with fail
     apply Calls.mono I.o;rintro e w2 ⟨rfl,hq,g⟩;have j:=CP.put J F hq g;have p:=qW.trans K g (λi _ hi=>by rcases hi with hi|hi;exact .inl hi;exact .inr (.inr hi));have a7:=H9 p n2 n1 n3 (show w.1.size<=W.1.size by omega);have aD:=p.size;have a8:=(a7.cell (show bg<w.1.size by omega)).trans aq;have ad:=YL ai ae al ni ci ne ce nl cl G a bg w.1.size w.1.size b7 b8 Q qm B (mk,L) T w2 (h'.below a7 lR) a8 ω ax J j HO ω hr ω ω;have HR:=dh ad;clear ad j hq g a8;go_wp2_with fail
     apply Calls.mono HR.o;rintro e w3 ⟨rfl,af,ag⟩;have aE:=dh af;have ay:=qW.trans p ag (λ_ _ h=>h);clear af ag;go_wp2
     go_roundg (gk-1)
     case rel=>
      refine⟨k+1,ω,?_,?_,ay⟩
      ·rw[HX.o,lA,a6.o];omega
      ·rw[HX.o];rwa [List.drop_left' a6.o]
     case measure=>omega
    ·have ah:=PN hk ω;have aj:(Cc ne G.edges from_ k).2.drop k=[]:=oM ω;rw[aj]at hF;obtain⟨HE,I⟩:=iw ah (YO Q B _ _ hF.q);have c8:=hF.c8;have F:=dh hF;go_wp2_with fail
     apply Calls.mono I.o;rintro e w2 ⟨rfl,hq,g⟩;have j:=CP.put J F hq g;have p:=qW.trans K g (λi _ hi=>by rcases hi with hi|hi;exact .inl hi;exact .inr (.inr hi));have c7:=j.c7;have U:=dh j;go_wp2
     go_ret
     exact⟨_,rfl,by rw[HE.o];exact aiO U.m n1,(v.trans ((H9 p n2 n1 n3 ω))),ς⟩
theorem ac0 (w:jF)(a:ne<=65536):Calls jJ 118 #[.agg #[iX ai ni ci,iX ae ne ce,iX al nl cl]] w (AX w jE):=by
 have d1:decide (65536<(ne:Int))=jE:=γ;go_wp2
 go_ret
 exact⟨rfl,bR.alloc lR _⟩
theorem PL (G:iq)(from_:List Int)(A:Option Addr)(n c:Nat)(w:jF)(B:Nat)(h:DW w B ai ni ci ae ne ce al nl cl G)(hf:Sl w B 1 A n c (qO from_))(z:n=η from_)(x:B<=w.1.size)(he:ne<=65536)(hl:n<=1000000000)(C:∀l∈G.edges,η l<=1000000000):
  Calls jJ 81 #[.agg #[iX ai ni ci,iX ae ne ce,iX al nl cl],iX A n c] w (sI w 4 1 ne ((yE ne G.edges from_).map .bool) False):=by
 subst z;obtain⟨w0,g,d,p,D,q,E⟩:=DJ w (iX ai ni ci) (iX ae ne ce) (iX al nl cl) 63;have i:=dh g;have y:=(h.below d x).up (show B<=w.1.size by omega);have j:=(hf.below d x).up (show B<=w.1.size by omega);have F:w.1.size+1<=w0.1.size:=ω;clear g p;go_enter Tryz.func81,Tryz.ntmps81;go_wp2_with fail
 rw[<-i.o];apply (ac0 _ _ _ _ _ _ _ _ _ _ he).mono;rintro e w1 ⟨rfl,a⟩;have H:=a.size;have g1:=bC a ω q;have k:=adl ai ae al ni ci ne ce nl cl G from_ A _ c w.1.size (w.1.size+1) w1 ((y.below a ω).up ω) g1 ω ((j.below a ω).up ω) rfl ω he hl C;have r:=dh k;clear k i h y hf j;go_wp2_with fail
 apply Calls.mono r.o;rintro e w2 ⟨v,rfl,m,s,b⟩;have u:=dh b;clear b;go_wp2
 go_ret
 exact⟨v,rfl,rC m ω,(d.trans (a.mono ω)).trans (s.mono ω),u.o⟩
end
set_option maxHeartbeats 2000000
set_option maxRecDepth 100000
section
variable (ai ae al:Option Addr)(ni ci ne ce nl cl:Nat)
theorem YJ (G:iq)(from_:List Int)(A:Option Addr)(n c:Nat)(w:jF)(B:Nat)(h:DW w B ai ni ci ae ne ce al nl cl G)(hf:Sl w B 1 A n c (qO from_))(hn:n=η from_)(hB:B<=w.1.size)(he:ne<=1000000000)(hl:n<=1000000000)(hr:∀l∈G.edges,η l<=1000000000):
  Calls jJ 94 #[.agg #[iX ai ni ci,iX ae ne ce,iX al nl cl],iX A n c] w (sI w 4 1 ne ((yE ne G.edges from_).map .bool) False):=by
 subst hn;obtain⟨L1,L2,L3⟩:=h.lens;obtain⟨w0,ar,ak,au,V,W,a8⟩:=DJ w (iX ai ni ci) (iX ae ne ce) (iX al nl cl) 63;have av:=dh ar;have h':=h.below ak hB;have aF:=hf.below ak hB;have aS:B<=w0.1.size:=ω;have L:w.1.size<w0.1.size:=ω;obtain⟨H2,aG⟩:=iw L2 au;clear ar L1 L2 L3 h hf au;have p:=run_make_row' (P:=jJ) 64 4 (jI jE) 1 Tryz.underlying64 wN rfl iZ iZ ne ω ω;go_enter Tryz.func94,Tryz.ntmps94;go_wp2
 rw[<-av.o]
 have R:Fz w0 (w.1.size+1) ne (iX jC 0 0) ((from_.take 0).foldl (vis ne) (ρ ne jE,[])) (w0.alloc (jG (madeCells #[jI jE] ne) 4)):=by
  rw[<-aG.o];exact Fz.start (by unfold maxLen;omega)
 clear p av;generalize w.1.size+1=q at R⊢;go_loopw [6,7] (λv i wr=>∃k,k<=η from_/\i=iY iZ k/\Fz w0 q ne v ((from_.take k).foldl (vis ne) (ρ ne jE,[])) wr) (λ_ i _=>η from_-(intOf i).toNat)
 case atStart=>exact⟨0,ω,rfl,R⟩
 case round=>
  obtain⟨k,hk,rfl,J⟩:=hrel;have u:=J.2.2;have ad:=u.size;have g:w.1.size<wr.1.size:=ω;have f0:=bC u L V;have f1:=bC u L W;have f2:=bC u L a8;clear R;have C:X0 _ ((from_.take k).foldl _ _):=Gc _ (L9 ne);by_cases T:k<η from_
  ·obtain⟨b,o,rfl,aH,M⟩:=JV (aF.rd.below u ω) T;have O:b<wr.1.size:=ω;have X:=TD (n:=ne) T (ρ ne jE,[]);generalize (from_.take k).foldl _ _ =s at *;generalize from_[k]=x at *;obtain⟨HS,H,HO⟩:=iA X J C;have j0:0<=(k:Int):=ω;have j1:k<(η from_:Int):=ω;clear X J V W a8 C;cases j:sG ne x
   ·obtain⟨D,Y⟩:=iw j (N7 (s:=s) j);clear j;go_wp2
    refine wp_region_held_drew (S:=λw'=>q9 w' _ 0 _/\q9 w' _ 1 _/\q9 w' _ 2 _/\q9 w' b _ _) rfl ⟨f0,f1,f2,M⟩ (λhS=>?_);apply qU 0;apply qU 1;apply qU 2;apply qU 3;apply qU 4;refine rR 5 (λK N=>?_);go_simp;apply (zP _ _ _ _ _ _ _ _ _ x _).mono;rw[D.o];rintro e w2 ⟨rfl,z⟩;have d:Below wr.1.size _ _:=rF z;have I:=dh (H.below d);go_wp2
    refine N _ _ ⟨bC d g f0,bC d g f1,bC d g f2,bC d O M⟩ (λhS=>?_);clear N;apply qU 6;apply Gh 7;apply Gh 8;apply Gh 9;apply Gh 10;apply Gh 11;apply Gh 12;apply Gh 13;apply Gh 14;apply qU 15;refine wpAnyH_done rfl ?_ _;go_wp2
    go_roundw
    case rel=>exact⟨k+1,ω,by go_num,by rwa [HS.o,Y.o]⟩
    case measure=>simp[intOf];omega
   ·obtain⟨t,rfl,Z⟩:=rO j;have Q:t<η s.1:=by rwa [HO.len]
    let⟨m0,m1,a1,aJ⟩:=RZ H.1 Z
    have i0:0<=(t:Int):=ω;have i1:t<(ne:Int):=ω;cases p:s.1.getD t jE
    ·rw[p]at m0;obtain⟨Y,D⟩:=iw (TB j p Q) j;have aK:=HO.lt Z (by simp[θ,gE Q]at p⊢;exact p);clear j p;go_wp2
     refine wp_region_held_drew (S:=λw'=>q9 w' _ 0 _/\q9 w' _ 1 _/\q9 w' _ 2 _/\q9 w' b _ _/\q9 w' q t _) rfl ⟨f0,f1,f2,M,m0⟩ (λhS=>?_);apply qU 0;apply qU 1;apply qU 2;apply qU 3;apply qU 4;refine rR 5 (λK N=>?_);go_simp;apply (zP _ _ _ _ _ _ _ _ _ _ _).mono;rw[D.o];rintro e w2 ⟨rfl,z⟩;have d:Below wr.1.size _ _:=rF z;have af:=d.size;have I:=dh (H.below d);go_wp2
     have m2:=bC d a1 m0;have m3:=bC d O M;have m4:=bC d g f1;refine N _ _ ⟨bC d g f0,m4,bC d g f2,m3,m2⟩ (λhS=>?_);clear N;apply qU 6;apply qU 7;apply qU 8;apply qU 9;apply qU 10;apply qU 11;apply qU 12;apply qU 13;apply qU 14;apply qU 15;refine wpAnyH_done rfl ?_ _;obtain⟨g1,g2,g3⟩:=Fz.mark (t:=t) I.o;have g4:=(I.1.frozenAt t);go_wp2_with (at_builtin;refine rD rfl (.tmp 43) (.tmp 48) 29 rfl w0.1.size 3 1 8 rW _ _ _ (g2.alloc _) rfl w2.1.size #[iY iZ (t:Int)] rfl (vL (by simp[jF.setCell])) rfl (by simp[Value.oneCell']) ω ω (by simp[jF.setCell];omega) ?_;intro v3 w3 F a6 a7 aw;have aL:=dh (Fz.open (t:=t) g1 g2 g3 rfl F a6);clear F a6 a7)
     go_roundw
     case rel=>exact⟨k+1,ω,by go_num,by rwa [HS.o,Y.o]⟩
     case measure=>simp[intOf];omega
    ·rw[p]at m0;obtain⟨Y,D⟩:=iw (TA (n:=ne) p Q) j;clear j p;go_wp2
     refine wp_region_held_drew (S:=λw'=>q9 w' _ 0 _/\q9 w' _ 1 _/\q9 w' _ 2 _/\q9 w' b _ _/\q9 w' q t _) rfl ⟨f0,f1,f2,M,m0⟩ (λhS=>?_);apply qU 0;apply qU 1;apply qU 2;apply qU 3;apply qU 4;refine rR 5 (λK N=>?_);go_simp;apply (zP _ _ _ _ _ _ _ _ _ _ _).mono;rw[D.o];rintro e w2 ⟨rfl,z⟩;have d:Below wr.1.size _ _:=rF z;have af:=d.size;have I:=dh (H.below d);go_wp2
     have m2:=bC d a1 m0;have m3:=bC d O M;have m4:=bC d g f1;refine N _ _ ⟨bC d g f0,m4,bC d g f2,m3,m2⟩ (λhS=>?_);clear N;apply qU 6;apply qU 7;apply qU 8;apply qU 9;apply qU 10;apply qU 11;apply qU 12;apply qU 13;apply qU 14;apply qU 15;refine wpAnyH_done rfl ?_ _;go_wp2
     go_roundw
     case rel=>exact⟨k+1,ω,by go_num,by rwa [HS.o,Y.o]⟩
     case measure=>simp[intOf];omega
  ·have aM:k=η from_:=ω;rw[tL ω]at J;have H:=dh (show Fz _ q _ _ (Cc _ G.edges _ 0) _ from J);have ax:=bC u L V;clear J aM ax f0 f1 f2 C;go_wp2
   go_loopw [6,8,9,10] (λv i _ _ wr=>∃k:Nat,i=iY iZ k/\k<=(Cc ne G.edges from_ k).2.length/\Fz w0 q ne v (Cc ne G.edges from_ k) wr) (λ_ i _ _ _=>ne+1-(intOf i).toNat)
   case atStart=>exact⟨0,rfl,ω,H.o⟩
   case round=>
    clear H u ad g;obtain⟨k,rfl,hk,J⟩:=hrel;have u:=J.2.2;have ad:=u.size;have g:w.1.size<wr.1.size:=ω;have f1:=bC u L W;have C:=Et ne G.edges from_ k;have hle:=C.le;obtain⟨Ao,co,rfl,ay⟩:=qX J.2.1;by_cases T:k<(Cc ne G.edges from_ k).2.length
    ·have j:=C.rng _ (mM T);have ao:=Pg (gE T);obtain⟨b1,o1,rfl,aT,az⟩:=JV ay.rd T;generalize (Cc _ _ _ k).2[k]=x at *;obtain⟨a,rfl,aU⟩:=rO j;have aA:a<η G.edges:=by rwa [<-H2.o]
     obtain⟨b,o,A',n',c',rfl,aH,M,ag⟩:=h'.he.at_ (Ej aA);have ah:=bC u ω M;have hlen:=hr G.edges[a] (mM _);have aB:n'=G.edges[a].length:=by have:=ag.len;rw[uz]at this;omega
     have aC:G.edges.getD (a:Int).toNat []=G.edges[a]:=by simp[θ,aA]
     rw[aC]at ao;clear aC j ay;generalize G.edges[a]=x at *;subst aB;generalize aD:Cc _ _ _ k=s at *;have i0:0<=(a:Int):=ω;have i1:a<(ne:Int):=ω;have j0:0<=(k:Int):=ω;have j1:k<(η s.2:Int):=ω;obtain⟨aN,aO,aP,H⟩:=iB ao aD C J;clear ao aD C J;go_wp2
     refine wp_region_held_drew (S:=λw'=>q9 w' _ 1 _/\q9 w' _ _ _/\q9 w' b _ _) rfl ⟨f1,az,ah⟩ (λhS=>?_);apply qU 0;apply qU 1;apply qU 2;apply qU 3;apply qU 4;apply qU 5;apply qU 6;apply qU 7;apply qU 8;refine wpAnyH_done rfl ?_ _;obtain⟨wp,aq⟩:∃wp,wp=wr.drew:=⟨_,rfl⟩;have R:Fz w0 q ne (iX (jB ⟨b1,o1,jC⟩) (η s.2) co) (((tgts x).take 0).foldl (vis ne) s) wp:=by rw[aq];exact H.below (Below.drew bR)
     rw[<-aq];clear aq H;go_wp2
     go_loopw [6,10] (λv i wr=>∃m:Nat,m<=η x/\i=iY iZ m/\Fz w0 q ne v (((tgts x).take m).foldl (vis ne) s) wr) (λ_ i _=>η x-(intOf i).toNat)
     case atStart=>exact⟨0,ω,rfl,R⟩
     case round=>
      clear R f1 ah az u ad g;obtain⟨m,hm,rfl,J⟩:=hrel;have u:=J.2.2;have ad:=u.size;have g:w.1.size<wr.1.size:=ω;have f0:=bC u L V;have f1:=bC u L W;have f2:=bC u L a8;have C:X0 _ (((tgts x).take m).foldl _ s):=Gc _ aP.o;by_cases aj:m<η x
      ·obtain⟨bb,oo,rfl,aR,U,_⟩:=vZ (ag.rd.below u ω) aj;have O:bb<wr.1.size:=ω;have X:=aao (n:=ne) aj s;generalize ((tgts x).take m).foldl _ s=s' at *;generalize x[m].op=y at *;obtain⟨HS,H,HO⟩:=iA X J C;have k0:0<=(m:Int):=ω;have k1:m<(η x:Int):=ω;clear X J V W a8 C;cases j:sG ne y
       ·obtain⟨D,Y⟩:=iw j (N7 (s:=s') j);clear j;go_wp2
        refine wp_region_held_drew (S:=λw'=>q9 w' _ 0 _/\q9 w' _ 1 _/\q9 w' _ 2 _/\q9 w' _ _ _) rfl ⟨f0,f1,f2,U⟩ (λhS=>?_);apply qU 0;apply qU 1;apply qU 2;apply qU 3;apply qU 4;apply qU 5;refine rR 6 (λK N=>?_);go_simp;apply (zP _ _ _ _ _ _ _ _ _ _ _).mono;rw[D.o];rintro e w2 ⟨rfl,z⟩;have d:Below wr.1.size _ _:=rF z;have af:=d.size;have I:=dh (H.below d);have p0:=bC d g f0;have p1:=bC d g f1;have p2:=bC d g f2;have p3:=bC d O U;go_wp2
        refine N _ _ ⟨p0,p1,p2,p3⟩ (λhS=>?_);clear N;apply qU 7;apply Gh 8;apply Gh 9;apply Gh 10;apply Gh 11;apply Gh 12;apply Gh 13;apply Gh 14;apply Gh 15;apply Gh 16;apply qU 17;refine wpAnyH_done rfl ?_ _;go_wp2
        go_roundw
        case rel=>exact⟨m+1,ω,by go_num,by rwa [HS.o,Y.o]⟩
        case measure=>simp[intOf];omega
       ·obtain⟨t,rfl,Z⟩:=rO j;have Q:t<η s'.1:=by rwa [HO.len]
        let⟨m0,m1,a1,aJ⟩:=RZ H.1 Z
        have l0:0<=(t:Int):=ω;have l1:t<(ne:Int):=ω;cases p:s'.1.getD t jE
        ·rw[p]at m0;obtain⟨Y,D⟩:=iw (TB j p Q) j;have aK:=HO.lt Z (by simp[θ,gE Q]at p⊢;exact p);clear j p;go_wp2
         refine wp_region_held_drew (S:=λw'=>q9 w' _ 0 _/\q9 w' _ 1 _/\q9 w' _ 2 _/\q9 w' _ _ _/\q9 w' q t _) rfl ⟨f0,f1,f2,U,m0⟩ (λhS=>?_);apply qU 0;apply qU 1;apply qU 2;apply qU 3;apply qU 4;apply qU 5;refine rR 6 (λK N=>?_);go_simp;apply (zP _ _ _ _ _ _ _ _ _ _ _).mono;rw[D.o];rintro e w2 ⟨rfl,z⟩;have d:Below wr.1.size _ _:=rF z;have af:=d.size;have I:=dh (H.below d);have p0:=bC d g f0;have p1:=bC d g f1;have p2:=bC d g f2;have p3:=bC d O U;have p4:=bC d a1 m0;go_wp2
         refine N _ _ ⟨p0,p1,p2,p3,p4⟩ (λhS=>?_);clear N;apply qU 7;apply qU 8;apply qU 9;apply qU 10;apply qU 11;apply qU 12;apply qU 13;apply qU 14;apply qU 15;apply qU 16;apply qU 17;refine wpAnyH_done rfl ?_ _;obtain⟨g1,g2,g3⟩:=Fz.mark (t:=t) I.o;have g4:=(I.1.frozenAt t);go_wp2_with (at_builtin;refine rD rfl (.tmp 95) (.tmp 101) 29 rfl w0.1.size 3 1 8 rW _ _ _ (g2.alloc _) rfl w2.1.size #[iY iZ (t:Int)] rfl (vL (by simp[jF.setCell])) rfl (by simp[Value.oneCell']) ω ω (by simp[jF.setCell];omega) ?_;intro v3 w3 F a6 a7 aw;have aL:=dh (Fz.open (t:=t) g1 g2 g3 rfl F a6);clear F a6 a7)
         go_roundw
         case rel=>exact⟨m+1,ω,by go_num,by rwa [HS.o,Y.o]⟩
         case measure=>simp[intOf];omega
        ·rw[p]at m0;obtain⟨Y,D⟩:=iw (TA (n:=ne) p Q) j;clear j p;go_wp2
         refine wp_region_held_drew (S:=λw'=>q9 w' _ 0 _/\q9 w' _ 1 _/\q9 w' _ 2 _/\q9 w' _ _ _/\q9 w' q t _) rfl ⟨f0,f1,f2,U,m0⟩ (λhS=>?_);apply qU 0;apply qU 1;apply qU 2;apply qU 3;apply qU 4;apply qU 5;refine rR 6 (λK N=>?_);go_simp;apply (zP _ _ _ _ _ _ _ _ _ _ _).mono;rw[D.o];rintro e w2 ⟨rfl,z⟩;have d:Below wr.1.size _ _:=rF z;have af:=d.size;have I:=dh (H.below d);have p0:=bC d g f0;have p1:=bC d g f1;have p2:=bC d g f2;have p3:=bC d O U;have p4:=bC d a1 m0;go_wp2
         refine N _ _ ⟨p0,p1,p2,p3,p4⟩ (λhS=>?_);clear N;apply qU 7;apply qU 8;apply qU 9;apply qU 10;apply qU 11;apply qU 12;apply qU 13;apply qU 14;apply qU 15;apply qU 16;apply qU 17;refine wpAnyH_done rfl ?_ _;go_wp2
         go_roundw
         case rel=>exact⟨m+1,ω,by go_num,by rwa [HS.o,Y.o]⟩
         case measure=>simp[intOf];omega
      ·rw[tL (by rw[tgts,jr];omega),<-aN.o]at J
       have aQ:k+1<=(Cc ne G.edges from_ (k+1)).2.length:=by
        obtain⟨r,hr⟩:=Vu (n:=ne) (E:=G.edges) (from_:=from_) k;rw[hr,lA,aO.o];omega
       have H:=dh J;go_wp2
       go_roundw
       case rel=>exact⟨_,by go_num,aQ,H.o⟩
       case measure=>simp[intOf];omega
    ·have aE:=PN hk ω;obtain⟨HE,H⟩:=iw aE J;go_wp2
     go_ret
     exact⟨_,rfl,by rw[HE.o];exact rC H.1 ω,ak.trans (u.mono ω),ς⟩
end
set_option maxHeartbeats 4000000
set_option maxRecDepth 100000
def ajr (w0:jF)(ni nl:Nat)(xi xl:List Value)(p:Value)(wF:jF):Prop:=
 ∃g AA cA AB cB,p=jH (jB ⟨g,0,jC⟩)/\wF.1[g]? =jB (jG #[iX AA ni cA,iX jC 0 0,iX AB nl cB] 63 (0,0))/\
  wF.ownsRow w0.1.size 3 1 (iX AA ni cA) ni xi/\wF.ownsRow w0.1.size 45 1 (iX AB nl cB) nl xl/\Below w0.1.size w0 wF/\w0.1.size<=g
section
variable (ai ae al:Option Addr)(ni ci ne ce nl cl:Nat)
theorem abx (G:iq)(w:jF)(B:Nat)(h:DW w B ai ni ci ae ne ce al nl cl G)(hB:B<=w.1.size)(hi:ni<=1000000000)(he:ne<=1000000000)(hl:nl<=1000000000)(K:Nat)(hr:∀l∈G.edges,η l<=K)(hK:ne*K<=1000000000)(_hK2:K<=1000000000):
  Calls jJ 95 #[.agg #[iX ai ni ci,iX ae ne ce,iX al nl cl]] w (agF w ⟨G.init,yI G.edges,G.labels⟩):=by
 obtain⟨L1,L2,L3⟩:=h.lens;obtain⟨wx,b9,aH,aJ,H,M,I⟩:=DJ w (iX ai ni ci) (iX ae ne ce) (iX al nl cl) 63;obtain⟨w0,aK,N,bc,bd,bh,bj⟩:=DJ wx (iX jC 0 0) (iX jC 0 0) (iX jC 0 0) 63;have aL:=aH.trans (N.mono ω);have H:=bC N ω H;have M:=bC N ω M;have I:=bC N ω I
 have aM:w0.1[w.1.size+1]? =jB (jG #[iX jC 0 0,iX jC 0 0,iX jC 0 0] 63 (0,0)):=by
  rw[aK,<-aJ];exact heap_alloc_new _ _
 have aN:(w.alloc (jG #[iX ai ni ci,iX ae ne ce,iX al nl cl] 63)).alloc (jG #[iX jC 0 0,iX jC 0 0,iX jC 0 0] 63)=w0:=γ;have ax:=dh aN;have q:w.1.size<w0.1.size:=ω;have ay:w.1.size+1<w0.1.size:=ω;obtain⟨bm,H1,H2,H3⟩:=iB aM L1 L2 L3;have h':=h.below aL hB;clear aK b9 L1 L2 L3 aN N aH bc aJ bd bh bj aM;have cm:Below w0.1.size w0 _:=Below.drew bR;have aO:B<=w0.1.size:=ω;have a1:∀(w':jF) (X Y) (o),((w'.alloc X).alloc Y).cell? _ =(w'.alloc X).cell? ⟨w'.1.size,o,jC⟩:=λw' X Y o=>jF.cell?_alloc_lt _ _ _ ς
 have aj:∀(w':jF) (X Y) (o),((w'.alloc X).alloc Y).frozen? _ =(w'.alloc X).frozen? ⟨w'.1.size,o,jC⟩:=λw' X Y o=>jF.frozen?_of_block (Below.heap_alloc _ _ _ ς)
 have aP:∀(w':jF) (X Y Z:Obj) (o:Nat),(((w'.alloc X).alloc Y).alloc Z).cell? ⟨w'.1.size,o,jC⟩=(w'.alloc X).cell? ⟨w'.1.size,o,jC⟩:=λw' X Y Z o=>(jF.cell?_alloc_lt _ _ _ (by simp;omega)).trans (a1 _ _ _ _)
 have aQ:∀(w':jF) (X Y Z) (o),(((w'.alloc X).alloc Y).alloc Z).frozen? _ =(w'.alloc X).frozen? ⟨_,o,_⟩:=λw' X Y Z o=>(jF.frozen?_of_block (Below.heap_alloc _ _ _ (by simp;omega))).trans (aj _ _ _ _)
 have bn:=run_make_row' (P:=jJ) 56 59 (iX jC 0 0) 24 Tryz.underlying56 Lg rfl iZ iZ ne ω ω;go_enter Tryz.func95,Tryz.ntmps95;go_upto_region 1 with fail
 rw[ax.o];go_cut [3]from 4 (λp wF=>ajr w0 ni nl (qO G.init) (G.labels.map (iY jA)) p wF)
 case first=>
  clear bn
  go_region_held3 (λw'=>w'.cell? ⟨w.1.size,0,jC⟩=jB (iX ai ni ci)/\w'.cell? ⟨w.1.size,2,jC⟩=jB (iX al nl cl))
   (first|((try dsimp only);(first|rw[adq,adq]|rw[Xi,Xi]);(first|(refine⟨?_,?_⟩<;>first|assumption|go_keep)|go_keep);all_goals omega)|((refine⟨(Below.cell ?_ q).trans H,(Below.cell ?_ q).trans I⟩)<;>(repeat (first|exact bR|exact s|exact C|refine yw (by first|omega|(simp;done)|(simp;omega)) ?_ |refine Below.drew ?_)))|(refine⟨?_,?_⟩<;>first|assumption|go_keep)|go_keep)
   (first
    |(refine RB rfl (.tmp 8) (.tmp 10) 29 rfl w0.1.size 3 1 8 rW _ rfl B ai ni ci (qO G.init) rfl (h'.hi.below (by repeat (first|exact bR|exact s|exact C|refine yw (by first|omega|(simp;done)|(simp;omega)) ?_ |refine Below.drew ?_)) aO) (Ga _) ω ω (by first|omega|(simp;done)|(simp;omega)) (by repeat (first|(with_reducible assumption)|((with_reducible refine vL ?_);focus (first|rfl|(simp;done)))|((with_reducible refine tH ?_ ?_);focus (first|omega|(simp;done)|(simp;omega)))|(with_reducible refine heap_drew ?_)|((with_reducible refine tK D ?_ ?_);focus (first|omega|(simp;done)|(simp;omega)))|((with_reducible refine tK E ?_ ?_);focus (first|omega|(simp;done)|(simp;omega)))|(with_reducible refine xB (a:=iX jC 0 0) (b:=iX jC 0 0) (c:=iX jC 0 0) ?_))) (by first|omega|(simp;done)|(simp;omega)) ?_;rintro vA T d E;(obtain⟨AA,cA,rfl,cp⟩:=qX d);have bp:=E.size;(try simp at bp);have s:Below w0.1.size w0 T:=Jj E (by first|omega|(simp;done)|(simp;omega)) (by repeat (first|exact bR|exact s|exact C|refine yw (by first|omega|(simp;done)|(simp;omega)) ?_ |refine Below.drew ?_));(try have bP:U.1.size<=T.1.size:=ω);(try have bQ:w0.1.size<T.1.size:=ω);(try have bS:w0.1.size+1<T.1.size:=ω);(try have bT:w0.1.size+2<T.1.size:=ω);(try have bU:U.1.size<T.1.size:=ω);(try have bV:U.1.size+1<T.1.size:=ω);have bW:w0.1.size<=T.1.size:=s.size;have k0:T.cell? ⟨w.1.size,0,jC⟩=jB (iX ai ni ci):=bC s q H;have k2:T.cell? ⟨w.1.size,2,jC⟩=jB (iX al nl cl):=bC s q I;(try have J:T.ownsRow w0.1.size _ 1 _ _ _:=own_below (by first|exact k|exact k.alloc _|exact(k.alloc _).alloc _|exact((k.alloc _).alloc _).alloc _) E);have aR:=d.lt;(try have az:=J.lt);obtain⟨bq,br⟩:=aa1 E)
    |(refine RB rfl (.tmp 12) (.tmp 14) 23 rfl w0.1.size 45 1 8 KI _ rfl B al nl cl (G.labels.map (iY jA)) rfl (h'.hl.below (by repeat (first|exact bR|exact s|exact C|refine yw (by first|omega|(simp;done)|(simp;omega)) ?_ |refine Below.drew ?_)) aO) (λu hu=>by obtain⟨x,_,rfl⟩:=jg.1 hu;rfl) ω ω (by first|omega|(simp;done)|(simp;omega)) (by repeat (first|(with_reducible assumption)|((with_reducible refine vL ?_);focus (first|rfl|(simp;done)))|((with_reducible refine tH ?_ ?_);focus (first|omega|(simp;done)|(simp;omega)))|(with_reducible refine heap_drew ?_)|((with_reducible refine tK D ?_ ?_);focus (first|omega|(simp;done)|(simp;omega)))|((with_reducible refine tK E ?_ ?_);focus (first|omega|(simp;done)|(simp;omega)))|(with_reducible refine xB (a:=iX jC 0 0) (b:=iX jC 0 0) (c:=iX jC 0 0) ?_))) (by first|omega|(simp;done)|(simp;omega)) ?_;rintro vB U k D;(obtain⟨AB,cB,rfl,cq⟩:=qX k);have bu:=D.size;(try simp at bu);have C:Below w0.1.size w0 U:=Jj D (by first|omega|(simp;done)|(simp;omega)) (by repeat (first|exact bR|exact s|exact C|refine yw (by first|omega|(simp;done)|(simp;omega)) ?_ |refine Below.drew ?_));(try have bX:T.1.size<=U.1.size:=ω);(try have bY:w0.1.size<U.1.size:=ω);(try have bZ:w0.1.size+1<U.1.size:=ω);(try have c4:w0.1.size+2<U.1.size:=ω);(try have c5:T.1.size<U.1.size:=ω);(try have c9:T.1.size+1<U.1.size:=ω);have ca:w0.1.size<=U.1.size:=C.size;have k0:U.cell? ⟨w.1.size,0,jC⟩=jB (iX ai ni ci):=bC C q H;have k2:U.cell? ⟨w.1.size,2,jC⟩=jB (iX al nl cl):=bC C q I;(try have L:U.ownsRow w0.1.size _ 1 _ _ _:=own_below (by first|exact d|exact d.alloc _|exact(d.alloc _).alloc _|exact((d.alloc _).alloc _).alloc _) D);have aS:=k.lt;(try have aA:=L.lt);obtain⟨bw,bz⟩:=aa1 D))
  all_goals
   clear bq br bw bz;go_wp2_with fail
   go_meet
   clear h h' ax H M I k0 k2 hr;apply Exists.intro;refine⟨AA,cA,AB,cB,?_⟩;refine⟨rfl,?_,?_,?_,?_,?_⟩
   ·repeat (first|(with_reducible assumption)|((with_reducible refine vL ?_);focus (first|rfl|(simp;done)))|((with_reducible refine tH ?_ ?_);focus (first|omega|(simp;done)|(simp;omega)))|(with_reducible refine heap_drew ?_)|((with_reducible refine tK D ?_ ?_);focus (first|omega|(simp;done)|(simp;omega)))|((with_reducible refine tK E ?_ ?_);focus (first|omega|(simp;done)|(simp;omega)))|(with_reducible refine xB (a:=iX jC 0 0) (b:=iX jC 0 0) (c:=iX jC 0 0) ?_))
   ·repeat (first|(with_reducible exact L)|(with_reducible exact d)|(with_reducible refine yF ?_)|((with_reducible refine EW ?_ ?_);focus (intro hk;first|(have:=aR _ hk;first|omega|(simp at this;done)|(simp at this;omega))|(have:=aA _ hk;first|omega|(simp at this;done)|(simp at this;omega))|(exact qQ (cs:=#[iX jC 0 0,iX jC 0 0,iX jC 0 0]) (t:=63) L (by repeat (first|(with_reducible assumption)|((with_reducible refine vL ?_);focus (first|rfl|(simp;done)))|((with_reducible refine tH ?_ ?_);focus (first|omega|(simp;done)|(simp;omega)))|(with_reducible refine heap_drew ?_)|((with_reducible refine tK D ?_ ?_);focus (first|omega|(simp;done)|(simp;omega)))|((with_reducible refine tK E ?_ ?_);focus (first|omega|(simp;done)|(simp;omega)))|(with_reducible refine xB (a:=iX jC 0 0) (b:=iX jC 0 0) (c:=iX jC 0 0) ?_))) δ hk)|(exact qQ (cs:=#[iX jC 0 0,iX jC 0 0,iX jC 0 0]) (t:=63) d (by repeat (first|(with_reducible assumption)|((with_reducible refine vL ?_);focus (first|rfl|(simp;done)))|((with_reducible refine tH ?_ ?_);focus (first|omega|(simp;done)|(simp;omega)))|(with_reducible refine heap_drew ?_)|((with_reducible refine tK D ?_ ?_);focus (first|omega|(simp;done)|(simp;omega)))|((with_reducible refine tK E ?_ ?_);focus (first|omega|(simp;done)|(simp;omega)))|(with_reducible refine xB (a:=iX jC 0 0) (b:=iX jC 0 0) (c:=iX jC 0 0) ?_))) δ hk))))
   ·repeat (first|(with_reducible exact J)|(with_reducible exact k)|(with_reducible refine yF ?_)|((with_reducible refine EW ?_ ?_);focus (intro hk;first|(have:=aS _ hk;first|omega|(simp at this;done)|(simp at this;omega))|(have:=az _ hk;first|omega|(simp at this;done)|(simp at this;omega))|(exact qQ (cs:=#[iX jC 0 0,iX jC 0 0,iX jC 0 0]) (t:=63) J (by repeat (first|(with_reducible assumption)|((with_reducible refine vL ?_);focus (first|rfl|(simp;done)))|((with_reducible refine tH ?_ ?_);focus (first|omega|(simp;done)|(simp;omega)))|(with_reducible refine heap_drew ?_)|((with_reducible refine tK D ?_ ?_);focus (first|omega|(simp;done)|(simp;omega)))|((with_reducible refine tK E ?_ ?_);focus (first|omega|(simp;done)|(simp;omega)))|(with_reducible refine xB (a:=iX jC 0 0) (b:=iX jC 0 0) (c:=iX jC 0 0) ?_))) δ hk)|(exact qQ (cs:=#[iX jC 0 0,iX jC 0 0,iX jC 0 0]) (t:=63) k (by repeat (first|(with_reducible assumption)|((with_reducible refine vL ?_);focus (first|rfl|(simp;done)))|((with_reducible refine tH ?_ ?_);focus (first|omega|(simp;done)|(simp;omega)))|(with_reducible refine heap_drew ?_)|((with_reducible refine tK D ?_ ?_);focus (first|omega|(simp;done)|(simp;omega)))|((with_reducible refine tK E ?_ ?_);focus (first|omega|(simp;done)|(simp;omega)))|(with_reducible refine xB (a:=iX jC 0 0) (b:=iX jC 0 0) (c:=iX jC 0 0) ?_))) δ hk))))
   ·repeat (first|(with_reducible exact C)|(with_reducible exact s)|(with_reducible exact bR)|((with_reducible refine yw ?_ ?_);focus (first|omega|(simp;done)|(simp;omega)))|((with_reducible refine DN ?_ ?_);focus (first|omega|(simp;done)|(simp;omega))))
   ·(first|omega|(simp;done)|(simp;omega))
 case rest=>
  obtain⟨g,AA,cA,AB,cB,rfl,hG,hA,aT,aB,hg⟩:=hcut;have f1:=bC aB q M;have O:=Ba.start hG hA aT aB he;have cr:=aB.size;clear ax a1 aj aP aQ hG hA aT;go_wp2
  clear f1;generalize wc.1.size=r at *;go_loopw [5] (λi wr=>∃a:Nat,a<=ne/\i=iY iZ a/\Ba w0 g r ni nl ne AA cA AB cB (qO G.init) (G.labels.map (iY jA)) (vN ne G.edges a) wr) (λi _=>ne-(intOf i).toNat)
  case atStart=>exact⟨0,ω,rfl,O⟩
  case round=>
   obtain⟨a,ha,rfl,O⟩:=hrel;obtain⟨wp,rfl⟩:∃wp,wp=wr:=⟨_,rfl⟩;have F:=O.choose_spec.2.2.2.2;have ct:=F.size;have e0:=bC F q H;have e1:=bC F q M;have e2:=bC F q I;by_cases bA:a<ne
   ·have a1:a<η G.edges:=by rwa [<-H2.o]
    obtain⟨b,o,A',n',c',rfl,cv,ak,ao⟩:=h'.he.at_ (Ej a1);have cw:=bC F ω ak;have hlen:=hr G.edges[a] (mM _);have bB:n'=G.edges[a].length:=by have:=ao.len;rw[uz]at this;omega
    have a6:=IE (n:=ne) hr a;have a7:vN ne G.edges (a+1)=G.edges[a].foldl (wJ ne a) (vN ne G.edges a):=by rw[vN,show G.edges.getD a _ =G.edges[a] by simp[θ,a1]]
    have cx:a*K+K<=1000000000:=by
     have:(a+1)*K<=ne*K:=mF _ bA;rw[oN]at this;omega
    generalize G.edges[a]=x at *;generalize vN _ _ a=R at *;subst bB;obtain⟨bE,bF⟩:=iw a7 a6;have aU:Ba _ g r _ _ _ _ _ _ _ _ _ ((x.take 0).foldl (wJ ne a) R) _:=O;clear a7 a6 O;go_wp2
    go_loopw [6] (λi wr=>∃m,m<=η x/\i=iY iZ m/\Ba w0 g r ni nl ne AA cA AB cB (qO G.init) (G.labels.map (iY jA)) ((x.take m).foldl (wJ ne a) R) wr) (λi _=>η x-(intOf i).toNat)
    case atStart=>exact⟨0,ω,rfl,aU⟩
    case round=>
     obtain⟨m,hm,rfl,O⟩:=hrel;have aq:=O.choose_spec.2.2.2.2;have cb:=bC aq ω ak;have cy:=bC aq q M;clear aU;by_cases ar:m<η x
     ·have a8:=O.choose_spec.2.2.2.2;obtain⟨bb,oo,rfl,cd,cz,cC⟩:=vZ (ao.rd.below a8 ω) ar;have aV:=OV (n:=ne) (a:=a) ar R
      have a6:∀t,η (((x.take m).foldl (wJ ne a) R).getD t [])<=a*K+m:=λt=>by
       have:=KD (n:=ne) (a:=a) (x.take m) bF t;rw[jq]at this;omega
      generalize (x.take m).foldl _ R=Q at *;generalize x[m]=e at *;obtain⟨op,act⟩:=e;dsimp at *;have cg:=a8.size;have cD:w.1.size<wr.1.size:=ω;have cE:=lt_of_block O.choose_spec.1;obtain⟨aW,bG⟩:=iw aV a6;have f0:=bC a8 q H;have f1:=bC a8 q M;have f2:=bC a8 q I;have V:=O.below ((Below.refl _ _).alloc lR (jG #[iY iZ op,iY iZ act] 61));obtain⟨aC,bH⟩:=iw V O;clear aV a6 O V e0 e1 e2 H M I;cases ad:sG ne op
      ·have af:=dh ad;clear ad;go_wp2_with fail
       apply (zP _ _ _ _ _ _ _ _ _ _ _).mono;rw[af.o];rintro e w2 ⟨rfl,W⟩;have cF:=dh (aC.below W);go_wp2
       go_roundw
       case rel=>exact⟨m+1,ω,by go_num,by rwa [aW.o,wJ,d9 (by rw[af.o];decide)]⟩
       case measure=>simp[intOf];omega
      ·obtain⟨t,rfl,cG⟩:=rO ad;have af:=dh ad;clear ad;go_wp2_with fail
       apply (zP _ _ _ _ _ _ _ _ _ _ _).mono;rw[af.o];rintro e w2 ⟨rfl,W⟩;have q0:=(W.cell (p:=⟨_,0,_⟩) ς).trans (jF.cell?_alloc_new _ _ _ _);have q1:=(W.cell (p:=⟨_,1,_⟩) ς).trans (jF.cell?_alloc_new _ _ _ _);simp at q0 q1;let⟨vs,s1,s2,s3,s4,s5⟩:=bH.o
       have ag:=((Below.refl _ _).alloc lR _).trans (W.mono ς);have t1:=(ag.block g (lt_of_block s1)).trans s1;have t2:=s2.below ag;have t3:=own_below s3 ag;have t4:=own_below s4 ag;have t5:=s5.trans (ag.mono s5.size);have au:=λj v (hv:vs[j]? =jB v)=>s2.Dk hv
       clear s1 s2 s3 s4 s5;let⟨⟨c0,c1,c2⟩,_,bI⟩:=EC t1
       have hQ:=t2.len';rw[jr]at hQ;have aD:t<η Q:=ω
       have aX:wJ ne a Q ⟨t,act⟩=Q.set t (Q[t]++[⟨a,act⟩]):=by
        rw[wJ,jd af.o];simp[θ,aD]
       let⟨u,n0,hu,ho⟩:=t2.row t (qP Q[t]) (by simp[aD])
       have aY:n0=Q[t].length:=by have:=ho.1;rw[uz]at this;omega
       have cH:n0<=a*K+m:=by have:=bG t;simp[θ,gE aD]at this;omega
       generalize Q[t]=y at *;obtain⟨Au,cu,rfl,cI⟩:=qX ho;have d0:=t2.cell hu;have d1:=t2.frozen t;have bJ:=(t2.main.lt r rfl).2;have cJ:wr.1.size<w2.1.size:=by have:=W.size;simp at this;omega
       have i0:0<=(t:Int):=ω;have i1:t<(ne:Int):=ω;have ch:wr.1.size+1<=w2.1.size:=ω;have av:∀g',(Value.slice _ _ _).ownBlock=jB _->g'≠wr.1.size:=λg' bK e=>by have:=(au t _ hu g' bK).2;omega
       clear au;obtain⟨HU,bL,HQ,cK,T1⟩:=iC hu aX hQ aY t1;have bM:=heap_alloc_new w2 (jG #[iY iZ a,iY iZ act] 61);clear hu aX hQ aY t1;go_wp2
       refine sM (S:=λw'=>w'.cell? _ =jB _/\w'.cell? _ =jB _/\w'.cell? _ =jB _) 15 rfl ⟨q0,q1,d0⟩ (λhS=>?_);apply rT 0;apply rT 1;apply rT 2;apply rT 3;apply rT 4;apply rT 5;apply rT 6;apply rT 7;apply rT 8;apply rT 9;apply rT 10;refine rT 11 ?_;refine qZ (i:=12) rfl κ δ (λK hK=>?_);go_simp;refine hK.out _ _ (by go_keep) (λhS=>?_);clear hK;refine qZ (i:=13) rfl κ δ (λK hK=>?_);refine su rfl (.tmp 57) (.tmp 62) 59 rfl w0.1.size 61 2 16 KJ _ _ _ (ho.alloc _) rfl w2.1.size #[iY iZ a,iY iZ act] rfl bM rfl (by simp[Value.oneCell']) ω ω (by simp;omega) ?_;intro u' w3 ah bN aZ cj;obtain⟨g',ck,rfl,_⟩:=sP ah ω;obtain⟨r1,r2,r3,r4,r5⟩:=Ba.grow (ys:=y++[⟨a,_⟩]) T1 t2 t3 t4 t5 rfl HU ho (by simpa[qP]using ah) (qW.OQ bN) aZ;have r6:=(r4 _ ω av 0).trans q0;have r7:=(r4 _ ω av 1).trans q1;refine hK _ _ ⟨r6,r7,r2⟩ (λhS=>?_);clear hK r4;apply rT 14;refine sN rfl κ rfl (λK hK=>?_);go_simp;apply hK.out;clear hK;go_wp2
       go_roundw
       case rel=>exact⟨m+1,ω,by go_num,by rwa [aW.o,bL.o]⟩
       case measure=>simp[intOf];omega
     ·have bO:m=η x:=ω;have V:=O;rw[tL ω,<-bE.o]at V;have aC:=dh V;clear O V bO;go_wp2
      go_roundw
      case rel=>exact⟨_,ω,by go_num,aC.o⟩
      case measure=>simp[intOf];omega
   ·have aE:a=ne:=ω;have aw:vN ne G.edges a=yI G.edges:=by rw[aE,yI,<-H2.o]
    rw[aw]at O;have b4:=Ba.close O hg;have aF:=dh b4;obtain⟨vs,s1,s2,s3,s4,s5⟩:=O;obtain⟨⟨c0,c1,c2⟩,⟨j0,j1,j2⟩,bI⟩:=EC s1;have b5:=(F.block _ ay).trans bm.o;have aG:(wp.setCell _ (iX (jB ⟨r,0,jC⟩) ne ne)).1[w.1.size+1]? =jB _:=(Below.heap_setCell _ ⟨g,1,jC⟩ _ _ (show w.1.size+1≠g by omega)).trans b5;obtain⟨⟨r0,r1,r2⟩,⟨p0,p1,p2⟩,bJ⟩:=EC aG;have HF:=dh (EC (xB (x:=iX AA ni cA) (y:=iX (jB ⟨r,0,jC⟩) ne ne) (z:=iX AB nl cB) aG)).1;have b6:=heap_setCell_same _ g 1 _ _ (iX (jB ⟨r,0,jC⟩) ne ne) s1;obtain⟨⟨d0,d1,d2⟩,_,_⟩:=EC (by rw[b6];rfl);have cL:=dh aE;have cM:w.1.size+1<g:=ω;clear s1 s2 s3 s4 aw aE b4 b5 aG b6;go_wp2
    refine bodyPost_ret (v:=.agg #[iX AA ni cA,iX (jB ⟨r,0,jC⟩) ne ne,iX AB nl cB]) ?_ rfl ?_
    ·obtain⟨f0,f1,f2⟩:=HF.o;simp[results,Tryz.results95,go_sem,f0,f1,f2]
    ·refine⟨_,_,_,_,_,_,_,_,_,rfl,?_,?_,?_⟩
     ·have:=CO.done (G:=⟨G.init,yI _,G.labels⟩) (x:=iX AA ni cA) (y:=iX (jB ⟨r,0,jC⟩) ne ne) (z:=iX AB nl cB) aF ay;apply this.up;simp[jF.setCell]
     ·exact DN ω (aL.trans (aF.choose_spec.2.2.2.2.mono ω))
     ·obtain⟨vs,ho⟩:=CO.air (x:=iX AA ni cA) (y:=iX (jB ⟨r,0,jC⟩) ne ne) (z:=iX AB nl cB) aF ay;exact⟨_,ho.PK ω⟩
end
set_option maxHeartbeats 4000000
set_option maxRecDepth 100000
section
variable (ai ae al:Option Addr)(ni ci ne ce nl cl:Nat)
theorem aby (G:iq)(w:jF)(B:Nat)(h:DW w B ai ni ci ae ne ce al nl cl G)(hB:B<=w.1.size)(hi:ni<=1000000000)(he:ne<=1000000000)(hl:nl<=17592186044416)(K:Nat)(hr:∀l∈G.edges,η l<=K)(hK:ne*K<=1000000000)(_hK2:K<=1000000000):
  Calls jJ 151 #[.agg #[iX ai ni ci,iX ae ne ce,iX al nl cl]] w (agF w ⟨G.init,yI G.edges,G.labels⟩):=by
 obtain⟨L1,L2,L3⟩:=h.lens;obtain⟨wx,aW,aD,aE,M,H,N⟩:=DJ w (iX ai ni ci) (iX ae ne ce) (iX al nl cl) 63;obtain⟨w0,aF,s,aX,aY,aZ,b4⟩:=DJ wx (iX jC 0 0) (iX jC 0 0) (iX jC 0 0) 63;have aG:=aD.trans (s.mono ω);have M:=bC s ω M;have H:=bC s ω H;have N:=bC s ω N
 have aH:w0.1[w.1.size+1]? =jB (jG #[iX jC 0 0,iX jC 0 0,iX jC 0 0] 63 (0,0)):=by
  rw[aF,<-aE];exact heap_alloc_new _ _
 have aJ:(w.alloc (jG #[iX ai ni ci,iX ae ne ce,iX al nl cl] 63)).alloc (jG #[iX jC 0 0,iX jC 0 0,iX jC 0 0] 63)=w0:=γ;have ax:=dh aJ;have I:w.1.size<w0.1.size:=ω;have af:w.1.size+1<w0.1.size:=ω;obtain⟨aK,H1,H2,H3⟩:=iB aH L1 L2 L3;have h':=h.below aG hB;clear aF aW L1 L2 L3 aJ s aD aX aE aY aZ b4 aH;have aL:=run_make_row' (P:=jJ) 56 59 (iX jC 0 0) 24 Tryz.underlying56 Lg rfl iZ iZ ne ω ω;have aM:=λ(w':jF) (hb:Below w0.1.size w0 w')=>CJ ai ni ci (qO G.init) w' B (h'.hi.below hb ω) (Ga _) (by have:=hb.size;omega) ω
 have aN:=λw' (hb:Below w0.1.size _ _)=>ZV _ _ _ _ w' B (h'.hl.below hb ω) (λu hu=>by obtain⟨x,_,rfl⟩:=jg.1 hu;rfl) (by have:=hb.size;omega) ω
 obtain⟨ay,az⟩:=iw aM aN;clear aM aN;have T:∀(w':jF) (X Y) (o),((w'.alloc X).alloc Y).cell? _ =(w'.alloc X).cell? ⟨w'.1.size,o,jC⟩:=λw' X Y o=>jF.cell?_alloc_lt _ _ _ ς
 have aj:∀(w':jF) (X Y) (o),((w'.alloc X).alloc Y).frozen? _ =(w'.alloc X).frozen? ⟨w'.1.size,o,jC⟩:=λw' X Y o=>jF.frozen?_of_block (Below.heap_alloc _ _ _ ς)
 go_enter Tryz.func151,Tryz.ntmps151;go_upto_region 1 with fail
 rw[ax.o];go_cut [3]from 4 (λp wF=>agz w0 ni nl ne (qO G.init) (G.labels.map (iY jA)) p wF)
 case first=>
  go_region_held3 (λw'=>w'.cell? ⟨w.1.size,0,jC⟩=jB (iX ai ni ci)/\w'.cell? ⟨w.1.size,1,jC⟩=jB (iX ae ne ce)/\w'.cell? ⟨w.1.size,2,jC⟩=jB (iX al nl cl))
   (first|((try dsimp only);(first|rw[adq,adq,adq]|rw[Xi,Xi,Xi]);(first|(refine⟨?_,?_,?_⟩<;>first|assumption|go_keep)|go_keep);all_goals omega)|go_keep)
   (first
    |(go_at_call 98;refine Calls.mono (ay _ (by repeat (first|exact bR|exact C|exact D|refine yw (by first|omega|(simp;done)|(simp;omega)) ?_ |refine Below.drew ?_))) ?_;rintro e wA ⟨vA,rfl,J,E,_⟩;(obtain⟨AA,cA,rfl,bU⟩:=qX J);have b5:=E.size;(try simp at b5);(try have bG:w0.1.size<wA.1.size:=ω);(try have bH:w0.1.size+1<wA.1.size:=ω);have bI:w0.1.size<=wA.1.size:=ω;have k0:wA.cell? ⟨w.1.size,0,jC⟩=jB (iX ai ni ci):=(E.cell (p:=⟨w.1.size,0,jC⟩) (by simp;omega)).trans (by go_keep);have k1:wA.cell? ⟨w.1.size,1,jC⟩=jB (iX ae ne ce):=(E.cell (p:=⟨w.1.size,1,jC⟩) (by simp;omega)).trans (by go_keep);have k2:wA.cell? ⟨w.1.size,2,jC⟩=jB (iX al nl cl):=(E.cell (p:=⟨w.1.size,2,jC⟩) (by simp;omega)).trans (by go_keep);have C:Below w0.1.size w0 wA:=Jj E (by first|omega|(simp;done)|(simp;omega)) (by repeat (first|exact bR|exact C|exact D|refine yw (by first|omega|(simp;done)|(simp;omega)) ?_ |refine Below.drew ?_));have k:wA.ownsRow w0.1.size 3 1 _ _ _:=rC J (by first|omega|(simp;done)|(simp;omega));have ak:=J.lt;(try simp only[jF.size_alloc,jF.drew]at ak);obtain⟨b6,b9⟩:=aa1 E)
    |(go_at_call 167;refine Calls.mono (az _ (by repeat (first|exact bR|exact C|exact D|refine yw (by first|omega|(simp;done)|(simp;omega)) ?_ |refine Below.drew ?_))) ?_;rintro e U ⟨vB,rfl,L,q,_⟩;(obtain⟨AB,cB,rfl,bV⟩:=qX L);have bc:=q.size;(try simp at bc);(try have bJ:wA.1.size<U.1.size:=ω);(try have bK:wA.1.size+1<U.1.size:=ω);have bL:w0.1.size<=U.1.size:=ω;(try have bM:w0.1.size+1<U.1.size:=ω);(try have bN:w0.1.size<U.1.size:=ω);have k0:U.cell? ⟨w.1.size,0,jC⟩=jB (iX ai ni ci):=(q.cell (p:=⟨w.1.size,0,jC⟩) (by simp;omega)).trans (by go_keep);have k1:U.cell? ⟨w.1.size,1,jC⟩=jB (iX ae ne ce):=(q.cell (p:=⟨w.1.size,1,jC⟩) (by simp;omega)).trans (by go_keep);have k2:U.cell? ⟨w.1.size,2,jC⟩=jB (iX al nl cl):=(q.cell (p:=⟨w.1.size,2,jC⟩) (by simp;omega)).trans (by go_keep);have D:Below w0.1.size w0 U:=Jj q (by first|omega|(simp;done)|(simp;omega)) (by repeat (first|exact bR|exact C|exact D|refine yw (by first|omega|(simp;done)|(simp;omega)) ?_ |refine Below.drew ?_));have ag:U.ownsRow w0.1.size 45 1 _ _ _:=rC L (by first|omega|(simp;done)|(simp;omega));(try have ah:U.ownsRow w0.1.size 3 1 _ _ _:=own_below (by first|exact k|exact k.alloc _|exact(k.alloc _).alloc _) q);have ao:=L.lt;(try simp only[jF.size_alloc]at ao);obtain⟨bd,bh⟩:=aa1 q))
  all_goals
   clear b6 b9 bd bh;go_wp2_with fail
   go_meet
   clear ay az aL T aj h h' ax M H N k0 k1 k2 hr;apply Exists.intro;refine⟨AA,cA,AB,cB,?_⟩;apply Exists.intro;refine⟨rfl,?_,?_,?_,?_,?_,?_,?_,?_⟩
   ·repeat (first|((with_reducible refine vL ?_);focus (first|rfl|(simp;done)))|((with_reducible refine tH ?_ ?_);focus (first|omega|(simp;done)|(simp;omega)))|(with_reducible refine heap_drew ?_)|((with_reducible refine tK q ?_ ?_);focus (first|omega|(simp;done)|(simp;omega)))|((with_reducible refine tK E ?_ ?_);focus (first|omega|(simp;done)|(simp;omega)))|(with_reducible refine xB (a:=iX jC 0 0) (b:=iX jC 0 0) (c:=iX jC 0 0) ?_))
   ·repeat (first|((with_reducible refine vL ?_);focus (first|rfl|(simp;done)))|((with_reducible refine tH ?_ ?_);focus (first|omega|(simp;done)|(simp;omega)))|(with_reducible refine heap_drew ?_)|((with_reducible refine tK q ?_ ?_);focus (first|omega|(simp;done)|(simp;omega)))|((with_reducible refine tK E ?_ ?_);focus (first|omega|(simp;done)|(simp;omega)))|((with_reducible refine Zz ?_ ?_);focus (first|omega|(simp;done)|(simp;omega))))
   ·repeat (first|(with_reducible exact ah)|(with_reducible refine yF ?_)|((with_reducible refine EW ?_ ?_);focus (intro hk;have:=ak _ hk;first|omega|(simp at this;done)|(simp at this;omega))))
   ·repeat (first|(with_reducible exact ag)|(with_reducible refine yF ?_)|((with_reducible refine EW ?_ ?_);focus (intro hk;have:=ao _ hk;first|omega|(simp at this;done)|(simp at this;omega))))
   ·repeat (first|(with_reducible exact D)|(with_reducible exact C)|((with_reducible refine yw ?_ ?_);focus (first|omega|(simp;done)|(simp;omega)))|((with_reducible refine DN ?_ ?_);focus (first|omega|(simp;done)|(simp;omega))))
   ·(first|omega|(simp;done)|(simp;omega))
   ·(first|omega|(simp;done)|(simp;omega))
   ·(first|omega|(simp;done)|(simp;omega))
 case rest=>
  obtain⟨g,r,AA,cA,AB,cB,rfl,hg,F⟩:=CO.start hcut ω;have bj:=F.choose_spec.2.2.2.2;have f1:=bC bj I H;clear hcut ay az aL T aj ax;go_wp2
  clear f1;go_loopw [22] (λi wr=>∃a,a<=ne/\i=iY iZ a/\CO w0 g r ni nl ne AA cA AB cB (qO G.init) (G.labels.map (iY jA)) (vN ne G.edges a) wr) (λi _=>ne-(intOf i).toNat)
  case atStart=>exact⟨0,ω,rfl,F⟩
  case round=>
   obtain⟨a,ha,rfl,F⟩:=hrel;obtain⟨wp,rfl⟩:∃wp,wp=wr:=⟨_,rfl⟩;have d:=F.choose_spec.2.2.2.2;have bW:=d.size;have e0:=bC d I M;have e1:=bC d I H;have e2:=bC d I N;by_cases bm:a<ne
   ·have T:a<η G.edges:=by rwa [<-H2.o]
    obtain⟨b,o,A',n',c',rfl,bX,aO,aq⟩:=h'.he.at_ (Ej T);have bY:=bC d ω aO;have hlen:=hr G.edges[a] (mM _);have bn:n'=G.edges[a].length:=by have:=aq.len;rw[uz]at this;omega
    have V:=IE (n:=ne) hr a;have W:vN ne G.edges (a+1)=G.edges[a].foldl (wJ ne a) (vN ne G.edges a):=by rw[vN,show G.edges.getD a _ =G.edges[a] by simp[θ,T]]
    have bZ:a*K+K<=1000000000:=by
     have:(a+1)*K<=ne*K:=mF _ bm;rw[oN]at this;omega
    generalize G.edges[a]=x at *;generalize vN _ _ a=R at *;subst bn;obtain⟨bp,bq⟩:=iw W V;have aP:CO _ g r _ _ _ _ _ _ _ _ _ ((x.take 0).foldl (wJ ne a) R) _:=F;clear W V F;go_wp2
    go_loopw [29] (λi wr=>∃m,m<=η x/\i=iY iZ m/\CO w0 g r ni nl ne AA cA AB cB (qO G.init) (G.labels.map (iY jA)) ((x.take m).foldl (wJ ne a) R) wr) (λi _=>η x-(intOf i).toNat)
    case atStart=>exact⟨0,ω,rfl,aP⟩
    case round=>
     obtain⟨m,hm,rfl,F⟩:=hrel;clear aP;by_cases ar:m<η x
     ·have Z:=F.choose_spec.2.2.2.2;obtain⟨bb,oo,rfl,bO,c4,c5⟩:=vZ (aq.rd.below Z ω) ar;have aQ:=OV (n:=ne) (a:=a) ar R
      have V:∀t,η (((x.take m).foldl (wJ ne a) R).getD t [])<=a*K+m:=λt=>by
       have:=KD (n:=ne) (a:=a) (x.take m) bq t;rw[jq]at this;omega
      generalize (x.take m).foldl _ R=Q at *;generalize x[m]=e at *;obtain⟨op,act⟩:=e;dsimp at *;have bP:=Z.size;have c9:w.1.size<wr.1.size:=ω;have ca:=lt_of_block F.choose_spec.1;obtain⟨aR,br⟩:=iw aQ V;have f0:=bC Z I M;have f1:=bC Z I H;have f2:=bC Z I N;have a1:=F.below ((Below.refl _ _).alloc lR (jG #[iY iZ op,iY iZ act] 61));obtain⟨aA,bu⟩:=iw a1 F;clear aQ V F a1 e0 e1 e2 M H N;cases a6:sG ne op
      ·have a7:=dh a6;clear a6;go_wp2_with fail
       apply (Wn _ _ _ _ _ _ _ _ _ _ _).mono;rw[a7.o];rintro e w2 ⟨rfl,O⟩;have cb:=dh (aA.below O);go_wp2
       go_roundw
       case rel=>exact⟨m+1,ω,by go_num,by rwa [aR.o,wJ,d9 (by rw[a7.o];decide)]⟩
       case measure=>simp[intOf];omega
      ·obtain⟨t,rfl,cd⟩:=rO a6;have a7:=dh a6;clear a6;go_wp2_with fail
       apply (Wn _ _ _ _ _ _ _ _ _ _ _).mono;rw[a7.o];rintro e w2 ⟨rfl,O⟩;have q0:=(O.cell (p:=⟨_,0,_⟩) ς).trans (jF.cell?_alloc_new _ _ _ _);have q1:=(O.cell (p:=⟨_,1,_⟩) ς).trans (jF.cell?_alloc_new _ _ _ _);simp at q0 q1;let⟨vs,s1,s2,s3,s4,s5⟩:=bu.o
       have a8:=((Below.refl _ _).alloc lR _).trans (O.mono ς);have t1:=(a8.block g (lt_of_block s1)).trans s1;have t2:=s2.below a8;have t3:=own_below s3 a8;have t4:=own_below s4 a8;have t5:=s5.trans (a8.mono s5.size);have au:=λj v (hv:vs[j]? =jB v)=>s2.Dk hv
       clear s1 s2 s3 s4 s5;let⟨⟨c0,c1,c2⟩,_,bw⟩:=EC t1
       have hQ:=t2.len';rw[jr]at hQ;have aB:t<η Q:=ω
       have aS:wJ ne a Q ⟨t,act⟩=Q.set t (Q[t]++[⟨a,act⟩]):=by
        rw[wJ,jd a7.o];simp[θ,aB]
       let⟨u,n0,hu,ho⟩:=t2.row t (qP Q[t]) (by simp[aB])
       have aT:n0=Q[t].length:=by have:=ho.1;rw[uz]at this;omega
       have cg:n0<=a*K+m:=by have:=br t;simp[θ,gE aB]at this;omega
       generalize Q[t]=y at *;obtain⟨Au,cu,rfl,ch⟩:=qX ho;have d0:=t2.cell hu;have d1:=t2.frozen t;have bz:=(t2.main.lt r rfl).2;have cj:wr.1.size<w2.1.size:=by have:=O.size;simp at this;omega
       have i0:0<=(t:Int):=ω;have i1:t<(ne:Int):=ω;have bQ:wr.1.size+1<=w2.1.size:=ω;have av:∀g',(Value.slice _ _ _).ownBlock=jB _->g'≠wr.1.size:=λg' bA e=>by have:=(au t _ hu g' bA).2;omega
       clear au;obtain⟨HU,bB,HQ,ck,T1⟩:=iC hu aS hQ aT t1;have bE:=heap_alloc_new w2 (jG #[iY iZ a,iY iZ act] 61);clear hu aS hQ aT t1;go_wp2
       refine sM (S:=λw'=>w'.cell? _ =jB _/\w'.cell? _ =jB _/\w'.cell? _ =jB _/\w'.cell? _ =jB _) 17 rfl ⟨c1,q0,q1,d0⟩ (λhS=>?_);apply rT 0;apply rT 1;apply rT 2;apply rT 3;apply rT 4;apply rT 5;apply rT 6;apply rT 7;apply rT 8;apply rT 9;apply rT 10;apply rT 11;apply rT 12;refine rT 13 ?_;refine qZ (i:=14) rfl κ δ (λK hK=>?_);go_simp;refine hK.out _ _ (by go_keep) (λhS=>?_);clear hK;refine qZ (i:=15) rfl κ δ (λK hK=>?_);refine su rfl _ _ _ rfl _ _ 2 _ KJ _ _ _ (ho.alloc _) rfl _ _ rfl bE rfl (by simp[Value.oneCell']) ω ω (by simp;omega) ?_;intro u' w3 ad bF aU bS;obtain⟨g',bT,rfl,_⟩:=sP ad ω;obtain⟨r1,r2,r3,r4,r5⟩:=CO.grow (ys:=y++[⟨a,_⟩]) T1 t2 t3 t4 t5 rfl HU ho (by simpa[qP]using ad) (qW.OQ bF) aU;have r6:=(r4 _ ω av 0).trans q0;have r7:=(r4 _ ω av 1).trans q1;refine hK _ _ ⟨r1,r6,r7,r2⟩ (λhS=>?_);clear hK r4;apply rT 16;refine sN rfl κ rfl (λK hK=>?_);go_simp;apply hK.out;clear hK;go_wp2
       go_roundw
       case rel=>exact⟨m+1,ω,by go_num,by rwa [aR.o,bB.o]⟩
       case measure=>simp[intOf];omega
     ·have a1:=F;rw[tL ω,<-bp.o]at a1;have aA:=dh a1;go_wp2
      go_roundw
      case rel=>exact⟨_,ω,by go_num,aA.o⟩
      case measure=>simp[intOf];omega
   ·have aC:a=ne:=ω;have aw:vN ne G.edges a=yI G.edges:=by rw[aC,yI,<-H2.o]
    rw[aw]at F;have aV:=dh F;obtain⟨vs,s1,s2,s3,s4,s5⟩:=F;let⟨⟨c0,c1,c2⟩,_,bw⟩:=EC s1
    obtain⟨⟨r0,r1,r2⟩,⟨p0,p1,p2⟩,bz⟩:=EC ((d.block _ af).trans aK.o);obtain⟨HF,cm⟩:=iw ((EC (xB (x:=iX AA ni cA) (y:=iX (jB ⟨r,0,jC⟩) ne ne) (z:=iX AB nl cB) ((d.block _ af).trans aK.o))).1) aC;have cp:w.1.size+1<g:=ω;clear s1 s2 s3 s4 aw aC;go_wp2
    refine bodyPost_ret (v:=.agg #[iX AA ni cA,iX (jB ⟨r,0,jC⟩) ne ne,iX AB nl cB]) ?_ rfl ?_
    ·obtain⟨f0,f1,f2⟩:=HF.o;simp[results,Tryz.results151,go_sem,f0,f1,f2]
    ·refine⟨_,_,_,_,_,_,_,_,_,rfl,?_,?_,?_⟩
     ·have:=CO.done (G:=⟨G.init,yI _,G.labels⟩) (x:=iX AA ni cA) (y:=iX (jB ⟨r,0,jC⟩) ne ne) (z:=iX AB nl cB) aV af;apply this.up;simp[jF.setCell]
     ·exact DN ω (aG.trans (d.mono ω))
     ·obtain⟨vs,ho⟩:=CO.air (x:=iX AA ni cA) (y:=iX (jB ⟨r,0,jC⟩) ne ne) (z:=iX AB nl cB) aV af;exact⟨_,ho.PK ω⟩
end
set_option maxHeartbeats 1000000
def Ij (n:Nat)(E:List (List Nd))(goal:List Bool):List Bool:=yE n (yI E) (xC n goal)
theorem Vh {K:Nat}(a:∀l∈E,η l<=K)(h:η E*K<=1000000000):∀l∈yI E,η l<=1000000000:=by
 intro l hl;obtain⟨t,b,rfl⟩:=List.getElem_of_mem hl;have:=IE (n:=η E) a (η E) t
 have e:(vN (η E) E (η E)).getD t []=(yI E)[t]:=by
  show(yI E).getD t []= _;simp[θ,b]
 rw[e]at this;omega
theorem Qn (n goal):η (xC n goal)<=n:=by
 rw[xC,jr];exact Nat.le_trans (jO _ _) (by simp;omega)
section
variable (ai ae al:Option Addr)(ni ci ne ce nl cl:Nat)
theorem adA (G:iq)(goal:List Bool)(A:Option Addr)(n c:Nat)(w:jF)(B:Nat)(h:DW w B ai ni ci ae ne ce al nl cl G)(hs:Sl w B 1 A n c (goal.map .bool))(X:n=η goal)(P:B<=w.1.size)(hi:ni<=1000000000)(he:ne<=65536)(hl:nl<=17592186044416)(Y:n<=1000000000)(KE:Nat)(Q:∀l∈G.edges,η l<=KE)(u:ne*KE<=1000000000)(D:KE<=1000000000):
  Calls jJ 123 #[.agg #[iX ai ni ci,iX ae ne ce,iX al nl cl],iX A n c] w (sI w 4 1 ne ((Ij ne G.edges goal).map .bool) False):=by
 subst X;obtain⟨w0,x,m,E,p,q,r⟩:=DJ w (iX ai ni ci) (iX ae ne ce) (iX al nl cl) 63;have F:=dh x;have Z:=h.below m P;have H:=hs.below m P;have b:w.1.size<w0.1.size:=ω;have L2:=h.lens.2.1;have I:=Vh Q (by rw[<-L2];exact u);have J:=dh L2;have hu:Ij ne G.edges goal=yE ne (yI G.edges) (xC ne goal):=rfl;rw[hu];clear x E h hs L2 hu;go_enter Tryz.func123,Tryz.ntmps123;go_wp2_with fail
 rw[<-F.o];refine wp_region_held_drew (S:=λw'=>q9 w' w.1.size 0 (iX ai ni ci)/\q9 w' w.1.size 1 (iX ae ne ce)/\q9 w' w.1.size 2 (iX al nl cl)) κ ⟨p,q,r⟩ (λhS=>?_);refine qU 0 ?_;refine qU 2 ?_;refine qU 3 ?_;refine rR 1 (λK j=>?_);go_simp;refine((aby ai ae al ni ci ne ce nl cl G _ B (Z.below (Below.drew bR) ω) (by show B<=w0.1.size;omega) hi ω hl KE Q u D)).mono ?_;rintro e R ⟨bi,mi,di,be,T,de,bl,ml,dl,rfl,hG,a,_⟩;have d:Below w0.1.size w0 R:=rF a;have p0:=bC d b p;have p1:=bC d b q;have p2:=bC d b r;have a1:=d.size;clear a;go_wp2_with fail
 refine j _ _ ⟨p0,p1,p2⟩ (λhS=>?_);clear j;refine rR 4 (λK j=>?_);go_simp;refine(ade ai ae al ni ci ne ce nl cl A _ c (min (η goal) ne) rfl goal _ B rfl (H.below d ω) ω ω ω).mono ?_;rintro e L ⟨vg,rfl,y,a,_⟩;obtain⟨Ag,cg,rfl,M⟩:=qX y;have g:=d.trans (a.mono ω);have U:=bC g b p;have V:=bC g b q;have W:=bC g b r;have a6:=g.size;have z:=(hG.below a lR).up (show R.1.size<=L.1.size by have:=a.size;omega);have N:=M;clear a;go_wp2_with fail
 refine j _ _ ⟨U,V,W⟩ (λhS=>?_);clear j;refine rR 5 (λK j=>?_);go_simp;have C:T=ne:=by have h1:=z.lens.2.1;have h2:=J.o;simp only[Rs]at h1;omega
 refine(PL bi be bl mi di T de ml dl ⟨G.init,yI G.edges,G.labels⟩ (xC ne goal) Ag _ cg L L.1.size z N rfl lR (by rw[C];exact he) (by have:=Qn ne goal;omega) I).mono ?_;rw[C];rintro e wC ⟨v,rfl,s,i,k⟩;go_wp2_with fail
 have s0:=bC i ω U;have s1:=bC i ω V;have s2:=bC i ω W;have O:=dh k;clear k;refine j _ _ ⟨s0,s1,s2⟩ (λhS=>?_);clear j;refine qU 6 ?_;refine wpAnyH_done κ ?_ _;go_wp2
 go_ret
 exact⟨v,rfl,rC s ω,(m.trans (g.mono ω)).trans (i.mono ω),O.o⟩
theorem adz (G:iq)(goal:List Bool)(A:Option Addr)(n c:Nat)(w:jF)(B:Nat)(h:DW w B ai ni ci ae ne ce al nl cl G)(hs:Sl w B 1 A n c (goal.map .bool))(X:n=η goal)(P:B<=w.1.size)(hi:ni<=1000000000)(he:ne<=65536)(hl:nl<=1000000000)(Y:n<=1000000000)(KE:Nat)(Q:∀l∈G.edges,η l<=KE)(u:ne*KE<=1000000000)(D:KE<=1000000000):
  Calls jJ 58 #[.agg #[iX ai ni ci,iX ae ne ce,iX al nl cl],iX A n c] w (sI w 4 1 ne ((Ij ne G.edges goal).map .bool) False):=by
 subst X;obtain⟨w0,x,m,E,p,q,r⟩:=DJ w (iX ai ni ci) (iX ae ne ce) (iX al nl cl) 63;have F:=dh x;have Z:=h.below m P;have H:=hs.below m P;have b:w.1.size<w0.1.size:=ω;have L2:=h.lens.2.1;have I:=Vh Q (by rw[<-L2];exact u);have J:=dh L2;have hu:Ij ne G.edges goal=yE ne (yI G.edges) (xC ne goal):=rfl;rw[hu];clear x E h hs L2 hu;go_enter Tryz.func58,Tryz.ntmps58;go_wp2_with fail
 rw[<-F.o];refine wp_region_held_drew (S:=λw'=>q9 w' w.1.size 0 (iX ai ni ci)/\q9 w' w.1.size 1 (iX ae ne ce)/\q9 w' w.1.size 2 (iX al nl cl)) κ ⟨p,q,r⟩ (λhS=>?_);refine qU 0 ?_;refine qU 2 ?_;refine qU 3 ?_;refine rR 1 (λK j=>?_);go_simp;refine((abx ai ae al ni ci ne ce nl cl G _ B (Z.below (Below.drew bR) ω) (by show B<=w0.1.size;omega) hi ω hl KE Q u D)).mono ?_;rintro e R ⟨bi,mi,di,be,T,de,bl,ml,dl,rfl,hG,a,_⟩;have d:Below w0.1.size w0 R:=rF a;have p0:=bC d b p;have p1:=bC d b q;have p2:=bC d b r;have a1:=d.size;clear a;go_wp2_with fail
 refine j _ _ ⟨p0,p1,p2⟩ (λhS=>?_);clear j;refine rR 4 (λK j=>?_);go_simp;refine(ZB ai ae al ni ci ne ce nl cl A _ c goal _ B rfl (H.below d ω) ω ω ω).mono ?_;rintro e L ⟨vg,rfl,y,a,_⟩;obtain⟨Ag,cg,rfl,M⟩:=qX y;have g:=d.trans (a.mono ω);have U:=bC g b p;have V:=bC g b q;have W:=bC g b r;have a6:=g.size;have z:=(hG.below a lR).up (show R.1.size<=L.1.size by have:=a.size;omega);have N:=M;clear a;go_wp2_with fail
 refine j _ _ ⟨U,V,W⟩ (λhS=>?_);clear j;refine rR 5 (λK j=>?_);go_simp;have C:T=ne:=by have h1:=z.lens.2.1;have h2:=J.o;simp only[Rs]at h1;omega
 refine(YJ bi be bl mi di T de ml dl ⟨G.init,yI G.edges,G.labels⟩ (xC ne goal) Ag _ cg L L.1.size z N rfl lR (by rw[C];omega) (by have:=Qn ne goal;omega) I).mono ?_;rw[C];rintro e wC ⟨v,rfl,s,i,k⟩;go_wp2_with fail
 have s0:=bC i ω U;have s1:=bC i ω V;have s2:=bC i ω W;have O:=dh k;clear k;refine j _ _ ⟨s0,s1,s2⟩ (λhS=>?_);clear j;refine qU 6 ?_;refine wpAnyH_done κ ?_ _;go_wp2
 go_ret
 exact⟨v,rfl,rC s ω,(m.trans (g.mono ω)).trans (i.mono ω),O.o⟩
end
set_option maxHeartbeats 4000000
set_option maxRecDepth 100000
def Eo (w0:jF)(r ne:Nat)(R:List (List Nd))(wr:jF):Prop:=
 ∃vs,Own2 wr w0.1.size 61 59 2 (iX (jB ⟨r,0,jC⟩) ne ne) (R.map qP) vs/\Below w0.1.size w0 wr
theorem Eo.below (h:Eo w0 r ne R w)(hb:Below w.1.size w w'):Eo w0 r ne R w':=by
 obtain⟨vs,b,a⟩:=h;exact⟨_,b.below hb,a.trans (hb.mono a.size)⟩
theorem Eo.start (a:ne<=1000000000):Eo w0 w0.1.size ne (ρ ne []) (w0.alloc (jG (madeCells #[iX jC 0 0] ne) 59)):=by
 refine⟨ρ ne (iX jC 0 0),?_,yw lR bR⟩;rw[nH,show qP _ =[]from rfl];have hm:(madeCells _ _).toList=ρ ne (iX jC 0 0):=toList_madeCells_one _ _;have hs:=by have:=jM List.length hm;simpa using this
 refine Own2.fresh ⟨ς,.inr ⟨_,_,_,rfl,lR,heap_alloc_new _ _,lR,by unfold maxLen;omega,ω,?_⟩⟩
 grind
theorem Eo.grow {w1 w2:jF}{n':Nat}{u u':Value}{vs ys0:List Value}{ys:List Nd}{o:Obj}
  (f:Own2 w w0.1.size 61 59 2 (iX (jB ⟨r,0,jC⟩) ne ne) (R.map qP) vs)
  (l:Below w0.1.size w0 w)(hw:w1=w.alloc o)(hu:vs[t]? =jB u)(i:w.ownsRow w0.1.size 61 2 u n ys0)
  (j:w2.ownsRow w0.1.size 61 2 u' n' (qP ys))(x:qW (λk=>u.ownBlock=jB k) w1 w2)(m:u'.ownBlock=u.ownBlock\/u'.ownBlock=jB w1.1.size):
  w2.cell? ⟨r,t,jC⟩=jB u/\w2.frozen? ⟨r,t,jC⟩=jE/\(∀b,b<w.1.size->(∀g,u.ownBlock=jB g->g≠b)->∀o,w2.cell? ⟨b,o,jC⟩=w.cell? ⟨b,o,jC⟩)/\
   Eo w0 r ne (R.set t ys) (w2.setCell ⟨r,t,jC⟩ u'):=by
 subst hw;have c:=qW.trans ((qW.refl _ w).alloc _) x (λ_ _ h=>h)
 obtain⟨y,z⟩:=f.put (te:=61) (tr:=59) δ hu l.size j c (λg' d=>by
  rcases m with h|h
  ·exact .inl (h▸d)
  ·rw[h]at d;cases d;exact .inr ς)
 have hm:=qR f.main c (λk v p=>own_ne i f.main δ k p v);have hl:=f.len';have q:=(gB.1 hu).1;rw[f.len]at q;rw[<-hl]at hm;refine⟨?_,hm.frozenAt t,λb hb s o=>jF.cell?_of_block (a:=⟨b,o,jC⟩) (c.block b hb (λh=>s b h rfl)),vs.set t u',?_,?_⟩
 ·rw[hm.cellAt t ω];exact hu
 ·rw[lX];exact y
 ·refine l.trans (z.below l.size (λk v hS=>?_));rcases hS with e|e
  ·have:=(f.main.lt r rfl).1;omega
  ·have:=(i.lt k e).1;omega
theorem uS (w x y):Below w.1.size w ((w.alloc x).alloc y)/\((w.alloc x).alloc y).1[w.1.size]? =jB x/\((w.alloc x).alloc y).1[w.1.size+1]? =jB y/\((w.alloc x).alloc y).1.size=w.1.size+2:=by
 refine⟨(bR.alloc lR _).alloc ς _,?_,?_,ς⟩
 ·rw[Below.heap_alloc _ _ _ ς];exact heap_alloc_new w x
 ·have:=heap_alloc_new (w.alloc x) y
  simp_all
theorem ah3 (w x0 d e a b c t):∃w0,w0=(w.alloc (jG #[x0,d,e] t)).alloc (jG #[a,b,c] t)/\Below w.1.size w w0/\w0.1.size=w.1.size+2/\
  (w0.cell? ⟨w.1.size,0,jC⟩=jB x0/\w0.cell? ⟨w.1.size,1,jC⟩=jB d/\w0.cell? ⟨w.1.size,2,jC⟩=jB e)/\(w0.cell? ⟨w.1.size+1,0,jC⟩=jB a/\w0.cell? ⟨w.1.size+1,1,jC⟩=jB b/\w0.cell? ⟨w.1.size+1,2,jC⟩=jB c)/\
  w0.1[w.1.size+1]? =jB (jG #[a,b,c] t (0,0)):=by
 obtain⟨hb,p,q,z⟩:=uS w (jG #[x0,d,e] t) (jG #[a,b,c] t)
 simp_all
section
variable (ai ae al:Option Addr)(ni ci ne ce nl cl:Nat)
theorem Tv (G:iq)(z:List Bool)(Az:Option Addr)(cz:Nat)(w:jF)(B:Nat)(h:DW w B ai ni ci ae ne ce al nl cl G)(aM:Sl w B 1 Az ne cz (z.map .bool))(ad:ne=η z)(hB:B<=w.1.size)(he:ne<=1000000000)(K:Nat)(aN:∀l∈G.edges,∀e∈l,sG ne e.op=jD)(hr:∀l∈G.edges,η l<=K)(bz:K<=1000000000):
  Calls jJ 35 #[.agg #[iX ai ni ci,iX ae ne ce,iX al nl cl],iX Az ne cz] w (agF w ⟨[],uL G.edges z,[]⟩):=by
 obtain⟨w0,af,T,aO,⟨ag,U,ah⟩,⟨aP,aQ,aR⟩,aj⟩:=ah3 w (iX ai ni ci) (iX ae ne ce) (iX al nl cl) (iX jC 0 0) (iX jC 0 0) (iX jC 0 0) 63;have ak:=dh af;let⟨L1,L2,L3⟩:=h.lens
 have H2:=dh L2;have h':=h.below T hB;have ao:=aM.below T hB;obtain⟨aq,ar⟩:=iw ad aj;have aS:=run_make_row' (P:=jJ) 56 59 (iX jC 0 0) 24 Tryz.underlying56 Lg rfl iZ iZ ne ω ω;have J:w.1.size<w0.1.size:=ω;have au:w.1.size+1<w0.1.size:=ω;have av:w.1.size+1+1=w0.1.size:=ω;have aw:=dh av;clear af aO aP aQ aR L1 L2 L3 ad aj av;go_enter Tryz.func35,Tryz.ntmps35;go_wp2
 rw[<-ak.o,aw.o];have d:=Eo.start (w0:=w0) (ne:=ne) ω;let⟨wc,V⟩:=xR (w0.alloc (jG (madeCells #[iX jC 0 0] ne) 59))
 rw[<-V]at d;rw[<-V];let⟨r,D⟩:=xR w0.1.size
 rw[<-D];have bA:w0.1.size<=r:=ω;rw[<-D]at d;rw[H2.o,<-Tp _ z,<-H2.o,D]at d;rw[<-D]at d;clear V D aS ak aw;go_loopw [6,7] (λi _ wr=>∃a:Nat,a<=ne/\i=iY iZ a/\Eo w0 r ne (uX G.edges z a) wr) (λi _ _=>ne-(intOf i).toNat)
 case atStart=>exact⟨0,ω,rfl,d⟩
 case round=>
  obtain⟨a,ha,rfl,d⟩:=hrel;obtain⟨wp,rfl⟩:∃wp,wp=wr:=⟨_,rfl⟩;have c:=d.choose_spec.2;have bB:=c.size;have e1:=bC c J U;by_cases bE:a<ne
  ·have W:a<η G.edges:=by rwa [<-H2.o]
   have aT:a<η z:=by rwa [<-aq.o]
   obtain⟨b,o,A',n',c',rfl,bF,E,L⟩:=h'.he.at_ (Ej W);have aU:=bC c ω E;have hlen:=hr G.edges[a] (mM _);have ax:=aN G.edges[a] (mM _);have aV:n'=G.edges[a].length:=by have:=L.len;rw[uz]at this;omega
   have F:=Tq (z:=z) W;have ay:Eo w0 r ne ((uX G.edges z a).set a ((G.edges[a].take 0).filter (Fb z a))) wp:=by rwa [pX,lN,<-Yd W]
   have az:η (uX G.edges z a)=ne:=by rw[U7,<-H2.o]
   generalize G.edges[a]=x at *;generalize uX _ z a=R at *;subst aV;obtain⟨aA,aW⟩:=iw F az;clear F az d;go_wp2
   clear e1 aU;go_loopw [7] (λi wr=>∃m,m<=η x/\i=iY iZ m/\Eo w0 r ne (R.set a ((x.take m).filter (Fb z a))) wr) (λi _=>η x-(intOf i).toNat)
   case atStart=>exact⟨0,ω,rfl,ay⟩
   case round=>
    obtain⟨m,hm,rfl,d⟩:=hrel;clear ay;have n:=d.choose_spec.2;have f0:=bC n J ag;have f1:=bC n J U;have f2:=bC n J ah;have aB:=bC n ω E;have j0:0<=(a:Int):=ω;have j1:a<(ne:Int):=ω;let⟨zb,zo,aX,bm,M⟩:=(ao.rd.below n ω).at_ (uN aT)
    subst aX;have bn:=n.size;by_cases H:m<η x
    ·cases s:z.getD a jE
     ·rw[s]at M;have X:∀l:List _,l.filter (Fb z a)=[]:=λl=>by rw[nL];intro e _;rw[Fb,s,nM];decide
      have C:=d;rw[X,<-X x,<-aA.o]at C;have Y:=dh C;clear d C X f0 f2 s;go_wp2
      go_roundw
      case rel=>exact⟨_,ω,by go_num,Y.o⟩
      case measure=>simp[intOf];omega
     ·rw[s]at M;obtain⟨bb,oo,rfl,bp,aY,aZ⟩:=vZ (L.rd.below n ω) H;have aC:=Xg (Fb z a) H;have aD:η ((x.take m).filter (Fb z a))<=m:=Nat.le_trans (jO _ _) (by rw[jq];omega);have Z:Fb z a _ =(z.getD a _&&hasB z x[m].op):=rfl;rw[s,lH]at Z;have a1:=ax _ (mM H);generalize (x.take m).filter _ =y at *;generalize Fb z a _ =kk at *;generalize x[m]=e at *;obtain⟨op,act⟩:=e;dsimp at *;have bG:w.1.size<wr.1.size:=ω;have bH:b<wr.1.size:=ω;have bq:bb<wr.1.size:=ω;have br:zb<wr.1.size:=ω;have m0:0<=(m:Int):=ω;have m1:m<(η x:Int):=ω;obtain⟨aE,a6,aF,b4⟩:=iB aC Z d aD;clear aC Z d aD ag U ah E s;obtain⟨j,rfl,bI⟩:=rO a1;have aG:j<η z:=by rwa [<-aq.o]
      let⟨bJ,bK,aH,_,bL⟩:=(ao.rd.below n ω).at_ (uN aG)
      cases aH;have aJ:=WU aG;rw[aJ]at a6;have bM:=dh a1;generalize z.getD j _ =zv at *;have i0:0<=(j:Int):=ω;have i1:j<(ne:Int):=ω;clear a1 aJ;cases zv
      ·have bN:=aF;have b5:=a6;go_wp2
       go_roundw
       case rel=>exact⟨m+1,ω,by go_num,by rwa [aE.o,d9 (by rw[b5.o];decide),kZ]⟩
       case measure=>simp[intOf];omega
      ·go_wp2
       obtain⟨w2,p⟩:∃w2,w2=wr:=⟨_,rfl⟩;have a7:Below wr.1.size wr w2:=by rw[p];exact bR
       have k1:w2.cell? ⟨w.1.size,1,jC⟩=jB (iX (jB ⟨b,o,jC⟩) ne ce):=by rwa [p]
       have k3:w2.cell? ⟨b,o+a,jC⟩=jB (iX (jB ⟨bb,oo,jC⟩) (η x) c'):=by rwa [p]
       have k4:w2.cell? ⟨bb,oo+m*2,jC⟩=jB (iY iZ j):=by rwa [p]
       have k5:w2.cell? ⟨bb,oo+m*2+1,jC⟩=jB (iY iZ act):=by rwa [p]
       rw[<-p];clear f0 f1 f2 aB aY aZ p;let⟨vs,s2,s5⟩:=aF.o
       have t2:=s2.below a7;have t5:=s5.trans (a7.mono s5.size);have N:=λj v (hv:vs[j]? =jB v)=>s2.Dk hv
       clear s2 s5;have b6:a<η R:=by rwa [aW.o]
       let⟨u,n0,hu,ho⟩:=t2.row a (qP y) (by simp[b6])
       have aK:n0=η y:=by have:=ho.1;rw[uz]at this;omega
       have bO:n0<=m:=by have:=b4.o;omega
       obtain⟨Au,cu,rfl,bP⟩:=qX ho;have d0:=t2.cell hu;have d1:=t2.frozen a;have b9:=(t2.main.lt r rfl).2;have bQ:=a7.size;have q:=λg' bc=>(N a _ hu g' bc).1
       clear N;obtain⟨HU,bS⟩:=iw hu aK;have bd:=heap_alloc_new w2 (jG #[iY iZ j,iY iZ act] 61);clear hu aK;refine sM (S:=λw'=>w'.cell? _ =jB _/\w'.cell? _ =jB _/\w'.cell? _ =jB _/\w'.cell? _ =jB _/\w'.cell? _ =jB _) 17 rfl ⟨k1,k3,k4,k5,d0⟩ (λhS=>?_);apply rT 0;apply rT 1;apply rT 2;apply rT 3;apply rT 4;apply rT 5;apply rT 6;apply rT 7;apply rT 8;apply rT 9;apply rT 10;apply rT 11;apply rT 12;apply rT 13;refine qZ (i:=14) rfl κ δ (λK O=>?_);go_simp;refine O.out _ _ (by go_keep) (λhS=>?_);clear O;refine qZ (i:=15) rfl κ δ (λK O=>?_);refine su rfl _ _ _ rfl _ _ 2 _ KJ _ _ _ (ho.alloc _) rfl _ _ rfl bd rfl (by simp[Value.oneCell']) ω ω (by simp;omega) ?_;intro u' w3 I bh aL bu;obtain⟨g',bw,rfl,_⟩:=sP I ω;obtain⟨r1,r2,r4,r5⟩:=Eo.grow (ys:=y++[⟨_,_⟩]) t2 t5 rfl HU ho (by simpa[qP]using I) (qW.OQ bh) aL;have r6:=(r4 w.1.size ω (λg hg e=>by have:=q g hg;omega) 1).trans k1;have r7:=(r4 b ω (λg hg e=>by have:=q g hg;omega) (o+a)).trans k3;have r8:=(r4 bb ω (λg hg e=>by have:=q g hg;omega) (oo+m*2)).trans k4;have r9:=(r4 _ ω (λg hg e=>by have:=q g hg;omega) _).trans k5;refine O _ _ ⟨r6,r7,r8,r9,r1⟩ (λhS=>?_);clear O r4;apply rT 16;refine sN rfl κ rfl (λK O=>?_);go_simp;apply O.out;clear O;go_wp2
       go_roundw
       case rel=>exact⟨m+1,ω,by go_num,by rw[aE.o,jd a6.o];rwa [List.set_set]at r5⟩
       case measure=>simp[intOf];omega
    ·have C:=d;rw[tL ω,<-aA.o]at C;have Y:=dh C;go_wp2
     go_roundw
     case rel=>exact⟨_,ω,by go_num,Y.o⟩
     case measure=>simp[intOf];omega
  ·have a8:a=ne:=ω;have Q:uX G.edges z a=uL G.edges z:=by rw[a8,H2.o,Tt]
   rw[Q]at d;have bj:=dh d;obtain⟨⟨r0,r1,r2⟩,⟨p0,p1,p2⟩,b9⟩:=EC ((c.block _ au).trans ar.o);obtain⟨HF,bT⟩:=iw ((EC (xB (x:=iX jC 0 0) (y:=iX (jB ⟨r,0,jC⟩) ne ne) (z:=iX jC 0 0) ((c.block _ au).trans ar.o))).1) a8;have bU:w.1.size+1<r:=ω;clear Q a8 d;go_wp2
   refine bodyPost_ret (v:=.agg #[iX jC 0 0,iX (jB ⟨r,0,jC⟩) ne ne,iX jC 0 0]) ?_ rfl ?_
   ·obtain⟨f0,f1,f2⟩:=HF.o;simp[results,Tryz.results35,go_sem,f0,f1,f2]
   ·obtain⟨vs,h2,h5⟩:=bj.o;have k2:=h2.uQ (OZ (g:=w.1.size+1) (x:=iX jC 0 0) (y:=iX (jB ⟨r,0,jC⟩) ne ne) (z:=iX jC 0 0)) (λk hk e=>by have:=(h2.main.lt k hk).1;omega) (λj u k hu hk e=>by have:=(h2.Dk hu k hk).1;omega);let⟨A3,c3,e3,s3⟩:=k2.sl2
    cases e3;exact⟨_,_,_,_,_,_,_,_,_,rfl,⟨Sl.none_ _ _ _,s3,Sl.none_ _ _ _⟩,DN ω (T.trans (c.mono ω)),_,k2.PK ω⟩
end
set_option maxHeartbeats 4000000
set_option maxRecDepth 100000
theorem Dq {d:Bool}(h:w.ownsRow base 4 1 (iX (jB ⟨q,0,jC⟩) ne ne) ne (qV D)):
  (w.setCell ⟨q,t,jC⟩ (jI d)).ownsRow base 4 1 (iX (jB ⟨q,0,jC⟩) ne ne) ne (qV (D.set t d)):=by
 have:=(h.stored t (jI d)).1;rw[qV,lX];exact this
theorem yj (h:w.ownsRow base 4 1 (iX (jB ⟨q,0,jC⟩) ne ne) ne (qV D))(a:t<ne):
  w.cell? ⟨q,t,jC⟩=jB (jI (D.getD t jE))/\w.frozen? ⟨q,t,jC⟩=jE/\q<w.1.size/\η D=ne:=by
 have hl:η D=ne:=by have:=h.1;simpa[qV]using this
 refine⟨?_,h.frozenAt t,(h.lt q rfl).2,hl⟩;rw[h.cellAt t ω];simp[qV,θ,hl,a]
theorem Py (a:k<n)(f:Nat->Bool)(z):((ζ k).map f++ρ (n-k) z).set k (f k)=(ζ (k+1)).map f++ρ (n-(k+1)) z:=by
 refine jw (by simp;omega) (λi b c=>?_);rw[mq];simp only[List.getElem_append,List.getElem_replicate,lJ,l9,jr,kL];by_cases e:k=i
 ·subst e;simp
 ·rw[d9 e];by_cases e2:i<k
  ·rw[dif_pos e2,dif_pos ω]
  ·rw[dif_neg e2,dif_neg ω]
theorem ab6 (_hk:k<n)(f:Nat->Bool)(z):((ζ k).map f++ρ (n-k) z).set k z=(ζ k).map f++ρ (n-k) z:=by
 refine jw ς (λi a b=>?_);rw[mq];split
 ·rename_i e;subst e;rw[List.getElem_append_right ς];simp
 ·rfl
def ah7 (n:Nat)(E:List (List Nd))(goal:List Bool):List Bool:=(ζ n).map λi=>(E.getD i []).any (λe=>(Ij n E goal).getD e.op.toNat jE)
theorem ady (E z)(ask:Nat->Bool):ah7 (η z) (uL E z) (Ei z ask)=xg E z ask:=rfl
section
variable (ai ae al:Option Addr)(ni ci ne ce nl cl:Nat)
theorem UH (G:iq)(goal:List Bool)(Am:Option Addr)(cm:Nat)(w:jF)(B:Nat)(h:DW w B ai ni ci ae ne ce al nl cl G)(L:Sl w B 1 Am ne cm (goal.map .bool))(M:ne=η goal)(N:∀l∈G.edges,∀e∈l,sG ne e.op=jD)(hB:B<=w.1.size)(ah:ni<=1000000000)(aj:nl<=1000000000)(he:ne<=65536)(K:Nat)(hr:∀l∈G.edges,η l<=K)(hK:ne*K<=1000000000)(ak:K<=1000000000):
  Calls jJ 34 #[.agg #[iX ai ni ci,iX ae ne ce,iX al nl cl],iX Am ne cm] w (sI w 4 1 ne (qV (ah7 ne G.edges goal)) False):=by
 obtain⟨w0,O,H,aZ,ao,Q,aq⟩:=DJ w (iX ai ni ci) (iX ae ne ce) (iX al nl cl) 63;have ar:=dh O;clear O;have h':=h.below H hB;have au:=L.below H hB;have R:=dh (adz ai ae al ni ci ne ce nl cl G goal Am ne cm w0 w0.1.size (h'.up ω) (au.up ω) M lR ah he aj ω K hr hK ak);have av:=run_make_row' (P:=jJ) 64 4 (jI jE) 1 Tryz.underlying64 wN rfl iZ iZ ne ω ω;have aw:=dh h.lens.2.1;have ax:w.1.size<w0.1.size:=ω;obtain⟨ay,S⟩:=iw N hr;clear N h L hr M;go_enter Tryz.func34,Tryz.ntmps34;go_wp2_with fail
 rw[<-ar.o];refine R.mono ?_;rintro e w2 ⟨v,rfl,g,z,_⟩;obtain⟨Ab,cb,rfl,az⟩:=qX g;have aS:=z.size;have g1:=bC z ax Q;have aT:w.1.size<w2.1.size:=ω;have q:=H.trans (z.mono ω);clear R g ao Q aq;go_wp2
 obtain⟨go,r⟩:=xR w2.1.size;obtain⟨f,hf⟩:∃f:Nat->Bool,f=λi=>(G.edges.getD i []).any (λe=>(Ij ne G.edges goal).getD e.op.toNat jE):=⟨_,rfl⟩
 have aA:∃W2,W2=(w2.alloc (jG (madeCells #[jI jE] ne) 4))/\W2.ownsRow go 4 1 (iX (jB ⟨go,0,jC⟩) ne ne) ne (qV ((ζ 0).map f++ρ (ne-0) jE))/\Below go w2 W2:=by
  refine⟨_,rfl,?_,bR.alloc (by rw[r];exact lR) _⟩;have:=BP (w:=w2) (base:=go) (e:=4) (n:=ne) (v:=jI jE) (by rw[r];exact lR) (by unfold maxLen;omega);rw[<-r]at this;simpa[qV]using this
 obtain⟨W2,T,s,U⟩:=aA;rw[<-T,<-r];have aU:go<=w2.1.size:=ω;have aV:w2.1.size<=go:=ω;have V:∀i,f i=(G.edges.getD i []).any (λe=>(Ij ne G.edges goal).getD e.op.toNat jE):=λi=>by rw[hf]
 have W:(ζ ne).map f=ah7 ne G.edges goal:=by rw[ah7,hf]
 obtain⟨aB,aC⟩:=iw V W;have X:η (Ij ne G.edges goal)=ne:=YK _ _ _;have aD:=dh X;have aE:=(h'.below z ω).he;generalize Ij ne G.edges goal=bk at *;clear hf V W T r X av;go_loopw [7,8] (λi _ Y=>∃k:Nat,k<=ne/\i=iY iZ k/\Y.ownsRow go 4 1 (iX (jB ⟨go,0,jC⟩) ne ne) ne (qV ((ζ k).map f++ρ (ne-k) jE))/\Below go w2 Y) (λi _ _=>ne-(intOf i).toNat)
 case atStart=>exact⟨0,ω,rfl,s,U⟩
 case round=>
  obtain⟨k,hk,rfl,c,C⟩:=hrel;obtain⟨wp,rfl⟩:∃wp:jF,wp=wr:=⟨_,rfl⟩;clear s;by_cases u:k<ne
  ·have aF:k<η G.edges:=by rw[<-aw.o];exact u
   have D:=aF;obtain⟨b,o,A',n',c',aG,b4,Z,E⟩:=aE.at_ (Ej D);subst aG;have hlen:=S _ (mM D);have aH:n'=η (G.edges[k]):=by have:=E.len;rw[uz]at this;omega
   have a1:G.edges.getD k []=G.edges[k]:=by simp[θ,D]
   have aJ:=ay _ (mM D);have I:=aB k;rw[a1]at I
   have a6:wp.ownsRow go 4 1 (iX (jB ⟨go,0,jC⟩) ne ne) ne (qV (((ζ k).map f++ρ (ne-k) jE).set k (((G.edges[k]).take 0).any (λe=>bk.getD e.op.toNat jE)))):=by
    rw[pX,List.any_nil,ab6 u f jE];exact c
   have a7:=Py u f jE;have F:η ((ζ k).map f++ρ (ne-k) jE)=ne:=by simp;omega
   generalize (ζ k).map f++ρ (ne-k) jE=base at *;generalize G.edges[k]=x at *;subst aH;obtain⟨aK,aL,aM⟩:=iA a7 I F;have i0:(0:Int)<=(k:Int):=ω;have i1:(k:Int)<(ne:Int):=ω;have G1:=dh g1;clear a7 I a1 c F g1;go_wp2
   go_loopw [8] (λi Y=>∃m:Nat,m<=η x/\i=iY iZ m/\Y.ownsRow go 4 1 (iX (jB ⟨go,0,jC⟩) ne ne) ne (qV (base.set k ((x.take m).any (λe=>bk.getD e.op.toNat jE))))/\Below go w2 Y) (λi _=>η x-(intOf i).toNat)
   case atStart=>exact⟨0,ω,rfl,a6,C⟩
   case round=>
    obtain⟨m,hm,rfl,c,a⟩:=hrel;clear a6 C;have b5:=bC a ω Z;have b6:=bC a ω G1.o;by_cases y:m<η x
    ·obtain⟨bb,oo,rfl,aW,b9,bc⟩:=vZ (E.rd.below a ω) y;have a8:=aJ _ (mM y)
     have J:(x.take (m+1)).any (λe=>bk.getD e.op.toNat jE)=((x.take m).any (λe=>bk.getD e.op.toNat jE)||bk.getD (x[m]).op.toNat jE):=by
      rw[rE x m y,oP];simp
     generalize (x.take m).any (λe=>bk.getD e.op.toNat jE)=a0 at *;generalize x[m]=e at *;obtain⟨op,act⟩:=e;dsimp only at *;obtain⟨j,rfl,aN⟩:=rO a8;rw[tN]at J;obtain⟨b2,o2,aO,aX,bd⟩:=(az.rd.below a ω).at_ (uN (show j<η bk by rw[aD.o];exact aN));subst aO;obtain⟨q0,q1,q2,_⟩:=yj c u;rw[Ez (by rw[aM.o];exact u)]at q0;have aP:=dh c;have aY:=a.size;have i2:(0:Int)<=(j:Int):=ω;have i3:(j:Int)<(ne:Int):=ω;have m0:(0:Int)<=(m:Int):=ω;have m1:(m:Int)<(η x:Int):=ω;have k1:b2<wr.1.size:=ω;have k2:bb<wr.1.size:=ω;have ad:=dh J;generalize bk.getD j jE=bv at *
     have HW:∀v,Hd ((wr.setCell ⟨go,k,jC⟩ (jI v)).ownsRow go 4 1 (iX (jB ⟨go,0,jC⟩) ne ne) ne (qV (base.set k v))/\Below go w2 (wr.setCell ⟨go,k,jC⟩ (jI v))):=λv=>by
      have h1:=Dq (t:=k) (d:=v) aP.o;rw[List.set_set]at h1;exact dh ⟨h1,a.setCell (p:=⟨go,k,jC⟩) lR (jI v)⟩
     clear J a8 c a;cases a0
     ·go_wp2
      go_roundw
      case rel=>exact⟨m+1,ω,by go_num,by rw[ad.o,oI];exact(HW bv).out.1,(HW bv).out.2⟩
      case measure=>simp[intOf];omega
     ·go_wp2
      go_roundw
      case rel=>exact⟨m+1,ω,by go_num,by rw[ad.o,Bool.true_or];exact(HW jD).out.1,(HW jD).out.2⟩
      case measure=>simp[intOf];omega
    ·have af:m=η x:=ω;rw[af,kH,<-aL.o,aK.o]at c;obtain⟨S,aQ⟩:=iw c a;clear af c a;go_wp2
     go_roundw
     case rel=>exact⟨k+1,ω,by go_num,S.o,aQ.o⟩
     case measure=>simp[intOf];omega
  ·have ag:k=ne:=ω;rw[ag,mZ,List.replicate_zero,kZ,aC.o]at c;have S:=dh c;have aR:=dh (q.trans (C.mono (by have:=q.size;omega)));have bh:=q.size;clear c C ag;go_wp2
   go_ret
   exact⟨_,rfl,rC S ω,aR.o,ς⟩
end
set_option maxHeartbeats 8000000
set_option maxRecDepth 100000
def Fv (a:rQ)(l:List Nat)(i:Int)(m:Nat):Bool:=decide (i<0)||(a.at (l.getD m 0)).inn.testBit i.toNat
theorem Zl (a Ai ni ci An nn cn z Az n cz l Ao co i w B)(h:sW w B a Ai ni ci An nn cn)(hz:Sl w B 1 Az n cz (z.map .bool))(ho:Sl w B 1 Ao n co (qO (iE l)))(hn:n=η z)(ag:n=η l)(hB:B<=w.1.size)(hl:∀x∈l,x<nn)(hi:i<=63)(aM: -1<=i)(aN:n<=1000000)(aw:nn<=1000000):
  Calls jJ 36 #[.agg #[iY iZ a.sets,iX Ai ni ci,iX An nn cn],iX Az n cz,iX Ao n co,iY iZ i] w (sI w 4 1 n (qV (Ei z (Fv a l i))) False):=by
 obtain⟨s,hs⟩:=xQ a.sets;have ah:=dh (λ(k:Nat) (w':jF) (h':sW w' B a Ai ni ci An nn cn) (ax:B<=w'.1.size) (hk:k<nn)=>afN a Ai ni ci An nn cn k i.toNat w' B h' ax hk ω aw);rw[hs]at ah⊢;have H:Below w.1.size w (w.alloc (jG #[iY iZ s,iX Ai ni ci,iX An nn cn] 32)):=bR.alloc lR _;have X:=heap_alloc_new w (jG #[iY iZ s,iX Ai ni ci,iX An nn cn] 32);have aj:(w.alloc (jG #[iY iZ s,iX Ai ni ci,iX An nn cn] 32)).1.size=w.1.size+1:=ς;obtain⟨W0,Y⟩:=xQ (w.alloc (jG #[iY iZ s,iX Ai ni ci,iX An nn cn] 32));rw[Y]at H X aj;have ay:=dh Y;have az:=run_make_row' (P:=jJ) 64 4 (jI jE) 1 Tryz.underlying64 wN rfl iZ iZ n ω ω;obtain⟨HH,HZ,HO,HN,aA,HL,aB⟩:=iD (h.below H hB) (hz.below H hB) (ho.below H hB) hn ag hl X;clear Y hs h hz ho hn ag hl X;go_enter Tryz.func36,Tryz.ntmps36;go_wp2_with fail
 obtain⟨G,I⟩:=xR (w.1.size+1)
 have aC:∃W,W=(W0.alloc (jG (madeCells #[jI jE] n) 4))/\W.ownsRow G 4 1 (iX (jB ⟨G,0,jC⟩) n n) n (qV ((ζ 0).map (λk=>z.getD k jE&&Fv a l i k)++ρ (n-0) jE))/\Below G W0 W:=by
  refine⟨_,rfl,?_,bR.alloc (by rw[I];omega) _⟩;have:=BP (w:=W0) (base:=G) (e:=4) (n:=n) (v:=jI jE) (by rw[I];omega) (by unfold maxLen;omega);rw[aj,<-I]at this;simpa[qV]using this
 obtain⟨W,hW,O,aD⟩:=aC;rw[ay.o,<-I,<-hW];have aJ:w.1.size+1<=G:=ω;have aK:G<=w.1.size+1:=ω;clear hW az I;go_loopw [10] (λv wr=>∃k:Nat,k<=n/\v=iY iZ k/\wr.ownsRow G 4 1 (iX (jB ⟨G,0,jC⟩) n n) n (qV ((ζ k).map (λk=>z.getD k jE&&Fv a l i k)++ρ (n-k) jE))/\Below G W0 wr) (λv _=>n-(intOf v).toNat)
 case atStart=>exact⟨0,ω,rfl,O,aD⟩
 case round=>
  obtain⟨k,hk,rfl,hR,m⟩:=hrel;clear O;have J:G<=wr.1.size:=by have:=m.size;omega
  by_cases D:k<n
  ·have j0:(0:Int)<=(k:Int):=ω;have j1:(k:Int)<(n:Int):=ω;have aE:k<η z:=by rw[<-HN.o];exact D
   have N:k<η l:=by rw[<-aA.o];exact D
   have aF:=m;obtain⟨zb,zo,rfl,aO,r⟩:=(HZ.rd.below m ω).at_ (uN aE);obtain⟨ob,oo,rfl,aP,u⟩:=BJ (HO.below m ω) (k:=k) (by simpa[iE]using N);have ak:(iE l)[k]'(by simpa[iE]using N)=((l[k]:Nat):Int):=by simp[iE]
   rw[ak]at u;have ao:=HL _ (mM N);have aq:Fv a l i k=(decide (i<0)||(a.at l[k]).inn.testBit i.toNat):=by unfold Fv;simp[θ,N]
   generalize l[k]=y at *;have ar:=HH.below m ω;have x1:=(m.block w.1.size ω).trans aB.o;obtain⟨m0,Z,m2⟩:=sQ x1;have L:Below wr.1.size wr wr.drew:=Below.drew bR;obtain⟨wd,a1⟩:=xQ wr.drew;rw[a1]at L;have aG:=dh a1;have a6:=dh (ah y wd (ar.below L ω) (by have:=L.size;omega) ao);have wk:IntKind.i64.wrap ((k:Int)+1)=k+1:=by rw[wI];omega
   obtain⟨_,aL,aQ,_⟩:=yj hR D;obtain⟨C,a7,au⟩:=iA hR (Py D (λk=>z.getD k jE&&Fv a l i k) jE) aq;have E:zb<wr.1.size:=ω;have F:ob<wr.1.size:=ω;have j:w.1.size<wr.1.size:=ω;clear a1 ak ao aq x1 hR ar aF;obtain⟨zv,a8⟩:=xQ (z.getD k jE);have ad:=dh a8;rw[a8]at r;clear a8;cases zv
   ·have hval:Hd ((z.getD k jE&&Fv a l i k)=jE):=dh (by rw[ad.o];rfl);go_wp2_with fail
    have c:Below wr.1.size wr wr.drew:=Below.drew bR;obtain⟨q6,f6,g6,_⟩:=yj C D;refine sM (S:=λw'=>q9 w' zb (zo+k) (jI jE)/\q9 w' ob (oo+k) (iY iZ (y:Int))/\q9 w' w.1.size 0 (iY iZ s)/\q9 w' w.1.size 1 (iX Ai ni ci)/\q9 w' w.1.size 2 (iX An nn cn)) 20 κ (⟨r,u,m0,Z,m2⟩) (λhS=>?_);refine rT 0 ?_;refine rT 1 ?_;refine rT 2 ?_;refine rT 3 ?_;refine rT 4 ?_;refine rT 5 ?_;refine rT 6 ?_;refine UY 7 ?_;refine UY 8 ?_;refine UY 9 ?_;refine UY 10 ?_;refine UY 11 ?_;refine UY 12 ?_;refine UY 13 ?_;refine UY 14 ?_;refine UY 15 ?_;refine UY 16 ?_;refine UY 17 ?_;refine rT 18 ?_;refine qZ (i:=19) rfl κ δ (λK q=>?_);go_simp;refine q _ _ ⟨bC c E r,bC c F u,bC c j m0,bC c j Z,bC c j m2⟩ (λhS=>?_);clear q;refine sN rfl κ κ (λK q=>?_);go_simp;refine q _ _ ?_;clear q;go_wp2_with fail
    go_roundw
    case rel=>
     have Q:=Dq (t:=k) (d:=(z.getD k jE&&Fv a l i k)) (C.drew);rw[a7.o,hval.out]at Q;exact⟨k+1,ω,by go_num,Q,(m.trans ((bR.drew).mono J)).setCell (p:=⟨G,k,jC⟩) lR _⟩
    case measure=>simp[intOf];omega
   ·by_cases R:i<0
    ·have M:=decide_eq_true R;have hval:Hd ((z.getD k jE&&Fv a l i k)=jD):=dh (by rw[ad.o,au.o,M];rfl);go_wp2_with fail
     have c:Below wr.1.size wr wr.drew:=Below.drew bR;obtain⟨q6,f6,g6,_⟩:=yj C D;refine sM (S:=λw'=>q9 w' zb (zo+k) (jI jD)/\q9 w' ob (oo+k) (iY iZ (y:Int))/\q9 w' w.1.size 0 (iY iZ s)/\q9 w' w.1.size 1 (iX Ai ni ci)/\q9 w' w.1.size 2 (iX An nn cn)) 20 κ (⟨r,u,m0,Z,m2⟩) (λhS=>?_);refine rT 0 ?_;refine rT 1 ?_;refine rT 2 ?_;refine rT 3 ?_;refine rT 4 ?_;refine rT 5 ?_;refine rT 6 ?_;refine rT 7 ?_;refine rT 8 ?_;refine rT 9 ?_;refine UY 10 ?_;refine UY 11 ?_;refine UY 12 ?_;refine UY 13 ?_;refine UY 14 ?_;refine UY 15 ?_;refine UY 16 ?_;refine rT 17 ?_;refine rT 18 ?_;refine qZ (i:=19) rfl κ δ (λK q=>?_);go_simp;refine q _ _ ⟨bC c E r,bC c F u,bC c j m0,bC c j Z,bC c j m2⟩ (λhS=>?_);clear q;refine sN rfl κ κ (λK q=>?_);go_simp;refine q _ _ ?_;clear q;go_wp2_with fail
     go_roundw
     case rel=>
      have Q:=Dq (t:=k) (d:=(z.getD k jE&&Fv a l i k)) (C.drew);rw[a7.o,hval.out]at Q;exact⟨k+1,ω,by go_num,Q,(m.trans ((bR.drew).mono J)).setCell (p:=⟨G,k,jC⟩) lR _⟩
     case measure=>simp[intOf];omega
    ·have M:=decide_eq_false R;have av:(i.toNat:Int)=i:=ω;rw[av]at a6;obtain⟨bt,af⟩:=xQ ((a.at y).inn.testBit i.toNat);rw[af]at a6;have hval:Hd ((z.getD k jE&&Fv a l i k)=bt):=dh (by rw[ad.o,au.o,M,af];rfl);clear af av;go_wp2_with fail
     refine sM (S:=λw'=>q9 w' zb (zo+k) (jI jD)/\q9 w' ob (oo+k) (iY iZ (y:Int))/\q9 w' w.1.size 0 (iY iZ s)/\q9 w' w.1.size 1 (iX Ai ni ci)/\q9 w' w.1.size 2 (iX An nn cn)) 20 κ (⟨r,u,m0,Z,m2⟩) (λhS=>?_);refine rT 0 ?_;refine rT 1 ?_;refine rT 2 ?_;refine rT 3 ?_;refine rT 4 ?_;refine rT 5 ?_;refine rT 6 ?_;refine rT 7 ?_;refine rT 8 ?_;refine rT 9 ?_;refine rT 10 ?_;refine rT 11 ?_;refine rT 12 ?_;refine rT 13 ?_;refine rT 14 ?_;refine rT 15 ?_;refine qZ (i:=16) rfl κ δ (λK q=>?_);go_simp;rw[aG.o];refine Calls.mono a6 ?_;rintro e w6 ⟨rfl,T⟩;have b:=L.trans (T.mono L.size);clear T;have U:=qR C (qW.of_below b) (λg hg=>by have:=(C.lt g hg).2;omega);obtain⟨q6,f6,g6,_⟩:=yj U D;clear U;dsimp only;refine q _ _ ⟨bC b E r,bC b F u,bC b j m0,bC b j Z,bC b j m2⟩ (λhS=>?_);clear q;refine rT 17 ?_;refine rT 18 ?_;refine qZ (i:=19) rfl κ δ (λK q=>?_);go_simp;refine q _ _ ⟨bC b E r,bC b F u,bC b j m0,bC b j Z,bC b j m2⟩ (λhS=>?_);clear q;refine sN rfl κ κ (λK q=>?_);go_simp;refine q _ _ ?_;clear q;go_wp2_with fail
     go_roundw
     case rel=>
      have h0:=qR C (qW.of_below b) (λg hg=>by have:=(C.lt g hg).2;omega);have Q:=Dq (t:=k) (d:=(z.getD k jE&&Fv a l i k)) h0;rw[a7.o,hval.out]at Q;exact⟨k+1,ω,by go_num,Q,(m.trans (b.mono J)).setCell (p:=⟨G,k,jC⟩) lR _⟩
     case measure=>simp[intOf];omega
  ·have aH:k=n:=ω;subst aH
   have V:(ζ k).map (λk=>z.getD k jE&&Fv a l i k)++ρ (k-k) jE=Ei z (Fv a l i):=by
    rw[mZ,List.replicate_zero,kZ,Ei,<-HN.o]
   rw[V]at hR;have HR:=dh hR;clear hR V;go_wp2_with fail
   go_ret
   exact⟨_,rfl,rC HR ω,H.trans (m.mono ω),ς⟩
theorem SK:∀{y z:List Bool},η y=η z->BF y z->Cm y<=Cm z/\(Cm y=Cm z->y=z)
 |[],[],_,_=>⟨lR,λ_=>rfl⟩
 |[],_::_,h,_=>by simp at h
 | _::_,[],h,_=>by simp at h
 |a::y,b::z,h,hs=>by
  obtain⟨i1,i2⟩:=SK (y:=y) (z:=z) (by simpa using h) (λi hi=>by simpa[θ]using hs (i+1) (by simpa[θ]using hi));have c:=λd=>by simpa using hs 0 (by simpa using d)
  simp only[Cm,lC]at i1 i2⊢;cases a<;>cases b
  ·exact⟨by simpa using i1,λe=>by rw[i2 (by simpa using e)]⟩
  ·refine⟨?_,λe=>?_⟩
   ·simp;omega
   ·simp at e;omega
  ·exact absurd (c rfl) δ
  ·exact⟨by simpa using i1,λe=>by rw[i2 (by simpa using e)]⟩
theorem J9 (b:η z=η E)(h:wS E asks z≠z):Cm (wS E asks z)<Cm z:=by
 obtain⟨c,d⟩:=SK (JU E asks z) (JR asks b);rcases Nat.lt_or_eq_of_le c with a|a
 ·exact a
 ·exact absurd (d a) h
theorem Vt {p q:Nat->Bool}(h:∀k,k<η z->p k=q k):xg E z p=xg E z q:=by
 have:Ei z p=Ei z q:=by
  unfold Ei;refine j6 (λi hi=>?_);rw[h i (jl.1 hi)]
 rw[xg,xg,this]
theorem af5 (n):Cm (ρ n jD)<=n:=by have:=ahX (ρ n jD);simpa using this
theorem VO (a:k<η asks):wS E (asks.take (k+1)) z=xg E (wS E (asks.take k) z) asks[k]:=by
 rw[rE asks k a,wS,jK];rfl
theorem afA (hl:η y=η z)(h:(ζ (η y)).any (λi=>y.getD i jE !=z.getD i jE)=jE):y=z:=by
 refine jw hl (λi a b=>?_);rw[List.any_eq_false]at h;have:=h i (jl.2 a);simpa[θ,a,b]using this
theorem afz (h:(ζ (η y)).any (λi=>y.getD i jE !=z.getD i jE)=jD):z≠y:=by
 rintro rfl;rw[kT]at h;obtain⟨i,_,hi⟩:=h;simp at hi
theorem Qp (hl:η as1=η bs)(h:∀(j:Nat) (p q:Nat->Bool),as1[j]? =jB p->bs[j]? =jB q->∀k,k<η z->p k=q k)(hf:XY E as1 z):XY E bs z:=by
 intro q b;obtain⟨j,c,rfl⟩:=lZ.1 b;have a:j<η as1:=ω;have:=hf as1[j] (mM a);rwa [Vt (h j as1[j] bs[j] (gE a) (gE c))]at this
theorem adh (hl:η as1=η bs)(h:∀(j:Nat) (p q:Nat->Bool),as1[j]? =jB p->bs[j]? =jB q->∀k,k<η E->p k=q k)(c:X4 E as1 z):X4 E bs z:=
 ⟨c.1,Qp hl (λj p q a b k d=>h j p q a b k (by rw[<-c.1];exact d)) c.2.1,λy hy hf=>c.2.2 y hy (Qp hl.symm (λj p q a b k d=>(h j q p b a k (by rw[<-hy];exact d)).symm) hf)⟩
