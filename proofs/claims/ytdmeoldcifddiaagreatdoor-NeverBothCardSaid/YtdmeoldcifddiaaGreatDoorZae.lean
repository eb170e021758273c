/- A part of the proof. -/
import Derived.Test.YtdmeoldcifddiaaGreatDoorZad
import Derived.Test.YtdmeoldcifddiaaGreatDoorZab
import Derived.Test.YtdmeoldcifddiaaGreatDoorMk
import Derived.Deep.RegionLaw
import Derived.Test.YtdmeoldcifddiaaGreatDoorProg
import Derived.Outline
import Derived.IntWalk
/- Ways in memory (layer 28): what is read from shared rows, kept by the blocks' types. -/
namespace Go.Proofs.YtdmeoldcifddiaaGreatDoor
open Go.RowKit
open Go.Value renaming slice -> iX, int -> iY, pointer -> jH, bool -> jI
open Go.IntKind renaming i64 -> iZ, u64 -> jA
open Option renaming some -> jB, none -> jC
open Bool renaming true -> jD, false -> jE
open Go renaming World -> jF
open Go.Obj renaming cells -> jG
open Go.Proofs.Tryz renaming prog -> jJ
open List renaming length -> η
variable {K:Act->jF->Prop}{cs:Array Value}{en:Ending}{f:List Nd}{news xs ys:List Value}{ws:List Way}{Bx T base c c1 c2 c3 g j k m n n1 n2 n3 rb size t y:Nat}{S:Nat->Prop}{o:Obj}{A A1 A2 A3:Option Addr}{E:Prop}{α:Type}{a b d e u v vo vs:Value}{x:Way}{V w w' w0 w1 wr:jF}
structure zV (w:jF)(t:TypeId)(A:Option Addr)(n c:Nat)(xs:List Value):Prop where
 sl:Sl w w.1.size 1 A n c xs
 ty:∀a,A=jB a->∃cs,w.1[a.block]? =jB (jG cs t (0,0))
def yc (S:Nat->Prop)(w:jF)(t:TypeId):Prop:=∀k cs,w.1[k]? =jB (jG cs t (0,0))->¬S k
theorem El {b o:Nat}(h:w'.1[b]? =w.1[b]?):w'.cell? ⟨b,o,jC⟩=w.cell? ⟨b,o,jC⟩:=by
 unfold jF.cell?;dsimp only;rw[h]
theorem rX (h:w.1[g]? =jB o):g<w.1.size:=(aI.1 h).1
theorem zV.keep {t:TypeId}(h:zV w t A n c xs)(f:qW S w w')(hS:yc S w t):zV w' t A n c xs:=by
 have hb:∀a,A=jB a->w'.1[a.block]? =w.1[a.block]? :=λa d=>by
  obtain⟨cs,hc⟩:=h.ty a d;exact f.block _ (rX hc) (hS _ _ hc)
 refine⟨⟨h.sl.len,h.sl.cap,h.sl.max,h.sl.nil,?_⟩,λa d=>?_⟩
 ·rcases h.sl.rd with g|⟨b,off,hA,e,hc⟩
  ·exact .inl g
  ·exact .inr ⟨b,off,hA,jh e f.size,λj u i=>(El (hb _ hA)).trans (hc j u i)⟩
 ·obtain⟨cs,hc⟩:=h.ty a d;exact⟨cs,(hb a d).trans hc⟩
theorem ug (w t):yc (λk=>w.1.size<=k) w t:=λk _ h=>by have:=rX h;omega
theorem zV.below {t:TypeId}(h:zV w t A n c xs)(hb:Below w.1.size w w'):zV w' t A n c xs:=h.keep (qW.of_below hb) (ug w t)
theorem zV.Br (h:w.ownsRow base t 1 v n xs):∃A c,v=iX A n c/\zV w t A n c xs:=by
 obtain⟨A,c,hv,hs⟩:=qX h;refine⟨A,c,hv,hs,λa d=>?_⟩;rcases h.2 with⟨b,_⟩|⟨g,cap,cur,b,_,e,_⟩
 ·rw[b,d]at hv;cases hv
 ·rw[b,d]at hv;cases hv;exact⟨cur,e⟩
theorem zV.tail {t:TypeId}{x:Value}(h:zV w t A (n+1) c (x::xs)):zV w t (if c=1 then A else A.map (·.add 1)) n (c-1) xs:=by
 have hd:=h.sl.drop (k:=1) ω;refine⟨by simpa using hd,λa b=>?_⟩;split at b
 ·exact h.ty a b
 ·cases A with
  |none=>cases b
  |some a0=>
   cases b;have:(a0.add 1).block=a0.block:=by unfold Addr.add;split<;>rfl
   rw[this];exact h.ty a0 rfl
structure WR (w:jF)(x:Way)(A1:Option Addr)(c1:Nat)(A2:Option Addr)(c2:Nat)(A3:Option Addr)(c3:Nat):Prop where
 now:zV w 4 A1 (η x.now) c1 (qV x.now)
 next:zV w 4 A2 (η x.next) c2 (qV x.next)
 todo:zV w 3 A3 (η x.todo) c3 (qO (iE x.todo))
theorem WR.keep (h:WR w x A1 c1 A2 c2 A3 c3)(a:qW S w w')(hb:yc S w 4)(hi:yc S w 3):WR w' x A1 c1 A2 c2 A3 c3:=
 ⟨h.now.keep a hb,h.next.keep a hb,h.todo.keep a hi⟩
theorem WR.below (h:WR w x A1 c1 A2 c2 A3 c3)(hb:Below w.1.size w w'):WR w' x A1 c1 A2 c2 A3 c3:=
 h.keep (qW.of_below hb) (ug w _) (ug w _)
def Im (w:jF)(x:Way)(v:Value):Prop:=
 ∃A1 c1 A2 c2 A3 c3,v=.agg #[iY jA (x.need:Int),iY jA (x.ban:Int),iX A1 (η x.now) c1,iX A2 (η x.next) c2,iX A3 (η x.todo) c3]/\WR w x A1 c1 A2 c2 A3 c3
theorem Im.keep (h:Im w x v)(a:qW S w w')(hb:yc S w 4)(hi:yc S w 3):Im w' x v:=by
 obtain⟨A1,c1,A2,c2,A3,c3,hv,b⟩:=h;exact⟨A1,c1,A2,c2,A3,c3,hv,b.keep a hb hi⟩
theorem Im.below (h:Im w x v)(hb:Below w.1.size w w'):Im w' x v:=h.keep (qW.of_below hb) (ug w _) (ug w _)
def UO (w:jF)(x:Way)(en:Ending)(w':jF):Prop:=∃v,en=.returned v/\Im w' x v/\Below w.1.size w w'
theorem ah4 (w x y):Below w.1.size w ((w.alloc x).alloc y)/\((w.alloc x).alloc y).1[w.1.size]? =jB x/\((w.alloc x).alloc y).1[w.1.size+1]? =jB y/\((w.alloc x).alloc y).1.size=w.1.size+2:=by
 refine⟨(bR.alloc lR _).alloc ς _,?_,?_,ς⟩
 ·rw[Below.heap_alloc _ _ _ ς];exact heap_alloc_new w x
 ·have:=heap_alloc_new (w.alloc x) y;rwa [show(w.alloc x).1.size=w.1.size+1 by simp]at this
theorem aj9 {c:Value}(h:w.1[g]? =jB (jG cs T (0,0)))(hc:cs.size=5):
  (((((w.setCell ⟨g,0,jC⟩ a).setCell ⟨g,1,jC⟩ b).setCell ⟨g,2,jC⟩ c).setCell ⟨g,3,jC⟩ d).setCell ⟨g,4,jC⟩ e).1[g]? =jB (jG #[a,b,c,d,e] T (0,0)):=by
 have f:=heap_setCell_same w g 0 _ _ a h;have i:=heap_setCell_same _ g 1 _ _ b f;have j:=heap_setCell_same _ g 2 _ _ c i;have k:=heap_setCell_same _ g 3 _ _ d j;have m:=heap_setCell_same _ g 4 _ _ e k;rw[m];clear f i j k m h;obtain⟨l⟩:=cs
 match l,hc with
 |[p,q,r,s,t],_=>simp
theorem akd {B:Nat}(h:Below B w w0)(f:B<=g)(a b c d e):
  Below B w (((((w0.setCell ⟨g,0,jC⟩ a).setCell ⟨g,1,jC⟩ b).setCell ⟨g,2,jC⟩ c).setCell ⟨g,3,jC⟩ d).setCell ⟨g,4,jC⟩ e):=
 ((((h.setCell (p:=⟨g,0,jC⟩) f _).setCell (p:=⟨g,1,jC⟩) f _).setCell (p:=⟨g,2,jC⟩) f _).setCell (p:=⟨g,3,jC⟩) f _).setCell (p:=⟨g,4,jC⟩) f _
theorem aj7 (w0 g a b c d e):
  qW (λk=>k=g) w0 (((((w0.setCell ⟨g,0,jC⟩ a).setCell ⟨g,1,jC⟩ b).setCell ⟨g,2,jC⟩ c).setCell ⟨g,3,jC⟩ d).setCell ⟨g,4,jC⟩ e):=
 (((((qW.refl (λk=>k=g) w0).setCell (p:=⟨g,0,jC⟩) (λ_=>rfl) a).setCell (p:=⟨g,1,jC⟩) (λ_=>rfl) b).setCell (p:=⟨g,2,jC⟩) (λ_=>rfl) c).setCell (p:=⟨g,3,jC⟩) (λ_=>rfl) d).setCell (p:=⟨g,4,jC⟩) (λ_=>rfl) e
theorem uM (h:w.1[g]? =jB (jG cs T (0,0)))(b:T≠t):yc (λk=>k=g) w t:=by
 rintro k cs' a rfl;rw[h]at a;injection a with a
 injection a with _ e
 exact b e
theorem Tx (d:V.1[rb]? =jB (jG cs 162 (0,0)))(_hcs:cs.size=5)(hb:Below w.1.size w V)(c:w.1.size<=rb)
  (e:WR V x A1 c1 A2 c2 A3 c3)(e1:n1=η x.now)(e2:n2=η x.next)(f:n3=η x.todo){a b:Int}(g:a=(x.need:Int))(h:b=(x.ban:Int)):
  UO w x (.returned (.agg #[iY jA a,iY jA b,iX A1 n1 c1,iX A2 n2 c2,iX A3 n3 c3]))
   (((((V.setCell ⟨rb,0,jC⟩ (iY jA a)).setCell ⟨rb,1,jC⟩ (iY jA b)).setCell ⟨rb,2,jC⟩ (iX A1 n1 c1)).setCell ⟨rb,3,jC⟩ (iX A2 n2 c2)).setCell ⟨rb,4,jC⟩ (iX A3 n3 c3)):=by
 subst e1 e2 f g h;exact⟨_,rfl,⟨A1,c1,A2,c2,A3,c3,rfl,e.keep (aj7 _ _ _ _ _ _ _) (uM d δ) (uM d δ)⟩,akd hb c _ _ _ _ _⟩
theorem LX {c:Value}(f:V.1[rb]? =jB (jG cs T (0,0)))(hcs:cs.size=5):
  ∃F,F=(((((V.setCell ⟨rb,0,jC⟩ a).setCell ⟨rb,1,jC⟩ b).setCell ⟨rb,2,jC⟩ c).setCell ⟨rb,3,jC⟩ d).setCell ⟨rb,4,jC⟩ e)/\
   F.cell? ⟨rb,0,jC⟩=jB a/\F.cell? ⟨rb,1,jC⟩=jB b/\F.cell? ⟨rb,2,jC⟩=jB c/\F.cell? ⟨rb,3,jC⟩=jB d/\F.cell? ⟨rb,4,jC⟩=jB e:=by
 have h:=aj9 (a:=a) (b:=b) (c:=c) (d:=d) (e:=e) f hcs;refine⟨_,rfl,?_⟩;refine⟨?_,?_,?_,?_,?_⟩<;>(rw[cell_of_row _ _ _ _ _ (0,0) h];rfl)
set_option maxHeartbeats 2000000
set_option maxRecDepth 100000
theorem afw (x:Way)(A1:Option Addr)(c1:Nat)(A2:Option Addr)(c2:Nat)(A3:Option Addr)(c3:Nat)(j:Nat)(w:jF)(h:WR w x A1 c1 A2 c2 A3 c3)(I:j<η x.now)(hl:η x.now<=1000000):
  Calls jJ 108 #[.agg #[iY jA (x.need:Int),iY jA (x.ban:Int),iX A1 (η x.now) c1,iX A2 (η x.next) c2,iX A3 (η x.todo) c3],iY iZ (j:Int)] w (UO w {x with now:=x.now.set j jD}):=by
 obtain⟨J,C⟩:=iw (λ(w':jF) (hb:Below w.1.size w w')=>Ka A1 (η x.now) c1 (qV x.now) w' w.1.size (h.now.sl.below hb lR) (Kc _) hb.size ω) h;clear h;go_enter Tryz.func108,Tryz.ntmps108;go_wp2_with fail
 have D:=ah4 w (jG #[iY jA (x.need:Int),iY jA (x.ban:Int),iX A1 (η x.now) c1,iX A2 (η x.next) c2,iX A3 (η x.todo) c3] 162) (jG #[iY jA 0,iY jA 0,iX jC 0 0,iX jC 0 0,iX jC 0 0] 162);refine Calls.mono (J _ D.1) ?_;obtain⟨s,u,y,q⟩:=D;rintro e w2 ⟨v1,rfl,i,k, -⟩;rw[q]at i k;have B:=k.size;rw[q]at B;have m:=(k.block w.1.size ω).trans u;have E:=(k.block (w.1.size+1) ω).trans y;have n:=s.trans (k.mono ω);clear s u y q k;obtain⟨g,cap,rfl,Z,K,G, -⟩:=sP i ω;have k0:w2.cell? ⟨w.1.size,0,jC⟩=jB (iY jA (x.need:Int)):=cR m;have k1:w2.cell? ⟨w.1.size,1,jC⟩=jB (iY jA (x.ban:Int)):=cR m;have k2:w2.cell? ⟨w.1.size,2,jC⟩=jB (iX A1 (η x.now) c1):=cR m;have k3:w2.cell? ⟨w.1.size,3,jC⟩=jB (iX A2 (η x.next) c2):=cR m;have k4:w2.cell? ⟨w.1.size,4,jC⟩=jB (iX A3 (η x.todo) c3):=cR m;have kf:=frozen_of_row _ _ 2 _ _ m;have L:=i.cellAt j ω;rw[tV I]at L;have M:=i.frozenAt j;have N:¬(g=w.1.size):=ω;have H:¬(w.1.size=g):=ω;obtain⟨O,Q0,l,P⟩:=iB i m E n;clear i m E n;have Q:=cell_of_row _ _ 0 _ _ (0,0) l.o;have l1:=cell_of_row _ _ 1 _ _ (0,0) l.o;have l2:=cell_of_row _ _ 2 _ _ (0,0) l.o;have R:=cell_of_row _ _ 3 _ _ (0,0) l.o;have S:=cell_of_row _ _ 4 _ _ (0,0) l.o;have T:=frozen_of_row _ _ 0 _ _ l.o;have U:=frozen_of_row _ _ 1 _ _ l.o;have V:=frozen_of_row _ _ 2 _ _ l.o;have W:=frozen_of_row _ _ 3 _ _ l.o;have X:=frozen_of_row _ _ 4 _ _ l.o;simp only[kg,jV,lY]at Q l1 l2 R S;go_wp2_with fail
 have z:=Below.heap_setCell _ ⟨g,j,jC⟩ (jI jD) (w.1.size+1) (show w.1.size+1≠g by omega) |>.trans (Below.heap_setCell w2 ⟨w.1.size,2,jC⟩ (iX (jB ⟨g,0,jC⟩) (η x.now) cap) (w.1.size+1) (show w.1.size+1≠w.1.size by omega)) |>.trans l.o;refine bodyPost_ret (v:=.agg #[iY jA (x.need:Int),iY jA (x.ban:Int),iX (jB ⟨g,0,jC⟩) (η x.now) cap,iX A2 (η x.next) c2,iX A3 (η x.todo) c3]) ?_ rfl ?_
 ·obtain⟨F,hF,f0,f1,f2,f3,f4⟩:=LX (a:=iY jA (x.need:Int)) (b:=iY jA (x.ban:Int)) (c:=iX (jB ⟨g,0,jC⟩) (η x.now) cap) (d:=iX A2 (η x.next) c2) (e:=iX A3 (η x.todo) c3) z rfl;rw[<-hF];clear hF;simp[results,Tryz.results108,go_sem,f0,f1,f2,f3,f4]
 ·have r:Below w.1.size w ((w2.setCell ⟨w.1.size,2,jC⟩ (iX (jB ⟨g,0,jC⟩) (η x.now) cap)).setCell ⟨g,j,jC⟩ (jI jD)):=
   (P.setCell (p:=⟨w.1.size,2,jC⟩) lR _).setCell (p:=⟨g,j,jC⟩) (by show w.1.size<=g;omega) _
  refine Tx (x:={x with now:=x.now.set j jD}) z rfl r ω ⟨?_,C.next.below r,C.todo.below r⟩ ς rfl rfl rfl rfl;have hs:=((ownsRow_setCell_below (a:=⟨w.1.size,2,jC⟩) O (by show w.1.size<w.1.size+2;omega) (iX (jB ⟨g,0,jC⟩) (η x.now) cap)).stored j (jI jD)).1;obtain⟨A,c,hv,Y⟩:=zV.Br hs;cases hv;simpa[qV,lX]using Y
theorem Mq (x:Way)(A1:Option Addr)(c1:Nat)(A2:Option Addr)(c2:Nat)(A3:Option Addr)(c3:Nat)(j:Nat)(w:jF)(h:WR w x A1 c1 A2 c2 A3 c3)(I:j<η x.next)(hl:η x.next<=1000000):
  Calls jJ 138 #[.agg #[iY jA (x.need:Int),iY jA (x.ban:Int),iX A1 (η x.now) c1,iX A2 (η x.next) c2,iX A3 (η x.todo) c3],iY iZ (j:Int)] w (UO w {x with next:=x.next.set j jD}):=by
 obtain⟨J,C⟩:=iw (λ(w':jF) (hb:Below w.1.size w w')=>Ka A2 (η x.next) c2 (qV x.next) w' w.1.size (h.next.sl.below hb lR) (Kc _) hb.size ω) h;clear h;go_enter Tryz.func138,Tryz.ntmps138;go_wp2_with fail
 have D:=ah4 w (jG #[iY jA (x.need:Int),iY jA (x.ban:Int),iX A1 (η x.now) c1,iX A2 (η x.next) c2,iX A3 (η x.todo) c3] 162) (jG #[iY jA 0,iY jA 0,iX jC 0 0,iX jC 0 0,iX jC 0 0] 162);refine Calls.mono (J _ D.1) ?_;obtain⟨s,u,y,q⟩:=D;rintro e w2 ⟨v1,rfl,i,k, -⟩;rw[q]at i k;have B:=k.size;rw[q]at B;have m:=(k.block w.1.size ω).trans u;have E:=(k.block (w.1.size+1) ω).trans y;have n:=s.trans (k.mono ω);clear s u y q k;obtain⟨g,cap,rfl,Z,K,G, -⟩:=sP i ω;have k0:w2.cell? ⟨w.1.size,0,jC⟩=jB (iY jA (x.need:Int)):=cR m;have k1:w2.cell? ⟨w.1.size,1,jC⟩=jB (iY jA (x.ban:Int)):=cR m;have k2:w2.cell? ⟨w.1.size,2,jC⟩=jB (iX A1 (η x.now) c1):=cR m;have k3:w2.cell? ⟨w.1.size,3,jC⟩=jB (iX A2 (η x.next) c2):=cR m;have k4:w2.cell? ⟨w.1.size,4,jC⟩=jB (iX A3 (η x.todo) c3):=cR m;have kf:=frozen_of_row _ _ 3 _ _ m;have L:=i.cellAt j ω;rw[tV I]at L;have M:=i.frozenAt j;have N:¬(g=w.1.size):=ω;have H:¬(w.1.size=g):=ω;obtain⟨O,Q0,l,P⟩:=iB i m E n;clear i m E n;have Q:=cell_of_row _ _ 0 _ _ (0,0) l.o;have l1:=cell_of_row _ _ 1 _ _ (0,0) l.o;have l2:=cell_of_row _ _ 2 _ _ (0,0) l.o;have R:=cell_of_row _ _ 3 _ _ (0,0) l.o;have S:=cell_of_row _ _ 4 _ _ (0,0) l.o;have T:=frozen_of_row _ _ 0 _ _ l.o;have U:=frozen_of_row _ _ 1 _ _ l.o;have V:=frozen_of_row _ _ 2 _ _ l.o;have W:=frozen_of_row _ _ 3 _ _ l.o;have X:=frozen_of_row _ _ 4 _ _ l.o;simp only[kg,jV,lY]at Q l1 l2 R S;go_wp2_with fail
 have z:=Below.heap_setCell _ ⟨g,j,jC⟩ (jI jD) (w.1.size+1) (show w.1.size+1≠g by omega) |>.trans (Below.heap_setCell w2 ⟨w.1.size,3,jC⟩ (iX (jB ⟨g,0,jC⟩) (η x.next) cap) (w.1.size+1) (show w.1.size+1≠w.1.size by omega)) |>.trans l.o;refine bodyPost_ret (v:=.agg #[iY jA (x.need:Int),iY jA (x.ban:Int),iX A1 (η x.now) c1,iX (jB ⟨g,0,jC⟩) (η x.next) cap,iX A3 (η x.todo) c3]) ?_ rfl ?_
 ·obtain⟨F,hF,f0,f1,f2,f3,f4⟩:=LX (a:=iY jA (x.need:Int)) (b:=iY jA (x.ban:Int)) (c:=iX A1 (η x.now) c1) (d:=iX (jB ⟨g,0,jC⟩) (η x.next) cap) (e:=iX A3 (η x.todo) c3) z rfl;rw[<-hF];clear hF;simp[results,Tryz.results138,go_sem,f0,f1,f2,f3,f4]
 ·have r:Below w.1.size w ((w2.setCell ⟨w.1.size,3,jC⟩ (iX (jB ⟨g,0,jC⟩) (η x.next) cap)).setCell ⟨g,j,jC⟩ (jI jD)):=
   (P.setCell (p:=⟨w.1.size,3,jC⟩) lR _).setCell (p:=⟨g,j,jC⟩) (by show w.1.size<=g;omega) _
  refine Tx (x:={x with next:=x.next.set j jD}) z rfl r ω ⟨C.now.below r,?_,C.todo.below r⟩ rfl ς rfl rfl rfl;have hs:=((ownsRow_setCell_below (a:=⟨w.1.size,3,jC⟩) O (by show w.1.size<w.1.size+2;omega) (iX (jB ⟨g,0,jC⟩) (η x.next) cap)).stored j (jI jD)).1;obtain⟨A,c,hv,Y⟩:=zV.Br hs;cases hv;simpa[qV,lX]using Y
section
variable {P:Program}{ops:Array Oper}{rest:List Oper}{o:Oper}{a:Act}{Q:Exit->Act->jF->Prop}{w:jF}
theorem Vs (r:o.guard=jC)(s x t)(I:o.op=.call {callee:=.builtin .append,args:=#[s,x],argTypes:=#[t,t]})(base e size bytes)(T:uq P t e size bytes)(v n xs)(f:w.ownsRow base e size v n xs)(hs:a.eval s=v)(B A m c news)(J:a.eval x=iX A m c)(p:Sl w B size A m c news)(N:∀u∈news,u.oneCell'=jD)(O:n+m<=1000000000000)(y:bytes<=128)(l:base<=w.1.size)(h:∀v' w',w'.ownsRow base e size v' (n+m) (xs++news)->qW (λk=>v.ownBlock=jB k) w w'->(v'.ownBlock=v.ownBlock\/v'.ownBlock=jB w.1.size)->(v'=iX jC 0 0↔v=iX jC 0 0/\m=0)->K (a.put o.dst v') w'):
  if Region.wanted o (yielded ops a.tmps)=jD then Oper.wp P o a w K Q else E:=by
 have hw:Region.wanted o (yielded ops a.tmps)=jD:=by simp[Region.wanted,r]
 rw[jd hw];obtain⟨L,C,i,z,hi,R,D,F,G⟩:=T
 have H:(n+m)*bytes<=140737488355328:=by
  have:(n+m)*bytes<=1000000000000*128:=oK O y;omega
 rcases A with _|M
 ·have hc:=p.nil rfl;have hm:m=0:=by have:=p.cap;omega
  subst hc;subst hm;have d:=jv (by rw[p.len];simp);subst d;have g:=run_append_owned_none (P:=P) (w:=w) base t o.type e i size L hi v n xs f;unfold Oper.wp execOp;simp only[I,resolve,invoke,builtin,Sem.run_bind,Sem.run_pure,Result.andThen_ok,lT,kE,l5,hs,J,g];exact h v w (by simpa using f) (qW.refl _ _) (.inl rfl) ς
 ·have d:∀j u,news[j]? =jB u->w.cell? (M.add j)=jB u:=by
   intro j u hu;obtain⟨b,off,hA,_,hc⟩:=p.rd.at_ hu;cases hA
   have q:(⟨b,off,jC⟩:Addr).add j=⟨b,off+j,jC⟩:=by
    unfold Addr.add;split
    ·rename_i h;subst h;rfl
    ·rfl
   rw[q];exact hc
  obtain⟨v',w',g,S,U,V,W⟩:=run_append_own_at (P:=P) w base t o.type e i z size bytes L hi R D F G C v n xs f M m c news p.len d N (by unfold maxLen;omega) H l;unfold Oper.wp execOp;simp only[I,resolve,invoke,builtin,Sem.run_bind,Sem.run_pure,Result.andThen_ok,lT,kE,l5,hs,J,g];exact h v' w' S (qW.uy U) W V
theorem RB (r:o.guard=jC)(s x t)(v:o.op=.call {callee:=.builtin .append,args:=#[s,x],argTypes:=#[t,t]})(base e size bytes)(T:uq P t e size bytes)(k)(hs:a.eval s=iX (jB ⟨k,0,jC⟩) 0 0)(B A m c news)(y:a.eval x=iX A m c)(p:Sl w B size A m c news)(U:∀u∈news,u.oneCell'=jD)(V:m<=1000000000000)(C:bytes<=128)(n:base<=w.1.size)(O:w.1[k]? =jB (jG #[] e (0,0)))(D:base<=k)(h:∀v' w',w'.ownsRow base e size v' m news->Below w.1.size w w'->K (a.put o.dst v') w'):
  if Region.wanted o (yielded ops a.tmps)=jD then Oper.wp P o a w K Q else E:=by
 have g:w.ownsRow base e size (iX (jB ⟨k,0,jC⟩) 0 0) 0 []:=
  ⟨ς,.inr ⟨k,0,#[],rfl,D,O,lR,by unfold maxLen;omega,ς,ς⟩⟩
 have hw:Region.wanted o (yielded ops a.tmps)=jD:=by simp[Region.wanted,r]
 rw[jd hw];obtain⟨F,G,i,z,hi,R,H,I,J⟩:=T
 have L:(0+m)*bytes<=140737488355328:=by
  have:(0+m)*bytes<=1000000000000*128:=oK ω C;omega
 rcases A with _|M
 ·have hc:=p.nil rfl;have hm:m=0:=by have:=p.cap;omega
  subst hc;subst hm;have f:=jv (by rw[p.len];simp);subst f;have d:=run_append_owned_none (P:=P) (w:=w) base t o.type e i size F hi _ 0 [] g;unfold Oper.wp execOp;simp only[v,resolve,invoke,builtin,Sem.run_bind,Sem.run_pure,Result.andThen_ok,lT,kE,l5,hs,y,d];exact h _ w g bR
 ·have f:∀j u,news[j]? =jB u->w.cell? (M.add j)=jB u:=by
   intro j u hu;obtain⟨b,off,hA,_,hc⟩:=p.rd.at_ hu;cases hA
   have q:(⟨b,off,jC⟩:Addr).add j=⟨b,off+j,jC⟩:=by
    unfold Addr.add;split
    ·rename_i h;subst h;rfl
    ·rfl
   rw[q];exact hc
  by_cases hm:m=0
  ·subst hm;have l:=jv (by rw[p.len];simp);subst l;have d:=run_append_room_cells (P:=P) w t o.type e i F hi k 0 0 0 M 0 c [] ς ς ς lR ς ς;unfold Oper.wp execOp;simp only[v,resolve,invoke,builtin,Sem.run_bind,Sem.run_pure,Result.andThen_ok,lT,kE,l5,hs,y,d];exact h _ w g bR
  ·obtain⟨v',w',d,N,S⟩:=run_append_arg_grows (P:=P) w t o.type e i z size bytes F hi R H I J G ⟨k,0,jC⟩ 0 0 [] ς ς M m c news p.len f ω (by unfold maxLen;omega) L;unfold Oper.wp execOp;simp only[v,resolve,invoke,builtin,Sem.run_bind,Sem.run_pure,Result.andThen_ok,lT,kE,l5,hs,y,d];rw[ng,lM]at N;exact h v' w' (rC N n) ((qW.uy S).below lR (λ_ _ e=>by cases e))
theorem aeS {w:jF}{e b a:Nat}(h:w.ownsRow base b a v n xs)(d:w.ownsRow base e size u m ys)(f:qW (λk=>u.ownBlock=jB k) w w')(c:b≠e):w'.ownsRow base b a v n xs:=
 qR h f (λk g hS=>own_ne h d c k g hS)
theorem QC {w:jF}{e:Nat}(h:Below base w0 w)(a:w.ownsRow base e size u m ys)(b:qW (λk=>u.ownBlock=jB k) w w')(hb:base<=w0.1.size):Below base w0 w':=
 h.trans (b.below (by have:=h.size;omega) (λk c hS=>by have:=(a.lt k hS).1;omega))
end
set_option maxHeartbeats 2000000
set_option maxRecDepth 100000
theorem H8 (l):∀u∈qO l,u.oneCell'=jD:=by
 intro u hu;obtain⟨b,_,rfl⟩:=jg.1 hu;rfl
theorem C9 (x:Way)(A1:Option Addr)(c1:Nat)(A2:Option Addr)(c2:Nat)(A3:Option Addr)(c3:Nat)(J:Option Addr)(L:Nat)(ps:List Nat)(w:jF)(h:WR w x A1 c1 A2 c2 A3 c3)(hp:Sl w w.1.size 1 J (η ps) L (qO (iE ps)))(hpl:η ps<=1000000)(hl:η x.todo<=1000000):
  Calls jJ 137 #[.agg #[iY jA (x.need:Int),iY jA (x.ban:Int),iX A1 (η x.now) c1,iX A2 (η x.next) c2,iX A3 (η x.todo) c3],iX J (η ps) L] w (UO w (x.with_ ps)):=by
 obtain⟨W,M⟩:=iw (λ(w':jF) (hb:Below w.1.size w w')=>CJ J (η ps) L (qO (iE ps)) w' w.1.size (hp.below hb lR) (H8 _) hb.size ω) h;clear h;have R:=ah4 w (jG #[iY jA (x.need:Int),iY jA (x.ban:Int),iX A1 (η x.now) c1,iX A2 (η x.next) c2,iX A3 (η x.todo) c3] 162) (jG #[iY jA 0,iY jA 0,iX jC 0 0,iX jC 0 0,iX jC 0 0] 162);obtain⟨I,y⟩:=xQ ((w.alloc (jG #[iY jA (x.need:Int),iY jA (x.ban:Int),iX A1 (η x.now) c1,iX A2 (η x.next) c2,iX A3 (η x.todo) c3] 162)).alloc (jG #[iY jA 0,iY jA 0,iX jC 0 0,iX jC 0 0,iX jC 0 0] 162));rw[y]at R;obtain⟨m,z,D,n⟩:=R;have N:I.cell? ⟨w.1.size,4,jC⟩=jB (iX A3 (η x.todo) c3):=cR z;have O:=dh y;clear y;go_enter Tryz.func137,Tryz.ntmps137;go_wp2_with fail
 rw[O.o];refine sM (S:=λw'=>q9 w' w.1.size 4 (iX A3 (η x.todo) c3)) 6 κ (N) (λhS=>?_);refine rT 0 ?_;refine rT 2 ?_;refine rT 3 ?_;refine qZ (i:=1) rfl κ δ (λK r=>?_);go_simp;refine Calls.mono (W _ m.drew) ?_;rintro e w2 ⟨v1,rfl,q,s, -⟩;rw[show(I.drew).1.size=w.1.size+2 from n]at q
 have j:Below (w.1.size+2) I w2:=by
  have:=rF s;rwa [show(I.drew).1.size=w.1.size+2 from n]at this
 clear s;have P:=j.size;rw[n]at P;have X:=bC j ω N;go_wp2_with fail
 refine r _ _ X (λhS=>?_);clear r;refine qZ (i:=4) rfl κ δ (λK r=>?_);refine Vs rfl (.tmp 6) (.tmp 8) 29 rfl (w.1.size+2) 3 1 8 rW v1 (η ps) (qO (iE ps)) q rfl w.1.size A3 (η x.todo) c3 (qO (iE x.todo)) rfl (M.todo.sl.below (m.trans (j.mono ω)) lR) (H8 _) ω ω ω ?_;intro v2 w3 E G _ _;have g:=j.trans (G.below ω (λk T e=>by have:=(q.lt k e).1;omega));have Y:=bC g ω N;have Q:=g.size;rw[n]at Q;refine r _ _ Y (λhS=>?_);clear r;refine rT 5 ?_;obtain⟨A,cap,rfl,U⟩:=zV.Br E;have B:=(g.block w.1.size ω).trans z;have V:=(g.block (w.1.size+1) ω).trans D;have u:=m.trans (g.mono ω);obtain⟨Z,HB⟩:=iw U u;have kf:=frozen_of_row _ _ 4 _ _ B;have j0:w3.cell? ⟨w.1.size,0,jC⟩=jB (iY jA (x.need:Int)):=cR B;have j1:w3.cell? ⟨w.1.size,1,jC⟩=jB (iY jA (x.ban:Int)):=cR B;have j2:w3.cell? ⟨w.1.size,2,jC⟩=jB (iX A1 (η x.now) c1):=cR B;have j3:w3.cell? ⟨w.1.size,3,jC⟩=jB (iX A2 (η x.next) c2):=cR B;obtain⟨Q0,l⟩:=iw B V;clear B V u U E G g j q m z D;have l0:=cell_of_row _ _ 0 _ _ (0,0) l.o;have l1:=cell_of_row _ _ 1 _ _ (0,0) l.o;have l2:=cell_of_row _ _ 2 _ _ (0,0) l.o;have l3:=cell_of_row _ _ 3 _ _ (0,0) l.o;have l4:=cell_of_row _ _ 4 _ _ (0,0) l.o;have a1:=frozen_of_row _ _ 0 _ _ l.o;have a6:=frozen_of_row _ _ 1 _ _ l.o;have a7:=frozen_of_row _ _ 2 _ _ l.o;have a8:=frozen_of_row _ _ 3 _ _ l.o;have ad:=frozen_of_row _ _ 4 _ _ l.o;simp only[kg,jV,lY]at l0 l1 l2 l3 l4;refine sN rfl κ κ (λK r=>?_);go_simp;refine r _ _ ?_;clear r;go_wp2_with fail
 have H:=(Below.heap_setCell w3 ⟨w.1.size,4,jC⟩ (iX A (η ps+η x.todo) cap) (w.1.size+1) (show w.1.size+1≠w.1.size by omega)).trans l.o;refine bodyPost_ret (v:=.agg #[iY jA (x.need:Int),iY jA (x.ban:Int),iX A1 (η x.now) c1,iX A2 (η x.next) c2,iX A (η ps+η x.todo) cap]) ?_ rfl ?_
 ·obtain⟨F,hF,f0,f1,f2,f3,f4⟩:=LX (a:=iY jA (x.need:Int)) (b:=iY jA (x.ban:Int)) (c:=iX A1 (η x.now) c1) (d:=iX A2 (η x.next) c2) (e:=iX A (η ps+η x.todo) cap) H rfl;rw[<-hF];clear hF;simp[results,Tryz.results137,go_sem,f0,f1,f2,f3,f4]
 ·have C:Below w.1.size w (w3.setCell ⟨w.1.size,4,jC⟩ (iX A (η ps+η x.todo) cap)):=HB.setCell (p:=⟨w.1.size,4,jC⟩) lR _;refine Tx (x:=x.with_ ps) H rfl C ω ⟨M.now.below C,M.next.below C,?_⟩ rfl rfl (by simp[Way.with_]) rfl rfl;have T:=Z.keep ((qW.refl (λk=>k=w.1.size) w3).setCell (p:=⟨w.1.size,4,jC⟩) (λ_=>rfl) (iX A (η ps+η x.todo) cap)) (uM Q0 δ);simpa[Way.with_,Hu,sJ]using T
set_option maxHeartbeats 1000000
theorem cells3 {c:Value}(h:w.1[g]? =jB (jG #[a,b,c] t (0,0))):
  w.cell? ⟨g,0,jC⟩=jB a/\w.cell? ⟨g,1,jC⟩=jB b/\w.cell? ⟨g,2,jC⟩=jB c/\w.frozen? ⟨g,2,jC⟩=jE:=by
 refine⟨by simp[jF.cell?,h],by simp[jF.cell?,h],by simp[jF.cell?,h],by simp[jF.frozen?,h]⟩
theorem akb {c:Value}(h:w.1[g]? =jB (jG #[a,b,c] t (0,0))):(w.setCell ⟨g,2,jC⟩ u).1[g]? =jB (jG #[a,b,u] t (0,0)):=by
 have d:=(aI.1 h).1;have e:w.1[g]=jG #[a,b,c] t (0,0):=by simpa[Array.getElem?_eq_getElem d]using h
 simp[jF.setCell,Array.getElem?_modify,h]
def gM (f:List Nd)(s:List Int)(A A':Option Addr)(c c' Bw:Nat)(w:jF)(vo:Value)(n:Nat)(xs:List Value):Prop:=
 w.1[Bw]? =jB (jG #[iX A (η f) c,iX A' (η s) c',vo] 111 (0,0))/\w.ownsRow (Bw+1) 44 2 vo n xs/\
  Sl w Bw 2 A (η f) c (qP f)/\Sl w Bw 1 A' (η s) c' (qO s)
def Fy (f:List Nd)(s:List Int)(A A':Option Addr)(c c' Bw:Nat)(w:jF)(vo:Value)(n:Nat)(xs:List Value)(m:Nat)(news:List Value)(en:Ending)(w':jF):Prop:=
 ∃gT,en=.returned (.tuple #[])/\gM f s A A' c c' Bw w' gT (n+m) (xs++news)/\qW (λk=>k=Bw\/vo.ownBlock=jB k) w w'/\
  (gT.ownBlock=vo.ownBlock\/∃g,w.1.size<=g/\gT.ownBlock=jB g)/\(0<n+m->gT≠iX jC 0 0)
section
variable {f:List Nd}{s:List Int}{A A':Option Addr}{c c' Bw:Nat}{w w1 w2:jF}{vo:Value}{n m m':Nat}{xs news news':List Value}{en:Ending}
theorem gM.uQ (h:gM f s A A' c c' Bw w vo n xs)(i:qW S w w1)(j:∀k,S k->Bw<k)(l:∀g,vo.ownBlock=jB g->¬S g):gM f s A A' c c' Bw w1 vo n xs:=by
 obtain⟨a,b,d,e⟩:=h;have m:=(aI.1 a).1;exact⟨i.blk a (λh=>by have:=j _ h;omega),qR b i l,d.uQ i ω (λk o h=>by have:=j _ h;omega),e.uQ i ω (λk o h=>by have:=j _ h;omega)⟩
theorem gM.alloc (h:gM f s A A' c c' Bw w vo n xs)(o):gM f s A A' c c' Bw (w.alloc o) vo n xs:=
 h.uQ ((qW.refl (λ_=>False) w).alloc o) (λ_ h=>h.elim) (λ_ _ h=>h)
theorem zL {b:Value}(e:qW (λk=>k=Bw\/vo.ownBlock=jB k) w w1)(a:b.ownBlock=vo.ownBlock\/∃g,w.1.size<=g/\b.ownBlock=jB g)
  (t:Fy f s A A' c c' Bw w1 b (n+m) (xs++news) m' news' en w2):Fy f s A A' c c' Bw w vo n xs (m+m') (news++news') en w2:=by
 obtain⟨p,he,j,q,l,o⟩:=t;refine⟨p,he,by rw[<-mD,<-lg];exact j,?_,?_,by rw[<-mD];exact o⟩
 ·refine qW.trans e q (λi hi h=>?_);rcases h with h|h
  ·exact .inl h
  ·rcases a with d|⟨g,u,d⟩
   ·exact .inr (d▸h)
   ·rw[d]at h;cases h;omega
 ·rcases l with h|⟨g,u,h⟩
  ·rcases a with d|⟨g',r,d⟩
   ·exact .inl (h.trans d)
   ·exact .inr ⟨g',r,h.trans d⟩
  ·exact .inr ⟨g,by have:=e.size;omega,h⟩
theorem Fy.behind (o)(h:Fy f s A A' c c' Bw (w.alloc o) vo n xs m news en w1):Fy f s A A' c c' Bw w vo n xs m news en w1:=by
 obtain⟨a,he,b,i,d,e⟩:=h;refine⟨a,he,b,qW.trans ((qW.refl _ w).alloc o) i (λ_ _ h=>h),?_,e⟩;rcases d with h|⟨g,j,h⟩
 ·exact .inl h
 ·exact .inr ⟨g,by simp at j;omega,h⟩
end
theorem PV {s:List Int}{A':Option Addr}{c' Bw:Nat}{v1:Value}(m:gM f s A A' c c' Bw w vo n xs)
  (b:w1.ownsRow (Bw+1) 44 2 v1 (n+1) (xs++news))(e:qW (λk=>vo.ownBlock=jB k) (w.alloc o) w1)(g:v1.ownBlock=vo.ownBlock\/v1.ownBlock=jB (w.alloc o).1.size)(j:v1≠iX jC 0 0):
  w1.1[Bw]? =jB (jG #[iX A (η f) c,iX A' (η s) c',vo] 111 (0,0))/\
   Fy f s A A' c c' Bw w vo n xs 1 news (.returned (.tuple #[])) (w1.setCell ⟨Bw,2,jC⟩ v1):=by
 obtain⟨hb,d,hf,hs⟩:=m;have q:=(aI.1 hb).1;have l:=e.blk ((Below.heap_alloc _ _ _ q).trans hb) (λh=>by have:=(d.lt _ h).1;omega)
 have r:qW (λk=>k=Bw\/vo.ownBlock=jB k) w (w1.setCell ⟨Bw,2,jC⟩ v1):=
  qW.setCell (p:=⟨Bw,2,jC⟩) (qW.trans ((qW.refl (λk=>k=Bw\/vo.ownBlock=jB k) w).alloc o) e (λi _ h=>.inr h)) (λ_=>.inl rfl) v1
 refine⟨l,v1,rfl,⟨akb l,?_,?_,?_⟩,r,?_,λ_=>j⟩
 ·exact ownsRow_setCell_other (a:=⟨Bw,2,jC⟩) b (λh=>absurd (b.lt _ h).1 (Nat.not_succ_le_self Bw)) v1
 ·exact hf.uQ r ω (λk u h=>by
   rcases h with h|h
   ·omega
   ·have:=(d.lt _ h).1;omega)
 ·exact hs.uQ r ω (λk u h=>by
   rcases h with h|h
   ·omega
   ·have:=(d.lt _ h).1;omega)
 ·rcases g with h|h
  ·exact .inl h
  ·exact .inr ⟨_,ς,h⟩
theorem Bu (f s A A' c c' Bw op w vo n xs)(b:gM f s A A' c c' Bw w vo n xs)(p:n<=1000000000):
  Calls jJ 99 #[jH (jB ⟨Bw,0,jC⟩),iY iZ op] w (Fy f s A A' c c' Bw w vo n xs 1 [iY iZ op,iY iZ 0]):=by
 have d:=b;obtain⟨hb,e,hf,hs⟩:=b;obtain⟨q,r,u,v⟩:=cells3 hb;have o:=(aI.1 hb).1;go_enter Tryz.func99,Tryz.ntmps99;go_wp2_with (at_builtin;refine rD rfl (.tmp 8) (.tmp 11) 22 rfl (Bw+1) 44 2 16 FK _ _ _ (e.alloc _) rfl w.1.size #[iY iZ op,iY iZ 0] rfl (heap_alloc_new w _) rfl (by simp[Value.oneCell']) ω ω (by simp;omega) ?_;intro v1 w1 a k g i;obtain⟨l,j⟩:=PV d a k g i;obtain⟨_,_,x,y⟩:=cells3 l;obtain⟨g1,m,rfl,_⟩:=sP a ω)
 go_end0
 exact j
theorem PY (no a b w):Calls jJ 100 #[jI no,iY iZ a,iY iZ b] w λe w'=>e=.returned (iY iZ (if no then b else a))/\w=w':=by
 cases no
 all_goals
  go_enter Tryz.func100,Tryz.ntmps100;go_wp2
  go_ret
  exact⟨rfl,rfl⟩
set_option maxHeartbeats 8000000
set_option maxRecDepth 100000
def LH (f:List Nd)(s:List Int)(A A':Option Addr)(c c' Bw:Nat)(t:Tr)(b:Nat):Prop:=
 ∀(no:Bool) (k:Nat) (w:jF) (vo:Value) (n:Nat) (xs:List Value),k+1=b+t.size->gM f s A A' c c' Bw w vo n xs->n+2*t.size<=100000000->
  Calls jJ 67 #[jH (jB ⟨Bw,0,jC⟩),iY iZ k,jI no] w (Fy f s A A' c c' Bw w vo n xs (nn t (!no)).size (qP (nn t (!no)).flat))
section
variable {f:List Nd}{s:List Int}{A A':Option Addr}{c c' Bw:Nat}
theorem He {m':Nat}{news':List Value}(h:Fy f s A A' c c' Bw w vo n xs m news en w')(hm:m=m')(a:news=news'):Fy f s A A' c c' Bw w vo n xs m' news' en w':=by
 subst hm;subst a;exact h
theorem agc (a d:Tr)(b kl i k:Nat)(J:k=i+1)(left right:Bool)(op:Int)(_hl:η f<=1000000)(K:LH f s A A' c c' Bw a b)(hd:LH f s A A' c c' Bw d (b+a.size))(z:kl+1=b+a.size)(B:i+1=b+a.size+d.size)
  (hs:s[i]? =jB ((kl:Int)+1))(L:i<1000000000)(w:jF)(vo:Value)(n:Nat)(xs:List Value)(g:gM f s A A' c c' Bw w vo n xs)(hn:n+2*a.size+2*d.size+2<=100000000):
  Calls jJ 101 #[jH (jB ⟨Bw,0,jC⟩),iY iZ (k:Nat),jI left,jI right,iY iZ op] w
   (Fy f s A A' c c' Bw w vo n xs ((nn a (!left)).size+((nn d (!right)).size+1)) (qP (nn a (!left)).flat++(qP (nn d (!right)).flat++[iY iZ op,iY iZ 0]))):=by
 obtain⟨q0,q1,q2,q3⟩:=cells3 g.1;obtain⟨b1,o1,rfl,_,hcs⟩:=g.2.2.2.rd.at_ (j:=k-1) (u:=iY iZ ((kl:Int)+1)) (by rw[J];simp[qO,hs]);have S:=(gB.1 hs).1;have T:=zy a (!left);have U:=zy d (!right);have h1:(k:Int)-1<(η s:Int):=ω;have h0:(0:Int)<=(k:Int)-1:=ω;have l:(k:Int)-1=(i:Int):=ω;have C:=dh l;have V:k<=1000000000:=ω;have W:1<=k:=ω;clear l J;have M:kl<1000000000:=by have:=d.size_pos;omega
 obtain⟨X,Y⟩:=iw K hd;clear K hd hs;go_enter Tryz.func101,Tryz.ntmps101;go_wp2_with fail
 refine(X left kl w vo n xs z g ω).mono ?_;rintro e w1 D;have m:=D;obtain⟨E,rfl,p,F,q,N⟩:=m;go_wp2_with fail
 rw[C.o];refine(Y right i w1 E _ _ B p ω).mono ?_;rintro e w2 G;have r:=G;obtain⟨H,rfl,t,I,v,O⟩:=r;go_wp2_with fail
 refine(Bu f s _ _ c c' Bw op w2 H _ _ t ω).mono ?_;rintro e w3 x;have y:=x;obtain⟨Z,rfl,P,a1,Q,R⟩:=y;go_wp2
 go_end0
 exact zL F q (zL I v x)
theorem afX (a:Tr)(b kl k:Nat)(L:k=kl+1)(no ut:Bool)(E:LH f s A A' c c' Bw a b)(v:kl+1=b+a.size)(F:kl<1000000000)(w:jF)(vo:Value)(n:Nat)(xs:List Value)(x:gM f s A A' c c' Bw w vo n xs)(S:n+2*a.size+2<=100000000):
  Calls jJ 102 #[jH (jB ⟨Bw,0,jC⟩),iY iZ (k:Nat),jI no,jI ut] w
   (Fy f s A A' c c' Bw w vo n xs (1+((nn a (!no)).size+1)) ([iY iZ (if ut then 1 else 2),iY iZ 0]++(qP (nn a (!no)).flat++[iY iZ (if ut then 9 else 10),iY iZ 0]))):=by
 have M:=zy a (!no);have N:=dh E;clear E;have j:(k:Int)-1=(kl:Int):=ω;have y:=dh j;have O:k<=1000000000:=ω;have P:1<=k:=ω;clear j L;cases ut
 all_goals
  go_enter Tryz.func102,Tryz.ntmps102;go_wp2_with fail
  refine(Bu f s _ _ c c' Bw _ w vo n xs x ω).mono ?_;rintro e w1 z;have l:=z;obtain⟨B,rfl,m,p,d,G⟩:=l;go_wp2_with fail
  rw[y.o];refine(N no kl w1 B _ _ v m ω).mono ?_;rintro e w2 C;have q:=C;obtain⟨D,rfl,r,t,g,H⟩:=q;go_wp2_with fail
  refine(Bu f s _ _ c c' Bw _ w2 D _ _ r ω).mono ?_;rintro e w3 i;have u:=i;obtain⟨Q,rfl,I,R,J,K⟩:=u;go_wp2
  first
   |(go_end0;exact zL p d (zL t g i))
   |(refine bodyPost_ret (results_none rfl _ _ _) rfl ?_;exact zL p d (zL t g i))
theorem aeR (hl:η f<=1000000):∀(t:Tr) (b:Nat),t.ok->At f s b t->LH f s A A' c c' Bw t b:=by
 intro t;induction t with
 |leaf x=>
  intro b G p no k w vo n xs Q l hn;obtain⟨F,H⟩:=at_root p Q;have y:=(gB.1 F).1;have z:f[k]=x:=by rw[gE y]at F;simpa[Tr.root]using F
  obtain⟨b0,o0,rfl,_,I,J⟩:=vZ l.2.2.1.rd y;rw[z]at I J;obtain⟨q0,q1,q2,q3⟩:=cells3 l.1;obtain⟨op,m⟩:=x;dsimp only at *;have g:=l.alloc (jG #[iY iZ op,iY iZ m] 44);clear F H z;rcases vV G.1 with rfl|rfl|rfl
  ·cases no
   all_goals
    go_enter Tryz.func67,Tryz.ntmps67;go_wp2_with (go_at_call 100;refine(PY _ _ _ _).mono ?_;rintro e w' ⟨rfl,rfl⟩)
    refine(Bu f s _ _ c c' Bw _ _ vo n xs g ω).mono ?_;rintro e w3 j;have i:=j;obtain⟨D,rfl,q,E,r,v⟩:=i;go_wp2
    go_end0
    exact He (Fy.behind _ j) (by simp[nn,Tr.size]) (by simp[nn,Tr.flat,qP])
  ·cases no
   all_goals
    go_enter Tryz.func67,Tryz.ntmps67;go_wp2_with (go_at_call 100;refine(PY _ _ _ _).mono ?_;rintro e w' ⟨rfl,rfl⟩)
    refine(Bu f s _ _ c c' Bw _ _ vo n xs g ω).mono ?_;rintro e w3 j;have i:=j;obtain⟨D,rfl,q,E,r,v⟩:=i;go_wp2
    go_end0
    exact He (Fy.behind _ j) (by simp[nn,Tr.size]) (by simp[nn,Tr.flat,qP])
  ·have ax:=(aI.1 l.1).1;obtain⟨p0,p1,p2,p3⟩:=cells3 g.1
   have W:((w.alloc (jG #[iY iZ 3,iY iZ m] 44)).alloc (jG #[iY iZ 3,iY iZ m] 44)).drew.1[w.1.size+1]? =jB (jG #[iY iZ 3,iY iZ m] 44 (0,0)):=by
    have h:=heap_alloc_new (w.alloc (jG #[iY iZ 3,iY iZ m] 44)) (jG #[iY iZ 3,iY iZ m] 44);rw[jF.size_alloc]at h;exact h
   cases no
   ·go_enter Tryz.func67,Tryz.ntmps67;go_wp2
    go_region_law (first|(refine su rfl (.tmp 49) (.tmp 53) 22 rfl (Bw+1) 44 2 16 FK vo n xs (g.2.1.alloc _) rfl (w.1.size+1) #[iY iZ 3,iY iZ m] rfl W rfl (by simp[Value.oneCell']) ω ω (by simp;omega) ?_;intro v1 w1 u S K L;obtain⟨T,M⟩:=PV g u (qW.OQ S) K L;obtain⟨_,_,r2,r3⟩:=cells3 T;obtain⟨g1,X,rfl,_⟩:=sP u ω))
    all_goals
     go_wp2
     go_end0
     exact He (Fy.behind _ M) (by simp[nn,Tr.size]) (by simp[nn,Tr.flat,qP])
   ·go_enter Tryz.func67,Tryz.ntmps67;go_wp2
    go_region_law (first|(refine su rfl (.tmp 49) (.tmp 53) 22 rfl (Bw+1) 44 2 16 FK vo n xs (g.2.1.alloc _) rfl (w.1.size+1) #[iY iZ 3,iY iZ m] rfl W rfl (by simp[Value.oneCell']) ω ω (by simp;omega) ?_;intro v1 w1 u S K L;obtain⟨T,M⟩:=PV g u (qW.OQ S) K L;obtain⟨_,_,r2,r3⟩:=cells3 T;obtain⟨g1,X,rfl,_⟩:=sP u ω))
    all_goals
     obtain⟨ak,_,Y,ao,Z,_⟩:=M;go_wp2_with fail
     refine(Bu f s _ _ c c' Bw _ _ ak _ _ Y ω).mono ?_;rintro e w3 j;have i:=j;obtain⟨D,rfl,q,E,r,v⟩:=i;go_wp2
     go_end0
     exact He (Fy.behind _ (zL ao Z j)) (by simp[nn,Tr.size]) (by simp[nn,Tr.flat,qP])
 |un x a N=>
  intro b G p no k w vo n xs Q l hn;obtain⟨F,H⟩:=at_root p Q;have y:=(gB.1 F).1;have z:f[k]=x:=by rw[gE y]at F;simpa[Tr.root]using F
  obtain⟨h0,O⟩:=G;obtain⟨kl,B⟩:∃kl,kl+1=b+a.size:=⟨b+a.size-1,by have:=a.size_pos;omega⟩;simp only[Tr.size]at Q hn;have C:k=kl+1:=ω;have a1:(k:Int)-1=(kl:Int):=ω;obtain⟨a6,U⟩:=iw a1 C;have aq:k<=1000000000:=ω;have ar:1<=k:=ω;have ay:kl<1000000000:=ω;have a7:=N b O p.1;obtain⟨b0,o0,rfl,_,I,J⟩:=vZ l.2.2.1.rd y;rw[z]at I J;obtain⟨q0,q1,q2,q3⟩:=cells3 l.1;obtain⟨op,m⟩:=x;dsimp only at *;have g:=l.alloc (jG #[iY iZ op,iY iZ m] 44);have V:=dh a7;clear F H z N a7 p a1 C Q;rcases Bh h0 with rfl|rfl|rfl|rfl
  ·cases no
   all_goals
    go_enter Tryz.func67,Tryz.ntmps67;go_wp2_with fail
    rw[a6.o];refine(V _ kl _ vo n xs B g ω).mono ?_;rintro e w3 j;have i:=j;obtain⟨D,rfl,q,E,r,v⟩:=i;go_wp2
    go_end0
    exact He (Fy.behind _ j) (by simp[nn]) (by simp[nn])
  ·cases no
   all_goals
    go_enter Tryz.func67,Tryz.ntmps67;go_wp2_with fail
    rw[a6.o];refine(V _ kl _ vo n xs B g ω).mono ?_;rintro e w3 j;have i:=j;obtain⟨D,rfl,q,E,r,v⟩:=i;have aD:=zy a jD;have aE:=zy a jE;go_wp2_with fail
    refine(Bu f s _ _ c c' Bw _ _ D _ _ q (by simp only[Bool.not_true,Bool.not_false];omega)).mono ?_;rintro e w4 a8;have ad:=a8;obtain⟨aF,rfl,az,aG,aA,aB⟩:=ad;go_wp2
    go_end0
    refine He (Fy.behind _ (zL E r a8)) (by simp[nn,Tr.size]) (by simp[nn,Tr.flat,qP])
  all_goals
   cases no
   all_goals
    go_enter Tryz.func67,Tryz.ntmps67;go_wp2_with fail
    refine(afX a b kl k U _ _ V B ω _ vo n xs g ω).mono ?_;rintro e w3 j;have i:=j;obtain⟨D,rfl,q,E,r,v⟩:=i;go_wp2
    go_end0
    exact He (Fy.behind _ j) (by simp[nn,Tr.size];omega) (by simp[nn,Tr.flat,qP])
 |bin x a d N af=>
  intro b G p no k w vo n xs Q l hn;obtain⟨F,H⟩:=at_root p Q;have y:=(gB.1 F).1;have z:f[k]=x:=by rw[gE y]at F;simpa[Tr.root]using F
  obtain⟨h0,O,ag⟩:=G;obtain⟨kl,B⟩:∃kl,kl+1=b+a.size:=⟨b+a.size-1,by have:=a.size_pos;omega⟩;obtain⟨kr,R⟩:∃kr,kr+1=(b+a.size)+d.size:=⟨b+a.size+d.size-1,by have:=d.size_pos;omega⟩;simp only[Tr.size]at Q hn;have C:k=kr+1:=ω;have U:=dh C;have aq:k<=1000000000:=ω;have ar:1<=k:=ω;have aC:kr<1000000000:=ω;have P:=(at_root p.2.1 R).2;rw[show((b+a.size:Nat):Int)=(kl:Int)+1 by omega]at P;have ah:=N b O p.1;have aj:=af (b+a.size) ag p.2.1;obtain⟨b0,o0,rfl,_,I,J⟩:=vZ l.2.2.1.rd y;rw[z]at I J;obtain⟨q0,q1,q2,q3⟩:=cells3 l.1;obtain⟨op,m⟩:=x;dsimp only at *;have g:=l.alloc (jG #[iY iZ op,iY iZ m] 44);obtain⟨au,av,aw⟩:=iA ah aj P;clear F H z N af ah aj p P C Q;rcases zM h0 with rfl|rfl|rfl|rfl|rfl
  all_goals
   cases no
   all_goals
    go_enter Tryz.func67,Tryz.ntmps67;go_wp2_with (go_at_call 100;refine(PY _ _ _ _).mono ?_;rintro e w' ⟨rfl,rfl⟩)
    refine(agc a d b kl kr k U _ _ _ hl au av B R aw ω _ vo n xs g ω).mono ?_;rintro e w3 j;have i:=j;obtain⟨D,rfl,q,E,r,v⟩:=i;go_wp2
    go_end0
    exact He (Fy.behind _ j) (by simp[nn,Tr.size];omega) (by simp[nn,Tr.flat,qP])
end
set_option maxHeartbeats 400000
theorem Bj (a w):
  Calls jJ 97 #[iY iZ a] w λe w'=>e=.returned (iY iZ (takes a))/\w=w':=by
 go_enter Tryz.func97,Tryz.ntmps97;go_wp2
 all_goals (go_ret;exact⟨by simp_all [takes],rfl⟩)
set_option maxHeartbeats 1000000
def QM (w:jF)(base Bx:Nat)(vo:Value)(b:Int)(outs:List Int)(en:Ending)(w':jF):Prop:=
 ∃gT,en=.returned (iY iZ b)/\w'.1[Bx]? =jB (jG #[gT] 29 (0,0))/\w'.ownsRow base 3 1 gT (η outs+1) (qO (outs++[b]))/\
  qW (λk=>k=Bx\/vo.ownBlock=jB k) w w'/\(gT.ownBlock=vo.ownBlock\/∃g,w.1.size<=g/\gT.ownBlock=jB g)
theorem abQ (at_ A m c parts)(hm:m=η parts)(Bx vo outs w B base)(hp:Sl w B 1 A m c (qO parts))(l:w.1[Bx]? =jB (jG #[vo] 29 (0,0)))(q:w.ownsRow base 3 1 vo (η outs) (qO outs))(u:base<=w.1.size)(H:η outs<=1000000000):
  Calls jJ 66 #[iY iZ at_,iX A m c,jH (jB ⟨Bx,0,jC⟩)] w (QM w base Bx vo (Xc at_ parts) outs):=by
 subst hm;have v:=lt_of_block l;have y:=qQ q l δ
 have key:∀(x:Int) (v1:Value) (w1:jF),w1.ownsRow base 3 1 v1 (η outs+1) (qO outs++[iY iZ x])->qW (λk=>vo.ownBlock=jB k) (w.alloc (jG #[iY iZ x] 3)) w1->
   (v1.ownBlock=vo.ownBlock\/v1.ownBlock=jB (w.alloc (jG #[iY iZ x] 3)).1.size)->
   w1.1[Bx]? =jB (jG #[vo] 29 (0,0))/\QM w base Bx vo x outs (.returned (iY iZ x)) (w1.setCell ⟨Bx,0,jC⟩ v1):=by
  intro x v1 w1 d o g;have e:=o.blk ((Below.heap_alloc _ _ _ v).trans l) y;refine⟨e,v1,rfl,one_setCell e,?_,?_,?_⟩
  ·rw[sJ];exact ownsRow_setCell_other (a:=⟨Bx,0,jC⟩) d (qQ d e δ) v1
  ·refine qW.setCell (p:=⟨Bx,0,jC⟩) ?_ (λ_=>.inl rfl) v1;exact qW.trans ((qW.refl (λk=>k=Bx\/vo.ownBlock=jB k) w).alloc _) o (λi _ h=>.inr h)
  ·rcases g with h|h
   ·exact .inl h
   ·exact .inr ⟨_,ς,h⟩
 have F:=cell_of_one l;by_cases D:parts=[]
 ·subst D;have hd:decide ((0:Int)<(η ([]:List Int):Int))=jE:=rfl;go_enter Tryz.func66,Tryz.ntmps66;go_wp2_with (at_builtin;refine rD rfl (.tmp 14) (.tmp 16) 29 rfl base 3 1 8 rW vo (η outs) (qO outs) (q.alloc _) rfl w.1.size #[iY iZ at_] rfl (heap_alloc_new w _) rfl (by simp[Value.oneCell']) ω ω (by simp;omega) ?_;intro v1 w1 d o g _;obtain⟨e,j⟩:=key _ v1 w1 d o g;have z:=free_of_one e;have C:=cell_of_one e;obtain⟨g1,r,rfl,_⟩:=sP d ω)
  go_ret
  exact j
 ·obtain⟨s,ps,rfl⟩:=List.exists_cons_of_ne_nil D;obtain⟨b,off,rfl,_,hcell⟩:=JV hp.rd (k:=0) ς;simp only[om,nG]at hcell;have hd:(0:Int)<(η (s::ps):Int):=ς;have G:0<η (s::ps):=ς;generalize hlen:η (s::ps)=n at *;have E:=dh hlen;clear hlen;go_enter Tryz.func66,Tryz.ntmps66;go_wp2_with (at_builtin;refine rD rfl (.tmp 14) (.tmp 16) 29 rfl base 3 1 8 rW vo (η outs) (qO outs) (q.alloc _) rfl w.1.size #[iY iZ s] rfl (heap_alloc_new w _) rfl (by simp[Value.oneCell']) ω ω (by simp;omega) ?_;intro v1 w1 d o g _;obtain⟨e,j⟩:=key _ v1 w1 d o g;have z:=free_of_one e;have C:=cell_of_one e;obtain⟨g1,r,rfl,_⟩:=sP d ω)
  go_ret
  exact j
set_option maxHeartbeats 2000000
set_option maxRecDepth 100000
def agy (f:List Nd)(w:jF)(Bx k:Nat)(vs:Value)(wr:jF):Prop:=
 ∃vo,scan (f.take k) 0=(0,(runs (f.take k)).1.length)/\wr.ownsRow w.1.size 3 1 vs (runs (f.take k)).1.length (qO (runs (f.take k)).1)/\
  wr.1[Bx]? =jB (jG #[vo] 29 (0,0))/\wr.ownsRow w.1.size 3 1 vo k (qO (runs (f.take k)).2)/\Below Bx w wr/\
  (∀g,vs.ownBlock=jB g->vo.ownBlock≠jB g)
def QJ (f:List Nd)(w:jF)(Bx:Nat)(en:Ending)(w':jF):Prop:=
 ∃vs vo,en=.returned (.tuple #[vs,iY iZ (scan f 0).1])/\Below Bx w w'/\w'.1[Bx]? =jB (jG #[vo] 29 (0,0))/\
  ((scan f 0).1=0->w'.ownsRow w.1.size 3 1 vs (runs f).1.length (qO (runs f).1)/\w'.ownsRow w.1.size 3 1 vo (η f) (qO (runs f).2))
theorem OE (a:k<η f)(h:agy f w Bx k vs wr)(o b)(he:bad f[k] (runs (f.take k)).1.length=b)(d:b≠0):
  QJ f w Bx (.returned (.tuple #[iX jC 0 0,iY iZ b])) (wr.alloc o):=by
 obtain⟨vo,e,i,c,j,g,l⟩:=h;have hs:=(GR a e (by rw[he];exact d)).2;rw[he]at hs;refine⟨_,vo,by rw[hs],g.alloc ?_ _,(Below.heap_alloc _ _ _ (lt_of_block c)).trans c,λh=>absurd (hs.symm.trans h) d⟩;have:=lt_of_block c;omega
theorem adQ (h:agy f w Bx (η f) vs wr):QJ f w Bx (.returned (.tuple #[vs,iY iZ 0])) wr:=by
 obtain⟨vo,a,b,d,c,e,g⟩:=h;rw[tL lR]at a b c;exact⟨vs,vo,by rw[a],e,d,λ_=>⟨b,c⟩⟩
theorem abj {w2 w3 w4:jF}{cut:Nat}{vs':Value}{x:Nd}{st outs:List Int}{b:Int}(s:k<η f)(H:f[k]=x)(u:(runs (f.take k)).1=st)(d:(runs (f.take k)).2=outs)
  (U:scan (f.take k) 0=(0,η st))(I:bad x (η st)=0)(hcut:cut=η st-(takes x.op).toNat)(hle:takes x.op<=(η st:Int))(J:0<=takes x.op)
  (V:w.1.size<=wr.1.size)(W:Bx<w.1.size)(i:wr.ownsRow w.1.size 3 1 vs (η st) (qO st))(_hbox:wr.1[Bx]? =jB (jG #[vo] 29 (0,0)))
  (v:wr.ownsRow w.1.size 3 1 vo k (qO outs))(y:Below Bx w wr)(z:∀g,vs.ownBlock=jB g->vo.ownBlock≠jB g)(A:Below (wr.alloc o).1.size (wr.alloc o) w2)
  (Z:n=k)(K:Xc k (st.drop cut)=b)(hp:QM w2 w.1.size Bx vo b outs en w3)
  (L:w4.ownsRow w.1.size 3 1 vs' (cut+1) (qO (st.take cut)++[iY iZ b]))(M:qW (λg=>vs.ownBlock=jB g) (w3.alloc (jG #[iY iZ b] 3)) w4)
  (N:vs'.ownBlock=vs.ownBlock\/vs'.ownBlock=jB (w3.alloc (jG #[iY iZ b] 3)).1.size):agy f w Bx (k+1) vs' w4:=by
 obtain⟨p,_,q,j,B,C⟩:=hp;have hlen:η outs=k:=by rw[<-d,GX,jq];omega
 have O:runs (f.take (k+1))=(st.take cut++[b],outs++[b]):=by
  have X:((runs (f.take k)).2.length:Int)=k:=by rw[d,hlen]
  rw[IK s,H,agU _ _ (by rw[u];exact hle) J,u,d,hlen,<-hcut,K]
 have hs:=Oe s U (by rw[H];exact I);rw[H]at hs;have hl:η (st.take cut++[b])=cut+1:=by rw[lA,jq];simp;omega
 have P:cut+1=η st-(takes x.op).toNat+1:=ω;have S:Bx<wr.1.size:=ω;have Q:=A.size;have Y:=B.size;simp only[jF.size_alloc]at Q;have D:∀g,vs.ownBlock=jB g->g≠Bx:=λg c e=>by have:=(i.lt g c).1;omega
 have T:=λg c=>(v.lt g c).2
 have r:∀g,p.ownBlock=jB g->g<w3.1.size/\w.1.size<=g:=λg c=>⟨(j.lt g c).2,(j.lt g c).1⟩
 have l:∀g,vs.ownBlock=jB g->p.ownBlock≠jB g:=by
  intro g c a;rcases C with h|⟨g',h',R⟩
  ·rw[h]at a;exact z g c a
  ·rw[R]at a;cases a;have:=(i.lt _ c).2;omega
 have m:=qW.trans ((qW.refl _ w3).alloc _) M (λ_ _ h=>h);refine⟨p,?_,?_,?_,?_,?_,?_⟩
 ·rw[hs,O,hl,P]
 ·rw[O,hl,sJ];exact L
 ·exact m.blk q (λh=>D Bx h rfl)
 ·rw[O];have:=qR j m (λg c a=>l g a c);rwa [hlen]at this
 ·have E:=((Below.refl Bx wr).alloc ω o).trans (A.mono (by simp;omega))
  have F:Below Bx w2 w3:=B.below ω (λg c h=>by
   rcases h with h|h
   ·omega
   ·have:=(v.lt g h).1;omega)
  have G:Below Bx w3 w4:=m.below ω (λg c h=>by have:=(i.lt g h).1;omega);exact((y.trans E).trans F).trans G
 ·intro g c a;rcases N with h|h
  ·rw[h]at c;exact l g c a
  ·rw[h]at c;cases c;have:=(r _ a).1;simp at this;omega
theorem adR (A c f w Bx)(hf:Sl w Bx 2 A (η f) c (qP f))(y:w.1[Bx]? =jB (jG #[iX jC 0 0] 29 (0,0)))(hl:η f<=1000000000):
  Calls jJ 65 #[iX A (η f) c,.func (.func 66) #[] #[jH (jB ⟨Bx,0,jC⟩)]] w (QJ f w Bx):=by
 have N:=lt_of_block y
 have O:agy f w Bx 0 (iX jC 0 0) w:=
  ⟨iX jC 0 0,by simp[runs,scan],by simpa[runs,qO]using jF.ownsRow_nil w w.1.size 3 1,y,by simpa[runs,qO]using jF.ownsRow_nil w w.1.size 3 1,bR,by simp[Value.ownBlock]⟩
 go_enter Tryz.func65,Tryz.ntmps65;go_wp2
 go_loopw [6,14] (λv i wr=>∃k:Nat,k<=η f/\i=iY iZ k/\agy f w Bx k v wr) (λ_ i _=>η f-(intOf i).toNat)
 case atStart=>exact⟨0,ω,rfl,O⟩
 case round=>
  clear O;obtain⟨k,hk,rfl,hrel⟩:=hrel;by_cases p:k<η f
  ·have P:=dh hrel;obtain⟨vo,h1,d,E,Q,m,z⟩:=hrel;obtain⟨b0,off,rfl,_,ax,ay⟩:=vZ (hf.rd.below m lR) p;have HT:=zY f[k].op;generalize F:(runs (f.take k)).1=st at *;generalize q:(runs (f.take k)).2=outs at *;have j:η outs=k:=by rw[<-q,GX,jq];omega
   have R:η st<=k:=by rw[<-F];have:=GY (f.take k);rw[jq]at this;omega
   obtain⟨G,S,H1,B⟩:=iB F q h1 j;clear F q h1 j;generalize hx:f[k]=x at *;have Hx:=dh hx;clear hx;obtain⟨op,n⟩:=x;dsimp only at *;by_cases e1:takes op<0
   ·go_wp2_with (first|(go_at_call 97;refine(Bj _ _).mono ?_;rintro e w' ⟨rfl,rfl⟩))
    go_ret2
    exact OE p P.out _ 3 (by rw[Hx.o,XD e1]) ω
   by_cases e2:(η st:Int)<takes op
   ·obtain⟨T,M,rfl,r⟩:=qX d;go_wp2_with (first|(go_at_call 97;refine(Bj _ _).mono ?_;rintro e w' ⟨rfl,rfl⟩))
    go_ret2
    exact OE p P.out _ 4 (by rw[Hx.o,G.o,SX (by dsimp only;omega) e2]) ω
   have H:0<=takes op:=ω;have I:takes op<=(η st:Int):=ω;clear e1 e2;by_cases U:op=3/\(n<0\/8<=n)
   ·obtain⟨rfl,U⟩:=U;obtain⟨T,M,rfl,r⟩:=qX d;rw[Db]at HT H I;rcases U with U|U
    all_goals
     go_wp2_with (first|(go_at_call 97;refine(Bj _ _).mono ?_;rw[Db];rintro e w' ⟨rfl,rfl⟩))
     go_ret2
     exact OE p P.out _ 10 (by rw[Hx.o,G.o,SY (by simp[Db]) (by simp[Db]) rfl (by dsimp only;omega)]) ω
   have V:bad ⟨op,n⟩ (η st)=0:=Fu H I (by dsimp only;omega);have ah:=dh V;clear V;obtain⟨a,W⟩:∃a:Nat,takes op=a:=⟨(takes op).toNat,ω⟩;have hcut:η st-a<=η st:=ω;have u:=dh W;have ao:(a:Int)<=(η st:Int):=ω;have aq:(a:Int)<=2:=ω;clear W H I HT;obtain⟨T,M,rfl,r⟩:=qX d;have l:=r.cap
   have J:(M=η st-a/\Sl (wr.alloc (jG #[iY iZ op,iY iZ n] 44)) wr.1.size 1 T 0 0 (qO (st.drop (η st-a))))\/
     (M≠η st-a/\Sl (wr.alloc (jG #[iY iZ op,iY iZ n] 44)) wr.1.size 1 (Option.map (λx=>x.add (η st-a)) T) (η st-(η st-a)) (M-(η st-a)) (qO (st.drop (η st-a)))):=by
    have h:=(r.below ((Below.refl wr.1.size wr).alloc lR (jG #[iY iZ op,iY iZ n] 44)) lR).drop hcut;rw[<-WS]at h;by_cases l:M=η st-a
    ·refine .inl ⟨l,?_⟩;have hz:η st-(η st-a)=0:=by have:=r.cap;omega
     rw[jd l,hz,l,mZ]at h;exact h
    ·refine .inr ⟨l,?_⟩;rw[d9 l]at h;simpa using h
   have X:Below wr.1.size wr (wr.alloc (jG #[iY iZ op,iY iZ n] 44)):=(Below.refl wr.1.size wr).alloc lR _;have C:(wr.alloc (jG #[iY iZ op,iY iZ n] 44)).1[Bx]? =jB (jG #[vo] 29 (0,0)):=(Below.heap_alloc _ _ _ (lt_of_block E)).trans E;have az:=Nat.le_trans (nS N) m.size;have Y:=m.size;rcases(show(op=3/\0<=n/\n<8)\/op≠3 from by by_cases h:op=3<;>omega)with⟨rfl,h5,h6⟩|h3
   all_goals
    rcases J with⟨rfl,Z⟩|⟨l,Z⟩
    all_goals
     go_wp2_with (first|(go_at_call 97;refine(Bj _ _).mono ?_;rw[u.o];rintro e w' ⟨rfl,rfl⟩))
     refine(CJ _ _ _ _ _ _ Z (Ga _) ς ω).mono ?_;rintro e w2 ⟨v2,rfl,K,s,_⟩;obtain⟨A2,c2,rfl,a1⟩:=qX K;have a6:=(s.block Bx (lt_of_block C)).trans C;have a7:=own_below (own_below Q X) s;have a8:=s.size;simp only[jF.size_alloc]at a8;go_wp2_with fail
     refine(abQ _ _ _ _ (st.drop (η st-a)) (by rw[List.length_drop]<;>omega) Bx vo outs _ _ w.1.size a1 a6 (by rw[B.o];exact a7) ω (by rw[B.o];omega)).mono ?_;rintro e w3 hp;have aj:=hp;obtain⟨aA,rfl,ar,au,ad,av⟩:=aj;have ak:=qR (own_below (own_below d X) s) ad (λg hg h=>h.elim (λh=>by have:=(d.lt g hg).1;omega) (λh=>z g hg h));have af:=(Eb ak hcut).alloc (jG #[iY iZ (Xc k (st.drop (η st-a)))] 3);have aw:=ad.size;go_wp2_with (at_builtin;refine rD rfl (.tmp 57) (.tmp 59) 29 rfl w.1.size 3 1 8 rW _ _ _ af rfl w3.1.size #[iY iZ (Xc k (st.drop (η st-a)))] rfl (heap_alloc_new w3 _) rfl (by simp[Value.oneCell']) ω ω (by simp;omega) ?_;intro v4 w4 L ag D _;rw[G9 T _ (η st) _ _]at ag D)
     go_roundw
     case rel=>
      exact⟨k+1,ω,by go_num,abj (cut:=η st-a) (x:=⟨_,n⟩) (b:=Xc k (st.drop (η st-a))) (n:=k) p Hx G S H1 ah (by rw[show takes _ =(a:Int)from u.o];simp) (by rw[show takes _ =(a:Int)from u.o];omega) (by rw[show takes _ =(a:Int)from u.o];omega)
       Y N d E Q m z s rfl rfl hp (by rw[WQ];exact L) ag D⟩
     case measure=>simp[intOf];omega
  ·have:k=η f:=ω;subst this;have P:=dh hrel;clear hrel;go_wp2
   go_ret2
   exact adQ P.out
set_option maxHeartbeats 1000000
def Td (f:List Nd)(w:jF)(en:Ending)(w':jF):Prop:=
 ∃v,en=.returned (.tuple #[v,iY iZ (wrong f)])/\w'.ownsRow w.1.size 3 1 v (η (spans f)) (qO (spans f))/\Below w.1.size w w'/\(v=iX jC 0 0↔spans f=[])
theorem Ma (hb:Below w.1.size w w'){e:Int}(he:wrong f=e)(a:e≠0):Td f w (.returned (.tuple #[iX jC 0 0,iY iZ e])) w':=by
 have hs:=(vQ f).2 (by rw[he];exact a);exact⟨_,by rw[he],by rw[hs];exact jF.ownsRow_nil _ _ _ _,hb,by simp[hs]⟩
theorem RG (A c f w B)(hf:Sl w B 2 A (η f) c (qP f))(G:B<=w.1.size)(hl:η f<=1000000000):
  Calls jJ 42 #[iX A (η f) c] w (Td f w):=by
 by_cases j:η f=0
 ·have m:((η f:Int)==0)=jD:=by simp[j]
  have b:=jv j;have H:=dh b;clear b j;go_enter Tryz.func42,Tryz.ntmps42;go_wp2
  go_ret2
  exact Ma bR (by rw[H.o];rfl) ω
 ·have m:((η f:Int)==0)=jE:=by simp;rintro rfl;simp at j
  have n:f≠[]:=by rintro rfl;simp at j
  have z:=LU n;have p:=dh z;clear z;have q:=(hf.up G).below ((Below.refl w.1.size w).alloc lR (jG #[iX jC 0 0] 29)) lR;have r:Below w.1.size w (w.alloc (jG #[iX jC 0 0] 29)):=(Below.refl w.1.size w).alloc lR _;go_enter Tryz.func42,Tryz.ntmps42;go_wp2_with fail
  refine(adR A c f _ w.1.size q (heap_alloc_new w _) hl).mono ?_;rintro e w1 ⟨vs,vo,rfl,s,u,d⟩;have a:=r.trans s;have I:=cell_of_one u;by_cases hs:(scan f 0).1=0
  ·obtain⟨v,k⟩:=d hs;have x:=dh hs;rw[x.o];clear hs d;obtain⟨A1,c1,rfl,_⟩:=qX v;by_cases C:1<(runs f).1.length
   ·go_wp2
    go_ret2
    exact Ma a (by rw[p.o,jd x.o,jd C]) ω
   ·go_wp2
    go_ret2
    have i:wrong f=0:=by rw[p.o,jd x.o,d9 C]
    have y:spans f=(runs f).2:=by simp[spans,i]
    refine⟨vo,ag8 i.symm,?_,a,?_⟩
    ·rw[y,GX];exact rC k ς
    ·have l:¬spans f=[]:=by rw[vQ];simp[i]
     have:vo≠iX jC 0 0:=by
      obtain⟨g,cap,h,_⟩:=sP k ω;rw[h];simp
     simp[l,this]
  ·clear d;have J:((scan f 0).1 !=0)=jD:=by simpa using hs
   have D:=dh hs;clear hs;generalize F:(scan f 0).1=E at *;have K:=dh F;clear F;go_wp2
   go_ret2
   exact Ma a (by rw[p.o,d9 D.o]) D.o
theorem CZ (A c f w B)(hf:Sl w B 2 A (η f) c (qP f))(d:B<=w.1.size)(hl:η f<=1000000000):
  Calls jJ 44 #[iX A (η f) c] w (sI w 3 1 (η (spans f)) (qO (spans f)) (spans f=[])):=by
 go_enter Tryz.func44,Tryz.ntmps44;go_wp2_with fail
 refine(RG A c f w B hf d hl).mono ?_;rintro e w1 ⟨v,rfl,a,hb,b⟩;go_wp2
 go_ret
 exact⟨v,rfl,a,hb,b⟩
theorem QU (A c f at_ w B)(hf:Sl w B 2 A (η f) c (qP f))(C:B<=w.1.size)(hl:η f<=1000000000)(D: -9223372036854775808<=at_/\at_<=9223372036854775807):
  Calls jJ 136 #[iX A (η f) c,iY iZ at_] w (aj0 w (kids f at_)):=by
 obtain⟨G,H⟩:=D;by_cases j:wrong f=0/\0<=at_/\at_<η f
 ·obtain⟨hw,K,U⟩:=j;obtain⟨k,rfl⟩:=nY K;have E:k<η f:=ω;have t:=CR hw;have F:=x9 (Li hw E).2;have hd:=GY (f.take k);rw[jq,mg ω]at hd;have d:=Jd hw E;have u:=λ(w1:jF) (hb:Below w.1.size w w1)=>vZ (hf.rd.below hb C) E
  have i:=abD F.1;have L:=F.2.1;generalize I:f[k]=x at *;obtain⟨op,n⟩:=x;dsimp only at *;have g:=aes f;have y:spans f=(runs f).2:=by simp[spans,hw]
  rw[<-y]at g;obtain⟨V,r,M,J,N⟩:=iC I d g t u;clear I d g t F u y;go_enter Tryz.func136,Tryz.ntmps136;go_wp2_with fail
  refine(CZ A c f w B hf C hl).mono ?_;rintro e w1 ⟨v,rfl,a,hb,_⟩;obtain⟨b,o,rfl,_,O,P⟩:=N w1 hb;rw[J.o]at a;obtain⟨A1,c1,rfl,l⟩:=qX a;rcases i with i|i|i
  ·have m:=dh i;clear i;go_wp2_with (go_at_call 97;refine(Bj _ _).mono ?_;rw[m.o];rintro e w' ⟨rfl,rfl⟩)
   go_ret2
   exact K7 (by rw[r.o,m.o];rfl) hb
  ·have m:=dh i;clear i;go_wp2_with (go_at_call 97;refine(Bj _ _).mono ?_;rw[m.o];rintro e w' ⟨rfl,rfl⟩)
   go_ret2
   exact K7 (by rw[r.o,m.o];rfl) hb
  ·have Q:2<=k:=ω;have p:k-1<η (spans f):=by rw[J.o];omega
   obtain⟨b1,W,rfl,_,hcs⟩:=JV (k:=k-1) l.rd p;have R:=M _ (mM p);have he:(spans f)[k-1]?.getD 0=(spans f)[k-1]:=by simp[p]
   obtain⟨m,S⟩:=iw i he;clear i he;generalize hs:(spans f)[k-1]=s at *;have X:=dh hs;clear hs;go_wp2_with (go_at_call 97;refine(Bj _ _).mono ?_;rw[m.o];rintro e w' ⟨rfl,rfl⟩)
   go_ret2
   exact K7 (by rw[r.o,m.o,S.o];rfl) hb
 ·have z:=afG j;have r:=dh z;clear z
  have q:at_<0\/0<=at_/\(η (spans f):Int)<=at_:=by
   by_cases h:at_<0
   ·exact .inl h
   ·right;refine⟨ω,?_⟩;by_cases hw:wrong f=0
    ·rw[CR hw];omega
    ·rw[(vQ f).2 hw];simp;omega
  have T:=dh j;clear j;go_enter Tryz.func136,Tryz.ntmps136;go_wp2_with fail
  refine(CZ A c f w B hf C hl).mono ?_;rintro e w1 ⟨v,rfl,a,hb,_⟩;obtain⟨A1,c1,rfl,l⟩:=qX a;rcases q with h|⟨h,Y⟩
  ·go_wp2
   go_ret2
   exact K7 r hb
  ·go_wp2
   go_ret2
   exact K7 r hb
set_option maxHeartbeats 2000000
theorem afV (A c f no w B)(hf:Sl w B 2 A (η f) c (qP f))(G:B<=w.1.size)(hl:η f<=1000000):
  Calls jJ 43 #[iX A (η f) c,jI no] w (sI w 44 2 (η (xD f (!no))) (qP (xD f (!no))) (xD f (!no)=[])):=by
 go_enter Tryz.func43,Tryz.ntmps43;go_wp2_with fail
 refine(CZ A c f _ B hf G ω).mono ?_;rintro e w1 ⟨v1,rfl,a,i,_⟩;have p:=i.size;obtain⟨A1,c1,rfl,q⟩:=qX a;by_cases hw:wrong f=0
 ·obtain⟨j,b⟩:=yY hw;have l:=Cb j;rw[b]at l;have L:(sF f).size=η f:=by rw[<-Tr.rU,b]
  have H:=(sF f).size_pos;obtain⟨k,I⟩:∃k,k+1=0+(sF f).size:=⟨(sF f).size-1,ω⟩;have r:(η f:Int)-1=k:=ω;have u:f≠[]:=by rintro rfl;simp[IB]at hw
  have m:((η (spans f):Int)==0)=jE:=by rw[CR hw];simpa using u
  have z:gM f (spans f) A A1 c c1 w1.1.size (w1.alloc (jG #[iX A (η f) c,iX A1 (η (spans f)) c1,iX jC 0 0] 111)) (iX jC 0 0) 0 []:=
   ⟨heap_alloc_new w1 _,jF.ownsRow_nil _ _ _ _,((hf.below i G).up ω).below ((Below.refl w1.1.size w1).alloc lR _) lR,q.below ((Below.refl w1.1.size w1).alloc lR _) lR⟩
  have hp:=aeR (f:=f) (s:=spans f) (A:=A) (A':=A1) (c:=c) (c':=c1) (Bw:=w1.1.size) hl (sF f) 0 j l no k _ _ _ _ I z ω;have M:=zy (sF f) (!no);obtain⟨N,O,y⟩:=iA hp r hw;clear hp r I hw j b l a;go_wp2_with fail
  rw[O.o];refine Calls.mono N ?_;rintro e w2 ⟨vo,rfl,v,C,J,x⟩
  have n:=i.trans ((bR.alloc p _).trans (C.below (by simp;omega) (λg P h=>by
   rcases h with h|h
   ·omega
   ·simp[Value.ownBlock]at h)))
  obtain⟨D,d,_,_⟩:=v;obtain⟨Q,R,S,T⟩:=cells3 D;go_wp2
  go_ret
  have b:xD f (!no)=(nn (sF f) (!no)).flat:=by rw[xD,jd y.o]
  have E:¬xD f (!no)=[]:=by rw[SC];simp[y.o]
  have F:=(nn (sF f) (!no)).size_pos;refine⟨vo,rfl,?_,n,by simp only[E,iff_false];exact x ω⟩;rw[b,Tr.rU];rw[ng,lM]at d;exact rC d ω
 ·have hs:η (spans f)=0:=by rw[(vQ f).2 hw];rfl
  have m:((η (spans f):Int)==0)=jD:=by rw[hs];rfl
  have y:=dh hw;clear hw hs a q;go_wp2
  go_ret
  have K:xD f (!no)=[]:=(SC _ _).2 y.o;exact⟨_,rfl,by rw[K];exact jF.ownsRow_nil _ _ _ _,i.alloc p _,by simp[K]⟩
theorem ajs (A c f w B)(hf:Sl w B 2 A (η f) c (qP f))(g:B<=w.1.size)(hl:η f<=1000000):
  Calls jJ 28 #[iX A (η f) c] w (sI w 44 2 (η (xD f jD)) (qP (xD f jD)) (xD f jD=[])):=by
 go_enter Tryz.func28,Tryz.ntmps28;go_wp2_with fail
 refine(afV A c f jE w B hf g hl).mono ?_;rintro e w1 ⟨v1,rfl,a,b,d⟩;go_wp2
 go_ret
 exact⟨v1,rfl,a,b,d⟩
theorem UQ (A c f w B)(hf:Sl w B 2 A (η f) c (qP f))(V:B<=w.1.size)(hl:η f<=1000000):
  Calls jJ 49 #[iX A (η f) c] w (AX w (yh f)):=by
 go_enter Tryz.func49,Tryz.ntmps49;go_wp2_with fail
 refine(CZ A c f _ B hf V ω).mono ?_;rintro e w1 ⟨v1,rfl,d,p,_⟩;have ad:=p.size;obtain⟨A1,c1,rfl,L⟩:=qX d;clear d L;by_cases hw:wrong f=0
 ·have v:f≠[]:=by rintro rfl;simp[IB]at hw
  have W:=nT.2 v;have q:((η (spans f):Int)==0)=jE:=by rw[CR hw];simp;omega
  have K:=dh hw;clear hw v;go_wp2
  go_loopw [11] (λi wr=>∃k:Nat,k<=η f/\i=iY iZ k/\Below w.1.size w wr/\Hd (BU 0 (f.take k)=jD)) (λi _=>η f-(intOf i).toNat)
  case atStart=>exact⟨0,ω,rfl,p,rfl⟩
  case round=>
   obtain⟨k,hk,rfl,a,X⟩:=hrel;have j:=a.size;by_cases g:k<η f
   ·have z:=hf.rd.below a V;obtain⟨b,o,rfl,af,ag,ah⟩:=vZ z g;have C:=λh=>aaL g h
    have D:=λh=>ahJ g X h
    have r:=λh=>acL K g h
    have s:=λh1=>WE g h1
    obtain⟨E,F⟩:=iw C D;clear C D;generalize Y:f[k]=x at *;obtain⟨op,n⟩:=x;dsimp only at *;have Hx:=dh Y;clear Y;by_cases Z:op=4
    ·subst Z;have M:=r δ;have G:=s M;obtain⟨b',o',e',_,H,N⟩:=vZ z (k:=k-1) ω;cases e';clear r s;generalize hy:f[k-1]=y at *;obtain⟨l,n'⟩:=y;dsimp only at *;obtain⟨I,HY⟩:=iw G hy;clear G hy;have m:=jF.block_lt_of_cell? _ _ H;have a1:=bC ((Below.refl wr.1.size wr).alloc lR (jG #[iY iZ 4,iY iZ n] 44)) m H;have a6:=bC ((Below.refl wr.1.size wr).alloc lR (jG #[iY iZ 4,iY iZ n] 44)) m N;have a7:(0:Int)<=(k:Int)-1:=ω;have a8:(k:Int)-1<(η f:Int):=ω;by_cases u:l=3
     ·have O:∀w,(binOp .neq 44 (.agg #[iY iZ l,iY iZ n']) (.agg #[iY iZ 3,iY iZ n'])).run jJ w=.ok (jI jE) w:=λw=>by
       have:=Hr ⟨l,n'⟩ ⟨3,n'⟩ w;simpa[u]using this
      have P:=dh u;clear u;go_wp2
      have Q:IntKind.i64.wrap ((k:Int)-1)=(k:Int)-1:=IntWalk.i64_in _ ω;have R:((k:Int)-1).toNat=k-1:=ω;go_quiet (fail)
      clear Q R;go_wp2
      go_roundw
      case rel=>exact⟨k+1,ω,by go_num,below_drewN (a.alloc j _) _,F (by rw[I.o,P.o];rfl)⟩
      case measure=>simp[intOf];omega
     ·have O:=λw=>by
       have:=Hr ⟨l,n'⟩ ⟨3,n'⟩ w;simpa[u]using this
      have P:=dh u;clear u;go_wp2
      have Q:IntKind.i64.wrap ((k:Int)-1)=(k:Int)-1:=IntWalk.i64_in _ ω;have R:((k:Int)-1).toNat=k-1:=ω;go_quiet (fail)
      clear Q R;go_wp2
      go_ret
      exact⟨rH (by rw[E (by rw[I.o];simp[Wh,P.o])]),below_drewN (a.alloc j _) _⟩
    ·clear r s;by_cases J:op=7\/op=11\/op=12
     ·rcases J with rfl|rfl|rfl
      all_goals
       go_wp2
       go_ret
       exact⟨rH (by rw[E (by simp[Wh])]),a.alloc j _⟩
     ·have e7:op≠7:=λh=>J (.inl h)
      have S:op≠11:=λh=>J (.inr (.inl h))
      have T:op≠12:=λh=>J (.inr (.inr h))
      clear J;go_wp2
      go_roundw
      case rel=>exact⟨k+1,ω,by go_num,a.alloc j _,F (by simp[Wh,Z,e7,S,T])⟩
      case measure=>simp[intOf];omega
   ·have U:k=η f:=ω;subst U;go_wp2
    go_ret
    exact⟨rH (by rw[ahK K X.o]),a⟩
 ·have hs:η (spans f)=0:=by rw[(vQ f).2 hw];rfl
  have q:((η (spans f):Int)==0)=jD:=by rw[hs];rfl
  have K:=dh hw;clear hw hs;go_wp2
  go_ret
  exact⟨rH (by rw[ac6 K.o]),p⟩
set_option maxHeartbeats 1000000
def Cw (m:Nat)(z:Int):Bool:=decide (0<=z)&&decide (z<(m:Int))
def Nw (f:List Nd)(ps:List Int):Bool:=yh f&&decide (η f<=50)&&ps.all (Cw (η f))
theorem adG {l:List α}{p:α->Bool}(a:k<η l)(h:(l.take k).all p=jD):(l.take (k+1)).all p=p l[k]:=by
 rw[rE l k a,List.all_append,h];simp
theorem agt {l:List α}{p:α->Bool}(a:k<η l)(h:p l[k]=jE):l.all p=jE:=by
 rw[List.all_eq_false];exact⟨l[k],mM a,by simp[h]⟩
theorem J5 {l:List Int}(a:k<η l):(qO l)[k]? =jB (iY iZ l[k]):=by simp[qO,a]
theorem adb (Af m cf z b w)(c:q9 w b 0 (iX Af m cf)):
  Calls jJ 135 #[iY iZ z,jH (jB ⟨b,0,jC⟩)] w (AX w (!Cw m z)):=by
 by_cases a:z<0
 ·have e:Cw m z=jE:=by simp[Cw];omega
  have d:decide (z<0)=jD:=by simpa using a
  have E:=dh e;clear e a;go_enter Tryz.func135,Tryz.ntmps135;go_wp2
  go_ret
  exact⟨by rw[E.o];rfl,bR⟩
 ·have e:Cw m z= !decide ((m:Int)<=z):=by
   have:decide (0<=z)=jD:=by simp;omega
   rw[Cw,this,lH,lG];simp
  have d:decide (z<0)=jE:=by simpa using a
  have E:=dh e;clear e a;go_enter Tryz.func135,Tryz.ntmps135;go_wp2
  go_ret
  exact⟨by rw[E.o];simp,bR⟩
theorem Zy (A n c l Af m cf b w B)(D:n=η l)(hs:Sl w B 1 A n c (qO l))(E:B<=w.1.size)(hl:n<=100000000000)(t:q9 w b 0 (iX Af m cf)):
  Calls jJ 114 #[iX A n c,.func (.func 135) #[] #[jH (jB ⟨b,0,jC⟩)]] w (Fnd w (!l.all (Cw m))):=by
 subst D;have u:=jF.block_lt_of_cell? w _ t;go_enter Tryz.func114,Tryz.ntmps114;go_wp2
 go_loopw [8] (λi wr=>∃k:Nat,k<=η l/\i=iY iZ k/\Below w.1.size w wr/\Hd ((l.take k).all (Cw m)=jD)) (λi _=>η l-(intOf i).toNat)
 case atStart=>exact⟨0,ω,rfl,bR,rfl⟩
 case round=>
  obtain⟨k,I,rfl,a,v⟩:=hrel;have j:=a.size;by_cases d:k<η l
  ·obtain⟨bb,o,rfl,_,F⟩:=(hs.rd.below a E).at_ (J5 d);have q:=adG d v.o;have r:=λh=>agt (p:=Cw m) d h
   have g0:=bC a u t;generalize z:l[k]=x at *;obtain⟨C,G,H,J⟩:=iB (adb Af m cf x b wr g0) q r z;clear z q r g0 t;cases hb:Cw m x
   ·have s:=dh hb;clear hb;go_wp2_with fail
    refine Calls.mono C ?_;rw[s.o];rintro e w2 ⟨rfl,g⟩;go_wp2
    go_ret
    exact⟨_,rfl,ω,ω,a.trans (g.mono j),by rw[H s.o];simp⟩
   ·have s:=dh hb;clear hb;go_wp2_with fail
    refine Calls.mono C ?_;rw[s.o];rintro e w2 ⟨rfl,g⟩;go_wp2
    go_roundw
    case rel=>exact⟨k+1,ω,by go_num,a.trans (g.mono j),by show _ = _;rw[G.o];exact s.o⟩
    case measure=>simp[intOf];omega
  ·have y:k=η l:=ω;subst y;rw[tL lR]at v;go_wp2
   go_ret
   exact⟨_,rfl,ω,ω,a,by rw[v.o];rfl⟩
theorem Rc (A n c l Af m cf b w B)(a:n=η l)(hs:Sl w B 1 A n c (qO l))(g:B<=w.1.size)(hl:n<=100000000000)(d:q9 w b 0 (iX Af m cf)):
  Calls jJ 75 #[iX A n c,.func (.func 135) #[] #[jH (jB ⟨b,0,jC⟩)]] w (AX w (!l.all (Cw m))):=by
 go_enter Tryz.func75,Tryz.ntmps75;have i:=dh (Zy A n c l Af m cf b w B a hs g hl d);clear a hs hl d;go_wp2_with fail
 refine Calls.mono i.out ?_;rintro e w1 ⟨k,rfl,_,_,hb,j⟩;go_wp2
 go_ret
 exact⟨rfl,hb⟩
theorem afO (A c f u m v ps w B)(hf:Sl w B 2 A (η f) c (qP f))(hp:Sl w B 1 u m v (qO ps))(n:m=η ps)(s:B<=w.1.size)(hl:η f<=1000000)(hpl:m<=1000000):
  Calls jJ 106 #[iX A (η f) c,iX u m v] w (AX w (Nw f ps)):=by
 have d:Below w.1.size w (w.alloc (jG #[iX A (η f) c] 22)):=bR.alloc lR _;have g:(w.alloc (jG #[iX A (η f) c] 22)).cell? ⟨w.1.size,0,jC⟩=jB (iX A (η f) c):=cR (heap_alloc_new _ _);have k:=dh (UQ A c f _ B (hf.below d s) (Nat.le_trans s d.size) hl);have x:(w.alloc (jG #[iX A (η f) c] 22)).1.size=w.1.size+1:=ς;obtain⟨D,i⟩:=xQ (w.alloc (jG #[iX A (η f) c] 22));rw[i]at d g k x;have j:=dh i;clear i;have p:Hd (Nw f ps=(yh f&&decide (η f<=50)&&ps.all (Cw (η f)))):=dh rfl;cases l:yh f
 ·rw[l]at k p;have y:=dh l;clear l;go_enter Tryz.func106,Tryz.ntmps106;go_wp2_with fail
  rw[j.o];go_wp2_with fail
  refine Calls.mono k ?_;rintro e w1 ⟨rfl,a⟩;go_wp2
  go_ret
  exact⟨by rw[p.o];rfl,d.trans (a.mono ω)⟩
 ·rw[l]at k p;have y:=dh l;clear l;by_cases q:η f<=50
  ·have d50:decide ((η f:Int)<=50)=jD:=by simp;omega
   have z:Hd (decide (η f<=50)=jD):=dh (by simpa using q);go_enter Tryz.func106,Tryz.ntmps106;go_wp2_with fail
   rw[j.o];go_wp2_with fail
   refine Calls.mono k ?_;rintro e w1 ⟨rfl,a⟩;have r:=bC a (by show w.1.size<D.1.size;omega) g;have b:=d.trans (a.mono ω);have E:=dh (Rc u m v ps A (η f) c w.1.size w1 B n (hp.below b s) (Nat.le_trans s b.size) ω r);clear hp n;go_wp2_with fail
   refine Calls.mono E ?_;rintro e w2 ⟨rfl,C⟩;go_wp2
   go_ret
   exact⟨by rw[p.o,z.o];simp,b.trans (C.mono b.size)⟩
  ·have d50:decide ((η f:Int)<=50)=jE:=by simp;omega
   have z:Hd (decide (η f<=50)=jE):=dh (by simpa using q);go_enter Tryz.func106,Tryz.ntmps106;go_wp2_with fail
   rw[j.o];go_wp2_with fail
   refine Calls.mono k ?_;rintro e w1 ⟨rfl,a⟩;have r:=bC a (by show w.1.size<D.1.size;omega) g;go_wp2
   go_ret
   exact⟨by rw[p.o,z.o];rfl,d.trans (a.mono ω)⟩
theorem ac7 (A n c l z w B)(p:n=η l)(hs:Sl w B 1 A n c (qO l))(q:B<=w.1.size)(hl:n<=100000000000):
  Calls jJ 115 #[iX A n c,iY iZ z] w (Fnd w (l.any (z== ·))):=by
 subst p;go_enter Tryz.func115,Tryz.ntmps115;go_wp2
 go_loopw [8] (λi wr=>∃k:Nat,k<=η l/\i=iY iZ k/\Below w.1.size w wr/\Hd ((l.take k).any (z== ·)=jE)) (λi _=>η l-(intOf i).toNat)
 case atStart=>exact⟨0,ω,rfl,bR,rfl⟩
 case round=>
  obtain⟨k,v,rfl,a,g⟩:=hrel;have r:=a.size;by_cases d:k<η l
  ·obtain⟨bb,o,rfl,_,s⟩:=(hs.rd.below a q).at_ (J5 d);have e:(l.take (k+1)).any (z== ·)=(z==l[k]):=by rw[rE l k d,oP,g.o];simp
   have b:(z==l[k])=jD->l.any (z== ·)=jD:=λh=>kT.2 ⟨l[k],mM d,h⟩
   generalize l[k]=x at *;obtain⟨t,u⟩:=iw e b;clear e b;cases hb:(z==x)
   ·have j:=dh hb;go_wp2
    go_roundw
    case rel=>exact⟨k+1,ω,by go_num,a,by show _ = _;rw[t.o];exact j.o⟩
    case measure=>simp[intOf];omega
   ·have j:=dh hb;go_wp2
    go_ret
    exact⟨_,rfl,ω,ω,a,by rw[u j.o];simp⟩
  ·have m:k=η l:=ω;subst m;rw[tL lR]at g;go_wp2
   go_ret
   exact⟨_,rfl,ω,ω,a,by rw[g.o];rfl⟩
theorem Lr (A n c l z w B)(a:n=η l)(hs:Sl w B 1 A n c (qO l))(b:B<=w.1.size)(hl:n<=100000000000):
  Calls jJ 77 #[iX A n c,iY iZ z] w (AX w (l.any (z== ·))):=by
 go_enter Tryz.func77,Tryz.ntmps77;have d:=dh (ac7 A n c l z w B a hs b hl);clear a hs hl;go_wp2_with fail
 refine Calls.mono d.out ?_;rintro e w1 ⟨k,rfl,_,_,hb,g⟩;go_wp2
 go_ret
 exact⟨rfl,hb⟩
theorem Rm (a:j<8):IntKind.u64.wrap (2^j)=((2^j:Nat):Int):=by
 have hp:2^j<=2^7:=lI ω ω;have e2:(2:Int)^j=((2^j:Nat):Int):=ς;rw[IntKind.wrap_u64,e2];generalize 2^j=c at hp⊢;omega
theorem YZ {x:Nat}(a:x<2^64)(hy:y<2^64):bits .or jA (x:Int) (y:Int)=((x|||y:Nat):Int):=by
 have b:=nP a hy;show IntKind.u64.wrap ((BitVec.ofInt 64 (x:Int)|||BitVec.ofInt 64 (y:Int)).toNat:Int)= _;rw[BitVec.toNat_or,jW,ko,jW,ko,j5 a,j5 hy,IntKind.wrap_u64];omega
theorem QG {x:Nat}(a:x<2^64)(hy:y<2^64):bits .and jA (x:Int) (y:Int)=((x&&&y:Nat):Int):=by
 have b:x&&&y<2^64:=Nat.and_lt_two_pow _ hy;show IntKind.u64.wrap ((BitVec.ofInt 64 (x:Int)&&&BitVec.ofInt 64 (y:Int)).toNat:Int)= _;rw[mY,jW,ko,jW,ko,j5 a,j5 hy,IntKind.wrap_u64];omega
structure NdF (f:List Nd)(j:Nat):Prop where
 op:opAt f j=1\/opAt f j=2\/opAt f j=3\/opAt f j=4\/opAt f j=5\/opAt f j=6\/opAt f j=8\/opAt f j=9\/opAt f j=10
 Ut:opAt f j=5\/opAt f j=6\/opAt f j=9\/opAt f j=10->kids f j=((leftOf f j:Int),(ru f j:Int))/\leftOf f j<j/\ru f j<j
 ac3:opAt f j=8->kids f j=((leftOf f j:Int), -1)/\leftOf f j<j
 prop:opAt f j=3->(f.getD j ⟨0,0⟩).n=(Jv f j:Int)/\Jv f j<8
 lit:opAt f j=4->1<=j/\(f.getD (j-1) ⟨0,0⟩).n=(Jv f (j-1):Int)/\Jv f (j-1)<8
theorem ndF (d:yh f=jD)(g:j<η f):NdF f j:=by
 obtain⟨l,r,h⟩:=Om (bits:=λ_ _=>jE) (n:=1) (lp:=0) d ω (aa3 g);refine⟨h.op,λe=>?_,λe=>?_,λe=>?_,λe=>?_⟩
 ·obtain⟨a,b,c,_⟩:=h.Ut e;unfold leftOf ru;rw[a];simp;omega
 ·obtain⟨a,b,_⟩:=h.ac3 (.inr e);unfold leftOf;rw[a];simp;omega
 ·have:=h.rng e;unfold Jv;omega
 ·obtain⟨y,hy,i,m,o⟩:=h.lit e;obtain⟨_,_,el⟩:=h.ac3 (.inl e);have k:f.getD (j-1) ⟨0,0⟩=y:=by rw[show j-1=l by omega,gD,hy];rfl
  unfold Jv;rw[k];omega
def MS (w:jF)(ws:List Way)(v:Value):Prop:=
 (ws=[]/\v=iX jC 0 0)\/∃g cs,v=iX (jB ⟨g,0,jC⟩) (η ws) (η ws)/\w.1[g]? =jB (jG cs 162 (0,0))/\
  ∀(k:Nat) (x:Way),ws[k]? =jB x->∃A1 c1 A2 c2 A3 c3,WR w x A1 c1 A2 c2 A3 c3/\cs[k*5]? =jB (iY jA (x.need:Int))/\cs[k*5+1]? =jB (iY jA (x.ban:Int))/\
   cs[k*5+2]? =jB (iX A1 (η x.now) c1)/\cs[k*5+3]? =jB (iX A2 (η x.next) c2)/\cs[k*5+4]? =jB (iX A3 (η x.todo) c3)
theorem MS.keep (h:MS w ws v)(a:qW S w w')(hb:yc S w 4)(hi:yc S w 3)(hw:yc S w 162):MS w' ws v:=by
 rcases h with h|⟨g,cs,hv,b,h⟩
 ·exact .inl h
 ·refine .inr ⟨g,cs,hv,a.blk b (hw _ _ b),λk x c=>?_⟩;obtain⟨A1,c1,A2,c2,A3,c3,d,e⟩:=h k x c;exact⟨A1,c1,A2,c2,A3,c3,d.keep a hb hi,e⟩
def Splits (w:jF)(ws:List Way)(en:Ending)(w':jF):Prop:=∃v,en=.returned v/\MS w' ws v/\Below w.1.size w w'
theorem GN (hb:Below w.1.size w w'):Splits w [] (.returned (iX jC 0 0)) w':=⟨_,rfl,.inl ⟨rfl,rfl⟩,hb⟩
theorem Dg (hb:Below w.1.size w w1)(e:WR w1 x A1 c1 A2 c2 A3 c3){a b:Int}(e1:n1=η x.now:=by first|rfl|simp[Way.owing,Way.with_])(e2:n2=η x.next:=by first|rfl|simp[Way.owing,Way.with_])(f:n3=η x.todo:=by first|rfl|simp[Way.owing,Way.with_])(g:a=(x.need:Int):=by first|rfl|simp[Way.owing,Way.with_])(h:b=(x.ban:Int):=by first|rfl|simp[Way.owing,Way.with_]):
  Splits w [x] (.returned (iX (jB ⟨w1.1.size,0,jC⟩) 1 1)) (w1.alloc (jG #[iY jA a,iY jA b,iX A1 n1 c1,iX A2 n2 c2,iX A3 n3 c3] 162)):=by
 subst e1 e2 f g h;have c:Below w1.1.size w1 (w1.alloc (jG #[iY jA (x.need:Int),iY jA (x.ban:Int),iX A1 (η x.now) c1,iX A2 (η x.next) c2,iX A3 (η x.todo) c3] 162)):=bR.alloc lR _;refine⟨_,rfl,.inr ⟨w1.1.size,_,rfl,heap_alloc_new _ _,λk y d=>?_⟩,hb.trans (c.mono hb.size)⟩
 match k,d with
 |0,d=>cases d;exact⟨A1,c1,A2,c2,A3,c3,e.below c,rfl,rfl,rfl,rfl,rfl⟩
theorem JM {y:Way}{e f g:Option Addr}{d1 d2 d3:Nat}(hb:Below w.1.size w w1)(o:WR w1 x A1 c1 A2 c2 A3 c3)(h:WR w1 y e d1 f d2 g d3)
  {l m n:Nat}{a b a' b':Int}(e1:n1=η x.now:=by first|rfl|simp[Way.owing,Way.with_])(e2:n2=η x.next:=by first|rfl|simp[Way.owing,Way.with_])(p:n3=η x.todo:=by first|rfl|simp[Way.owing,Way.with_])(f1:l=η y.now:=by first|rfl|simp[Way.owing,Way.with_])(f2:m=η y.next:=by first|rfl|simp[Way.owing,Way.with_])(f3:n=η y.todo:=by first|rfl|simp[Way.owing,Way.with_])(q:a=(x.need:Int):=by first|rfl|simp[Way.owing,Way.with_])(r:b=(x.ban:Int):=by first|rfl|simp[Way.owing,Way.with_])(i:a'=(y.need:Int):=by first|rfl|simp[Way.owing,Way.with_])(j:b'=(y.ban:Int):=by first|rfl|simp[Way.owing,Way.with_]):
  Splits w [x,y] (.returned (iX (jB ⟨w1.1.size,0,jC⟩) 2 2)) (w1.alloc (jG #[iY jA a,iY jA b,iX A1 n1 c1,iX A2 n2 c2,iX A3 n3 c3,
   iY jA a',iY jA b',iX e l d1,iX f m d2,iX g n d3] 162)):=by
 subst e1 e2 p f1 f2 f3 q r i j
 have c:Below w1.1.size w1 (w1.alloc (jG #[iY jA (x.need:Int),iY jA (x.ban:Int),iX A1 (η x.now) c1,iX A2 (η x.next) c2,iX A3 (η x.todo) c3,
   iY jA (y.need:Int),iY jA (y.ban:Int),iX e (η y.now) d1,iX f (η y.next) d2,iX g (η y.todo) d3] 162)):=bR.alloc lR _
 refine⟨_,rfl,.inr ⟨w1.1.size,_,rfl,heap_alloc_new _ _,λk z d=>?_⟩,hb.trans (c.mono hb.size)⟩
 match k,d with
 |0,d=>cases d;exact⟨A1,c1,A2,c2,A3,c3,o.below c,rfl,rfl,rfl,rfl,rfl⟩
 |1,d=>cases d;exact⟨e,d1,f,d2,g,d3,h.below c,rfl,rfl,rfl,rfl,rfl⟩
theorem D8 (h:Splits w ws en w'):Splits w ws en w'.drew:=by
 obtain⟨v,hv,hw,hb⟩:=h;have a:qW (λ_=>False) w' w'.drew:=⟨rfl,rfl,rfl,lR,λ_ _ _=>rfl⟩;exact⟨v,hv,hw.keep a (λ_ _ _ h=>h) (λ_ _ _ h=>h) (λ_ _ _ h=>h),hb.drew⟩
theorem Wp (W:jF)(ps:List Nat)(_hp:ps≠[])(hl:η ps<=1000):Sl (W.alloc (jG (qO (iE ps)).toArray 3)) (W.alloc (jG (qO (iE ps)).toArray 3)).1.size 1 (jB ⟨W.1.size,0,jC⟩) (η ps) (η ps) (qO (iE ps)):=by
 have h:=heap_alloc_new W (jG (qO (iE ps)).toArray 3);refine⟨by simp[qO,iE],lR,by unfold maxLen;omega,λh=>(by cases h),.inr ⟨W.1.size,0,rfl,ς,λj u hu=>?_⟩⟩;rw[cell_of_row _ _ _ _ _ (0,0) h];simpa using hu
def MV (l:List Nat)(x:Value)(w:jF):Prop:=∃A,x=iX A (η l) (η l)/\Sl w w.1.size 1 A (η l) (η l) (qO (iE l))
def XU (y:Way)(x:Value)(w:jF):Prop:=Im w y x
theorem MV.below {l:List Nat}{x:Value}(h:MV l x w)(hb:Below w.1.size w w'):MV l x w':=by
 obtain⟨A,e,hs⟩:=h;exact⟨A,e,(hs.below hb lR).up hb.size⟩
theorem ET (W:jF)(ps:List Nat)(hp:ps≠[])(hl:η ps<=1000):MV ps (iX (jB ⟨W.1.size,0,jC⟩) (η ps) (η ps)) (W.alloc (jG (qO (iE ps)).toArray 3))/\Below W.1.size W (W.alloc (jG (qO (iE ps)).toArray 3)):=
 ⟨⟨_,rfl,Wp W ps hp hl⟩,bR.alloc lR _⟩
theorem ais {b:Nat}{p q r s:Value}(h:w.1[b]? =jB (jG #[p,q,r,s,u] t (0,0))):w.cell? ⟨b,0,jC⟩=jB p/\w.cell? ⟨b,1,jC⟩=jB q/\w.cell? ⟨b,2,jC⟩=jB r/\w.cell? ⟨b,3,jC⟩=jB s/\w.cell? ⟨b,4,jC⟩=jB u:=by
 refine⟨?_,?_,?_,?_,?_⟩<;>(rw[cell_of_row _ _ _ _ _ (0,0) h];rfl)
