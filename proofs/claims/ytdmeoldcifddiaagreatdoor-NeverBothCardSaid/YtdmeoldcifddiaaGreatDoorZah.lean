/- A part of the proof. -/
import Derived.Test.YtdmeoldcifddiaaGreatDoorZag
import Derived.Laws.EntriesVeiled
import Derived.Deep.OwnRows
import Derived.Test.YtdmeoldcifddiaaGreatDoorZad
import Derived.Test.YtdmeoldcifddiaaGreatDoorZaf
import Derived.Test.YtdmeoldcifddiaaGreatDoorZab
import Derived.ProofKit
import Derived.Deep.Slices
import Derived.Deep.Fields
import Derived.SizedLaws
import Derived.Lib.SmallJoins
import Derived.Deep.RegionHeld3
import Derived.Deep.DeepCutAuto
import Derived.Test.YtdmeoldcifddiaaGreatDoorZae
import Derived.Test.YtdmeoldcifddiaaGreatDoorMk
import Derived.Lib.SliceRun
import Derived.Deep.RegionLaw
/- The walk of layer 28 (cover): Of. -/
set_option maxHeartbeats 4000000
set_option maxRecDepth 100000
namespace Go.Proofs.YtdmeoldcifddiaaGreatDoor
open Go.RowKit Go.Maps
open Option renaming some -> jB, none -> jC
open Bool renaming true -> jD, false -> jE
open Go renaming World -> jF
open Go.Proofs.Tryz renaming prog -> jJ
open List renaming length -> η, replicate -> ρ, range -> ζ, getD -> θ, mem_append -> ν
variable {a:rQ}{c:uI}{f0 f1:Field}{G:iq}{rows:List (List Nat)}{E R:List (List Nd)}{l:List Bool}{L T:List uI}{W:List Nat}{f ys:List Nd}{cs vs xi xl xs ys0:List Value}{B B' b base cA cB ce ci cl cn fuel g i j k m n n' n0 ne ni nl nn q r s size t te tr:Nat}{S:Nat->Prop}{o:Obj}{A AA AB Ai An ae ai al:Option Addr}{e:TypeId}{p u u' v x y z:Value}{w w' w0 w1 w2 wF:jF}
def agH (w:jF)(T:List uI)(en:Ending)(w':jF):Prop:=
 ∃v xs,en=.returned v/\w'.ownsRow w.1.size 90 4 v (η T) xs/\zK w' xs T/\Below w.1.size w w'
theorem al4 (w a b c d):∃W,W=(((w.alloc a).alloc b).alloc c).alloc d/\Below w.1.size w W/\W.1[w.1.size]? =jB a/\W.1[w.1.size+1]? =jB b/\W.1[w.1.size+1+1]? =jB c/\W.1[w.1.size+1+1+1]? =jB d/\W.1.size=w.1.size+4:=by
 have n1:=heap_alloc_new w a;have n2:=heap_alloc_new (w.alloc a) b;have n3:=heap_alloc_new ((w.alloc a).alloc b) c;have e:=heap_alloc_new (((w.alloc a).alloc b).alloc c) d;simp only[jF.size_alloc]at n2 n3 e;refine⟨_,rfl,((bR.alloc lR _).alloc ς _ |>.alloc (by simp<;>omega) _).alloc (by simp<;>omega) _,?_,?_,?_,e,ς⟩
 ·rw[Below.heap_alloc _ _ _ (by simp<;>omega),Below.heap_alloc _ _ _ (by simp<;>omega),Below.heap_alloc _ _ _ ς];exact n1
 ·rw[Below.heap_alloc _ _ _ (by simp<;>omega),Below.heap_alloc _ _ _ ς];exact n2
 ·rw[Below.heap_alloc _ _ _ ς];exact n3
theorem acC {e:Nat}(hb:base<=w.1.size)(a:n<=maxLen):(w.alloc (.cells (madeCells #[v] n) e)).ownsRow base e 1 (.slice (jB ⟨w.1.size,0,jC⟩) n n) n (ρ n v):=by
 have hm:(madeCells #[v] n).toList=ρ n v:=toList_madeCells_one _ _;have hs:(madeCells #[v] n).size=n:=by have:=jM List.length hm;simpa using this
 refine⟨ς,.inr ⟨w.1.size,n,_,rfl,hb,heap_alloc_new w _,lR,a,by rw[hs,mU],?_⟩⟩;rw[tL (by rw[mI,hs];omega)];exact hm
theorem yC (W:jF)(h:n<=1000):zV (W.alloc (.cells (madeCells #[.bool jE] n) 4)) 4 (jB ⟨W.1.size,0,jC⟩) n n (qV (ρ n jE)):=by
 obtain⟨A,c,hv,a⟩:=zV.Br (acC (w:=W) (base:=W.1.size) (e:=4) (n:=n) (v:=.bool jE) lR (by unfold maxLen;omega));cases hv;simpa[qV]using a
theorem zV.drew {c:Nat}(h:zV w t A n c xs):zV w.drew t A n c xs:=⟨{h.sl with rd:=h.sl.rd},h.ty⟩
def akq (n:Nat)(x:Value)(w:jF):Prop:=∃A,x=.slice A n n/\zV w 4 A n n (qV (ρ n jE))
def akB (n:Nat)(ps:List Int)(x:Value)(w:jF):Prop:=∃A c,x=.slice A n c/\zV w 3 A n c (qO ps)
theorem acI (W:jF)(h:n<=1000):akq n (.slice (jB ⟨W.1.size,0,jC⟩) n n) (W.alloc (.cells (madeCells #[.bool jE] n) 4))/\Below W.1.size W (W.alloc (.cells (madeCells #[.bool jE] n) 4)):=
 ⟨⟨_,rfl,yC W h⟩,bR.alloc lR _⟩
def Ke (f:List Nd)(ps:List Int):List uI:=if Nw f ps=jD then rV f (ps.map Int.toNat)else[]
theorem aiS (A c f I n J ps w)(hf:Sl w w.1.size 2 A (η f) c (qP f))(hp:Sl w w.1.size 1 I n J (qO ps))(g:n=η ps)(hl:η f<=1000)(hpl:n<=100000)(M:Nw f ps=jD->η (leaves f (η f+1) (uJ (η f) (ps.map Int.toNat)))<=20000000):
  Calls jJ 72 #[.slice A (η f) c,.slice I n J] w (agH w (Ke f ps)):=by
 have i:Below w.1.size w (w.alloc (.cells #[.slice A (η f) c] 22)):=bR.alloc lR _;have s:=heap_alloc_new w (.cells #[.slice A (η f) c] 22);have a1:(w.alloc (.cells #[.slice A (η f) c] 22)).1.size=w.1.size+1:=ς;obtain⟨W0,C⟩:=xQ (w.alloc (.cells #[.slice A (η f) c] 22));rw[C]at i s a1;have a6:W0.cell? ⟨w.1.size,0,jC⟩=jB (.slice A (η f) c):=cR s;obtain⟨HG,N,HF,HP,a7,a8⟩:=dh6 (afO A c f I n J ps W0 w.1.size (hf.below i lR) (hp.below i lR) g i.size ω ω) C hf hp M g;clear C hf hp M g;cases b:Nw f ps
 ·rw[b]at HG;have HA:Hd (Ke f ps=[]):=dh (by unfold Ke;rw[b];rfl);clear b;go_enter Tryz.func72,Tryz.ntmps72;go_wp2_with fail
  rw[N.o];go_wp2_with fail
  refine Calls.mono HG ?_;rintro e w1 ⟨rfl,p⟩;go_wp2
  go_ret
  rw[HA.o];exact⟨_,[],rfl,jF.ownsRow_nil _ _ _ _,zK.nil _,i.trans (p.mono ω)⟩
 ·rw[b]at HG;have HA:Hd (Ke f ps=rV f (ps.map Int.toNat)):=dh (by unfold Ke;rw[b];rfl);have O:=dh b;clear b;go_enter Tryz.func72,Tryz.ntmps72;go_wp2_with fail
  rw[N.o];go_wp2_with fail
  refine Calls.mono HG ?_;rintro e w1 ⟨rfl,p⟩;have D:=(p.block w.1.size ω).trans s;have ad:w1.cell? ⟨w.1.size,0,jC⟩=jB (.slice A (η f) c):=cR D;have af:=run_makeMap (P:=jJ) 159;go_wp2_with fail
  obtain⟨l,E,Q,y0,y1,y2,y3,yz⟩:=al4 w1 (.cells #[.slice jC 0 0] 119) (.map #[] 0) (.cells #[.map (jB (w1.1.size+1))] 159) (.cells #[.func (.func 107) #[] #[.pointer (jB ⟨w.1.size,0,jC⟩),.pointer (jB ⟨w1.1.size+1+1+1,0,jC⟩),.pointer (jB ⟨w1.1.size+1+1,0,jC⟩),.pointer (jB ⟨w1.1.size,0,jC⟩)]] 160);rw[<-E];have az:=dh E;clear E;have x:=i.trans (p.mono ω);have aA:=p.size;have a:=x.trans (Q.mono x.size);have R:=(Q.block w.1.size ω).trans D
  have q:GS w.1.size w.1.size (w1.1.size+1+1+1) (w1.1.size+1+1) (w1.1.size+1) w1.1.size A c f l [] (.slice jC 0 0):=by
   refine⟨R,y3,y2,y0,?_,⟨[],jF.ownsRow_nil _ _ _ _,zK.nil _⟩,⟨ω,ω,ω⟩,HF.below a lR⟩;exact⟨.map [],⟨#[],0,y1,⟨ς,MapKept.stamped_empty 0,ς⟩,lR,rfl⟩,isMap_empty,λc kl _ _=>rfl⟩
  have z3:=cell_of_row _ _ 0 _ _ (0,0) q.bg;have z0:=cell_of_row _ _ 0 _ _ (0,0) q.bf;simp only[kg,jV]at z3 z0;have ay:=run_make_row' (P:=jJ) 64 4 (.bool jE) 1 Tryz.underlying64 wN rfl .i64 .i64 (η f) ω ω;have ag:=dh (λ(w':jF) (hb:Below l.1.size l w')=>CJ I n J (qO ps) w' w.1.size ((HP.below a lR).below (hb.mono a.size |> λh=>hb) a.size) (H8 _) (Nat.le_trans a.size hb.size) ω)
  have d:ps.all (Cw (η f))=jD/\yh f=jD:=by
   have:=O.o;unfold Nw at this;simp only[jm]at this;exact⟨this.2,this.1.1⟩
  have T:iE (ps.map Int.toNat)=ps:=by
   unfold iE;rw[nQ];refine(j6 (λz hz=>?_)).trans (List.map_id ps);have:=jR.1 d.1 z hz;simp[Cw]at this;simp;omega
  have U:LQ f (uJ (η f) (ps.map Int.toNat)):=zN (λj hj=>by
   obtain⟨z,hz,rfl⟩:=jg.1 hj;have:=jR.1 d.1 z hz;simp[Cw]at this;omega)
  have ah:Hd (∀(W:jF) (L B2 B8:Option Addr) (d8:Nat),Below l.1.size l W->zV W 4 L (η f) (η f) (qV (ρ (η f) jE))->zV W 4 B2 (η f) (η f) (qV (ρ (η f) jE))->zV W 3 B8 n d8 (qO ps)->
    Calls jJ 107 #[.agg #[.int .u64 0,.int .u64 0,.slice L (η f) (η f),.slice B2 (η f) (η f),.slice B8 n d8],.pointer (jB ⟨w.1.size,0,jC⟩),.pointer (jB ⟨w1.1.size+1+1+1,0,jC⟩),.pointer (jB ⟨w1.1.size+1+1,0,jC⟩),.pointer (jB ⟨w1.1.size,0,jC⟩)] W
     (aiB w.1.size w.1.size (w1.1.size+1+1+1) (w1.1.size+1+1) (w1.1.size+1) w1.1.size A c f W (.slice jC 0 0) (rV f (ps.map Int.toNat)))):=by
   intro W L B2 B8 d8 aj t1 t2 t3;have g:=a8.o
   have h:=afQ w.1.size w.1.size (w1.1.size+1+1+1) (w1.1.size+1+1) (w1.1.size+1) w1.1.size A c f d.2 hl (η f+1) (uJ (η f) (ps.map Int.toNat)) L (η f) B2 (η f) B8 d8 W [] (.slice jC 0 0) (q.below aj)
    ⟨by simpa[uJ]using t1,by simpa[uJ]using t2,by simp only[uJ,jr];rw[T,<-g];exact t3⟩ U (by show 0<256;omega) (by show 0<256;omega) (Pb _ _) (by simp only[uJ,jr];omega) (by simpa using(a7 O.o))
   have e:(Value.agg #[.int .u64 ((uJ (η f) (ps.map Int.toNat)).need:Int),.int .u64 ((uJ (η f) (ps.map Int.toNat)).ban:Int),.slice L (uJ (η f) (ps.map Int.toNat)).now.length (η f),.slice B2 (uJ (η f) (ps.map Int.toNat)).next.length (η f),.slice B8 (uJ (η f) (ps.map Int.toNat)).todo.length d8])=
     .agg #[.int .u64 0,.int .u64 0,.slice L (η f) (η f),.slice B2 (η f) (η f),.slice B8 n d8]:=by simp[uJ,g]
   rw[e]at h;exact h
  have aB:=dh q;clear d T U;clear q s D a6 ad R y0 y1 y2 y3 af;go_wp2_with fail
  refine wp_region_held_drew (S:=λw'=>q9 w' (w1.1.size+1+1+1) 0 (.func (.func 107) #[] #[.pointer (jB ⟨w.1.size,0,jC⟩),.pointer (jB ⟨w1.1.size+1+1+1,0,jC⟩),.pointer (jB ⟨w1.1.size+1+1,0,jC⟩),.pointer (jB ⟨w1.1.size,0,jC⟩)])/\q9 w' w.1.size 0 (.slice A (η f) c)) κ ⟨z3,z0⟩ (λhS=>?_);refine qU 0 ?_;refine qU 1 ?_;refine qU 2 ?_;refine qU 4 ?_;refine qU 5 ?_;refine qU 7 ?_;have F:Hd (∀W',Below l.drew.1.size l.drew W'->Below l.1.size l W'):=dh (λW' hb=>(Below.drew (Below.refl l.1.size l)).trans (hb.mono (Below.drew (Below.refl l.1.size l)).size));refine BG 3 [⟨3,17,[],akq (η f)⟩,⟨6,20,[],akq (η f)⟩,⟨8,22,[],akB n ps⟩] rfl _ _ _ _ (show[17,20,22].Nodup by decide) (show[3,6,8].Nodup by decide) κ κ (λW' hb=>by have hB:=F W' hb;exact⟨bC hB ω z3,bC hB ω z0⟩) ?_ ?_ ?_
  ·intro m hm y u1 u2 hb h;simp only[jk,kC,nA]at hm;rcases hm with rfl|rfl|rfl
   ·obtain⟨A,e,G⟩:=h;exact⟨A,e,G.below hb⟩
   ·obtain⟨A,e,G⟩:=h;exact⟨A,e,G.below hb⟩
   ·obtain⟨A,c,e,G⟩:=h;exact⟨A,c,e,G.below hb⟩
  ·intro m hm a' w' H aC hb;have ak:=F w' hb;simp only[jk,kC,nA]at hm;rcases hm with rfl|rfl|rfl
   ·have ao:a'.eval (.tmp 16)=.int .i64 (η f:Int):=H 16 ς;exact EH rfl (by simp[Region.wanted]) (by have aD:=JI ao;go_simp;try rfl) ⟨_,rfl,acI w' ω⟩
   ·have aq:a'.eval (.tmp 19)=.int .i64 (η f:Int):=H 19 ς;exact EH rfl (by simp[Region.wanted]) (by have aE:=JI aq;go_simp;try rfl) ⟨_,rfl,acI w' ω⟩
   ·have ar:a'.eval (.tmp 21)=.slice I n J:=H 21 ς;refine yO rfl (vs:=#[.slice I n J]) (by simp only[lT,kE,l5,ar]<;>rfl) (by go_simp) (ag _ ak) (λe w2 h=>?_);obtain⟨v8,rfl,au,hq, -⟩:=h;obtain⟨A8,c8,rfl,G⟩:=zV.Br au;exact⟨_,rfl,_,rfl,⟨A8,c8,rfl,G⟩,hq⟩
  intro v w2 B hv;have u:=F w2 B;obtain⟨B3,e3,t3⟩:=hv _ (.head _);obtain⟨B6,e6,t6⟩:=hv _ (.tail _ (.head _));obtain⟨B8,d8,e8,t8⟩:=hv _ (.tail _ (.tail _ (.head _)));dsimp only at e3 e6 e8;simp only[Jp,jZ,nO,e3,e6,e8,xk];clear e3 e6 e8 hv B hS;have hS:_/\_:=⟨bC u ω z3,bC u ω z0⟩;refine qU 9 ?_;refine rR 10 (λK hK=>?_);go_simp;refine Calls.mono (ah _ _ _ _ _ u t3 t6 t8) ?_;rintro e W9 ⟨rfl,v9,r,V, -⟩;have b3:=cell_of_row _ _ 0 _ _ (0,0) r.bg;have b0:=cell_of_row _ _ 0 _ _ (0,0) r.bf;have bo:=cell_of_row _ _ 0 _ _ (0,0) r.bo;simp only[kg,jV]at b3 b0 bo;dsimp only;refine hK _ _ ⟨b3,b0⟩ (λhS=>?_);clear hK;refine wpAnyH_done κ ?_ _;have X:=a.trans (u.mono a.size)
  have av:=X.trans (V.below X.size (λk hk e=>by
   rcases e with e|e|e
   ·omega
   ·omega
   ·simp[Value.ownBlock]at e))
  obtain⟨xs,Y,Z⟩:=r.out;obtain⟨aw,ax⟩:=iw Y Z;clear hS Y Z r V;go_wp2
  go_ret
  rw[HA.o];exact⟨v9,xs,rfl,aw.o,ax.o,av⟩
theorem acY (e:yh f=jD)(n){w:Way}(hw:LQ f w)(g:w.need<256)(h:w.ban<256):∀y∈leaves f n w,y.need<256/\y.ban<256:=by
 intro y hy
 exact Tw (vU e) (λw y=>w.need<256->w.ban<256->y.need<256/\y.ban<256) (λw _ _ a b=>⟨a,b⟩) (λw j t x y hw hs i _ k a b=>by
  obtain⟨hm,_,l⟩:=F3 hw hs;obtain⟨c,d,_⟩:=M8 (ndF e l) (w:=w.made j t) a b x i;exact k c d) n w hw y hy g h
def brX (x:Nd):Bool:=decide (x.op=6)||decide (x.op=9)||decide (x.op=10)
theorem ah2 (f now):Rf f now<=f.countP brX:=by
 have a:Rf f now<=(ζ (η f)).countP (λj=>branches f j):=UE (λx _ h=>by simp only[jm]at h;exact h.1);refine Nat.le_trans a (Nat.le_of_eq ?_)
 have e:f=(ζ (η f)).map (λj=>f.getD j ⟨0,0⟩):=by
  refine jw ς (λi a b=>?_);simp[θ,a]
 conv=>rhs;rw[e]
 rw[List.countP_map];exact List.countP_congr (λj _=>Iff.rfl)
theorem Lu:∀t:Tr,t.ok->2*t.flat.countP brX+1<=t.size
 | .leaf x,h=>by
  have c:brX x=jE:=by rcases vV h.1 with e|e|e<;>simp[brX,e]
  simp[Tr.flat,Tr.size,c]
 | .un x a,h=>by
  have c:brX x=jE:=by rcases Bh h.1 with e|e|e|e<;>simp[brX,e]
  have:=Lu a h.2;simp[Tr.flat,Tr.size,c];omega
 | .bin x a b,h=>by
  have d:=Lu a h.2.1;have f:=Lu b h.2.2;have g:(if brX x=jD then 1 else 0)<=1:=by split<;>omega
  simp only[Tr.flat,Tr.size,pO,lC,List.countP_nil];omega
theorem Sv (a:yh f=jD)(hl:η f<=50)(n){w:Way}(hw:LQ f w):η (leaves f n w)<=17000000:=by
 have d:=Zp (vU a) n w hw;obtain⟨t,b,rfl⟩:=parse (zm a);have e:=Lu t b;rw[Tr.rU]at hl;have c:Rf t.flat w.now<=24:=Nat.le_trans (ah2 _ _) ω;have g:2^Rf t.flat w.now<=2^24:=lI ω c;have:(2:Nat)^24=16777216:=δ;omega
theorem Y3 (h:η l=n):∀x∈uw l,x<n:=λx a=>by
 unfold uw at a;have:=jl.1 (jL.1 a).1;omega
theorem MN (g:yh f=jD)(hl:η f<=50){ps:List Nat}(hp:∀x∈ps,x<η f):
  (rV f ps).Nodup/\(∀c∈rV f ps,Iw (η f) c)/\η (rV f ps)<=17000000:=by
 obtain⟨k,hc⟩:=wW (vU g) hp;refine⟨k,λc a=>?_,?_⟩
 ·obtain⟨_,_,d,e⟩:=hc c a
  have b:c.1<256/\c.2.1<256:=by
   rcases(yB _ _ _).1 a with h|h
   ·cases h
   ·obtain⟨y,hy,rfl⟩:=jg.1 h;exact acY g (η f+1) (zN hp) (by show 0<256;omega) (by show 0<256;omega) y hy
  exact⟨⟨b.1,b.2,λx i=>by have:=Y3 d x i;omega,λx i=>by have:=Y3 e x i;omega⟩,d,e⟩
 ·have j:=Ms ((leaves f (η f+1) (uJ (η f) ps)).map Way.Jh) [];have l:=Sv g hl (η f+1) (zN hp);rw[jr]at j;unfold rV;simp at j;omega
theorem ahP (a:yh f=jD)(hl:η f<=50){ps:List Int}(hp:∀x∈ps,0<=x/\x<η f):Nw f ps=jD:=by
 unfold Nw;rw[a];simp only[lH,jm,jN];refine⟨ω,jR.2 (λx b=>?_)⟩;have:=hp x b;simp[Cw];omega
section
variable {T L:List uI}{i:Nat}
theorem EX (hi:i<η T):rA (T.take (i+1)) L=uO (rA (T.take i) L) T[i]:=by
 rw[rE T i hi,I7];rfl
theorem ahj (T L i):η (rA (T.take i) L)<=η (rA T L):=by
 have e:rA T L=rA (T.drop i) (rA (T.take i) L):=by rw[<-I7,lK]
 obtain⟨m,hm⟩:=EZ (T.drop i) (rA (T.take i) L);rw[e,hm,lA];omega
theorem KW (h:c∈T.take i):c∈rA (T.take i) L:=(yB _ _ _).2 (.inr h)
theorem XP (L c):∃m,uO L c=L++m:=by
 unfold uO;split
 ·exact⟨[],ς⟩
 ·exact⟨[c],rfl⟩
theorem XQ (L c):c∈uO L c:=by
 unfold uO;split
 ·assumption
 ·simp
theorem VJ (hi:i<η T):uG (rA (T.take (i+1)) L) (T.take (i+1))=uG (rA (T.take i) L) (T.take i)++[(uO (rA (T.take i) L) T[i]).idxOf T[i]]:=by
 rw[EX hi];obtain⟨m,hm⟩:=XP (rA (T.take i) L) T[i]
 conv=>lhs;rw[rE T i hi]
 have e:uG (uO (rA (T.take i) L) T[i]) (T.take i)=uG (rA (T.take i) L) (T.take i):=by rw[hm];exact GZ (λc hc=>KW hc)
 unfold uG at e⊢;rw[jT,e];rfl
theorem ahL {L:List uI}{d:uI}(hc:c∈L)(_hd:d∈L)(h:L.idxOf c=L.idxOf d):c=d:=by
 have a:=Ou hc;have b:=Ou _hd;rw[h,b]at a;exact(jY a).symm
theorem ab7 (d:T.Nodup)(hi:i<η T):(uO (rA (T.take i) L) T[i]).idxOf T[i]∉uG (rA (T.take i) L) (T.take i):=by
 obtain⟨m,hm⟩:=XP (rA (T.take i) L) T[i];have e:uG (uO (rA (T.take i) L) T[i]) (T.take i)=uG (rA (T.take i) L) (T.take i):=by rw[hm];exact GZ (λc hc=>KW hc)
 rw[<-e];intro h;obtain⟨c,hc,a⟩:=jg.1 h;have b:c∈uO (rA (T.take i) L) T[i]:=by rw[hm];exact jo.2 (.inl (KW hc))
 have:=ahL b (XQ _ _) a;subst this;obtain⟨j,f,he⟩:=lZ.1 hc;rw[List.getElem_take]at he;have g:j<i:=by simp at f;omega
 have:=(List.getElem_inj d).1 he;omega
theorem XR {L:List uI}(h:η L<=256):((uO L c).idxOf c<256->η (uO L c)<=256)/\(uO L c).idxOf c<η (uO L c)/\η (uO L c)<=257:=by
 have b:=mO (XQ L c);refine⟨λa=>?_,b,?_⟩
 ·by_cases hm:c∈L
  ·unfold uO;rw[jd hm];exact h
  ·unfold uO at a⊢;rw[d9 hm]at a⊢;rw[mK,d9 hm]at a;rw[lA,jU];simp at a;omega
 ·unfold uO;split
  ·omega
  ·rw[lA,jU];omega
end
set_option maxHeartbeats 4000000
set_option maxRecDepth 100000
theorem ad1 (a:xJ w)(b:qW S w w')(hS:¬S 0):xJ w':=λj c=>
 (El (b.block _ (OU a) hS)).trans (a j c)
def aj6 (n0 _B kb nb ob:Nat)(Af:Option Addr)(cf:Nat)(f:List Nd)(sets:Int)(w:jF)(L:List uI)(p:Nat)(rows:List (List Nat))(vi vn:Value)(T:List uI)(en:Ending)(w':jF):Prop:=
 (η (rA T L)<=256->∃A c Rn,en=.returned (.tuple #[.slice A (η (uG (rA T L) T)) c,.bool jD])/\TS n0 w'.1.size kb nb ob Af cf f sets w' (rA T L) p rows vi Rn/\zV w' 3 A (η (uG (rA T L) T)) c (qO (iE (uG (rA T L) T)))/\(∀a,A=jB a->w.1.size<=a.block)/\
     qW (Tk kb nb ob vn) w w'/\∀i,Rn.ownBlock=jB i->i<w.1.size->vn.ownBlock=jB i)/\
 (256<η (rA T L)->en=.returned (.tuple #[.slice jC 0 0,.bool jE])/\Below n0 w w')
structure AL (n0 kb nb ob:Nat)(Af:Option Addr)(cf:Nat)(f:List Nd)(sets:Int)(L:List uI)(p:Nat)(rows:List (List Nat))(vi vn:Value)(T:List uI)(w1:jF)(sb i:Nat)(u:Value)(wr:jF):Prop where
 len:η (rA (T.take i) L)<=256
 ts:∃Rn,TS n0 w1.1.size kb nb ob Af cf f sets wr (rA (T.take i) L) p rows vi Rn/\∀j,Rn.ownBlock=jB j->j<w1.1.size->vn.ownBlock=jB j
 uQ:qW (λk=>Tk kb nb ob vn k\/k=sb) w1 wr
 out:wr.ownsRow w1.1.size 3 1 u (η (uG (rA (T.take i) L) (T.take i))) (qO (iE (uG (rA (T.take i) L) (T.take i))))
 seen:∃g,vI wr 3 sb i g/\∀q:Nat,q∉uG (rA (T.take i) L) (T.take i)->g (.int .i64 (q:Int))=jC
 sne:sb≠nb/\sb≠ob/\n0<=sb/\n0<=w1.1.size
section
variable {n0 kb nb ob:Nat}{Af:Option Addr}{cf:Nat}{f:List Nd}{sets:Int}{L:List uI}{p:Nat}{rows:List (List Nat)}{vi vn:Value}{T:List uI}{w1 wr:jF}{sb i:Nat}{u:Value}
theorem AL.step (h:AL n0 kb nb ob Af cf f sets L p rows vi vn T w1 sb i u wr)(hi:i<η T){v l:Value}{M B A N K:jF}(C:∀j,v.ownBlock=jB j->j<w1.1.size->vn.ownBlock=jB j)
  (D:Below wr.1.size wr M)(w:TS n0 w1.1.size kb nb ob Af cf f sets B (uO (rA (T.take i) L) T[i]) p rows vi l)(E:qW (Tk kb nb ob v) M B)(O:∀j,l.ownBlock=jB j->j<M.1.size->v.ownBlock=jB j)
  (F:(uO (rA (T.take i) L) T[i]).idxOf T[i]<256){g:Lit->Option Value}(y:vI B 3 sb i g)(P:∀q:Nat,q∉uG (rA (T.take i) L) (T.take i)->g (.int .i64 (q:Int))=jC)
  {x:Value}(Q:∀g',NT g g' (.int .i64 ((uO (rA (T.take i) L) T[i]).idxOf T[i]:Nat)) x->vI A 3 sb (i+1) g')(R:B.grownBy A (jB sb))(m:Below A.1.size A N)
  (a:N.ownsRow w1.1.size 3 1 u (η (uG (rA (T.take i) L) (T.take i))) (qO (iE (uG (rA (T.take i) L) (T.take i)))))
  {u':Value}{n':Nat}(S:n'=η (uG (rA (T.take i) L) (T.take i))+1)(Y:K.ownsRow w1.1.size 3 1 u' n' (qO (iE (uG (rA (T.take i) L) (T.take i)))++[.int .i64 ((uO (rA (T.take i) L) T[i]).idxOf T[i]:Nat)]))(z:qW (λk=>u.ownBlock=jB k) N K):
  AL n0 kb nb ob Af cf f sets L p rows vi vn T w1 sb (i+1) u' K:=by
 subst S;have z1:=h.uQ.size;have z5:=D.size;have z6:=E.size;have U:=h.sne;have t7:qW (λk=>k=sb) B A:=(qW.uy R).mono (λi _ e=>by injection e with e;exact e.symm);have z7:=t7.size;have z8:=m.size;have V:∃g',NT g g' (.int .i64 ((uO (rA (T.take i) L) T[i]).idxOf T[i])) x:=D9 _ _ _;obtain⟨g',G⟩:=V;have o:=Q _ G;have r:=o.keep (qW.of_below m) (by have:=o.lt;omega);have H:=r.keep z (λe=>by obtain⟨cs,hc⟩:=sK a e;exact r.wM hc rfl)
 have b:=by
  refine w.keep t7 (λe=>y.wM w.bk e) ω ω (λg0 d e=>?_) (λk cs _ n e=>y.wM n e) ω;obtain⟨xs,I,_⟩:=w.Wq;obtain⟨cs,hc⟩:=sK I d;exact y.wM hc e
 have c:=b.keep (qW.of_below m) (by have:=rX b.bk;omega) (by have:=b.Qd;omega) (by have:=b.aaC;omega) (λg0 d=>by obtain⟨xs,I,_⟩:=b.Wq;have:=(I.lt _ d).2;omega) (LD.of (ug A _)) (λk n=>ω)
 have J:TS n0 w1.1.size kb nb ob Af cf f sets K (uO (rA (T.take i) L) T[i]) p rows vi l:=by
  refine c.keep z (qQ a c.bk δ) (λe=>?_) (λe=>?_) (λg0 d e=>?_) (λk cs n _ e=>by have:=(a.lt k e).1;omega) (λk n e=>by have:=(a.lt k e).1;omega)
  ·obtain⟨cs,hc⟩:=sK a e;exact c.tQ hc rfl
  ·obtain⟨cs,hc⟩:=sK a e;exact c.yP hc rfl
  ·obtain⟨xs,I,_⟩:=c.Wq;obtain⟨cs,hc⟩:=sK I d;exact qQ a hc δ e
 have s:=VJ (L:=L) hi;refine⟨?_,⟨l,by rw[EX hi];exact J,λj Z W=>C j (O j Z ω) W⟩,?_,?_,⟨g',H,λq X=>?_⟩,U⟩
 ·rw[EX hi];exact(XR h.len).1 F
 ·have a5:=h.uQ.trans (qW.of_below D) (λk n e=>ω)
  have a6:=a5.trans E (λk n e=>by
   rcases e with e|e|e|e
   ·exact .inl (.inl e)
   ·exact .inl (.inr (.inl e))
   ·exact .inl (.inr (.inr (.inl e)))
   ·exact .inl (.inr (.inr (.inr (C k e n)))))
  have a7:=a6.trans t7 (λk n e=>.inr e);have a8:=a7.trans (qW.of_below m) ω;exact a8.trans z (λk n e=>by have:=(a.lt k e).1;omega)
 ·rw[s,lA,jU];have e:qO (iE (uG (rA (T.take i) L) (T.take i)++[(uO (rA (T.take i) L) T[i]).idxOf T[i]]))=qO (iE (uG (rA (T.take i) L) (T.take i)))++[.int .i64 ((uO (rA (T.take i) L) T[i]).idxOf T[i])]:=by simp[qO,iE]
  rwa [e]
 ·rw[s,ν,mS,not_or]at X;rw[G.2 _ (λe=>by injection e with _ e;exact X.2 ω)];exact P q X.1
end
theorem aha (h:Rd w B A xs)(hc:zK w1 xs T)(d:qW S w1 w)(hi:yc S w1 3)(e:T[k]? =jB c):
  ∃b off A1 c1 A2 c2,A=jB ⟨b,off,jC⟩/\b<B/\w.cell? ⟨b,off+k*4,jC⟩=jB (.int .u64 (c.1:Int))/\w.cell? ⟨b,off+k*4+1,jC⟩=jB (.int .u64 (c.2.1:Int))/\
   w.cell? ⟨b,off+k*4+2,jC⟩=jB (.slice A1 (η (uw c.2.2.1)) c1)/\w.cell? ⟨b,off+k*4+3,jC⟩=jB (.slice A2 (η (uw c.2.2.2)) c2)/\JC w1.1.size w c A1 c1 A2 c2:=by
 obtain⟨A1,c1,A2,c2,f,e1,e2,g,t1,t2⟩:=hc k c e;rcases h with i|⟨b,off,hA,a,hcell⟩
 ·grind
 ·exact⟨b,_,_,_,_,_,hA,a,hcell _ _ f,γ,γ,γ,(OA.of t1).keep d (LD.of hi),(OA.of t2).keep d (LD.of hi)⟩
theorem aa5 (n0 B kb nb ob Af cf f sets w L p rows vi vn Ap np cp ps)(h:TS n0 B kb nb ob Af cf f sets w L p rows vi vn)(hB:B<=w.1.size)(hp:Sl w w.1.size 1 Ap np cp (qO ps))(ax:np=η ps)(hN:yh f=jD)(ay:∀x∈ps,0<=x/\x<η f)(hl:η f<=50)(hL:η L<=256)(hpl:np<=1000)(hT:xJ w)(R:0<n0):
  Calls jJ 50 #[.pointer (jB ⟨kb,0,jC⟩),.slice Ap np cp] w (aj6 n0 B kb nb ob Af cf f sets w L p rows vi vn (rV f (ps.map Int.toNat))):=by
 have a1:∀x∈ps.map Int.toNat,x<η f:=λx hx=>by
  grind
 let⟨a6,C,a7⟩:=MN hN hl a1
 have a8:=ahP hN hl ay;have D:Ke f ps=rV f (ps.map Int.toNat):=by unfold Ke;grind
 have az:η (leaves f (η f+1) _)<=20000000:=Nat.le_trans (Sv hN hl _ (zN a1)) ω;let⟨T,ad⟩:=xQ (rV f (ps.map Int.toNat))
 rw[ad]at a6 C a7 D⊢;have E:Below _ w (w.alloc (.map #[] 0)):=bR.alloc lR _;have aA:=heap_alloc_new w (.map #[] 0);have aY:(w.alloc (.map #[] 0)).1.size=w.1.size+1:=ς;let⟨W0,af⟩:=xQ (w.alloc (.map #[] 0))
 rw[af]at E aA aY;have aB:=dh af;have aC:=dh (aiS Af cf f Ap np cp ps W0 (((h.below E).fs).up (by have:=h.lt.1;omega)) ((hp.below E lR).up ω) ax ω ω (λ_=>az));rw[D]at aC;let⟨b0,b1,b2,b3,b4,b5⟩:=D5 (h.below E).bk
 have aZ:(w.alloc (.map #[] 0)).cell? ⟨kb,0,jC⟩=jB (.slice Af (η f) cf):=by rwa [aB.o]
 have b6:=run_makeMap (P:=jJ) 118;obtain⟨S,b9,bc,aD,bS⟩:=iC h hT a6 C ad;clear h hT a6 C ad af D az a8 hp ay a1 ax b1 b2 b3 b4 b5;go_enter Tryz.func50,Tryz.ntmps50;go_wp2_with fail
 rw[aB.o];apply Calls.mono aC.o;rintro e w1 ⟨vT,xs,rfl,ag,aE,ah⟩;obtain⟨AT,cT,rfl,bd⟩:=qX ag;clear b0 aZ b6;have l:=E.trans (ah.mono ω);have bT:=l.size;have N:=dh ((S.below l).up (show B<=w1.1.size by omega));have bL:=ah.size;have r:vI _ 3 _ 0 _:=vI.Ho ((ah.block _ ω).trans aA)
 have aF:∀t,53≠t->86≠t->yc (λk=>Tk _ _ _ _ k\/k=w.1.size) _ t:=λt h1 h2 k cs O e=>by
  rcases e with e|e
  ·exact N.spares h1 h2 k _ O e
  ·exact r.wM O e
 have U:AL n0 kb nb ob Af cf f sets L p rows vi vn T w1 w.1.size 0 (.slice jC 0 0) w1:=
  ⟨μ,⟨vn,μ,λj hj _=>hj⟩,qW.refl _ _,by simpa[uG,qO,iE]using jF.ownsRow_nil _ _ 3 1,⟨_,r,λ_ _=>rfl⟩,⟨λe=>by have:=S.Qd;omega,λe=>by have:=S.aaC;omega,by have:=S.lt.1;omega,by have:=S.lt.1;omega⟩⟩
 obtain⟨aG,aH,bh⟩:=iA aF ag aE;clear bd ag aE aF r;go_wp2
 go_loopw [6,19] (λu v wr=>∃i,i<=η T/\v=.int .i64 i/\AL n0 kb nb ob Af cf f sets L p rows vi vn T w1 w.1.size i u wr) (λ_ v _=>η T-(intOf v).toNat)
 case atStart=>exact⟨0,ω,rfl,U⟩
 case round=>
  obtain⟨i,hi,rfl,V⟩:=hrel;have b:=dh V;clear V U;by_cases Q:i<η T
  ·have aJ:=qR aH b.uQ (λg R e=>by obtain⟨cs,hc⟩:=sK aH R;exact aG _ δ δ g _ hc e);let⟨Ar,cr,bj,aK⟩:=qX aJ
   injection bj with bm bU bn
   subst bm bn;obtain⟨ba,oa,E1,e1,E2,e2,rfl,bM,p0,p1,p2,p3,aL⟩:=aha aK.rd bh b.uQ (aG _ δ δ) (gE Q);have h0:0<=(i:Int):=ω;have h1:i<(η T:Int):=ω
   have aM:∀k,(Tk _ _ _ _ k\/k=w.1.size)->n0<=k:=λk O=>by
    rcases O with O|O
    ·exact N.Vk O
    ·have:=S.lt.1;omega
   have aN:=ad1 (zW b9 l) b.uQ (λe=>by have:=aM _ e;omega);have d:Below _ _ (wr.alloc (.cells #[.int .u64 T[i].1,.int .u64 T[i].2.1,.slice E1 (η (uw T[i].2.2.1)) e1,.slice E2 (η (uw T[i].2.2.2)) e2] 90)):=bR.alloc lR _;let⟨W5,aj⟩:=xQ (wr.alloc (.cells #[.int .u64 T[i].1,.int .u64 T[i].2.1,.slice E1 (η (uw T[i].2.2.1)) e1,.slice E2 (η (uw T[i].2.2.2)) e2] 90))
   rw[aj]at d;have bp:=dh aj;let⟨aO,s,ak⟩:=b.ts
   have hlen:=b.len;obtain⟨bq,F,ao⟩:=iA (Y6 n0 w1.1.size kb nb ob Af cf f sets W5 (rA (T.take i) L) p rows vi aO T[i] E1 e1 E2 e2 (s.below d) (aL.keep (qW.of_below d) (LD.of (ug wr _))) (aD _ (mM Q)) (zW aN d) ω ω) s ak;have W:=s.bk;have br:=b.o.out.lt;clear aJ aK aj aL aN aM s hlen;go_wp2_with fail
   rw[bp.o];apply Calls.mono bq.o;rintro e W6 ⟨bV,rfl,X,aP,aQ⟩;clear p0 p1 p2 p3;have bu:=(XR (c:=T[i]) b.len).2;have aq:=ab7 (L:=L) bc Q;let⟨n,hn⟩:=xQ ((uO (rA (T.take i) L) T[i]).idxOf T[i])
   rw[hn]at bu aq⊢;have ar:=dh hn;have bw:n<257:=ω;obtain⟨aR,G,bz⟩:=iA X aP aQ;clear hn X aP aQ;by_cases bN:n<256
   ·let⟨g,H,au⟩:=b.seen
    have aS:=b.sne
    have m:=(H.keep (qW.of_below d) (by have:=H.lt;omega)).keep G (λe=>by
     rcases e with e|e|e|e
     ·exact H.wM W e.symm
     ·exact aS.1 e
     ·exact aS.2.1 e
     ·obtain⟨bW,bA,_⟩:=F.Wq;obtain⟨cs,hc⟩:=sK bA e;exact H.wM hc rfl)
    have aT:=m.look jE Fh Tryz.underlying118 κ (ME (q:=n) ω) (z:=.int .i64 0);rw[au n aq]at aT;simp[Option.getD_none]at aT;let⟨W7,bX,I,J⟩:=m.update Fh Tryz.underlying118 (by unfold maxLen;omega) (ME (q:=n) ω) (.int .i64 1)
    let⟨g7,av⟩:=D9 g (.int .i64 n) (.int .i64 1)
    have Y:=(I _ av).look jE Fh Tryz.underlying118 κ (ME (q:=n) ω) (z:=.int .i64 0);rw[av.1]at Y;simp at Y;have aw:qW (λk=>k=w.1.size) _ _:=(qW.uy J).mono (λi _ e=>by injection e with e;exact e.symm);have y:=b.o.out;have K:=qR y (qW.of_below d) (λg R=>by have:=(y.lt g R).2;omega)
    have M:=qR K G (λg R e=>by
     obtain⟨cs,hc⟩:=sK K R;exact(F.below d).spares δ δ g _ hc e)
    have Z:=qR M aw (λg R e=>by obtain⟨cs,hc⟩:=sK M R;exact m.wM hc e);obtain⟨bY,bB,bE,bF,aU⟩:=iC I J m au Z;have bO:w1.1.size<=W7.1.size:=by have:=b.uQ.size;have:=d.size;have:=G.size;have:=aw.size;omega
    have bZ:η (uG (rA (T.take i) L) (T.take i))<=17000000:=by simp[uG];omega
    have wi:IntKind.i64.wrap (i+1)=i+1:=by rw[wI];omega
    clear H au m I J av y K M Z aw br W aq
    go_wp2_with (at_builtin
                 refine rD rfl (.tmp 36) (.tmp 38) 29 rfl w1.1.size 3 1 8 rW _ _ _ (aU.alloc _) rfl W7.1.size #[.int .i64 n] rfl (heap_alloc_new W7 _) rfl (by simp[Value.oneCell']) ω ω (by simp;omega) ?_;intro v9 W9 c0 bG bP bQ)
    go_roundw
    case rel=>exact⟨_,ω,by go_num,b.step _ ao d aR G bz (by rwa [ar.o]) bE bF (by rwa [ar.o]) bB (bR.alloc lR _) (aU.alloc _) rfl (by rwa [ar.o]) bG⟩
    case measure=>simp[intOf];omega
   ·go_wp2
    go_ret2
    have hle:=ahj T L (i+1);rw[EX Q]at hle;have bH:=N.lt.1;have b1:=l.mono S.lt.1
    have b2:=b.uQ.below bH (λk O e=>by
     rcases e with e|e
     ·have:=N.Vk e;omega
     ·have:=S.lt.1;omega)
    have b3:Below n0 _ _:=d.mono (by have:=b.uQ.size;omega);have b4:Below n0 _ _:=G.below (by have:=b.uQ.size;have:=d.size;omega) (λk O e=>by have:=(F.below d).Vk e;omega);exact⟨λh=>ω,λ_=>⟨rfl,((b1.trans b2).trans b3).trans b4⟩⟩
  ·have bI:i=η T:=ω;subst bI;have y:=b.o.out;have hlen:=b.len;have aV:T.take _ =T:=kH;rw[aV]at y hlen;let⟨aO,s,ak⟩:=b.ts
   rw[aV]at s;obtain⟨Ao,co,rfl,aW⟩:=zV.Br y;have bJ:∀a,Ao=jB a->w.1.size<=a.block:=λa ha=>by have:=(y.lt _ (by rw[ha];rfl)).1;omega
   obtain⟨bK,aX,F,ao⟩:=iB bJ aW s ak;go_wp2
   go_ret2
   refine⟨λ_=>⟨_,_,_,rfl,F.up b.uQ.size,aX.o,bK.o,((qW.of_below l).mono ω).trans b.uQ (λj hj e=>e.resolve_right ω),λj hj c4=>ao j hj ω⟩,λh=>ω⟩
def yu (W:List Nat)(p:Int)(k:Nat):Bool:=(W.getD k 0).testBit p.toNat
theorem adD {S need:Nat}:need&&&S=need↔∀p:Nat,need.testBit p=jD->S.testBit p=jD:=by
 constructor
 ·intro h p hp
  grind
 ·intro h;apply l6;intro p
  grind
theorem agr {S ban:Nat}:ban&&&S=0↔∀p:Nat,ban.testBit p=jD->S.testBit p=jE:=by
 constructor
 ·intro h p hp;have:=jM (λx=>x.testBit p) h
  grind
 ·intro h;apply l6;intro p
  grind
theorem RV {x:BM}:zD x (W.getD k 0)=jD↔Reads (yu W) x.need x.ban k:=by
 unfold zD Reads yu;rw[jm,jN,jN,adD,agr];rfl
theorem Sm (now s):∀l:List Int,(xX now l).2.testBit s=(decide (s<64/\s<η l)&&Qe now (l.getD s 0)):=by
 refine Vv (by simp[xX]) (λl a b=>?_);rw[BR,J2,FZ]
 grind
theorem agM:∀{i j:Nat} (_:j<η f),opAt f j=9->((i+j:Nat):Int)∈EK i f:=by
 induction f with
 |nil=>intro i j a;grind
 |cons x r d=>
  intro i j a b;unfold EK
  match j,a,b with
  |0,a,b=>
   have:=by simpa[opAt]using b
   grind
  |j+1,a,b=>
   have c:opAt r j=9:=μ;have:=d (i:=i+1) γ c
   grind
def vW (f:List Nd)(L:List uI)(rows:List (List Nat))(init:List Nat):rQ:=
 ⟨(η (EK 0 f):Int),iE init,(ζ (η L)).map (λq=>⟨(L.getD q (0,0,[],[])).1,(L.getD q (0,0,[],[])).2.1,aaG f (iE (uw (L.getD q (0,0,[],[])).2.2.2)),iE (rows.getD q [])⟩)⟩
section
variable {f:List Nd}{L:List uI}{rows:List (List Nat)}{init:List Nat}
theorem KF (h:L[q]? =jB c):(vW f L rows init).at q=⟨c.1,c.2.1,aaG f (iE (uw c.2.2.2)),iE (rows.getD q [])⟩:=by
 have a:=(gB.1 h).1;have hc:L[q]=c:=(gB.1 h).2;simp[vW,rQ.at,θ,a,hc]
theorem EL:(vW f L rows init).nodes.length=η L:=by simp[vW]
theorem Ht {l:List Nat}{x:Nat}:(x:Int)∈iE l↔x∈l:=by
 unfold iE
 grind
theorem TI (b:Jz f L rows init):(vW f L rows init).Ok:=by
 constructor
 ·intro i hi;obtain⟨q,d,rfl⟩:=jg.1 hi;obtain⟨c,_,hc⟩:=b.Uv q d;rw[EL];exact sU.2 γ
 ·intro x e t g;simp only[vW,jg,jl]at e;obtain⟨q,d,rfl⟩:=e;obtain⟨q',a,rfl⟩:=jg.1 g;obtain⟨c',_,h⟩:=b.aew q L[q] ς _ a;rw[EL];exact sU.2 γ
theorem aan (a:yh f=jD){u:Nat}(h:L[q]? =jB c)(hs:(EK 0 f)[s]? =jB (u:Int))(hu:u<η f)(b:opAt f u=9)(d:η (EK 0 f)<=64):(((vW f L rows init).at q).inn.testBit s=jD)↔IZ c u:=by
 have e:=(gB.1 hs).1;rw[KF h];show(aaG f _).testBit s=jD↔_;unfold aaG;rw[jd a,Sm,jm,jN]
 have g:(EK 0 f).getD s 0=u:=by
  grind
 let⟨_,i⟩:=G5 a hu b
 rw[g];unfold Qe IZ;rw[show(u-1)=((u-1:Nat):Int) by omega]
 have key:∀x:Nat,(iE (uw c.2.2.2)).any ((x:Int)== ·)=c.2.2.2.getD x jE:=λx=>by
  rw[lG,<-KX,<-Ht,kT];simp
 grind
theorem abU (hs:s<η (EK 0 f)):∃u:Nat,(EK 0 f)[s]? =jB (u:Int)/\u<η f/\opAt f u=9:=by
 obtain⟨u,hu,e,a⟩:=TF (mM hs);exact⟨u,γ,hu,by simpa[opAt,hu]using a⟩
theorem abq {u:Nat}(hu:u<η f)(a:opAt f u=9):∃s,s<η (EK 0 f)/\(EK 0 f)[s]? =jB (u:Int):=by
 have hm:=agM (i:=0) hu a;rw[ng]at hm;let⟨s,hs,e⟩:=lZ.1 hm
 exact⟨s,hs,γ⟩
theorem abF (H:yh f=jD)(I:Jz f L rows init)(J:η (EK 0 f)<=64)(hf:0<η f){lp:Nat}(a:lp<η W){z:List Bool}(hz:X4 (vX (vW f L rows init) W lp) (DT (vW f L rows init) (η W)) z):
  O0 (vW f L rows init) W z↔rz (yu W) (η W) lp f (η f-1) 0=jD:=by
 obtain⟨U,K,V⟩:=hz;have hA:=TI I;have M:(vW f L rows init).nodes.length=η L:=EL;have hlen:η (vX (vW f L rows init) W lp)=η L*η W:=by rw[CS,M]
 have N:∀{q} {c},L[q]? =jB c->((vW f L _ init).at q).to=iE (rows.getD q _):=λh=>by rw[KF h]
 have X:∀{q} {c},L[q]? =jB c->((vW f L _ _).at q).need=c.1/\((vW f L rows init).at q).ban=c.2.1:=λh=>by rw[KF h];simp
 have Y:(vW f L rows init).sets.toNat=η (EK 0 f):=rfl;constructor
 ·rintro⟨q0,C,_,A⟩;rw[hlen]at U;have B:=Ht.1 C;let⟨c0,_,a1⟩:=I.Uv _ B
  have ag:=(gB.1 a1).1
  have step:∀{q k j},q<η L->k<η W->Ed (vX (vW f L rows init) W lp) z (q*η W+k) j->
    ∃q',q'<η L/\j=q'*η W+nx lp (η W) k/\Stp (η W) lp rows (λq k=>q<η L/\k<η W/\z.getD (q*η W+k) jE=jD) (q,k) (q',nx lp (η W) k)/\Reads (yu W) ((vW f L rows init).at q).need ((vW f L rows init).at q).ban k:=by
   intro q k j g o he;obtain⟨q',l,w,D,h4,h5,h6,_⟩:=(Uy hA a ω o γ).1 he;rw[M]at l;rw[N (gE g)]at h5;exact⟨_,l,w,⟨γ,⟨l,yQ a,γ⟩,Ht.1 h5,rfl⟩,RV.1 h6⟩
  have way:∀{i j},tT (Ed (vX (vW f L rows init) W lp) z) i j->∀q k,q<η L->k<η W->i=q*η W+k->
    ∃q' k',q'<η L/\k'<η W/\j=q'*η W+k'/\JB (Stp (η W) lp rows (λq k=>q<η L/\k<η W/\z.getD (q*η W+k) jE=jD)) (q,k) (q',k'):=by
   intro i j hl;induction hl with
   |refl i=>intro q k g o e;exact⟨q,k,g,o,e,.refl _⟩
   |step r _ O=>
    intro q k g o e;subst e;obtain⟨q',l,w,D,_⟩:=step g o r;obtain⟨q2,k2,g1,g2,g3,g4⟩:=O _ _ l (yQ a) w;exact⟨_,_,g1,g2,g3,.step D g4⟩
  have ask:∀{p},p∈DT (vW f L rows init) (η W)->∀{q k},q<η L->k<η W->z.getD (q*η W+k) jE=jD->
    ∃j d,Ed (vX (vW f L rows init) W lp) z (q*η W+k) j/\tT (Ed (vX (vW f L rows init) W lp) z) j d/\p d=jD:=by
   intro p hp q k g o E;have a6:=K p hp _ E;let⟨j,d,l,w,_,_,h5⟩:=(Df ω γ).1 a6
   grind
  have a7:(λ_=>jD)∈DT (vW f L rows init) (η W):=ji ..;refine aea (Z:=λq k=>q<η L/\k<η W/\z.getD (q*η W+k) jE=jD) H a I hf ⟨λq k h=>h.2.1,λq k h=>?_,λq k h=>?_,λq k h u hu P=>?_⟩ B γ
  ·grind
  ·grind
  ·obtain⟨g,o,E⟩:=h;obtain⟨s,hs,F⟩:=abq hu P
   have hm:(λm=>((vW f L rows init).at (m/η W)).inn.testBit s)∈DT (vW f L rows init) (η W):=by
    refine jc _ (jg.2 ⟨s,?_,rfl⟩)
    grind
   let⟨j,d,l,w,D⟩:=ask hm g o E
   let⟨q',g1,g2,g3,_⟩:=step g o l
   let⟨q2,k2,e1,e2,e3,e4⟩:=way w _ _ g1 (yQ a) g2
   subst e3;rw[(F9 e2).1]at D;exact⟨_,_,g3,e4,_,gE _,(aan H (gE e1) F hu P J).1 D⟩
 ·intro hh;obtain⟨q0,C,A⟩:=abH H a I hf hh;have hZ:=ahQ (bits:=yu W) H a I;obtain⟨y,hy⟩:∃y,y=(ζ (η L*η W)).map (λm=> @decide (Ir (yu W) (η W) lp f L (m/η W) (m%η W)) (Classical.propDecidable _)):=⟨_,rfl⟩;have Q:η y=η L*η W:=γ
  have t:∀{q k},q<η L->k<η W->(y.getD (q*η W+k) jE=jD↔Ir (yu W) (η W) lp f L q k):=by
   intro q k g o;have h:=Aq g o;let⟨l,w⟩:=F9 (q:=q) o
   grind
  have n:∀{q k:Nat},Ir (yu W) (η W) lp f L q k->q<η L:=λ⟨_,c,hc,_⟩=>(gB.1 hc).1
  have G:∀{q k:Nat},Ir (yu W) (η W) lp f L q k->zD ((vW f L rows init).at q) (W.getD k 0)=jD:=λ⟨_,c,hc,hf,_⟩=>by
   obtain⟨e1,e2⟩:=X hc;rw[RV,e1,e2];exact hf.1.1
  have edge:∀{x b},Stp (η W) lp rows (Ir (yu W) (η W) lp f L) x b->Ed (vX (vW f L rows init) W lp) y (x.1*η W+x.2) (b.1*η W+b.2):=by
   rintro⟨q,k⟩ ⟨q',k'⟩ ⟨l,w,D,h4⟩;subst h4;have g:=n l;have a8:=n w;refine(Uy hA a ω l.1 γ).2 ⟨q',ω,rfl,(t g l.1).2 l,(t a8 w.1).2 w,?_,G l,G w⟩;rw[N (gE g)];exact Ht.2 D
  have way:∀{x b},JB (Stp (η W) lp rows (Ir (yu W) (η W) lp f L)) x b->tT (Ed (vX (vW f L rows init) W lp) y) (x.1*η W+x.2) (b.1*η W+b.2):=by
   intro x b hl;induction hl with
   |refl x=>exact .refl _
   |step r _ O=>exact .step γ O
  have R:∀{x b},Ir (yu W) (η W) lp f L x.1 x.2->JB (Stp (η W) lp rows (Ir (yu W) (η W) lp f L)) x b->Ir (yu W) (η W) lp f L b.1 b.2:=by
   intro x b hx hl;induction hl with
   |refl x=>omega
   |step r _ O=>exact O r.2.1
  have S:XY (vX (vW f L rows init) W lp) (DT (vW f L rows init) (η W)) y:=by
   intro p hp i hi;have ah:i<η L*η W:=γ;have ad:0<η W:=ω;have o:i%η W<η W:=qI _ ad;have g:=Nat.div_lt_of_lt_mul (by rwa [qF]);have af:i=i/η W*η W+i%η W:=by rw[qF];exact(Nat.div_add_mod _ _).symm
   rw[af]at hi⊢;have hF:=(t g o).1 hi;rw[Df ω ω];rcases jk.1 hp with rfl|hp
   ·obtain⟨b,hb⟩:=hZ.any _ _ hF;have:=edge hb;exact⟨_,_,this,.refl _,by rw[Q];exact Aq (n hb.2.1) hb.2.1.1,(t (n hb.2.1) hb.2.1.1).2 hb.2.1,rfl⟩
   ·obtain⟨s,hs,rfl⟩:=jg.1 hp;obtain⟨u,F,hu,P⟩:=abU (jl.1 hs);obtain⟨b,d,hb,hd,c,hc,how⟩:=hZ.met _ _ hF u hu P;have v:=R hb.2.1 hd;refine⟨_,_,edge hb,way hd,by rw[Q];exact Aq (n v) v.1,(t (n v) v.1).2 v,?_⟩;show((vW f L _ _).at _).inn.testBit s=jD;rw[(F9 v.1).1];exact(aan H hc F hu P J).2 how
  have T:=V y ω S;refine⟨_,Ht.2 C,G A,?_⟩;have:=T (q0*η W+0) ((t (n A) ω).2 A);rwa [nG]at this
end
structure sW (w:jF)(B:Nat)(a:rQ)(Ai:Option Addr)(ni ci:Nat)(An:Option Addr)(nn cn:Nat):Prop where
 eni:ni=η a.init
 Ov:nn=η a.nodes
 init:Sl w B 1 Ai ni ci (qO a.init)
 nodes:∃xs,Sl w B 4 An nn cn xs/\∀(k:Nat) (x:BM),a.nodes[k]? =jB x->∃A c,xs[k*4]? =jB (.int .u64 (x.need:Int))/\xs[k*4+1]? =jB (.int .u64 (x.ban:Int))/\xs[k*4+2]? =jB (.int .u64 (x.inn:Int))/\
  xs[k*4+3]? =jB (.slice A (η x.to) c)/\Sl w B 1 A (η x.to) c (qO x.to)
theorem sW.below (h:sW w B a Ai ni ci An nn cn)(hb:Below B' w w')(b:B<=B'):sW w' B a Ai ni ci An nn cn:=by
 obtain⟨xs,d,e⟩:=h.nodes;refine⟨h.eni,h.Ov,h.init.below hb b,xs,d.below hb b,λk x f=>?_⟩;obtain⟨A,c,g,e1,e2,i,t⟩:=e k x f;exact⟨A,c,g,e1,e2,i,t.below hb b⟩
theorem sW.up (h:sW w B a Ai ni ci An nn cn)(b:B<=B'):sW w B' a Ai ni ci An nn cn:=by
 obtain⟨xs,d,e⟩:=h.nodes;refine⟨h.eni,h.Ov,h.init.up b,xs,d.up b,λk x f=>?_⟩;obtain⟨A,c,g,e1,e2,i,t⟩:=e k x f;exact⟨A,c,g,e1,e2,i,t.up b⟩
theorem aar (w:jF)(B size:Nat):Sl w B size jC 0 0 []:=⟨ς,lR,mR _,λ_=>rfl,.inl rfl⟩
theorem xI (w:jF)(B:Nat):sW w B ⟨0,[],[]⟩ jC 0 0 jC 0 0:=⟨rfl,rfl,aar w B 1,[],aar w B 4,λk x a=>by simp at a⟩
def Gw (n0:Nat)(w:jF)(a:rQ)(Ai:Option Addr)(ni ci:Nat)(An:Option Addr)(nn cn:Nat):Prop:=
 ∀(S:Nat->Prop) (W2:jF),qW S w W2->(∀g,S g->g<w.1.size->g<n0\/∃cs,w.1[g]? =jB (.cells cs 32 (0,0)))->sW W2 W2.1.size a Ai ni ci An nn cn
theorem Gw.below (h:Gw n0 w a Ai ni ci An nn cn)(hb:Below w.1.size w w'):Gw n0 w' a Ai ni ci An nn cn:=λS b c hS=>
 h (λg=>S g) b (qW.trans (⟨hb.os,hb.tape,hb.output,hb.size,λi hi _=>hb.block i hi⟩:qW S w w') c (λ_ _ e=>e)) (λg d hl=>by
  rcases hS g d (jh hl hb.size)with f|⟨cs,hc⟩
  ·exact .inl f
  ·exact .inr ⟨cs,(hb.block g hl).symm.trans hc⟩)
theorem Gw.rd (h:Gw n0 w a Ai ni ci An nn cn):sW w w.1.size a Ai ni ci An nn cn:=h (λ_=>False) w (qW.refl _ w) (λ_ e=>e.elim)
theorem Gw.mono {n1:Nat}(h:Gw n0 w a Ai ni ci An nn cn)(b:n1<=n0):Gw n1 w a Ai ni ci An nn cn:=λS c d hS=>h S c d (λg e hl=>(hS g e hl).imp (λh=>jh h b) id)
theorem FL (w):Gw n0 w ⟨0,[],[]⟩ jC 0 0 jC 0 0:=λ_ a _ _=>xI a _
section
variable {n0 B kb nb ob:Nat}{Af:Option Addr}{cf:Nat}{f:List Nd}{sets:Int}{w:jF}{L:List uI}{p:Nat}{rows:List (List Nat)}{vi vn:Value}
theorem TS.start (b:w.1[kb]? =jB (.cells #[.slice Af (η f) cf,.map (jB nb),.map (jB ob),.int .i64 sets,vi,.slice jC 0 0] 86 (0,0)))(d:w.1[nb]? =jB (.map #[] 0))(e:w.1[ob]? =jB (.map #[] 0))
  (a:n0<=w.1.size/\n0<=kb/\n0<=nb/\n0<=ob/\nb≠ob)(hf:Sl w n0 2 Af (η f) cf (qP f)):TS n0 B kb nb ob Af cf f sets w [] 0 [] vi (.slice jC 0 0):=
 ⟨b,JA.nil d,FC.nil e,⟨[],jF.ownsRow_nil _ _ _ _,λk c h=>by simp at h⟩,λc h=>by simp at h,ς,a,hf⟩
theorem TS.ag2 (h:TS n0 B kb nb ob Af cf f sets w L p rows vi vn)(v):TS n0 B kb nb ob Af cf f sets (w.setCell ⟨kb,4,jC⟩ v) L p rows v vn/\qW (λk=>k=kb) w (w.setCell ⟨kb,4,jC⟩ v):=by
 have s:=(qW.refl (λk=>k=kb) w).setCell (p:=⟨kb,4,jC⟩) (λ_=>rfl) v;obtain⟨xs,c,d⟩:=h.Wq;have sp:LD (λk=>k=kb) w B:=LD.of (uM h.bk δ);have a:=h.lt;refine⟨⟨?_,h.num.keep s (λe=>h.tQ h.bk e.symm),h.opn.keep s (λe=>h.yP h.bk e.symm) sp,⟨xs,qR c s (λg i e=>?_),d.keep s sp⟩,h.oks,h.rl,⟨by have:=s.size;omega,a.2⟩,h.fs.uQ s a.1 (λb hb e=>ω)⟩,s⟩
 ·have:=heap_setCell_same w kb 4 _ _ v h.bk;simpa using this
 ·subst e;exact qQ c h.bk δ i
theorem TS.pop (h:TS n0 B kb nb ob Af cf f sets w L p rows vi vn)(d:qW (λk=>k=ob) w w2)(i:FC B w2 ob (p+1) L):TS n0 B kb nb ob Af cf f sets w2 L (p+1) rows vi vn:=by
 obtain⟨xs,l,m⟩:=h.Wq;have a:∀{k t:Nat} {cs:Array Value},w.1[k]? =jB (.cells cs t (0,0))->k≠ob:=λj=>h.yP j
 have sp:LD (λk=>k=ob) w B:=λk cs _ j e=>a j e
 have c:=h.lt;exact⟨d.blk h.bk (a h.bk),h.num.keep d c.2.2.2.2,i,⟨xs,qR l d (λg n e=>by obtain⟨cs,hc⟩:=sK l n;exact a hc e),m.keep d sp⟩,h.oks,h.rl,⟨by have:=d.size;omega,c.2⟩,h.fs.uQ d c.1 (λb hb e=>ω)⟩
theorem TS.ael (h:TS n0 B kb nb ob Af cf f sets w L p rows vi (.slice (jB ⟨g,0,jC⟩) (η L) cn))(n:η rows<η L)(a){i:Nat}(j:OA n0 w B A (η a) i (qO (iE a))):
  TS n0 B kb nb ob Af cf f sets (w.setCell ⟨g,η rows*4+3,jC⟩ (.slice A (η a) i)) L p (rows++[a]) vi (.slice (jB ⟨g,0,jC⟩) (η L) cn)/\qW (λk=>k=g) w (w.setCell ⟨g,η rows*4+3,jC⟩ (.slice A (η a) i)):=by
 have s:qW (λk=>k=g) w (w.setCell ⟨g,η rows*4+3,jC⟩ (.slice A (η a) i)):=(qW.refl (λk=>k=g) w).setCell (p:=⟨g,η rows*4+3,jC⟩) (λ_=>rfl) _;obtain⟨xs,c,l⟩:=h.Wq;obtain⟨cs,hcs⟩:=sK c (g:=g) (by simp[Value.ownBlock]);have sp:LD (λk=>k=g) w B:=LD.of (uM hcs δ);have d:=h.lt;have m:=(c.lt g (by simp[Value.ownBlock])).1;refine⟨⟨s.blk h.bk (λe=>qQ c h.bk δ (by simp[Value.ownBlock,e])),h.num.keep s (λe=>h.tQ hcs e.symm),h.opn.keep s (λe=>h.yP hcs e.symm) sp,⟨_,(c.stored _ _).1,(l.ael c.1 a j).keep s sp⟩,h.oks,?_,⟨by have:=s.size;omega,d.2⟩,h.fs.uQ s d.1 (λb hb e=>ω)⟩,s⟩;rw[lA,jU];omega
end
theorem TS.ake {kb nb ob:Nat}{Af:Option Addr}{cf:Nat}{sets:Int}{p:Nat}{vi vn:Value}(h:TS n0 B kb nb ob Af cf f sets w L p rows vi vn)(_hr:η rows=η L)(init)(hi:OA n0 w B Ai (η init) ci (qO (iE init)))(b:qW S w w')(c:∀g,vn.ownBlock=jB g->¬S g)(a:∀k cs,n0<=k->w.1[k]? =jB (.cells cs 3 (0,0))->¬S k):
  ∃An cn,vn=.slice An (η L) cn/\sW w' w'.1.size (vW f L rows init) Ai (η init) ci An (η L) cn:=by
 obtain⟨xs,d,e⟩:=h.Wq;have n:=qR d b c;obtain⟨An,cn,hv,hs⟩:=qX n;refine⟨An,cn,hv,⟨by simp[vW,iE],by simp[vW],(hi.afJ b (λk cs i _ j=>a k cs i j)).t.sl,xs,hs,λk x m=>?_⟩⟩;have l:k<η L:=by have:=(gB.1 m).1;rwa [EL]at this
 have hc:=gE l
 have o:x=⟨L[k].1,L[k].2.1,aaG f (iE (uw L[k].2.2.2)),iE (rows.getD k [])⟩:=by
  have:=KF (f:=f) (rows:=rows) (init:=init) hc;unfold rQ.at at this;rw[gD,m]at this;exact this
 subst o;obtain⟨A,q,r,e1,e2,s,t⟩:=e k _ hc;have t':=t.afJ b (λk cs i _ j=>a k cs i j);exact⟨A,q,r,e1,e2,by rw[s];simp[iE],by simpa[iE]using t'.t.sl⟩
theorem F8 (h:yh f=jD):0<η f:=by
 cases f with
 |nil=>revert h;decide
 |cons a l=>simp
theorem V8:∀(T L:List uI),T.Nodup->(∀c∈T,c∉L)->rA T L=L++T
 |[],L,_,_=>by simp[rA]
 |c::T,L,b,hd=>by
  show rA T (uO L c)= _;have hc:uO L c=L++[c]:=by unfold uO;rw[d9 (hd c ς)]
  rw[hc,V8 T (L++[c]) (og.1 b).2 (λd a hm=>?_)]
  ·simp
  ·rcases jo.1 hm with hm|hm
   ·exact hd d (by simp[a]) hm
   ·rw[mS]at hm;subst hm;exact(og.1 b).1 a
theorem ae4 (h:T.Nodup):rA T []=T:=by rw[V8 T [] h (λ_ _=>ς)];simp
theorem VK (h:T.Nodup):uG T T=ζ (η T):=by
 have:=ac8 h [];simpa using this
theorem acQ (l):(iE l).map Int.toNat=l:=by
 unfold iE;rw[nQ];exact(j6 (λx _=>ς)).trans (List.map_id l)
theorem O5 (a:η rows<η L)(hc:L[η rows]? =jB c):
  Dc f (k+1) L rows=if 256<η (rA (rV f (uw c.2.2.1)) L)then jC else Dc f k (rA (rV f (uw c.2.2.1)) L) (rows++[uG (rA (rV f (uw c.2.2.1)) L) (rV f (uw c.2.2.1))]):=by
 have b:L.getD (η rows) (0,0,[],[])=c:=by rw[gD,hc];rfl
 conv=>lhs;unfold Dc
 rw[jd a,b]
theorem abJ (h:¬η rows<η L):Dc f (k+1) L rows=jB (L,rows):=by
 conv=>lhs;unfold Dc
 rw[d9 h]
theorem DU.step' (b:yh f=jD)(h:DU f L rows)(a:η rows<η L)(hc:L[η rows]? =jB c):
  DU f (rA (rV f (uw c.2.2.1)) L) (rows++[uG (rA (rV f (uw c.2.2.1)) L) (rV f (uw c.2.2.1))]):=by
 have d:L.getD (η rows) (0,0,[],[])=c:=by rw[gD,hc];rfl
 have:=h.step b a;rwa [d]at this
def Kj (f:List Nd):Int:=if yh f=jE then 3 else if 50<η f then 5 else if 16<η (uh f)then 11 else match JK f with|none=>11|some _=>0
def Kl (f:List Nd):rQ:=if Kj f=0 then(match JK f with|none=>⟨0,[],[]⟩|some (L,rows)=>vW f L rows (ζ (η (tC f))))else⟨0,[],[]⟩
def UW (w:jF)(a:rQ)(e:Int)(en:Ending)(w':jF):Prop:=
 ∃Ai ni ci An nn cn,en=.returned (.tuple #[.agg #[.int .i64 a.sets,.slice Ai ni ci,.slice An nn cn],.int .i64 e])/\sW w' w'.1.size a Ai ni ci An nn cn/\Below w.1.size w w'/\Gw w.1.size w' a Ai ni ci An nn cn
set_option maxHeartbeats 8000000
set_option maxRecDepth 100000
theorem wh (h:sW w B a Ai ni ci An nn cn)(g:k<nn):
  ∃b off x A c,An=jB ⟨b,off,jC⟩/\b<B/\a.nodes[k]? =jB x/\w.cell? ⟨b,off+k*4,jC⟩=jB (.int .u64 (x.need:Int))/\w.cell? ⟨b,off+k*4+1,jC⟩=jB (.int .u64 (x.ban:Int))/\
   w.cell? ⟨b,off+k*4+2,jC⟩=jB (.int .u64 (x.inn:Int))/\w.cell? ⟨b,off+k*4+3,jC⟩=jB (.slice A (η x.to) c)/\Sl w B 1 A (η x.to) c (qO x.to):=by
 obtain⟨xs,i,j⟩:=h.nodes;have d:k<η a.nodes:=by rw[<-h.Ov];exact g
 obtain⟨A,c,e,e1,e2,l,t⟩:=j k _ (gE d);rcases i.rd with m|⟨b,off,hA,f,hc⟩
 ·rw[m]at e;simp at e
 ·exact⟨b,off,_,A,c,hA,f,gE d,hc _ _ e,by rw[mD];exact hc _ _ e1,by rw[mD];exact hc _ _ e2,by rw[mD];exact hc _ _ l,t⟩
theorem BJ {c:Nat}{l:List Int}(h:Sl w B 1 A n c (qO l))(a:k<η l):∃b off,A=jB ⟨b,off,jC⟩/\b<B/\w.cell? ⟨b,off+k,jC⟩=jB (.int .i64 l[k]):=
 h.rd.at_ (j:=k) (u:=.int .i64 l[k]) (by simp[qO,a])
theorem Xz (w n):Below w.1.size w (w.drewN n):=have h:=Below.refl w.1.size w;⟨h.os,h.tape,h.output,h.size,h.block⟩
theorem BZ {a:jF}(h:Below B w a)(n m):Below B w ((a.drewN n).drewN m):=⟨h.os,h.tape,h.output,h.size,h.block⟩
theorem aej (x t:Nat):((x:Int)/2^t !=0)= !(x>>>t==0):=by
 rw[pF];have h:((x:Int)/2^t)=((x/2^t:Nat):Int):=ς;rw[h];by_cases a:x/2^t=0
 ·simp[a]
 ·have b:((x/2^t:Nat):Int)≠0:=ω;rw[bne_iff_ne.2 b,kF.2 a];rfl
theorem sQ {q r:Value}(h:w.1[b]? =jB (.cells #[p,q,r] t (0,0))):w.cell? ⟨b,0,jC⟩=jB p/\w.cell? ⟨b,1,jC⟩=jB q/\w.cell? ⟨b,2,jC⟩=jB r:=by
 refine⟨?_,?_,?_⟩<;>(rw[cell_of_row _ _ _ _ _ (0,0) h];rfl)
theorem Uu {i:Int}(h:¬sG n i=jD):i<0\/(0<=i/\(n:Int)<=i):=by
 rw[sU]at h;omega
theorem Qz (a Ai ni ci An nn cn w B)(h:sW w B a Ai ni ci An nn cn)(hB:B<=w.1.size):
  Calls jJ 9 #[.agg #[.int .i64 a.sets,.slice Ai ni ci,.slice An nn cn]] w (Num w (tO a)):=by
 have d:Below w.1.size w (w.alloc (.cells #[.int .i64 a.sets,.slice Ai ni ci,.slice An nn cn] 32)):=bR.alloc lR _;have T:=heap_alloc_new w (.cells #[.int .i64 a.sets,.slice Ai ni ci,.slice An nn cn] 32);have aj:(w.alloc (.cells #[.int .i64 a.sets,.slice Ai ni ci,.slice An nn cn] 32)).1.size=w.1.size+1:=ς;obtain⟨W0,J⟩:=xQ (w.alloc (.cells #[.int .i64 a.sets,.slice Ai ni ci,.slice An nn cn] 32));rw[J]at d T aj;have u:=dh J;obtain⟨k0,k1,k2⟩:=sQ T;have U:=h.below d hB;have V:=h.eni;have W:=h.Ov;have aC:=h.init.cap;have ak:=h.init.max;obtain⟨aD,K, -⟩:=h.nodes;have p:=K.cap;have ao:=K.max;have aE:B<=W0.1.size:=ω;obtain⟨s,hs⟩:=xQ a.sets;have HS:=dh hs;rw[hs]at u k0;clear K;unfold maxLen at ak ao;obtain⟨HR,X,g⟩:=iA U V W;have aF:(ni:Int)<=9223372036854775807:=ω;clear U J h V W;rw[hs];by_cases Y:256<nn
 ·have Z:(256:Int)<(nn:Int):=ω;have k:Hd (tO a=11):=dh (by unfold tO;rw[jd (.inl (by rw[<-g.o];exact Y))]);clear hs;go_enter Tryz.func9,Tryz.ntmps9;go_wp2_with fail
  rw[u.o];go_wp2_with fail
  go_ret
  exact⟨by rw[k.o];rfl,d⟩
 ·have Z:¬(256:Int)<(nn:Int):=ω;by_cases aq:16<s
  ·have k:Hd (tO a=11):=dh (by unfold tO;rw[jd (.inr (by rw[hs];exact aq))]);clear hs;go_enter Tryz.func9,Tryz.ntmps9;go_wp2_with fail
   rw[u.o];go_wp2_with fail
   go_ret
   exact⟨by rw[k.o];rfl,d⟩
  ·have D:¬(256<η a.nodes\/16<a.sets):=by rw[<-g.o,hs];omega
   by_cases a1:s<0
   ·have k:Hd (tO a=10):=dh (by unfold tO;rw[d9 D,jd (by rw[hs];exact a1)]);clear hs D;go_enter Tryz.func9,Tryz.ntmps9;go_wp2_with fail
    rw[u.o];go_wp2_with fail
    go_ret
    exact⟨by rw[k.o];rfl,d⟩
   ·have a6:¬a.sets<0:=by rw[hs];exact a1
    have a7:tO a=if a.init.all (sG (η a.nodes))=jD then zI (η a.nodes) a.sets a.nodes else 10:=by
     unfold tO;rw[d9 D,d9 a6]
    have HC:=dh a7;clear a7;clear hs D a6;go_enter Tryz.func9,Tryz.ntmps9;go_wp2_with fail
    rw[u.o];go_loopw [3] (λv wr=>∃i m:Nat,i<=ni/\v=.int .i64 i/\wr=W0.drewN m/\Hd (∀x∈a.init.take i,sG (η a.nodes) x=jD)) (λv _=>ni-(intOf v).toNat)
    case atStart=>exact⟨0,0,ω,rfl,rfl,dh (λx c=>by simp at c)⟩
    case round=>
     obtain⟨i,m,hi,rfl,rfl,L⟩:=hrel;by_cases E:i<ni
     ·have a8:(i:Int)<(ni:Int):=ω;have n:i<η a.init:=by rw[<-X.o];exact E
      obtain⟨b,o,rfl,ar,hc⟩:=BJ HR.init n;have z:=Fw (P:=λx=>sG (η a.nodes) x=jD) n L.o;have wi:IntKind.i64.wrap ((i:Int)+1)=i+1:=by rw[wI];omega
      have l:¬sG (η a.nodes) a.init[i]=jD->tO a=10:=λc=>by
       rw[HC.o,d9 (λh=>c (jR.1 h _ (mM n)))]
      generalize a.init[i]=x at *;obtain⟨M,N⟩:=iw z l;clear z l;by_cases q:sG (η a.nodes) x=jD
      ·have c:=sU.1 q;rw[<-g.o]at c;obtain⟨au,O⟩:=c;have d1:decide (x<0)=jE:=by simp;omega
       have d2:decide ((nn:Int)<=x)=jE:=by simp;omega
       have HN:=dh q;clear q;go_wp2_with fail
       go_quiet (fail)
       go_wp2
       go_roundw
       case rel=>exact⟨i+1,_,ω,by go_num,by first|rfl|rw[jF.drewN_drewN],dh (M HN.o)⟩
       case measure=>simp[intOf];omega
      ·have k:=dh (N q);have c:=Uu q;rw[<-g.o]at c;clear q;rcases c with c|⟨c,O⟩
       ·have d1:decide (x<0)=jD:=by simp;omega
        go_wp2_with fail
        go_quiet (fail)
        go_wp2
        go_ret
        exact⟨by rw[k.o];rfl,BZ d _ _⟩
       ·have d1:decide (x<0)=jE:=by simp;omega
        have d2:decide ((nn:Int)<=x)=jD:=by simp;omega
        go_wp2_with fail
        go_quiet (fail)
        go_wp2
        go_ret
        exact⟨by rw[k.o];rfl,BZ d _ _⟩
     ·have Q:i=ni:=ω;subst Q;have e:=jR.2 (λx c=>L x (by rw[X.o,kH];exact c));have ad:tO a=zI (η a.nodes) a.sets a.nodes:=by rw[HC.o,jd e]
      have af:=dh ad;clear e ad;go_wp2_with fail
      go_loopw [4] (λv wr=>∃i m:Nat,i<=nn/\v=.int .i64 i/\wr=W0.drewN m/\Hd (∀x∈a.nodes.take i,vE (η a.nodes) a.sets x=0)) (λv _=>nn-(intOf v).toNat)
      case atStart=>exact⟨0,_,ω,rfl,rfl,dh (λx c=>by simp at c)⟩
      case round=>
       clear L HC;obtain⟨i,m,hi,rfl,rfl,L⟩:=hrel;by_cases E:i<nn
       ·have a8:(i:Int)<(nn:Int):=ω;have aG:(0:Int)<=(i:Int):=ω;obtain⟨b,o,x,At,ct,rfl,ar,c,c0,c1,c2,c3,F⟩:=wh HR E;have n:i<η a.nodes:=by rw[<-g.o];exact E
        have G:a.nodes[i]=x:=by
         rw[gE n]at c;exact jY c
        have z:=λh=>Fw (P:=λx=>vE (η a.nodes) a.sets x=0) n L (by rw[G];exact h)
        have H:vE (η a.nodes) a.sets x≠0->tO a=vE (η a.nodes) a.sets x:=λh=>by
         rw[af.o,MO n L (by rw[G];exact h),G]
        have av:=F.max;have aH:=F.cap;unfold maxLen at av;have gmt:(η x.to:Int)<=9223372036854775807:=ω;have wi:IntKind.i64.wrap ((i:Int)+1)=i+1:=by rw[wI];omega
        obtain⟨M,I,aw⟩:=iA z H F;clear z H F c G c0 c1;go_wp2_with fail
        go_loopw [5] (λv wr=>∃j m:Nat,j<=η x.to/\v=.int .i64 j/\wr=W0.drewN m/\Hd (∀t∈x.to.take j,sG (η a.nodes) t=jD)) (λv _=>η x.to-(intOf v).toNat)
        case atStart=>exact⟨0,_,ω,rfl,rfl,dh (λx c=>by simp at c)⟩
        case round=>
         obtain⟨j,m',hj,rfl,rfl,HJ⟩:=hrel;by_cases R:j<η x.to
         ·have az:(j:Int)<(η x.to:Int):=ω;have aJ:(0:Int)<=(j:Int):=ω;obtain⟨bt,ot,rfl,aK,aA⟩:=BJ aw R;have ag:=Fw (P:=λx=>sG (η a.nodes) x=jD) R HJ.o;have wj:IntKind.i64.wrap ((j:Int)+1)=j+1:=by rw[wI];omega
          have l:¬sG (η a.nodes) x.to[j]=jD->vE (η a.nodes) a.sets x=10:=λc=>by
           unfold vE;rw[d9 (λh=>c (jR.1 h _ (mM R)))]
          generalize x.to[j]=y at *;obtain⟨ax,N⟩:=iw ag l;clear ag l;by_cases q:sG (η a.nodes) y=jD
          ·have c:=sU.1 q;rw[<-g.o]at c;obtain⟨au,O⟩:=c;have d1:decide (y<0)=jE:=by simp;omega
           have d2:decide ((nn:Int)<=y)=jE:=by simp;omega
           have HN:=dh q;clear q;go_wp2_with fail
           go_quiet (fail)
           go_wp2
           go_roundw
           case rel=>exact⟨j+1,_,ω,by go_num,by first|rfl|rw[jF.drewN_drewN],dh (ax HN.o)⟩
           case measure=>simp[intOf];omega
          ·have C:=N q;have k:Hd (tO a=10):=dh (by rw[I (by rw[C];decide),C]);have c:=Uu q;rw[<-g.o]at c;clear q C;rcases c with c|⟨c,O⟩
           ·have d1:decide (y<0)=jD:=by simp;omega
            go_wp2_with fail
            go_quiet (fail)
            go_wp2
            go_ret
            exact⟨by rw[k.o];rfl,BZ d _ _⟩
           ·have d1:decide (y<0)=jE:=by simp;omega
            have d2:decide ((nn:Int)<=y)=jD:=by simp;omega
            go_wp2_with fail
            go_quiet (fail)
            go_wp2
            go_ret
            exact⟨by rw[k.o];rfl,BZ d _ _⟩
         ·have ay:j=η x.to:=ω;subst ay;have e:=jR.2 (λt ht=>HJ t (by rw[kH];exact ht))
          have p:vE (η a.nodes) a.sets x=if x.inn>>>s.toNat=0 then 0 else 3:=by
           unfold vE;rw[jd e,HS.o]
          obtain⟨t,ht⟩:∃t:Nat,s=(t:Int):=⟨s.toNat,ω⟩;subst ht;have aB:IntKind.u64.wrap (t:Int)=t:=by rw[IntKind.wrap_u64];omega
          have r:=aej x.inn t;rw[show((t:Int)).toNat=t from by simp]at p;by_cases S:x.inn>>>t=0
          ·rw[show(x.inn>>>t==0)=jD from by simp[S]]at r;have ah:((x.inn:Int)/2^t !=0)=jE:=r;have k:=dh (M (by rw[p,jd S]));clear S r p e;go_wp2_with fail
           go_quiet (fail)
           go_wp2
           go_roundw
           case rel=>exact⟨i+1,_,ω,by go_num,by first|rfl|rw[jF.drewN_drewN],k⟩
           case measure=>simp[intOf];omega
          ·rw[show(x.inn>>>t==0)=jE from by simp[S]]at r;have ah:((x.inn:Int)/2^t !=0)=jD:=r;have h3:vE (η a.nodes) a.sets x=3:=by rw[p,d9 S]
           have k:Hd (tO a=3):=dh (by rw[I (by rw[h3];decide),h3]);clear S r p e h3;go_wp2_with fail
           go_quiet (fail)
           go_wp2
           go_ret
           exact⟨by rw[k.o];rfl,BZ d _ _⟩
       ·have Q:i=nn:=ω;subst Q;have k:Hd (tO a=0):=dh (by rw[af.o];exact Ji (λx c=>L x (by rw[g.o,kH];exact c)));go_wp2_with fail
        go_ret
        exact⟨by rw[k.o];rfl,BZ d _ 0⟩
theorem RP {b:Bool}{en:Ending}(h:Said w b en w'):AX w b en w':=by
 obtain⟨e,n,rfl⟩:=h;exact⟨e,Xz w n⟩
theorem DK {q r s:Value}(h:w.1[b]? =jB (.cells #[p,q,r,s] t (0,0))):w.cell? ⟨b,0,jC⟩=jB p/\w.cell? ⟨b,1,jC⟩=jB q/\w.cell? ⟨b,2,jC⟩=jB r/\w.cell? ⟨b,3,jC⟩=jB s:=by
 refine⟨?_,?_,?_,?_⟩<;>(rw[cell_of_row _ _ _ _ _ (0,0) h];rfl)
set_option maxHeartbeats 4000000
set_option maxRecDepth 100000
theorem XK {x y:Nat}(a:x<2^64)(hy:y<2^64):bits .and .u64 (x:Int) (y:Int)=((x&&&y:Nat):Int):=by
 have hand:x&&&y<2^64:=kJ oO a;show IntKind.u64.wrap ((BitVec.ofInt 64 (x:Int)&&&BitVec.ofInt 64 (y:Int)).toNat:Int)= _;rw[mY,jW,ko,jW,ko,j5 a,j5 hy,IntKind.wrap_u64];omega
theorem VR (x:BM)(A)(n c:Nat)(S:Nat)(w)(i:x.need<2^64)(j:x.ban<2^64)(g:S<2^64):
  Calls jJ 22 #[.agg #[.int .u64 (x.need:Int),.int .u64 (x.ban:Int),.int .u64 (x.inn:Int),.slice A n c],.int .u64 (S:Int)] w (AX w (zD x S)):=by
 have a:Below w.1.size w (w.alloc (.cells #[.int .u64 (x.need:Int),.int .u64 (x.ban:Int),.int .u64 (x.inn:Int),.slice A n c] 53)):=bR.alloc lR _;have m:=XK i g;have a2:=XK j g;have b:zD x S=(decide (x.need&&&S=x.need)&&decide (x.ban&&&S=0)):=rfl;generalize x.need&&&S=p at *;generalize x.ban&&&S=q at *;by_cases e1:p=x.need
 ·have k:((p:Int)==(x.need:Int))=jD:=by simp[e1]
  rw[decide_eq_true e1,lH]at b;have d:=dh b;clear b e1;by_cases e2:q=0
  ·have l:((q:Int)==0)=jD:=by simp[e2]
   have e:=dh e2;clear e2;go_enter Tryz.func22,Tryz.ntmps22;go_wp2_with fail
   go_ret
   exact⟨by rw[d.o,decide_eq_true e.o];rfl,a⟩
  ·have l:((q:Int)==0)=jE:=kF.2 ω;have e:=dh e2;clear e2;go_enter Tryz.func22,Tryz.ntmps22;go_wp2_with fail
   go_ret
   exact⟨by rw[d.o,decide_eq_false e.o];rfl,a⟩
 ·have k:((p:Int)==(x.need:Int))=jE:=kF.2 ω;rw[decide_eq_false e1,nM]at b;have d:=dh b;clear b e1;go_enter Tryz.func22,Tryz.ntmps22;go_wp2_with fail
  go_ret
  exact⟨by rw[d.o];rfl,a⟩
theorem TN (x t:Nat):(((x:Int)/2^t)%2==1)=x.testBit t:=by
 have h:((x:Int)/2^t)=((x/2^t:Nat):Int):=ς;rw[h,Nat.testBit_eq_decide_div_mod_eq];by_cases a:x/2^t%2=1
 ·rw[decide_eq_true a];exact lV.2 ω
 ·rw[decide_eq_false a];exact kF.2 ω
theorem afN (a Ai)(ni ci:Nat)(An)(nn cn:Nat)(k t:Nat)(w)(B:Nat)(h:sW w B a Ai ni ci An nn cn)(v:B<=w.1.size)(m:k<nn)(y:t<=64)(_hnn:nn<=1000000):
  Calls jJ 59 #[.agg #[.int .i64 a.sets,.slice Ai ni ci,.slice An nn cn],.int .i64 (k:Int),.int .i64 (t:Int)] w (AX w ((a.at k).inn.testBit t)):=by
 obtain⟨s,hs⟩:=xQ a.sets;rw[hs];have g:Below w.1.size w (w.alloc (.cells #[.int .i64 s,.slice Ai ni ci,.slice An nn cn] 32)):=bR.alloc lR _;obtain⟨b,o,x,A,c,rfl,n,j,p,c1,c2,c3, -⟩:=wh h m;have d:a.at k=x:=by unfold rQ.at;rw[gD,j];rfl
 rw[d];have q:b<w.1.size:=ω;have r:(k:Int)<(nn:Int):=ω;have u:(0:Int)<=(k:Int):=ω;have l:IntKind.u64.wrap (t:Int)=t:=by rw[IntKind.wrap_u64];omega
 have e:=TN x.inn t;have i:=dh e;clear j d e h hs p c1 c3;go_enter Tryz.func59,Tryz.ntmps59;go_wp2_with fail
 go_ret
 exact⟨by rw[<-i.o];rfl,g⟩
def Fb (z:List Bool)(a:Nat)(e:Nd):Bool:=z.getD a jE&&hasB z e.op
def uX (E:List (List Nd))(z:List Bool)(a:Nat):List (List Nd):=(ζ (η E)).map λi=>if i<a then(E.getD i []).filter (Fb z i)else[]
theorem U7 (E z a):η (uX E z a)=η E:=by simp[uX]
theorem Tp (E z):uX E z 0=ρ (η E) []:=by
 refine jw (by simp[uX]) (λi a b=>by simp[uX])
theorem Tq {z:List Bool}{a:Nat}(b:a<η E):uX E z (a+1)=(uX E z a).set a (E[a].filter (Fb z a)):=by
 refine jw (by simp[uX]) (λi c d=>?_);rw[mq];simp only[uX,lJ,l9];by_cases e:a=i
 ·subst e;simp[θ,b]
 ·rw[d9 e];by_cases e2:i<a
  ·rw[jd e2,jd ω]
  ·rw[d9 e2,d9 ω]
theorem Yd {z:List Bool}{a:Nat}(_ha:a<η E):uX E z a=(uX E z a).set a []:=by
 refine jw ς (λi b c=>?_);rw[mq];split
 ·rename_i e;subst e;simp[uX]
 ·rfl
theorem Tt (E z):uX E z (η E)=uL E z:=by
 refine jw (by simp[uX,uL]) (λi b c=>?_);have hi:i<η E:=by simpa[uX]using b
 simp only[uX,uL,lJ,l9,jd hi];cases a:z.getD i jE
 ·rw[d9 δ];rw[nL];intro e _;rw[Fb,a,nM];decide
 ·rw[jd rfl];refine o7 (λe _=>?_);rw[Fb,a,lH]
theorem Xg {l:List Nd}(p:Nd->Bool)(hm:m<η l):(l.take (m+1)).filter p=(l.take m).filter p++if p l[m]=jD then[l[m]]else[]:=by
 rw[rE l m hm,ku];congr 1;rw[kW,lN]
open Go.ChangeShapes Go.WideShapes Go.Deep
section
variable {H:Type}{enc:TypeId×Value->H}{P:Program}{w:jF}{base:Nat}{spare:Nat->Bool}{held:Bool}
theorem Nf {a:Addr}(h:∀j u,xs[j]? =jB u->w.cell? (a.add j)=jB u):Rd w w.1.size (jB a) xs:=by
 rcases xs with _|⟨x,r⟩
 ·exact .inl rfl
 ·have d:=h 0 x rfl;have hs:=jF.cell?_spot d;have hb:=jF.block_lt_of_cell? w _ d;obtain⟨b,off,spot⟩:=a;have c:=by simpa[Addr.add]using hs
  subst c;refine .inr ⟨b,_,rfl,μ,λj u f=>?_⟩
  have e:(⟨b,off,jC⟩:Addr).add j=⟨b,off+j,jC⟩:=by
   unfold Addr.add;simp
  grind
def ail (x:Nd):Prop:=(Lit.int .i64 x.op).wf=jD/\(Lit.int .i64 x.n).wf=jD
theorem Y0 {t:TypeId}{x:DataW H×List MemPlace}(K:P.underlying t=jB (.slice e))(he:P.underlying e=jB (.struct #[f0,f1]))
  (b:oneCellFields P #[f0,f1]=jD)(hC:P.cellsOf e=2)(L:P.underlying f0.type=jB (.int .i64))(I:P.underlying f1.type=jB (.int .i64))
  (h:DataW.trod enc P w base spare held fuel t cs=jB x):
  ∃(A:Option Addr) (c:Nat) (f:List Nd),cs=[.slice A (η f) c]/\Sl w w.1.size 2 A (η f) c (qP f)/\(∀x∈f,ail x)/\(η f=0\/∃E S,x.1=.slice E S/\η E=η f):=by
 rcases open_slice K h with⟨hcs,_⟩|⟨a,len,cap,m,n,D,Y,hcs,hb,hl,hm,M,N,hi⟩
 ·exact⟨_,0,[],hcs,Sl.none_ _ _ _,ς,.inl rfl⟩
 ·have O:len<=m:=γ
  have key:∀i,i<len->∃y:Nd,w.cell? (a.add (i*2))=jB (.int .i64 y.op)/\w.cell? (a.add (i*2+1))=jB (.int .i64 y.n)/\ail y:=by
   intro i Q;obtain⟨cs',hc,hd⟩:=hi i ω;rw[hC]at hc;obtain⟨_,r,d⟩:=jF.cells?_some hc;obtain⟨ys,n',_,_,_,s,hf⟩:=DataW.trod_struct he hd;have J:η ys=2:=s;let⟨R,T⟩:=hone_of b 0 f0 rfl
   let⟨U,V⟩:=hone_of b 1 f1 rfl
   match cs',r with
   |[u,v],_=>
    have z:=hf 0 f0 rfl;have e1:=hf 1 f1 rfl;rw[R,T]at z;rw[U,V]at e1;have g0:=d 0 ω;have g1:=d 1 ω;rw[add_add]at g0 g1
    obtain⟨q,W⟩:∃q,ys[0]? =jB q:=by
     rw[gE ω];exact⟨_,rfl⟩
    obtain⟨q',B⟩:∃q,ys[1]? =jB q:=by
     rw[gE ω];exact⟨_,rfl⟩
    rw[W]at z;rw[B]at e1;let⟨p,hp,_,wp⟩:=DataW.trod_int L z
    let⟨p',g,_,wp'⟩:=DataW.trod_int I e1
    simp at hp g;subst hp;subst g;exact⟨⟨p,_⟩,by simpa using g0,by simpa using g1,wp,wp'⟩
  have l:∀k,k<=len->∃f:List Nd,η f=k/\(∀i (hi:i<η f),w.cell? (a.add (i*2))=jB (.int .i64 f[i].op)/\w.cell? (a.add (i*2+1))=jB (.int .i64 f[i].n))/\∀x∈f,ail x:=by
   intro k;induction k with
   |zero=>intro _;simp
   |succ k X=>
    intro Z;obtain⟨f,hf,hc,o⟩:=X ω;obtain⟨y,I,h2,h3⟩:=key k ω;refine⟨f++[y],γ,λi hi=>?_,λx N=>?_⟩
    ·grind
    ·grind
  let⟨f,hf,hc,o⟩:=l _ lR
  refine⟨_,_,f,by rw[hcs,hf],⟨uz f,ω,hm,ς,Nf λj u C=>?_⟩,o,.inr γ⟩;have F:=(gB.1 C).1;rw[uz]at F;obtain⟨i,hi⟩:∃i,j=i*2\/j=i*2+1:=⟨j/2,ω⟩;rcases hi with rfl|rfl
  ·have G:i<η f:=ω;rw[Oq]at C
   grind
  ·have G:i<η f:=ω;rw[Ur]at C
   grind
end
def Small {H:Type}(P:Program)(t:TypeId)(d:DataW H):Prop:=∀n∈d.weights P t,n<=reachBytes
section
variable {H:Type}{enc:TypeId×Value->H}{P:Program}{w:jF}{base:Nat}{spare:Nat->Bool}{held:Bool}
theorem EM {ts:List TypeId}{ds:List (DataW H)}(h:(DataW.weightsEach P ts ds).all (· <=reachBytes)=jD){t:TypeId}{d:DataW H}(a:ts[j]? =jB t)(hd:ds[j]? =jB d):Small P t d:=
 λn b=>kD (jR.1 h n (DataW.weights_mem_each a hd n b))
theorem RH {t:TypeId}{fs:Array Field}{parts:List (DataW H)}(hs:P.underlying t=jB (.struct fs))(h:Small P t (.agg parts)){f:Field}{d:DataW H}(hf:fs[i]? =jB f)(hd:parts[i]? =jB d):Small P f.type d:=
 λn a=>h n (by
  simp[DataW.weights,hs];exact DataW.weights_mem_each γ hd n a)
theorem Gz {e:TypeId}{d:DataW H}:∀{E:List (DataW H)},d∈E->∀n∈d.weights P e,n∈DataW.weightsAll P e E
 |x::E,hd,n,a=>by
  simp[DataW.weightsAll,ν];rcases jk.1 hd with rfl|h
  ·grind
  ·exact .inr (Gz h n a)
theorem M9 {t:TypeId}{E S:List (DataW H)}(a:P.underlying t=jB (.slice e))(h:Small P t (.slice E S)):η E*P.bytesOf e<=reachBytes/\∀d∈E,Small P e d:=by
 constructor
 ·have:=h ((η E+η S)*P.bytesOf e) (by simp[DataW.weights,a])
  grind
 ·intro d hd n b;apply h n;simp[DataW.weights,a,ν];exact .inr (.inl (Gz hd n b))
theorem Qy {β:Type}(f:β->Value)(G:β->Prop):∀{xs:List Value},(∀v∈xs,∃b,v=f b/\G b)->∃l:List β,xs=l.map f/\∀b∈l,G b
 |[],_=>⟨[],rfl,ς⟩
 |v::r,h=>by
  obtain⟨b,hb,c⟩:=h v ς;obtain⟨l,hl,a⟩:=Qy f G (xs:=r) γ;exact⟨b::l,γ,γ⟩
theorem acE {t:TypeId}{x:DataW H×List MemPlace}(b:P.underlying t=jB (.slice e))(hc:P.cellsOf e=1)(h:DataW.trod enc P w base spare held fuel t cs=jB x)(hs:Small P t x.1):
  ∃(A:Option Addr) (c:Nat) (xs:List Value),cs=[.slice A (η xs) c]/\Sl w w.1.size 1 A (η xs) c xs/\η xs*P.bytesOf e<=reachBytes/\
   ∀v∈xs,∃n d p,DataW.trod enc P w base spare held n e [v]=jB (d,p)/\Small P e d:=by
 rcases open_slice1 b hc h with⟨hcs,_⟩|⟨a,len,cap,m,n,V,D,o,hcs,hb,hl,hm,f,g,hi⟩
 ·exact⟨_,0,[],hcs,Sl.none_ _ _ _,ς,ς⟩
 ·have i:len<=m:=γ;rw[g]at hs;let⟨k,l⟩:=M9 b hs
  refine⟨jB a,_,(ζ len).map V,γ,⟨ς,γ,hm,ς,Nf λj u q=>?_⟩,γ,λv hv=>?_⟩
  ·grind
  ·grind
theorem R4 {t:TypeId}{k:IntKind}{x:DataW H×List MemPlace}(b:P.underlying t=jB (.slice e))(hc:P.cellsOf e=1)(he:P.underlying e=jB (.int k))(h:DataW.trod enc P w base spare held fuel t cs=jB x)(hs:Small P t x.1):
  ∃(A:Option Addr) (c:Nat) (l:List Int),cs=[.slice A (η l) c]/\Sl w w.1.size 1 A (η l) c (l.map (.int k))/\η l*P.bytesOf e<=reachBytes/\∀n∈l,(Lit.int k n).wf=jD:=by
 obtain⟨A,c,xs,i,j,m,f⟩:=acE b hc h hs
 obtain⟨l,rfl,hl⟩:=Qy _ _ (λv hv=>by
  obtain⟨n,d,p,hd,_⟩:=f v hv;obtain⟨q,a,_,g⟩:=DataW.trod_int he hd;simp at a;exact⟨q,a,g⟩)
 grind
theorem Hf {t:TypeId}{x:DataW H×List MemPlace}(b:P.underlying t=jB (.slice e))(he:P.underlying e=jB (.struct #[f0,f1]))
  (a:oneCellFields P #[f0,f1]=jD)(hC:P.cellsOf e=2)(d:P.underlying f0.type=jB (.int .i64))(g:P.underlying f1.type=jB (.int .i64))
  (h:DataW.trod enc P w base spare held fuel t cs=jB x)(hs:Small P t x.1):
  ∃(A:Option Addr) (c:Nat) (f:List Nd),cs=[.slice A (η f) c]/\Sl w w.1.size 2 A (η f) c (qP f)/\(∀x∈f,ail x)/\η f*P.bytesOf e<=reachBytes:=by
 obtain⟨A,c,f,i,a2,a3,a4⟩:=Y0 b he a hC d g h;refine⟨A,c,f,i,a2,a3,?_⟩;rcases a4 with a4|⟨E,S,a4,a5⟩
 ·grind
 ·rw[a4]at hs;rw[<-a5];exact(M9 b hs).1
theorem V7 {r:Reach}{b0:Nat}{t t0 t1 e0 e1:TypeId}{e f:IntKind}{d:DataW H}{p:List MemPlace}(hs:P.underlying t=jB (.struct #[f0,f1]))(a:oneCellFields P #[f0,f1]=jD)(hC:P.cellsOf t=2)
  (g:f0.type=t0)(j:f1.type=t1)(k:P.underlying t0=jB (.slice e0))(o:P.underlying t1=jB (.slice e1))(q:P.cellsOf e0=1)(s:P.cellsOf e1=1)(u:P.underlying e0=jB (.int e))(x:P.underlying e1=jB (.int f))
  (hv:Value.okWide P w r b0 t v)(h:DataW.Trod enc P w base spare held t v d p)(b:Small P t d):
  ∃(A:Option Addr) (c:Nat) (l:List Int) (B:Option Addr) (c':Nat) (m:List Int),v=.agg #[.slice A (η l) c,.slice B (η m) c']/\Sl w w.1.size 1 A (η l) c (l.map (.int e))/\Sl w w.1.size 1 B (η m) c' (m.map (.int f))/\
   η l*P.bytesOf e0<=reachBytes/\η m*P.bytesOf e1<=reachBytes/\(∀n∈l,(Lit.int e n).wf=jD)/\∀n∈m,(Lit.int f n).wf=jD:=by
 subst g;subst j;obtain⟨v0,v1,C,D,n,rfl,rfl,_,y,z⟩:=Joins.open_agg2 hs a hC hv h;obtain⟨A,c,l,E,a2,a3,a4⟩:=R4 k q u y (RH hs b (i:=0) rfl rfl);obtain⟨B,c',m,b1,b2,b3,F⟩:=R4 o s x z (RH hs b (i:=1) rfl rfl)
 grind
end
def Gx (w:jF)(B size:Nat)(A:Option Addr)(n c:Nat)(L:List (List Value)):Prop:=
 ∃vs:List Value,Sl w B 1 A n c vs/\η vs=η L/\∀(j:Nat) ys,L[j]? =jB ys->∃A' n' c',vs[j]? =jB (.slice A' n' c')/\Sl w B size A' n' c' ys
section
variable {w w' w1:jF}{B B' size n c:Nat}{A:Option Addr}{L:List (List Value)}
theorem Gx.below (h:Gx w B size A n c L)(hb:Below B' w w')(d:B<=B'):Gx w' B size A n c L:=by
 obtain⟨vs,e,f,g⟩:=h;refine⟨_,e.below hb d,f,λj ys i=>?_⟩;obtain⟨A',n',c',a,b⟩:=g j _ i;exact⟨_,_,_,a,b.below hb d⟩
theorem Gx.up (h:Gx w B size A n c L)(d:B<=B'):Gx w B' size A n c L:=by
 obtain⟨vs,e,f,g⟩:=h;refine⟨_,e.up d,f,λj ys i=>?_⟩;obtain⟨A',n',c',a,b⟩:=g j _ i;exact⟨_,_,_,a,b.up d⟩
theorem Gx.len (h:Gx w B size A n c L):n=η L:=by
 obtain⟨vs,a,b,_⟩:=h;have:=a.len;omega
theorem Gx.cap (h:Gx w B size A n c L):n<=c:=h.choose_spec.1.cap
theorem Gx.max (h:Gx w B size A n c L):c<=maxLen:=h.choose_spec.1.max
theorem Gx.at_ (h:Gx w B size A n c L){ys:List Value}(d:L[j]? =jB ys):∃b o A' n' c',A=jB ⟨b,o,jC⟩/\b<B/\w.cell? ⟨b,o+j,jC⟩=jB (.slice A' n' c')/\Sl w B size A' n' c' ys:=by
 obtain⟨vs,e,g,f⟩:=h;obtain⟨A',n',c',a,b⟩:=f j _ d;obtain⟨bb,o,hA,hb,hc⟩:=e.rd.at_ a
 grind
theorem Gx.none_ (w:jF)(B size:Nat):Gx w B size jC 0 0 []:=⟨[],Sl.none_ _ _ _,rfl,ς⟩
end
structure Own2 (w:jF)(base te tr size:Nat)(v:Value)(L:List (List Value))(vs:List Value):Prop where
 main:w.ownsRow base tr 1 v (η L) vs
 len:η vs=η L
 row:∀(j:Nat) ys,L[j]? =jB ys->∃u n,vs[j]? =jB u/\w.ownsRow base te size u n ys
 U0:∀(i j:Nat) u u' g,i≠j->vs[i]? =jB u->vs[j]? =jB u'->u.ownBlock=jB g->u'.ownBlock≠jB g
section
variable {w w' w1 w2:jF}{base te tr size g m cap:Nat}{v:Value}{L:List (List Value)}{vs:List Value}{S:Nat->Prop}
theorem Own2.uQ (h:Own2 w base te tr size v L vs)(a:qW S w w')(hm:∀g,v.ownBlock=jB g->¬S g)(d:∀(j:Nat) u g,vs[j]? =jB u->u.ownBlock=jB g->¬S g):Own2 w' base te tr size v L vs:=
 ⟨qR h.main a hm,h.len,λj ys b=>by
  obtain⟨u,n,hu,c⟩:=h.row j _ b;exact⟨u,n,hu,qR c a γ⟩,h.U0⟩
theorem Own2.Dk (h:Own2 w base te tr size v L vs)(hu:vs[j]? =jB u):∀g,u.ownBlock=jB g->base<=g/\g<w.1.size:=by
 have c:j<η L:=by rw[<-h.len];grind
 let⟨u',n,a,b⟩:=h.row j L[j] ς
 rw[hu]at a;cases a;exact b.lt
theorem Own2.below (h:Own2 w base te tr size v L vs)(hb:Below w.1.size w w'):Own2 w' base te tr size v L vs:=
 h.uQ (qW.of_below hb) (λg a=>by have:=(h.main.lt g a).2;omega) (λj u g hu a=>by have:=(h.Dk hu g a).2;omega)
theorem Own2.PK (h:Own2 w base te tr size v L vs){base':Nat}(hb:base'<=base):Own2 w base' te tr size v L vs:=
 ⟨rC h.main hb,h.len,λj ys a=>by obtain⟨u,n,hu,b⟩:=h.row j _ a;exact⟨u,n,hu,rC b hb⟩,h.U0⟩
theorem Own2.sl2 (h:Own2 w base te tr size v L vs):∃A c,v=.slice A (η L) c/\Gx w w.1.size size A (η L) c L:=by
 obtain⟨A,c,rfl,hs⟩:=qX h.main;refine⟨A,c,rfl,_,hs,h.len,λj ys a=>?_⟩;obtain⟨u,n,hu,b⟩:=h.row j _ a;obtain⟨A',c',rfl,d⟩:=qX b
 grind
theorem Own2.form (h:Own2 w base te tr size v L vs)(a:0<η L):∃g cap,v=.slice (jB ⟨g,0,jC⟩) (η L) cap/\base<=g/\g<w.1.size:=by
 obtain⟨g,cap,hv,b,c,_⟩:=sP h.main a;exact⟨g,cap,hv,b,c⟩
theorem Own2.cell (h:Own2 w base te tr size (.slice (jB ⟨g,0,jC⟩) m cap) L vs)(hu:vs[j]? =jB u):w.cell? ⟨g,j,jC⟩=jB u:=by
 have a:j<η L:=by rw[<-h.len];exact(gB.1 hu).1
 have hm:=h.main;obtain⟨A,c,hv,_⟩:=qX hm;cases hv;rw[hm.cellAt j ω];exact hu
theorem Own2.put (h:Own2 w base te tr size (.slice (jB ⟨g,0,jC⟩) m cap) L vs)(r:te≠tr){z:List Value}(hu:vs[j]? =jB u)(_hb:base<=w.1.size)
  (B:w1.ownsRow base te size u' n' z)(G:qW (λk=>u.ownBlock=jB k) w w1)(s:∀g',u'.ownBlock=jB g'->u.ownBlock=jB g'\/w.1.size<=g'):
  Own2 (w1.setCell ⟨g,j,jC⟩ u') base te tr size (.slice (jB ⟨g,0,jC⟩) m cap) (L.set j z) (vs.set j u')/\qW (λk=>k=g\/u.ownBlock=jB k) w (w1.setCell ⟨g,j,jC⟩ u'):=by
 have t:=(gB.1 hu).1;have N:j<η L:=by rwa [<-h.len]
 have d:=h.main;let⟨A,c,hv,_⟩:=qX d
 cases hv;let⟨u0,n0,C,D⟩:=h.row j L[j] ς
 rw[hu]at C;cases C;have I:=(d.lt g rfl).2
 have H:=
  qR d G (λk v x=>own_ne D d r k x v)
 have O:=H.stored j u'
 have J:∀k,u'.ownBlock=jB k->k≠g:=by
  intro k v e;subst e;rcases s k v with l|l
  ·exact own_ne D d r k l rfl
  ·omega
 have f:=(qW.refl (λk=>k=g) w1).setCell (p:=⟨g,j,jC⟩) (λ_=>rfl) u';refine⟨⟨γ,by simp[h.len],λi ys hi=>?_,λi k a b q n o hb F=>?_⟩,?_⟩
 ·by_cases e:j=i
  ·subst e;rw[l7 N]at hi;cases hi;exact⟨_,_,l7 t,qR B f ω⟩
  ·rw[kG e]at hi;obtain⟨a,P,o,E⟩:=h.row i _ hi;refine⟨a,P,γ,?_⟩;have l:=qR E G (λk v x=>h.U0 i j a u k (λh=>e h.symm) o hu v x);exact qR l f (λk v Q=>own_ne E d r k v (by rw[Q];rfl))
 ·by_cases K:j=i
  ·subst K;rw[l7 t]at o;cases o;rw[kG n]at hb;rcases s q F with l|l
   ·exact h.U0 j k u b q n hu hb l
   ·intro y;have:=(h.Dk hb q y).2;omega
  ·rw[kG K]at o;by_cases M:j=k
   ·subst M;rw[l7 t]at hb;cases hb;intro y;rcases s q y with l|l
    ·exact h.U0 i j a u q n o hu F l
    ·have:=(h.Dk o q F).2;omega
   ·rw[kG M]at hb;exact h.U0 i k a b q n o hb F
 ·exact qW.trans (G.mono γ) f ω
theorem Own2.nil (w base te tr size):Own2 w base te tr size (.slice jC 0 0) [] []:=⟨jF.ownsRow_nil w _ _ _,rfl,ς,ς⟩
theorem Own2.fresh (h:w.ownsRow base tr 1 v n (ρ n (.slice jC 0 0))):Own2 w base te tr size v (ρ n []) (ρ n (.slice jC 0 0)):=
 ⟨γ,ς,λj ys d=>by
               have c:j<n:=by
                grind
               simp[c]at d;subst d;exact⟨_,0,γ,jF.ownsRow_nil w _ _ _⟩,λi j a b g _ f _ e=>by
               have:=jy f;rw[List.mem_replicate]at this;rw[this.2]at e;simp[Value.ownBlock]at e⟩
end
structure DW (w:jF)(B:Nat)(ai:Option Addr)(ni ci:Nat)(ae:Option Addr)(ne ce:Nat)(al:Option Addr)(nl cl:Nat)(G:iq):Prop where
 hi:Sl w B 1 ai ni ci (qO G.init)
 he:Gx w B 2 ae ne ce (G.edges.map qP)
 hl:Sl w B 1 al nl cl (G.labels.map (.int .u64))
theorem DW.below (h:DW w B ai ni ci ae ne ce al nl cl G)(hb:Below B' w w')(a:B<=B'):DW w' B ai ni ci ae ne ce al nl cl G:=
 ⟨h.hi.below hb a,h.he.below hb a,h.hl.below hb a⟩
theorem DW.up (h:DW w B ai ni ci ae ne ce al nl cl G)(a:B<=B'):DW w B' ai ni ci ae ne ce al nl cl G:=
 ⟨h.hi.up a,h.he.up a,h.hl.up a⟩
theorem DW.lens (h:DW w B ai ni ci ae ne ce al nl cl G):ni=η G.init/\ne=η G.edges/\nl=η G.labels:=by
 have a:=h.hi.len;have b:=h.he.len;have c:=h.hl.len;simp[qO]at a b c;exact⟨ω,ω,ω⟩
section
variable {H:Type}{enc:TypeId×Value->H}{P:Program}{w:jF}{base:Nat}{spare:Nat->Bool}{held:Bool}
end
set_option maxHeartbeats 1000000
section
variable (ai ae al:Option Addr)(ni ci ne ce nl cl:Nat)
theorem zP (i:Int)(w:jF):Calls jJ 130 #[.agg #[.slice ai ni ci,.slice ae ne ce,.slice al nl cl],.int .i64 i] w (AX w (sG ne i)):=by
 have hb:=λo=>(Below.refl w.1.size w).alloc lR o
 by_cases b:0<=i
 ·have d:decide (0<=i)=jD:=by simpa using b
  by_cases c:i<(ne:Int)
  ·have e:decide (i<(ne:Int))=jD:=by simpa using c
   have a:=sU.2 ⟨b,c⟩;go_enter Tryz.func130,Tryz.ntmps130;go_wp2
   go_ret
   exact⟨rH (by simp[a]),hb _⟩
  ·have e:decide (i<(ne:Int))=jE:=by simpa using c
   have a:sG ne i=jE:=by simp[sG,c]
   have g:=dh a;clear a;go_enter Tryz.func130,Tryz.ntmps130;go_wp2
   go_ret
   exact⟨rH (by simp[g.o]),hb _⟩
 ·have d:decide (0<=i)=jE:=by simpa using b
  have a:sG ne i=jE:=by simp[sG,b]
  have g:=dh a;clear a;go_enter Tryz.func130,Tryz.ntmps130;go_wp2
  go_ret
  exact⟨rH (by simp[g.o]),hb _⟩
theorem Wn (i:Int)(w:jF):Calls jJ 168 #[.agg #[.slice ai ni ci,.slice ae ne ce,.slice al nl cl],.int .i64 i] w (AX w (sG ne i)):=by
 have hb:=λo=>(Below.refl w.1.size w).alloc lR o
 by_cases b:0<=i
 ·have d:decide (0<=i)=jD:=by simpa using b
  by_cases c:i<(ne:Int)
  ·have e:decide (i<(ne:Int))=jD:=by simpa using c
   have a:=sU.2 ⟨b,c⟩;go_enter Tryz.func168,Tryz.ntmps168;go_wp2
   go_ret
   exact⟨rH (by simp[a]),hb _⟩
  ·have e:decide (i<(ne:Int))=jE:=by simpa using c
   have a:sG ne i=jE:=by simp[sG,c]
   have g:=dh a;clear a;go_enter Tryz.func168,Tryz.ntmps168;go_wp2
   go_ret
   exact⟨rH (by simp[g.o]),hb _⟩
 ·have d:decide (0<=i)=jE:=by simpa using b
  have a:sG ne i=jE:=by simp[sG,b]
  have g:=dh a;clear a;go_enter Tryz.func168,Tryz.ntmps168;go_wp2
  go_ret
  exact⟨rH (by simp[g.o]),hb _⟩
end
theorem uN (h:i<η l):(l.map Value.bool)[i]? =jB (.bool (l.getD i jE)):=by simp[θ,h]
def vD (goal:List Bool)(k:Nat):List Int:=((ζ k).filter (λi=>goal.getD i jE)).map (λ(i:Nat)=>(i:Int))
theorem Lj (goal:List Bool)(k:Nat):vD goal (k+1)=vD goal k++if goal.getD k jE=jD then[(k:Int)]else[]:=by
 rw[vD,vD,mh,ku,jT];congr 1;rw[kW,lN];split
 ·rfl
 ·rfl
theorem Ny (goal k):η (vD goal k)<=k:=by
 rw[vD,jr];exact Nat.le_trans (jO _ _) ς
theorem DJ (w x0 a b t):∃w0,w0=w.alloc (.cells #[x0,a,b] t)/\Below w.1.size w w0/\w0.1.size=w.1.size+1/\
  w0.cell? ⟨w.1.size,0,jC⟩=jB x0/\w0.cell? ⟨w.1.size,1,jC⟩=jB a/\w0.cell? ⟨w.1.size,2,jC⟩=jB b:=
 ⟨_,rfl,bR.alloc lR _,ς,by rw[cell_of_row _ _ _ _ _ _ (heap_alloc_new w _)];rfl,by rw[cell_of_row _ _ _ _ _ _ (heap_alloc_new w _)];rfl,by rw[cell_of_row _ _ _ _ _ _ (heap_alloc_new w _)];rfl⟩
section
variable (ai ae al:Option Addr)(ni ci ne ce nl cl:Nat)
theorem ZB (A:Option Addr)(n c:Nat)(goal:List Bool)(w:jF)(B:Nat)(L:n=η goal)(hs:Sl w B 1 A n c (goal.map .bool))(M:B<=w.1.size)(hl:n<=1000000000)(N:ne<=1000000000):
  Calls jJ 96 #[.agg #[.slice ai ni ci,.slice ae ne ce,.slice al nl cl],.slice A n c] w (sI w 3 1 (η (xC ne goal)) (qO (xC ne goal)) (xC ne goal=[])):=by
 subst L;obtain⟨w0,m,p,O,_,q,_⟩:=DJ w (.slice ai ni ci) (.slice ae ne ce) (.slice al nl cl) 63;have r:=dh m;clear m;have e:xC ne goal=vD goal (min (η goal) ne):=rfl;have G:=dh e;clear e;go_enter Tryz.func96,Tryz.ntmps96;go_wp2
 rw[<-r.o];clear r;have E:=hs.below p M;have s:w0.ownsRow w0.1.size 3 1 (.slice jC 0 0) (η (vD goal 0)) (qO (vD goal 0)):=jF.ownsRow_nil _ _ _ _;go_loopw [5,6] (λv i wr=>∃k:Nat,k<=min (η goal) ne/\i=.int .i64 k/\wr.ownsRow w0.1.size 3 1 v (η (vD goal k)) (qO (vD goal k))/\Below w0.1.size w0 wr/\(v=.slice jC 0 0↔vD goal k=[])) (λ_ i _=>min (η goal) ne-(intOf i).toNat)
 case atStart=>exact⟨0,ω,rfl,s,bR,by simp[vD]⟩
 case round=>
  obtain⟨k,S,rfl,d,a,j⟩:=hrel;have P:=a.size;have H:=bC a ω q;have I:=dh j;clear s q j;have Q:=Ny goal k;by_cases R:k<min (η goal) ne
  ·have u:k<η goal:=ω;have J:k<ne:=ω;have d1:decide ((k:Int)<(ne:Int))=jD:=by simp;omega
   have d2:decide ((k:Int)<(η goal:Int))=jD:=by simp;omega
   obtain⟨b,o,rfl,_,hc⟩:=(E.rd.below a ω).at_ (uN u);have y:=Lj goal k;generalize goal.getD k jE=x at *;have D:=dh y;clear y;cases x
   ·go_wp2
    go_roundw
    case rel=>exact⟨k+1,ω,by go_num,by rw[D.o];simpa using d,a,by rw[D.o];simpa using I.o⟩
    case measure=>simp[intOf];omega
   ·go_wp2_with (at_builtin;refine rD rfl (.tmp 24) (.tmp 26) 29 rfl w0.1.size 3 1 8 rW _ _ _ (d.alloc _) rfl wr.1.size #[.int .i64 k] rfl (heap_alloc_new wr _) rfl (by simp[Value.oneCell']) ω ω (by simp;omega) ?_;intro v3 w3 l F K z)
    go_roundw
    case rel=>
     refine⟨k+1,ω,by go_num,?_,?_,by rw[D.o];simp[z]⟩
     ·rw[D.o,sJ,lA];exact l
     ·exact(a.alloc P _).trans (F.below (by simp;omega) (λg T h=>by have:=(d.lt g h).1;omega))
    case measure=>simp[intOf];omega
  ·have C:k=min (η goal) ne:=ω;go_wp2
   all_goals
    go_ret
    exact⟨_,rfl,by rw[G.o,<-C];exact rC d ω,p.trans (a.mono ω),by rw[G.o,<-C];exact I.o⟩
theorem ade (A:Option Addr)(n c mn:Nat)(m:mn=min n ne)(goal:List Bool)(w:jF)(B:Nat)(P:n=η goal)(hs:Sl w B 1 A n c (goal.map .bool))(Q:B<=w.1.size)(hl:n<=1000000000)(R:ne<=1000000000):
  Calls jJ 152 #[.agg #[.slice ai ni ci,.slice ae ne ce,.slice al nl cl],.slice A n c] w (sI w 3 1 (η (xC ne goal)) (qO (xC ne goal)) (xC ne goal=[])):=by
 subst P;obtain⟨w0,p,q,S,_,r,_⟩:=DJ w (.slice ai ni ci) (.slice ae ne ce) (.slice al nl cl) 63;have s:=dh p;clear p;have e:xC ne goal=vD goal mn:=by rw[m];rfl
 have T:mn<=η goal:=ω;have U:mn<=ne:=ω;have u:(if((η goal:Nat):Int)<=(ne:Int)then((η goal:Nat):Int)else(ne:Int))=(mn:Int):=by split<;>omega
 obtain⟨J,V⟩:=iw e u;clear e u;go_enter Tryz.func152,Tryz.ntmps152;rcases(show(ne<η goal/\mn=ne)\/(η goal<=ne/\mn=η goal) by omega)with⟨hc,he⟩|⟨hc,he⟩
 all_goals
  have K:=dh he;clear he m;go_wp2
  rw[<-s.o];clear s;have H:=hs.below q Q;have y:w0.ownsRow w0.1.size 3 1 (.slice jC 0 0) (η (vD goal 0)) (qO (vD goal 0)):=jF.ownsRow_nil _ _ _ _;go_loopw [5,13] (λv i wr=>∃k:Nat,k<=mn/\i=.int .i64 k/\wr.ownsRow w0.1.size 3 1 v (η (vD goal k)) (qO (vD goal k))/\Below w0.1.size w0 wr/\(v=.slice jC 0 0↔vD goal k=[])) (λ_ i _=>mn-(intOf i).toNat)
  case atStart=>exact⟨0,ω,rfl,y,bR,by simp[vD]⟩
  case round=>
   obtain⟨k,Z,rfl,d,a,j⟩:=hrel;have W:=a.size;have L:=bC a ω r;have M:=dh j;clear y r j;have X:=Ny goal k;by_cases Y:k<mn
   ·have z:k<η goal:=ω;have N:k<ne:=ω;have d1:decide ((k:Int)<(ne:Int))=jD:=by simp;omega
    have d2:decide ((k:Int)<(η goal:Int))=jD:=by simp;omega
    obtain⟨b,o,rfl,_,hc⟩:=(H.rd.below a ω).at_ (uN z);have C:=Lj goal k;generalize goal.getD k jE=x at *;have G:=dh C;clear C;cases x
    ·go_wp2
     go_roundw
     case rel=>exact⟨k+1,ω,by go_num,by rw[G.o];simpa using d,a,by rw[G.o];simpa using M.o⟩
     case measure=>simp[intOf];omega
    ·go_wp2_with (at_builtin;refine rD rfl (.tmp 20) (.tmp 22) 29 rfl w0.1.size 3 1 8 rW _ _ _ (d.alloc _) rfl wr.1.size #[.int .i64 k] rfl (heap_alloc_new wr _) rfl (by simp[Value.oneCell']) ω ω (by simp;omega) ?_;intro v3 w3 l I O D)
     go_roundw
     case rel=>
      refine⟨k+1,ω,by go_num,?_,?_,by rw[G.o];simp[D]⟩
      ·rw[G.o,sJ,lA];exact l
      ·exact(a.alloc W _).trans (I.below (by simp;omega) (λg hg h=>by have:=(d.lt g h).1;omega))
     case measure=>simp[intOf];omega
   ·have E:k=mn:=ω;have F:=dh E
    first
     |have d3:decide (k<ne)=jE:=(by have:=K.o;simp;omega)
     |have d3:decide (k<η goal)=jE:=(by have:=K.o;simp;omega)
    clear E;go_wp2
    all_goals
     go_ret
     exact⟨_,rfl,by rw[J.o,<-F.o];exact rC d ω,q.trans (a.mono ω),by rw[J.o,<-F.o];exact M.o⟩
end
section
variable (ai ae al:Option Addr)(ni ci ne ce nl cl:Nat)
theorem Ej (a:k<η E):(E.map qP)[k]? =jB (qP E[k]):=by simp[a]
end
theorem Yv:uq jJ 56 59 1 24:=
 uq.mk (z:=.slice jC 0 0) Tryz.underlying56 κ δ δ
theorem KJ:uq jJ 59 61 2 16:=
 uq.mk (z:=.agg #[.int .i64 0,.int .i64 0]) Tryz.underlying59 κ δ δ
theorem Lg:(Tryz.prog.info? 59).map (λi=>(i.zero,i.size,i.bytes))=jB (jB (.slice jC 0 0),1,24):=κ
theorem aa1 {W:jF}(hb:Below W.1.size W w1):(∀b o,b<W.1.size->w1.cell? ⟨b,o,jC⟩=W.cell? ⟨b,o,jC⟩)/\(∀b o,b<W.1.size->w1.frozen? ⟨b,o,jC⟩=W.frozen? ⟨b,o,jC⟩):=
 ⟨λb o h=>hb.cell (p:=⟨b,o,jC⟩) h,λb o h=>hb.frozen (p:=⟨b,o,jC⟩) h⟩
theorem adq (w:jF)(g b o:Nat)(x y z:Value)(h:g≠b):(((w.setCell ⟨g,0,jC⟩ x).setCell ⟨g,1,jC⟩ y).setCell ⟨g,2,jC⟩ z).cell? ⟨b,o,jC⟩=w.cell? ⟨b,o,jC⟩:=by
 rw[jF.cell?_setCell_far _ _ _ _ h,jF.cell?_setCell_far _ _ _ _ h,jF.cell?_setCell_far _ _ _ _ h]
theorem Xi (w:jF)(g b o:Nat)(x y z:Value)(X:Obj)(h:g≠b)(hb:b<w.1.size):((((w.setCell ⟨g,0,jC⟩ x).setCell ⟨g,1,jC⟩ y).setCell ⟨g,2,jC⟩ z).alloc X).cell? ⟨b,o,jC⟩=w.cell? ⟨b,o,jC⟩:=by
 rw[jF.cell?_alloc_lt _ _ _ ξ,adq _ _ _ _ _ _ _ h]
theorem vL (h:k=w.1.size):(w.alloc o).1[k]? =jB o:=by subst h;exact heap_alloc_new _ _
theorem tH {a:Obj}(h:k<w.1.size)(b:w.1[k]? =jB a):(w.alloc o).1[k]? =jB a:=(Below.heap_alloc _ _ _ h).trans b
theorem heap_drew (h:w.1[k]? =jB o):w.drew.1[k]? =jB o:=h
theorem tK (hb:Below B w w')(h:k<B)(a:w.1[k]? =jB o):w'.1[k]? =jB o:=(hb.block k h).trans a
theorem xB {a b c:Value}{T:Nat}(h:w.1[g]? =jB (.cells #[a,b,c] T (0,0))):(((w.setCell ⟨g,0,jC⟩ x).setCell ⟨g,1,jC⟩ y).setCell ⟨g,2,jC⟩ z).1[g]? =jB (.cells #[x,y,z] T (0,0)):=by
 have d:=heap_setCell_same w g 0 _ _ x h;have e:=heap_setCell_same _ g 1 _ _ y d;have f:=heap_setCell_same _ g 2 _ _ z e;rw[f];rfl
theorem Zz (a:k≠g)(h:w.1[k]? =jB o):(((w.setCell ⟨g,0,jC⟩ x).setCell ⟨g,1,jC⟩ y).setCell ⟨g,2,jC⟩ z).1[k]? =jB o:=by
 rw[Below.heap_setCell _ ⟨g,2,jC⟩ _ _ a,Below.heap_setCell _ ⟨g,1,jC⟩ _ _ a,Below.heap_setCell _ ⟨g,0,jC⟩ _ _ a];exact h
theorem EW {e:Nat}(b:v.ownBlock≠jB g)(h:w.ownsRow base e size v n xs):(((w.setCell ⟨g,0,jC⟩ x).setCell ⟨g,1,jC⟩ y).setCell ⟨g,2,jC⟩ z).ownsRow base e size v n xs:=
 ownsRow_setCell_other (a:=⟨g,2,jC⟩) (ownsRow_setCell_other (a:=⟨g,1,jC⟩) (ownsRow_setCell_other (a:=⟨g,0,jC⟩) h b x) b y) b z
theorem yF {e:Nat}(h:w.ownsRow base e size v n xs):(w.alloc o).ownsRow base e size v n xs:=h.alloc o
theorem DN (a:B<=g)(h:Below B w w'):Below B w (((w'.setCell ⟨g,0,jC⟩ x).setCell ⟨g,1,jC⟩ y).setCell ⟨g,2,jC⟩ z):=
 ((h.setCell (p:=⟨g,0,jC⟩) a x).setCell (p:=⟨g,1,jC⟩) a y).setCell (p:=⟨g,2,jC⟩) a z
theorem yw (a:B<=w'.1.size)(h:Below B w w'):Below B w (w'.alloc o):=h.alloc a o
theorem Jj (k:Below B' w1 w2)(a:B<=B')(h:Below B w w1):Below B w w2:=h.trans (k.mono a)
def agz (w0:jF)(ni nl ne:Nat)(xi xl:List Value)(p:Value)(wF:jF):Prop:=
 ∃g AA cA AB cB r,p=.pointer (jB ⟨g,0,jC⟩)/\wF.1[g]? =jB (.cells #[.slice AA ni cA,.slice (jB ⟨r,0,jC⟩) ne ne,.slice AB nl cB] 63 (0,0))/\wF.1[r]? =jB (.cells (madeCells #[.slice jC 0 0] ne) 59 (0,0))/\
  wF.ownsRow w0.1.size 3 1 (.slice AA ni cA) ni xi/\wF.ownsRow w0.1.size 45 1 (.slice AB nl cB) nl xl/\Below w0.1.size w0 wF/\w0.1.size<=g/\w0.1.size<=r/\g≠r
theorem EC {T:Nat}{a b c:Value}(h:w.1[g]? =jB (.cells #[a,b,c] T (0,0))):(w.cell? ⟨g,0,jC⟩=jB a/\w.cell? ⟨g,1,jC⟩=jB b/\w.cell? ⟨g,2,jC⟩=jB c)/\(w.frozen? ⟨g,0,jC⟩=jE/\w.frozen? ⟨g,1,jC⟩=jE/\w.frozen? ⟨g,2,jC⟩=jE)/\g<w.1.size:=
 ⟨⟨by rw[cell_of_row w g 0 _ _ _ h];rfl,by rw[cell_of_row w g 1 _ _ _ h];rfl,by rw[cell_of_row w g 2 _ _ _ h];rfl⟩,⟨frozen_of_row w g 0 _ _ h,frozen_of_row w g 1 _ _ h,frozen_of_row w g 2 _ _ h⟩,lt_of_block h⟩
def CO (w0:jF)(g r ni nl ne:Nat)(AA:Option Addr)(cA:Nat)(AB:Option Addr)(cB:Nat)(xi xl:List Value)(R:List (List Nd))(wr:jF):Prop:=
 ∃vs,wr.1[g]? =jB (.cells #[.slice AA ni cA,.slice (jB ⟨r,0,jC⟩) ne ne,.slice AB nl cB] 63 (0,0))/\Own2 wr w0.1.size 61 59 2 (.slice (jB ⟨r,0,jC⟩) ne ne) (R.map qP) vs/\
  wr.ownsRow w0.1.size 3 1 (.slice AA ni cA) ni xi/\wr.ownsRow w0.1.size 45 1 (.slice AB nl cB) nl xl/\Below w0.1.size w0 wr
theorem CO.below (h:CO w0 g r ni nl ne AA cA AB cB xi xl R w)(hb:Below w.1.size w w'):CO w0 g r ni nl ne AA cA AB cB xi xl R w':=by
 obtain⟨vs,b,c,d,e,a⟩:=h;exact⟨_,(hb.block g γ).trans b,c.below hb,own_below d hb,own_below e hb,a.trans (hb.mono a.size)⟩
theorem CO.put
  (j:w.1[g]? =jB (.cells #[.slice AA ni cA,.slice (jB ⟨r,0,jC⟩) ne ne,.slice AB nl cB] 63 (0,0)))(b:Own2 w w0.1.size 61 59 2 (.slice (jB ⟨r,0,jC⟩) ne ne) (R.map qP) vs)
  (l:w.ownsRow w0.1.size 3 1 (.slice AA ni cA) ni xi)(m:w.ownsRow w0.1.size 45 1 (.slice AB nl cB) nl xl)(p:Below w0.1.size w0 w)(hw:w1=w.alloc o)(hu:vs[t]? =jB u)(q:∃n ys,w.ownsRow w0.1.size 61 2 u n ys)
  (c:w2.ownsRow w0.1.size 61 2 u' n' (qP ys))(x:qW (λk=>u.ownBlock=jB k) w1 w2)(s:u'.ownBlock=u.ownBlock\/u'.ownBlock=jB w1.1.size):
  CO w0 g r ni nl ne AA cA AB cB xi xl (R.set t ys) (w2.setCell ⟨r,t,jC⟩ u'):=by
 obtain⟨n0,ys0,f⟩:=q;subst hw;have v:=qW.trans ((qW.refl _ w).alloc _) x (λ_ _ h=>h)
 let⟨A,i⟩:=b.put δ hu p.size c v (λg' d=>by
  rcases s with h|h
  ·grind
  ·rw[h]at d;cases d;simp)
 have y:=qQ f j δ;have z:g≠r:=λe=>qQ b.main j δ (by rw[e];rfl)
 refine⟨vs.set t u',?_,?_,?_,?_,?_⟩
 ·exact i.blk j γ
 ·simp_all
 ·exact qR l i (λk a hS=>hS.elim (λe=>own_ne l b.main δ k a (by rw[e];rfl)) (λe=>own_ne l f δ k a e))
 ·exact qR m i (λk a hS=>hS.elim (λe=>own_ne m b.main δ k a (by rw[e];rfl)) (λe=>own_ne m f δ k a e))
 ·refine p.trans (i.below p.size (λk a hS=>?_));rcases hS with e|e
  ·have:=(b.main.lt r rfl).1;omega
  ·have:=(f.lt k e).1;omega
theorem Own2.len' {cap:Nat}{L:List (List Value)}(h:Own2 w base te tr size (.slice A m cap) L vs):m=η L:=by
 obtain⟨A',c,hv,_⟩:=qX h.main
 grind
theorem Own2.frozen {cap:Nat}{L:List (List Value)}(h:Own2 w base te tr size (.slice (jB ⟨g,0,jC⟩) m cap) L vs)(t):w.frozen? ⟨g,t,jC⟩=jE:=by
 have hl:=h.len';have hm:=h.main;rw[<-hl]at hm;exact hm.frozenAt t
theorem CO.grow
  (i:w.1[g]? =jB (.cells #[.slice AA ni cA,.slice (jB ⟨r,0,jC⟩) ne ne,.slice AB nl cB] 63 (0,0)))(e:Own2 w w0.1.size 61 59 2 (.slice (jB ⟨r,0,jC⟩) ne ne) (R.map qP) vs)
  (v:w.ownsRow w0.1.size 3 1 (.slice AA ni cA) ni xi)(x:w.ownsRow w0.1.size 45 1 (.slice AB nl cB) nl xl)(y:Below w0.1.size w0 w)(hw:w1=w.alloc o)(hu:vs[t]? =jB u)(c:w.ownsRow w0.1.size 61 2 u n ys0)
  (f:w2.ownsRow w0.1.size 61 2 u' n' (qP ys))(s:qW (λk=>u.ownBlock=jB k) w1 w2)(j:u'.ownBlock=u.ownBlock\/u'.ownBlock=jB w1.1.size):
  w2.cell? ⟨g,1,jC⟩=jB (.slice (jB ⟨r,0,jC⟩) ne ne)/\w2.cell? ⟨r,t,jC⟩=jB u/\w2.frozen? ⟨r,t,jC⟩=jE/\(∀b,b<w.1.size->(∀g,u.ownBlock=jB g->g≠b)->∀o,w2.cell? ⟨b,o,jC⟩=w.cell? ⟨b,o,jC⟩)/\
   CO w0 g r ni nl ne AA cA AB cB xi xl (R.set t ys) (w2.setCell ⟨r,t,jC⟩ u'):=by
 have hp:=CO.put i e v x y hw hu ⟨n,ys0,c⟩ f s j;subst hw;have d:=qW.trans ((qW.refl _ w).alloc _) s (λ_ _ h=>h);have l:=qQ c i δ;have hm:=qR e.main d (λk z m=>own_ne c e.main δ k m z);have hl:=e.len';have p:=(gB.1 hu).1;rw[e.len]at p;rw[<-hl]at hm;refine⟨(EC (d.blk i l)).1.2.1,?_,hm.frozenAt t,λb hb q o=>?_,hp⟩
 ·rw[hm.cellAt t ω];exact hu
 ·exact jF.cell?_of_block (a:=⟨b,o,jC⟩) (d.block b hb (λh=>q b h rfl))
theorem CO.start (h:agz w0 ni nl ne xi xl p wF)(a:ne<=1000000000):∃g r AA cA AB cB,p=.pointer (jB ⟨g,0,jC⟩)/\w0.1.size<=g/\CO w0 g r ni nl ne AA cA AB cB xi xl (ρ ne []) wF:=by
 obtain⟨g,AA,cA,AB,cB,r,rfl,b,c,d,e,f,i,j,k⟩:=h;refine⟨g,r,_,_,_,_,rfl,i,ρ ne (.slice jC 0 0),b,?_,d,e,f⟩;rw[nH,show qP _ =[]from rfl];have hm:(madeCells _ _).toList=ρ ne (.slice jC 0 0):=toList_madeCells_one _ _;have hs:=by have:=jM List.length hm;simpa using this
 refine Own2.fresh ⟨ς,.inr ⟨r,_,_,rfl,j,c,lR,by unfold maxLen;omega,ω,?_⟩⟩
 grind
theorem OZ:qW (λk=>k=g) w (((w.setCell ⟨g,0,jC⟩ x).setCell ⟨g,1,jC⟩ y).setCell ⟨g,2,jC⟩ z):=
 qW.setCell (S:=λk=>k=g) (p:=⟨g,2,jC⟩) (qW.setCell (S:=λk=>k=g) (p:=⟨g,1,jC⟩) (qW.setCell (S:=λk=>k=g) (p:=⟨g,0,jC⟩) (qW.refl _ w) (λ_=>rfl) x) (λ_=>rfl) y) (λ_=>rfl) z
theorem CO.done (h:CO w0 g r ni nl ne AA cA AB cB (qO G.init) (G.labels.map (.int .u64)) G.edges w)(p:q<w0.1.size):
  DW (((w.setCell ⟨q,0,jC⟩ x).setCell ⟨q,1,jC⟩ y).setCell ⟨q,2,jC⟩ z) w.1.size AA ni cA (jB ⟨r,0,jC⟩) ne ne AB nl cB G:=by
 obtain⟨vs,s,a,c,d,t⟩:=h;have i:=EW (x:=x) (y:=y) (z:=z) (λe=>by have:=(c.lt q e).1;omega) c;have l:=EW (x:=x) (y:=y) (z:=z) (λe=>by have:=(d.lt q e).1;omega) d;have m:=a.uQ (OZ (g:=q) (x:=x) (y:=y) (z:=z)) (λk b e=>by have:=(a.main.lt k b).1;omega) (λj u k hu b e=>by have:=(a.Dk hu k b).1;omega);have n:((((w.setCell ⟨q,0,jC⟩ x).setCell ⟨q,1,jC⟩ y).setCell ⟨q,2,jC⟩ z)).1.size=w.1.size:=ς;let⟨A1,c1,e1,s1⟩:=qX i
 let⟨A2,c2,e2,s2⟩:=qX l
 let⟨A3,c3,o,f⟩:=m.sl2
 rw[n]at s1 s2 f;cases e1;cases e2;cases o;exact⟨s1,f,s2⟩
theorem CO.air (h:CO w0 g r ni nl ne AA cA AB cB xi xl R w)(c:q<w0.1.size):
  ∃vs,Own2 (((w.setCell ⟨q,0,jC⟩ x).setCell ⟨q,1,jC⟩ y).setCell ⟨q,2,jC⟩ z) w0.1.size 61 59 2 (.slice (jB ⟨r,0,jC⟩) ne ne) (R.map qP) vs:=by
 obtain⟨vs,d,a,f,i,l⟩:=h;exact⟨_,a.uQ OZ (λk b e=>by have:=(a.main.lt k b).1;omega) (λj u k hu b e=>by have:=(a.Dk hu k b).1;omega)⟩
def agF (w:jF)(G':iq)(en:Ending)(w':jF):Prop:=
 ∃ai ni ci ae ne ce al nl cl,en=.returned (.agg #[.slice ai ni ci,.slice ae ne ce,.slice al nl cl])/\DW w' w'.1.size ai ni ci ae ne ce al nl cl G'/\Below w.1.size w w'/\∃vs,Own2 w' w.1.size 61 59 2 (.slice ae ne ce) (G'.edges.map qP) vs
theorem ad7 {a:Nat}(h:∀t:Nat,η (R.getD t [])<=b)(e):∀t:Nat,η ((wJ n a R e).getD t [])<=b+1:=by
 intro t;unfold wJ;split
 ·by_cases e1:e.op.toNat=t
  ·grind
  ·rw[Ll e1]
   grind
 ·grind
theorem KD {n a:Nat}:∀(l:List Nd) {R:List (List Nd)} {b:Nat},(∀t:Nat,η (R.getD t [])<=b)->∀t:Nat,η ((l.foldl (wJ n a) R).getD t [])<=b+η l
 |[],_,_,h=>h
 |e::l,_,_,h=>λt=>by
  have:=KD (n:=n) (a:=a) l (ad7 (n:=n) (a:=a) h e) t
  grind
theorem IE {n K:Nat}{E:List (List Nd)}(b:∀l∈E,η l<=K):∀(k:Nat) (t:Nat),η ((vN n E k).getD t [])<=k*K
 |0,t=>by
  by_cases h:t<n<;>simp[vN,θ,h]
 |k+1,t=>by
  have:=KD (n:=n) (a:=k) (E.getD k []) (IE (n:=n) b k) t
  have hl:η (E.getD k [])<=K:=by
   grind
  rw[vN,oN];omega
theorem OV {a:Nat}{l:List Nd}(hm:m<η l)(R):(l.take (m+1)).foldl (wJ n a) R=wJ n a ((l.take m).foldl (wJ n a) R) l[m]:=by
 rw[rE l m hm,jK];rfl
def Ba (w0:jF)(g r ni nl ne:Nat)(AA:Option Addr)(cA:Nat)(AB:Option Addr)(cB:Nat)(xi xl:List Value)(R:List (List Nd))(wr:jF):Prop:=
 ∃vs,wr.1[g]? =jB (.cells #[.slice AA ni cA,.slice jC 0 0,.slice AB nl cB] 63 (0,0))/\Own2 wr w0.1.size 61 59 2 (.slice (jB ⟨r,0,jC⟩) ne ne) (R.map qP) vs/\
  wr.ownsRow w0.1.size 3 1 (.slice AA ni cA) ni xi/\wr.ownsRow w0.1.size 45 1 (.slice AB nl cB) nl xl/\Below w0.1.size w0 wr
theorem Ba.below (h:Ba w0 g r ni nl ne AA cA AB cB xi xl R w)(hb:Below w.1.size w w'):Ba w0 g r ni nl ne AA cA AB cB xi xl R w':=by
 obtain⟨vs,a,c,d,e,b⟩:=h;exact⟨vs,(hb.block g (lt_of_block a)).trans a,c.below hb,own_below d hb,own_below e hb,b.trans (hb.mono b.size)⟩
theorem Ba.put
  (j:w.1[g]? =jB (.cells #[.slice AA ni cA,.slice jC 0 0,.slice AB nl cB] 63 (0,0)))(c:Own2 w w0.1.size 61 59 2 (.slice (jB ⟨r,0,jC⟩) ne ne) (R.map qP) vs)
  (l:w.ownsRow w0.1.size 3 1 (.slice AA ni cA) ni xi)(m:w.ownsRow w0.1.size 45 1 (.slice AB nl cB) nl xl)(p:Below w0.1.size w0 w)(hw:w1=w.alloc o)(hu:vs[t]? =jB u)(q:∃n ys,w.ownsRow w0.1.size 61 2 u n ys)
  (d:w2.ownsRow w0.1.size 61 2 u' n' (qP ys))(z:qW (λk=>u.ownBlock=jB k) w1 w2)(s:u'.ownBlock=u.ownBlock\/u'.ownBlock=jB w1.1.size):
  Ba w0 g r ni nl ne AA cA AB cB xi xl (R.set t ys) (w2.setCell ⟨r,t,jC⟩ u'):=by
 obtain⟨n0,ys0,f⟩:=q;subst hw;have v:=qW.trans ((qW.refl _ w).alloc _) z (λ_ _ h=>h)
 obtain⟨A,i⟩:=c.put (te:=61) (tr:=59) δ hu p.size d v (λg' a=>by
  rcases s with h|h
  ·exact .inl (h▸a)
  ·rw[h]at a;cases a;exact .inr ς)
 have x:=qQ f j δ;have y:g≠r:=λe=>qQ c.main j δ (by rw[e];rfl)
 refine⟨vs.set t u',?_,?_,?_,?_,?_⟩
 ·exact i.blk j (λh=>h.elim (λh=>y h) (λh=>x h))
 ·rw[lX];exact A
 ·exact qR l i (λk b hS=>hS.elim (λe=>own_ne l c.main δ k b (by rw[e];rfl)) (λe=>own_ne l f δ k b e))
 ·exact qR m i (λk b hS=>hS.elim (λe=>own_ne m c.main δ k b (by rw[e];rfl)) (λe=>own_ne m f δ k b e))
 ·refine p.trans (i.below p.size (λk b hS=>?_));rcases hS with e|e
  ·have:=(c.main.lt r rfl).1;omega
  ·have:=(f.lt k e).1;omega
theorem Ba.grow
  (i:w.1[g]? =jB (.cells #[.slice AA ni cA,.slice jC 0 0,.slice AB nl cB] 63 (0,0)))(e:Own2 w w0.1.size 61 59 2 (.slice (jB ⟨r,0,jC⟩) ne ne) (R.map qP) vs)
  (v:w.ownsRow w0.1.size 3 1 (.slice AA ni cA) ni xi)(x:w.ownsRow w0.1.size 45 1 (.slice AB nl cB) nl xl)(y:Below w0.1.size w0 w)(hw:w1=w.alloc o)(hu:vs[t]? =jB u)(c:w.ownsRow w0.1.size 61 2 u n ys0)
  (f:w2.ownsRow w0.1.size 61 2 u' n' (qP ys))(s:qW (λk=>u.ownBlock=jB k) w1 w2)(j:u'.ownBlock=u.ownBlock\/u'.ownBlock=jB w1.1.size):
  w2.cell? ⟨g,1,jC⟩=jB (.slice jC 0 0)/\w2.cell? ⟨r,t,jC⟩=jB u/\w2.frozen? ⟨r,t,jC⟩=jE/\(∀b,b<w.1.size->(∀g,u.ownBlock=jB g->g≠b)->∀o,w2.cell? ⟨b,o,jC⟩=w.cell? ⟨b,o,jC⟩)/\
   Ba w0 g r ni nl ne AA cA AB cB xi xl (R.set t ys) (w2.setCell ⟨r,t,jC⟩ u'):=by
 have hp:=Ba.put i e v x y hw hu ⟨n,ys0,c⟩ f s j;subst hw;have d:=qW.trans ((qW.refl _ w).alloc _) s (λ_ _ h=>h);have l:=qQ c i δ;have hm:=qR e.main d (λk z m=>own_ne c e.main δ k m z);have hl:=e.len';have p:=(gB.1 hu).1;rw[e.len]at p;rw[<-hl]at hm;refine⟨(EC (d.blk i l)).1.2.1,?_,hm.frozenAt t,λb hb q o=>?_,hp⟩
 ·rw[hm.cellAt t ω];exact hu
 ·exact jF.cell?_of_block (a:=⟨b,o,jC⟩) (d.block b hb (λh=>q b h rfl))
theorem Ba.start (b:wF.1[g]? =jB (.cells #[.slice AA ni cA,.slice jC 0 0,.slice AB nl cB] 63 (0,0)))
  (c:wF.ownsRow w0.1.size 3 1 (.slice AA ni cA) ni xi)(d:wF.ownsRow w0.1.size 45 1 (.slice AB nl cB) nl xl)(a:Below w0.1.size w0 wF)(e:ne<=1000000000):
  Ba w0 g wF.1.size ni nl ne AA cA AB cB xi xl (ρ ne []) (wF.alloc (.cells (madeCells #[.slice jC 0 0] ne) 59)):=by
 have hb:Below wF.1.size wF (wF.alloc (.cells (madeCells #[.slice jC 0 0] ne) 59)):=(Below.refl _ wF).alloc lR _;refine⟨ρ ne (.slice jC 0 0),(hb.block g (lt_of_block b)).trans b,?_,own_below c hb,own_below d hb,a.trans (hb.mono a.size)⟩;rw[nH,show qP []=[]from rfl];have hm:(madeCells #[Value.slice jC 0 0] ne).toList=ρ ne (.slice jC 0 0):=toList_madeCells_one _ _;have hs:(madeCells #[Value.slice jC 0 0] ne).size=ne:=by have:=jM List.length hm;simpa using this
 refine Own2.fresh ⟨ς,.inr ⟨wF.1.size,ne,_,rfl,a.size,heap_alloc_new wF _,lR,by unfold maxLen;omega,by rw[hs,mU],?_⟩⟩;rw[tL (by rw[mI,hs];omega)];exact hm
theorem Ba.close (h:Ba w0 g r ni nl ne AA cA AB cB xi xl R w)(s:w0.1.size<=g):
  CO w0 g r ni nl ne AA cA AB cB xi xl R (w.setCell ⟨g,1,jC⟩ (.slice (jB ⟨r,0,jC⟩) ne ne)):=by
 obtain⟨vs,b,d,i,l,m⟩:=h;have f:qW (λk=>k=g) w (w.setCell ⟨g,1,jC⟩ (.slice (jB ⟨r,0,jC⟩) ne ne)):=qW.setCell (S:=λk=>k=g) (p:=⟨g,1,jC⟩) (qW.refl _ w) (λ_=>rfl) _;refine⟨vs,?_,d.uQ f (λk a e=>?_) (λj u k hu a e=>?_),qR i f (λk a e=>?_),qR l f (λk a e=>?_),m.trans (f.below m.size (λk a e=>ω))⟩
 ·rw[heap_setCell_same w g 1 _ _ (.slice (jB ⟨r,0,jC⟩) ne ne) b];rfl
 ·exact qQ d.main b δ (e▸a)
 ·have o:j<η (R.map qP):=by rw[<-d.len];exact(gB.1 hu).1
  obtain⟨u',n,c,q⟩:=d.row j _ (gE o);rw[hu]at c;cases c;exact qQ q b δ (e▸a)
 ·exact qQ i b δ (e▸a)
 ·exact qQ l b δ (e▸a)
theorem Lh:(Tryz.prog.info? 3).map (λi=>(i.zero,i.size,i.bytes))=jB (jB (.int .i64 0),1,8):=κ
theorem BP {e:Nat}(hb:base<=w.1.size)(a:n<=maxLen):(w.alloc (.cells (madeCells #[v] n) e)).ownsRow base e 1 (.slice (jB ⟨w.1.size,0,jC⟩) n n) n (ρ n v):=by
 have hm:(madeCells #[v] n).toList=ρ n v:=toList_madeCells_one _ _;have hs:(madeCells #[v] n).size=n:=by have:=jM List.length hm;simpa using this
 refine⟨ς,.inr ⟨w.1.size,n,_,rfl,hb,heap_alloc_new w _,lR,a,by rw[hs,mU],?_⟩⟩;rw[tL (by rw[mI,hs];omega)];exact hm
def Fz (w0:jF)(q ne:Nat)(v:Value)(s:List Bool×List Int)(wr:jF):Prop:=
 wr.ownsRow w0.1.size 4 1 (.slice (jB ⟨q,0,jC⟩) ne ne) ne (s.1.map .bool)/\wr.ownsRow w0.1.size 3 1 v (η s.2) (qO s.2)/\Below w0.1.size w0 wr
section
variable {w0 w w' w1 w2:jF}{q ne:Nat}{v:Value}{s:List Bool×List Int}
theorem Fz.below (h:Fz w0 q ne v s w)(hb:Below w.1.size w w'):Fz w0 q ne v s w':=
 ⟨own_below h.1 hb,own_below h.2.1 hb,h.2.2.trans (hb.mono h.2.2.size)⟩
theorem Fz.start (a:ne<=maxLen):Fz w0 w0.1.size ne (.slice jC 0 0) (ρ ne jE,[]) (w0.alloc (.cells (madeCells #[.bool jE] ne) 4)):=
 ⟨by rw[nH];exact BP lR a,jF.ownsRow_nil _ _ _ _,bR.alloc lR _⟩
theorem RZ (h:w.ownsRow w0.1.size 4 1 (.slice (jB ⟨q,0,jC⟩) ne ne) ne (l.map .bool))(a:t<ne):w.cell? ⟨q,t,jC⟩=jB (.bool (l.getD t jE))/\w.frozen? ⟨q,t,jC⟩=jE/\q<w.1.size/\w0.1.size<=q:=by
 have hl:η l=ne:=by have:=h.1;simpa using this
 refine⟨?_,h.frozenAt t,(h.lt q rfl).2,(h.lt q rfl).1⟩;rw[h.cellAt t ω];exact uN ω
theorem aeU (h:w.ownsRow w0.1.size 4 1 (.slice (jB ⟨q,0,jC⟩) ne ne) ne (l.map .bool)):
  (w.setCell ⟨q,t,jC⟩ (.bool jD)).ownsRow w0.1.size 4 1 (.slice (jB ⟨q,0,jC⟩) ne ne) ne ((l.set t jD).map .bool):=by
 have:=h.stored t (.bool jD);rw[lX];exact this.1
theorem Fz.mark (h:Fz w0 q ne v s w):(w.setCell ⟨q,t,jC⟩ (.bool jD)).ownsRow w0.1.size 4 1 (.slice (jB ⟨q,0,jC⟩) ne ne) ne ((s.1.set t jD).map .bool)/\
  (w.setCell ⟨q,t,jC⟩ (.bool jD)).ownsRow w0.1.size 3 1 v (η s.2) (qO s.2)/\Below w0.1.size w0 (w.setCell ⟨q,t,jC⟩ (.bool jD)):=by
 have a:qW (λk=>k=q) w (w.setCell ⟨q,t,jC⟩ (.bool jD)):=qW.setCell (S:=λk=>k=q) (p:=⟨q,t,jC⟩) (qW.refl _ w) (λ_=>rfl) _;exact⟨aeU h.1,qR h.2.1 a (λk b e=>own_ne h.2.1 h.1 δ k b (by rw[e];rfl)),h.2.2.setCell (p:=⟨q,t,jC⟩) (h.1.lt q rfl).1 _⟩
theorem Fz.open {v':Value}(hm:w.ownsRow w0.1.size 4 1 (.slice (jB ⟨q,0,jC⟩) ne ne) ne ((s.1.set t jD).map .bool))(c:w.ownsRow w0.1.size 3 1 v (η s.2) (qO s.2))(hb:Below w0.1.size w0 w)
  (hw:w1=w.alloc o)(a:w2.ownsRow w0.1.size 3 1 v' (η s.2+1) (qO s.2++[.int .i64 t]))(d:qW (λk=>v.ownBlock=jB k) w1 w2):
  Fz w0 q ne v' (s.1.set t jD,s.2++[(t:Int)]) w2:=by
 subst hw;have b:=qW.trans ((qW.refl _ w).alloc _) d (λ_ _ h=>h);refine⟨aeS hm c b δ,?_,QC hb c b lR⟩;rw[sJ,lA];exact a
theorem N7 {x:Int}(h:sG n x=jE):vis n s x=s:=by rw[vis,d9 (by rw[h];simp)]
theorem TA (h:s.1.getD t jE=jD)(hl:t<η s.1):vis n s (t:Int)=s:=by
 rw[vis,d9];simp only[θ,tN,gE hl,jS]at h⊢;simp[h]
theorem TB (a:sG n (t:Int)=jD)(h:s.1.getD t jE=jE)(hl:t<η s.1):vis n s (t:Int)=(s.1.set t jD,s.2++[(t:Int)]):=by
 rw[vis,jd]
 ·simp
 ·refine⟨a,?_⟩;simp only[θ,tN,gE hl,jS]at h⊢;exact h
end
theorem TD {l:List Int}(a:k<η l)(s:List Bool×List Int):(l.take (k+1)).foldl (vis n) s=vis n ((l.take k).foldl (vis n) s) l[k]:=by
 rw[rE l k a,jK];rfl
theorem agS {l:List Nd}(a:k<η l):(tgts l)[k]'(by rw[tgts,jr];exact a)=l[k].op:=by simp[tgts]
theorem aao {l:List Nd}(a:k<η l)(s:List Bool×List Int):((tgts l).take (k+1)).foldl (vis n) s=vis n (((tgts l).take k).foldl (vis n) s) l[k].op:=by
 rw[TD (by rw[tgts,jr];exact a),agS]
theorem Xe (l:List Int)(s:List Bool×List Int):η s.2<=(l.foldl (vis n) s).2.length:=by
 obtain⟨r,a⟩:=MJ (n:=n) l s;rw[a,lA];omega
set_option maxHeartbeats 1000000
theorem FT {base e c n g:Nat}:∀(vs:List Value) (o:Nat) {w:jF} {xs:List Value},w.ownsRow base e 1 (.slice (jB ⟨g,0,jC⟩) n c) n xs->o+η vs<=n->
  (w.setCells g o vs).ownsRow base e 1 (.slice (jB ⟨g,0,jC⟩) n c) n (xs.take o++vs++xs.drop (o+η vs))/\qW (λk=>k=g) w (w.setCells g o vs)
 |[],o,w,xs,h,_=>by
  refine⟨?_,qW.refl _ _⟩;simpa[jF.setCells]using h
 |v::vs,o,w,xs,h,hl=>by
  have f:η xs=n:=by have:=h.1;omega
  simp only[jP]at hl;have a:=(h.stored o v).1;obtain⟨b,d⟩:=FT vs (o+1) a ω;refine⟨?_,qW.trans (qW.setCell (S:=λk=>k=g) (p:=⟨g,o,jC⟩) (qW.refl _ w) (λ_=>rfl) v) d (λ_ _ h=>h)⟩;rw[jF.setCells]
  have e1:(xs.set o v).take (o+1)++vs++(xs.set o v).drop (o+1+η vs)=xs.take o++v::vs++xs.drop (o+η (v::vs)):=by
   rw[List.drop_set_of_lt ω,nR (by simp;omega),List.getElem_set_self,List.take_set_of_le ω];simp only[lg,lu,lM,jP];rw[show o+1+η vs=o+(η vs+1) by omega]
  rw[<-e1];exact b
theorem Eu (g:Nat):∀(vs:List Value) (o:Nat) (w:jF),w.drew.setCells g o vs=(w.setCells g o vs).drew
 |[],_,_=>rfl
 |v::vs,o,w=>by rw[jF.setCells,jF.setCell_drew,Eu g vs];rfl
def agG (w:jF)(base g n c:Nat)(xs:List Value)(en:Ending)(w':jF):Prop:=
 en=.returned (.slice (jB ⟨g,0,jC⟩) n c)/\w'.ownsRow base 3 1 (.slice (jB ⟨g,0,jC⟩) n c) n xs/\qW (λk=>k=g) w w'
theorem Xl (base g c n x xs w)(m:n=η xs)(z:∀u∈xs,u.oneCell'=jD)(h:w.ownsRow base 3 1 (.slice (jB ⟨g,0,jC⟩) (n+1) c) (n+1) (x::xs)):
  Calls jJ 178 #[.slice (jB ⟨g,0,jC⟩) (n+1) c,.int .i64 0,.int .i64 1] w (agG w base g n c xs):=by
 obtain⟨_,_,hv,B,e,_⟩:=CF h;cases hv;unfold maxLen at e;obtain⟨i0,i,p,q,r⟩:=info_parts Lh;have s:η (x::xs)=n+1:=by simp[m]
 obtain⟨A,hA,j⟩:∃A:Addr,(if c=1 then jB (⟨g,0,jC⟩:Addr)else jB ⟨g,1,jC⟩)=jB A/\Hd (∀t u,xs[t]? =jB u->w.drew.cell? (A.add t)=jB u):=by
  by_cases hc:c=1
  ·refine⟨⟨g,0,jC⟩,by simp[hc],λt u hu=>?_⟩;have H:η xs=0:=ω;rw[List.length_eq_zero_iff.1 H]at hu;simp at hu
  ·refine⟨⟨g,1,jC⟩,by simp[hc],λt u hu=>?_⟩;have v:=(gB.1 hu).1;rw[Addr.add_lit,show 1+t=t+1 by omega];show w.cell? _ = _;rw[h.cellAt (t+1) ω];simpa using hu
 have s1:Hd (η xs=n*1):=by show _ = _;omega
 have s2:Hd (∀u∈xs,u.oneCell'=jD):=z
 have I:Hd (∀t,t<η xs->(w.drew.cell? ⟨g,0+0*1+t,jC⟩).isSome=jD/\w.drew.frozen? ⟨g,0+0*1+t,jC⟩=jE):=by
  intro t v;rw[show 0+0*1+t=t by omega];refine⟨?_,h.frozenAt t⟩;show(w.cell? _).isSome=jD;rw[h.cellAt t ω];simp[show t<η xs+1 by omega]
 obtain⟨W1,a⟩:=xR (w.drew.setCells g (0+0*1) xs);obtain⟨C,D⟩:=FT xs 0 h ω
 have b:W1.ownsRow base 3 1 (.slice (jB ⟨g,0,jC⟩) (n+1) c) (n+1) (xs++(x::xs).drop (η xs)):=by
  have:=C;simp only[pX,lM,ng]at this;rw[a,Eu];exact this
 have l:qW (λk=>k=g) w W1:=by rw[a,Eu];exact qW.drewN D 1
 obtain⟨E,F⟩:=FT [.int .i64 0] n b ς
 have J:∀ty,(Builtin.clear_ #[29] ty #[.slice (jB ⟨g,n,jC⟩) 1 (c-n)]).run jJ W1=.ok (.tuple #[]) (W1.setCells g n [.int .i64 0]):=λty=>by
  have y:∀w,(zeroValue 3).run jJ w=.ok (.int .i64 0) w:=λw=>by
   simp[zeroValue,go_sem,typeInfo,i,p]
  exact Lib.run_clear_slice W1 _ _ ty (.int .i64 0) Tryz.underlying29 y rfl rfl g n 1 _ ω
   (λt v=>by rw[b.cellAt (n+t) ω];simp;omega) (λt v=>b.frozenAt (n+t))
 have L:¬c=n:=ω
 have d:agG w base g n c xs (.returned (.slice (jB ⟨g,0,jC⟩) n c)) (W1.setCells g n [.int .i64 0]):=by
  refine⟨rfl,?_,qW.trans l F (λ_ _ h=>h)⟩;have:=Ug (k:=n) E ω;rw[mU]at this;rw[lg,oL (by simp[m]),List.take_take,Nat.min_self,oL ω,tL ω]at this;exact this
 obtain⟨M,O⟩:=iw d hA;have N:Hd (W1=w.drew.setCells g (0+0*1) xs):=a;have e1:(1:Int)<=(n:Int)+1:=ω;clear d C D b l E F a h r s z m;go_enter Tryz.func178,Tryz.ntmps178;go_wp2_with fail
 refine wp_region_held_drew (S:=λw'=>True) κ trivial (λhS=>?_);refine qU 0 ?_;refine qU 1 ?_;refine qU 2 ?_;refine qU 3 ?_;refine qU 4 ?_;refine qU 5 ?_;refine rR 6 (λK G=>?_);refine step_append_room rfl (.tmp 22) (.tmp 25) 29 rfl 3 i0 1 Tryz.underlying29 i q g 0 0 c (by simp[Act.eval]) A n (c-1) xs (by simp[Act.eval]) s1.out j.out s2.out ω I.out ?_;rw[<-N.o,ng];refine G _ _ trivial (λhS=>?_);clear G;refine qU 7 ?_;try simp only[Act.put,kQ,lW]
 refine wpAnyH_done κ ?_ _;clear hS;go_wp2
 go_ret
 exact M.o
