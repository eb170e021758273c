/- A part of the proof. -/
import Derived.Test.YtdmeoldcifddiaaGreatDoorZap
import Derived.Test.YtdmeoldcifddiaaGreatDoorZaj
import Derived.Deep.OwnRows
import Derived.Deep.LoopGhost
import Derived.Test.YtdmeoldcifddiaaGreatDoorZab
import Derived.Deep.RegionHeld3
import Derived.Deep.DeepCutAuto
import Derived.Test.YtdmeoldcifddiaaGreatDoorZah
import Derived.Lib.AppendZerosOnto
import Derived.Test.YtdmeoldcifddiaaGreatDoorMk
import Derived.Test.YtdmeoldcifddiaaGreatDoorRows
import Derived.ShutString
import Derived.OpenShut
import Derived.Test.YtdmeoldcifddiaaGreatDoorZan
import Derived.Test.YtdmeoldcifddiaaGreatDoorZad
import Derived.Test.YtdmeoldcifddiaaGreatDoorZaf
import Derived.Test.YtdmeoldcifddiaaGreatDoorTie
import Derived.Test.YtdmeoldcifddiaaGreatDoorCards
import Derived.SevenTiedAt
import Derived.LaidMore
import Derived.Lib.LaidTab
import Derived.RangeFuncOwn
/- The walk of never.Of (layer 34). -/
set_option maxHeartbeats 4000000
set_option maxRecDepth 100000
namespace Go.Proofs.YtdmeoldcifddiaaGreatDoor
open Go.RowKit Go.Maps
open Option renaming some -> jB, none -> jC
open Bool renaming true -> jD, false -> jE
open Go renaming World -> jF
open Go.Proofs.Tryz renaming prog -> jJ
open List renaming length -> η, replicate -> ρ, range -> ζ, getD -> θ, mem_append -> ν
variable {c small:Bool}{b1 b2 bits:Int->Nat->Bool}{left out:List (List Bool)}{l r:List Bool}{lo st:List Int}{f:List Nd}{ig xs:List Value}{B KE N T base bx c1 c2 c6 d g k lp m n n1 n2 size:Nat}{F:Nat->Bool}{x:Nd}{O:Obj}{A A1 A2 A6:Option Addr}{P:Program}{a b v vo:Value}{W w w' w0 w7 wr:jF}
theorem aau {c:Value}{cs:Array Value}(h:w.1[g]? =jB (.cells cs T (0,0)))(hc:cs.size=3):
  ∃V,((w.setCell ⟨g,0,jC⟩ a).setCell ⟨g,1,jC⟩ b).setCell ⟨g,2,jC⟩ c=V/\V.1[g]? =jB (.cells #[a,b,c] T (0,0))/\qW (λk=>k=g) w V:=by
 refine⟨_,rfl,?_,?_⟩
 ·have d:=heap_setCell_same w g 0 _ _ a h;have e:=heap_setCell_same _ g 1 _ _ b d;have f:=heap_setCell_same _ g 2 _ _ c e;rw[f];obtain⟨l⟩:=cs
  match l,hc with
  |[x,y,z],_=>rfl
 ·exact(((qW.refl (λk=>k=g) w).setCell (p:=⟨g,0,jC⟩) (λ_=>rfl) _).setCell (p:=⟨g,1,jC⟩) (λ_=>rfl) _).setCell (p:=⟨g,2,jC⟩) (λ_=>rfl) _
noncomputable def Ju (f:List Nd)(small:Bool):gW:=if small=jD then sj 0 5 (vO f)else sj 0 4 (vO f)
def aiz (w:jF)(s:gW)(en:Ending)(w':jF):Prop:=
 ∃Ai ni ci An nn cn,en=.returned (.tuple #[.agg #[.int .i64 (if s.2.2.2=0 then s.2.1 else rQ.zero).sets,.slice Ai ni ci,.slice An nn cn],.int .i64 s.2.2.2])/\sW w' w'.1.size (if s.2.2.2=0 then s.2.1 else rQ.zero) Ai ni ci An nn cn/\Below w.1.size w w'
structure aiA (w:jF)(kb:Nat)(vs':Value)(w3:jF)(s:gW)(A:Option Addr)(c:Nat)(Ai:Option Addr)(ni ci:Nat)(An:Option Addr)(nn cn:Nat):Prop where
 st:Jl (w.1.size+1) kb vs' w3 s.1 s.2.1 s.2.2.1 s.2.2.2 A c Ai ni ci An nn cn
 bk:w3.1[w.1.size]? =jB (.cells #[.int .i64 0,.slice jC 0 0,.slice jC 0 0] 32 (0,0))
 xq:Below w.1.size w w3
theorem afb (A c f small w)(hf:Sl w w.1.size 2 A (η f) c (qP f))(hl:η f<=1000000000)(hT:TabAt 0 Lib.deBruijn64tab w)(G:0<w.1.size)(hN:∀j,j<5->(sj 0 j (vO f)).2.2.2=0->QT (0+j) (sj 0 j (vO f))):
  Calls jJ 8 #[.slice A (η f) c,.bool small] w (aiz w (Ju f small)):=by
 have q:Below w.1.size w (w.alloc (.cells #[.int .i64 0,.slice jC 0 0,.slice jC 0 0] 32)):=bR.alloc lR _;have J:=heap_alloc_new w (.cells #[.int .i64 0,.slice jC 0 0,.slice jC 0 0] 32);have a6:(w.alloc (.cells #[.int .i64 0,.slice jC 0 0,.slice jC 0 0] 32)).1.size=w.1.size+1:=ς;obtain⟨W0,L⟩:=xQ (w.alloc (.cells #[.int .i64 0,.slice jC 0 0,.slice jC 0 0] 32));rw[L]at q J a6;obtain⟨ao,HB,HN⟩:=iA L (SQ A c f W0 ((hf.below q lR).up ω) hl) hN;have HT:Hd (∀W,Below w.1.size w W->xJ W/\TabAt 0 Lib.deBruijn64tab W/\0<W.1.size):=dh (λW hW=>⟨D7 hT G hW,D7 hT G hW,by have:=hW.size;omega⟩);have aq:=dh J;clear hf hN hT G L J;go_enter Tryz.func8,Tryz.ntmps8;go_wp2_with fail
 rw[ao.o];refine HB.mono ?_;rintro e w1 ⟨kb,vs,rfl,h1,r⟩;clear HB;rw[a6]at r h1;have u:=q.trans (r.mono ω);have a7:w.1.size+1<=w1.1.size:=by have:=r.size;omega
 obtain⟨W2,M⟩:=xQ (w1.alloc (.cells #[Kn 0,Kn 1,Kn 2,Kn 3] 49));obtain⟨i,a8,ax⟩:=Jl.steps (s:=vO f) h1 ω 0 4 49 #[Kn 0,Kn 1,Kn 2,Kn 3] ω (λj hj=>by rcases j with _| _| _| _|j<;>first|omega|rfl) (λV n=>HT V (u.trans (n.mono ω))) (λj hj=>HN j ω) W2 M;obtain⟨HR,HW⟩:=iw i M;have x:Hd (w.1.size+1<=kb/\∀g,vs.ownBlock=jB g->w.1.size+1<=g):=dh ⟨h1.lt,λg G=>(h1.own.lt g G).1⟩;have N:Hd (w1.1[w.1.size]? = _):=dh ((r.block _ ω).trans aq.o);clear i M h1;go_wp2_with fail
 have z:w1.alloc (.cells #[.func (.func 16) #[] #[],.func (.func 17) #[] #[],.func (.func 18) #[] #[],.func (.func 19) #[] #[]] 49)=W2:=HW.o;rw[z];clear z;refine HR.mono ?_;rintro e w3 ⟨rfl,vs',A3,c3,Ai,ni,ci,An,nn,cn,h3,ad,ar⟩;clear HR
 have m:=(a8.mono a7).trans (ad.below ω (λk hk e=>by
  rcases e with e|e
  ·have:=x.1;omega
  ·have:=x.2 k e;omega))
 have d:Hd (aiA w kb vs' w3 (sj 0 4 (vO f)) A3 c3 Ai ni ci An nn cn):=dh ⟨h3,(m.block _ ω).trans N.o,u.trans (m.mono ω)⟩;have aw:=m.size;have ay:=dh q;clear ad ar h3 m u r a8 q;cases small with
 |false=>
  have HF:Hd (Ju f jE=sj 0 4 (vO f)):=dh rfl;generalize Ju f jE=sf at *;generalize sj 0 4 (vO f)=H at *;obtain⟨m0,m1,m2,m3,m4,O⟩:=wO d.st.bk;have P:=dh d.bk;obtain⟨y0,y1,y2⟩:=sQ d.bk;have B:Hd (kb<w3.1.size/\¬kb=w.1.size):=dh ⟨d.st.gK,by have:=d.st.lt;omega⟩;obtain⟨y,hy⟩:=xQ H.2.2.2;rw[hy]at O;have C:=dh hy;clear hy;by_cases hw:y=0
  ·subst hw;have Q:=frozen_of_row _ _ 0 _ _ d.bk;have R:=frozen_of_row _ _ 1 _ _ d.bk;have T:=frozen_of_row _ _ 2 _ _ d.bk;obtain⟨V,n,l,D⟩:=aau (w:=w3) (a:=.int .i64 H.2.1.sets) (b:=.slice Ai ni ci) (c:=.slice An nn cn) d.bk rfl;obtain⟨U,X,Y⟩:=sQ l;have HV:=dh n;clear n;go_wp2_with fail
   try rw[HV.o]
   refine bodyPost_ret (v:=.tuple #[.agg #[.int .i64 H.2.1.sets,.slice Ai ni ci,.slice An nn cn],.int .i64 0]) ?_ rfl ?_
   ·simp[results,Tryz.results8,go_sem,U,X,Y]
   ·rw[HF.o];refine⟨Ai,ni,ci,An,nn,cn,by rw[jd C.o,C.o],?_,d.xq.trans (D.below d.xq.size (λk hk e=>ω))⟩;rw[jd C.o];exact d.st.aut _ V D (λg G _=>.inl ω)
  ·have Q:=frozen_of_row _ _ 0 _ _ d.bk;have R:=frozen_of_row _ _ 1 _ _ d.bk;have T:=frozen_of_row _ _ 2 _ _ d.bk;go_upto_region 6 with fail
   refine wp_region_held_drew (S:=λw'=>q9 w' kb 5 (.int .i64 y)/\True) κ ⟨O,trivial⟩ (λhS=>?_);refine qU 0 ?_;refine qU 1 ?_;refine qU 2 ?_;refine qU 3 ?_;refine qU 4 ?_;refine rR 5 (λK hK=>?_);go_simp;obtain⟨V,n,l,D⟩:=aau (w:=w3) (a:=.int .i64 0) (b:=.slice jC 0 0) (c:=.slice jC 0 0) P rfl;rw[n];have Z:=bD D B.1 (λe=>B.2 e) O;obtain⟨U,X,Y⟩:=sQ l;refine hK _ _ ⟨Z,trivial⟩ (λhS=>?_);clear hK;refine qU 6 ?_;refine wpAnyH_done κ ?_ _;go_wp2_with fail
   refine bodyPost_ret (v:=.tuple #[.agg #[.int .i64 0,.slice jC 0 0,.slice jC 0 0],.int .i64 y]) ?_ rfl ?_
   ·simp[results,Tryz.results8,go_sem,U,X,Y]
   ·rw[HF.o];have E:¬H.2.2.2=0:=by rw[C.o];exact hw
    refine⟨jC,0,0,jC,0,0,by rw[d9 E,C.o];rfl,?_,Below.drew (d.xq.trans (D.below d.xq.size (λk hk e=>ω)))⟩;rw[d9 E];exact xI _ _
 |true=>
  have p:=d.st;have I:=d.xq;have af:w.1.size+1<=w3.1.size:=by have:=p.gK;have:=p.lt;omega
  obtain⟨W4,a1⟩:=xQ (w3.alloc (.cells #[Kn 4] 49))
  have ag:∀j,j<1->#[Kn 4][j]? =jB (Kn (4+j)):=λj hj=>by
   obtain rfl:j=0:=ω;rfl
  have ah:∀j,j<1->(sj 4 j (sj 0 4 (vO f))).2.2.2=0->QT (4+j) (sj 4 j (sj 0 4 (vO f))):=λj hj hy=>by
   obtain rfl:j=0:=ω;exact HN 4 ω hy
  obtain⟨i,aj,az⟩:=Jl.steps (s:=sj 0 4 (vO f)) p af 4 1 49 #[Kn 4] ω ag (λV n=>HT V (I.trans (n.mono ω))) ah W4 a1;clear ag ah;obtain⟨HR,HW⟩:=iw i a1;have x:Hd (w.1.size+1<=kb/\∀g,vs'.ownBlock=jB g->w.1.size+1<=g):=dh ⟨p.lt,λg G=>(p.own.lt g G).1⟩;have N:Hd (w3.1[w.1.size]? = _):=dh d.bk;clear i a1 p d HN;go_wp2_with fail
  have z:w3.alloc (.cells #[.func (.func 20) #[] #[]] 49)=W4:=HW.o;rw[z];clear z;refine HR.mono ?_;rintro e w5 ⟨rfl,au,A5,c5,Bi,mi,di,Bn,mn,dn,h5,ak,av⟩;clear HR
  have F:=(aj.mono af).trans (ak.below ω (λk hk e=>by
   rcases e with e|e
   ·have:=x.1;omega
   ·have:=x.2 k e;omega))
  have d:Hd (aiA w kb au w5 (sj 0 5 (vO f)) A5 c5 Bi mi di Bn mn dn):=dh ⟨h5,(F.block _ ω).trans N.o,I.trans (F.mono ω)⟩;clear ak av h5 F aj;have HF:Hd (Ju f jD=sj 0 5 (vO f)):=dh rfl;generalize Ju f jD=sf at *;generalize sj 0 5 (vO f)=H at *;obtain⟨m0,m1,m2,m3,m4,O⟩:=wO d.st.bk;have P:=dh d.bk;obtain⟨y0,y1,y2⟩:=sQ d.bk;have B:Hd (kb<w5.1.size/\¬kb=w.1.size):=dh ⟨d.st.gK,by have:=d.st.lt;omega⟩;obtain⟨y,hy⟩:=xQ H.2.2.2;rw[hy]at O;have C:=dh hy;clear hy;by_cases hw:y=0
  ·subst hw;have Q:=frozen_of_row _ _ 0 _ _ d.bk;have R:=frozen_of_row _ _ 1 _ _ d.bk;have T:=frozen_of_row _ _ 2 _ _ d.bk;obtain⟨V,n,l,D⟩:=aau (w:=w5) (a:=.int .i64 H.2.1.sets) (b:=.slice Bi mi di) (c:=.slice Bn mn dn) d.bk rfl;obtain⟨U,X,Y⟩:=sQ l;have HV:=dh n;clear n;go_wp2_with fail
   try rw[HV.o]
   refine bodyPost_ret (v:=.tuple #[.agg #[.int .i64 H.2.1.sets,.slice Bi mi di,.slice Bn mn dn],.int .i64 0]) ?_ rfl ?_
   ·simp[results,Tryz.results8,go_sem,U,X,Y]
   ·rw[HF.o];refine⟨Bi,mi,di,Bn,mn,dn,by rw[jd C.o,C.o],?_,d.xq.trans (D.below d.xq.size (λk hk e=>ω))⟩;rw[jd C.o];exact d.st.aut _ V D (λg G _=>.inl ω)
  ·have Q:=frozen_of_row _ _ 0 _ _ d.bk;have R:=frozen_of_row _ _ 1 _ _ d.bk;have T:=frozen_of_row _ _ 2 _ _ d.bk;go_upto_region 6 with fail
   refine wp_region_held_drew (S:=λw'=>q9 w' kb 5 (.int .i64 y)/\True) κ ⟨O,trivial⟩ (λhS=>?_);refine qU 0 ?_;refine qU 1 ?_;refine qU 2 ?_;refine qU 3 ?_;refine qU 4 ?_;refine rR 5 (λK hK=>?_);go_simp;obtain⟨V,n,l,D⟩:=aau (w:=w5) (a:=.int .i64 0) (b:=.slice jC 0 0) (c:=.slice jC 0 0) P rfl;rw[n];have Z:=bD D B.1 (λe=>B.2 e) O;obtain⟨U,X,Y⟩:=sQ l;refine hK _ _ ⟨Z,trivial⟩ (λhS=>?_);clear hK;refine qU 6 ?_;refine wpAnyH_done κ ?_ _;go_wp2_with fail
   refine bodyPost_ret (v:=.tuple #[.agg #[.int .i64 0,.slice jC 0 0,.slice jC 0 0],.int .i64 y]) ?_ rfl ?_
   ·simp[results,Tryz.results8,go_sem,U,X,Y]
   ·rw[HF.o];have E:¬H.2.2.2=0:=by rw[C.o];exact hw
    refine⟨jC,0,0,jC,0,0,by rw[d9 E,C.o];rfl,?_,Below.drew (d.xq.trans (D.below d.xq.size (λk hk e=>ω)))⟩;rw[d9 E];exact xI _ _
variable {f:List Nd}
theorem R7 (h:¬check f=0)(j):sj 0 j (vO f)=vO f:=by
 have:=Dw (lo:=0) (j:=0) (s:=vO f) h j;rwa [ng]at this
theorem afg (h:check f=0):sj 0 1 (vO f)=(Nj f,⟨0,[],[]⟩,[(η f:Int),(η (Nj f):Int)],0):=by simp[sj,Mx,vO,h]
theorem aff (h:check f=0):sj 0 2 (vO f)=(Km f,⟨0,[],[]⟩,[(η f:Int),(η (Nj f):Int),(η (Km f):Int)],0):=by
 show Mx 1 (sj 0 1 (vO f))= _;rw[afg h];simp[Mx,Km]
theorem Ul (h:check f=0):sj 0 3 (vO f)=(Km f,Kl (Km f),[(η f:Int),(η (Nj f):Int),(η (Km f):Int),((Kl (Km f)).nodes.length:Int)],Kj (Km f)):=by
 show Mx 2 (sj 0 2 (vO f))= _;rw[aff h];simp[Mx]
theorem Uk (h:check f=0)(a:Kj (Km f)=0):sj 0 4 (vO f)=(Km f,LP f,[(η f:Int),(η (Nj f):Int),(η (Km f):Int),((Kl (Km f)).nodes.length:Int),((LP f).nodes.length:Int)],JY (Kl (Km f))):=by
 show Mx 3 (sj 0 3 (vO f))= _;rw[Ul h];simp[Mx,a,LP]
theorem Y5 (h:Ew f=0):sj 0 5 (vO f)=(Km f,K4 (LP f),[(η f:Int),(η (Nj f):Int),(η (Km f):Int),((Kl (Km f)).nodes.length:Int),((LP f).nodes.length:Int),((K4 (LP f)).nodes.length:Int)],0):=by
 obtain⟨a,b,c⟩:=zk h;show Mx 4 (sj 0 4 (vO f))= _;rw[Uk a b];simp[Mx,c]
theorem Uj:(sj 0 4 (vO f)).2.2.2=Ew f:=by
 unfold Ew;by_cases h:check f=0
 ·rw[jd h];by_cases a:Kj (Km f)=0
  ·rw[jd a,Uk h a]
  ·rw[d9 a];have e:sj 0 4 (vO f)=sj 0 3 (vO f):=Dw (j:=3) (by rw[Ul h];exact a) 1;rw[e,Ul h]
 ·rw[d9 h,R7 h];rfl
theorem Mw (small):(Ju f small).2.2.2=Ew f:=by
 cases small
 ·exact Uj
 ·show(sj 0 5 (vO f)).2.2.2= _;by_cases h:Ew f=0
  ·rw[Y5 h,h]
  ·have e:sj 0 5 (vO f)=sj 0 4 (vO f):=Dw (j:=4) (by rw[Uj];exact h) 1;rw[e,Uj]
theorem acJ (h:Ew f=0)(small):(Ju f small).2.1=Dx f small:=by
 obtain⟨a,b,c⟩:=zk h;unfold Dx;rw[jd h];cases small
 ·show(sj 0 4 (vO f)).2.1= _;rw[Uk a b];rfl
 ·show(sj 0 5 (vO f)).2.1= _;rw[Y5 h];rfl
theorem aht (hA:check f=0->Kj (Km f)=0->∃KE,Gf (Kl (Km f)) KE/\KE<=1000)(a:Ew f=0->∃KE,Gf (LP f) KE/\KE<=1000000):∀j,j<5->(sj 0 j (vO f)).2.2.2=0->QT (0+j) (sj 0 j (vO f)):=by
 intro j b hy;rw[ng];by_cases h:check f=0
 ·have hf:=(yT h).2;have c:=ahu h;have d:=aaD (yT h).1
  match j,b with
  |0,_=>exact⟨by simp[sj,vO],by show η f<=1000;omega⟩
  |1,_=>rw[afg h];exact⟨ς,by show η (Nj f)<=1000;omega⟩
  |2,_=>rw[aff h];exact⟨ς,by show η (Km f)<=1000;omega⟩
  |3,_=>rw[Ul h]at hy⊢;exact⟨ς,hA h hy⟩
  |4,_=>
   have he:Ew f=0:=by rw[<-Uj];exact hy
   rw[Uk h (zk he).2.1];exact⟨ς,a he⟩
 ·rw[R7 h]at hy;exact(h hy).elim
open Go
theorem Bc.zero (a):Bc rQ.zero a:=⟨mR _,mR _,λx b=>(by cases b)⟩
theorem Gf.zero (KE:Nat):Gf rQ.zero KE:=⟨λx a=>(by cases a),λx a=>(by cases a),λx a=>(by cases a),mR _⟩
structure ajm (b a:rQ)(KE:Nat):Prop where
 less:Bc b a
 nda:Gf b KE
theorem Wi {a:rQ}(h:Gf a KE):ajm (K4 a) a KE:=by
 unfold K4;split
 ·rename_i c;refine⟨R6 (vY.1 c),?_⟩;exact(Oi (vY.1 c) (R:=λb a=>Gf a KE->Gf b KE) (λ_ h=>h) (λ_ _ _ d h=>d h.trim.merge.prune.trim)) h
 ·exact⟨Bc.zero a,Gf.zero KE⟩
variable {f:List Nd}
theorem Rz {L:List uI}{rows:List (List Nat)}(b:yh f=jD)(a:JK f=jB (L,rows)):DU f L rows/\η (tC f)<=η L:=by
 unfold JK at a;split at a
 ·cases a
 ·obtain⟨hi,_⟩:=L8 b _ _ _ (Gd b (F8 b)) L rows a;obtain⟨m,hm⟩:=hi.first
  exact⟨hi,by rw[hm,lA];omega⟩
theorem VL:∀{cs L:List uI},cs.Nodup->(∀c∈cs,c∈L)->η cs<=η L
 |[],_,_,_=>mR _
 |c::cs,L,a,h=>by
  obtain⟨b,d⟩:=og.1 a;have hc:=h c (ji ..);have:=VL (cs:=cs) (L:=L.erase c) d (λy hy=>(List.mem_erase_of_ne (λe=>b (by rw[<-e];exact hy))).2 (h y (jc _ hy)));have hl:=List.length_pos_of_mem hc;rw[List.length_erase_of_mem hc]at this;simp only[jP];omega
theorem afr (h:Kj f=0):Gf (Kl f) 256:=by
 have d:η f<=50:=by
  unfold Kj at h;split at h
  ·cases h
  ·split at h
   ·cases h
   ·omega
 obtain⟨L,rows,a,q,i,e⟩:=Oh h;rw[e];have p:=Yp a (F8 a) i;obtain⟨hi,hf⟩:=Rz a i;have s:=(O3 i).2
 have key:∀x∈(vW f L rows (ζ (η (tC f)))).nodes,(x.need<2^64/\x.ban<2^64)/\x.inn<2^64/\η x.to<=256:=λx b=>by
  obtain⟨k,r,rfl⟩:=lZ.1 b;obtain⟨c,hc,j⟩:=Vm (gE r);obtain⟨ps,l,m⟩:=p.Jh c (jy hc);have g:=(MN a d l).2.1 c m;rw[j];refine⟨⟨pW g.txt.need δ,pW g.txt.ban δ⟩,?_,?_⟩
  ·show aaG f _<2^64;refine jh (Ww f _) (lI δ ?_);rw[<-JF a];omega
  ·show η (iE (rows.getD k []))<=_;have n:k<η rows:=by rw[p.len];exact(gB.1 hc).1
   obtain⟨e1,e2⟩:=hi.row k c n hc;rw[e1];have o:=Wo a (hi.Jh c (jy hc));have:=VL (MN a d o).1 e2;simp[iE,uG];omega
 exact⟨λx b=>(key x b).1,λx b=>(key x b).2.1,λx b=>(key x b).2.2,by simp[vW,iE];omega⟩
theorem ahB {a b:rQ}(hA:a.Ok)(h:Gf a KE)(hb:ML a=jB b):Gf b KE:=by
 have e:=hb;unfold ML at hb;obtain⟨⟨L,out⟩,j,g⟩:=mH.1 hb
 have f:η b.init<=1000000:=by
  rw[<-g];exact Nat.le_trans (Kr _ _ _) h.init
 obtain⟨M,d⟩:=UC hA e
 have key:∀x∈b.nodes,∃p,p∈M/\x=Gg a p M:=λx c=>by
  obtain⟨i,hi,rfl⟩:=lZ.1 c;have hl:i<η M:=by have:=d.len;omega
  refine⟨M[i],mM hl,?_⟩;rw[<-(d.at_ i M[i] (gE hl)).1];unfold rQ.at;rw[gD,gE hi];rfl
 refine⟨λx c=>?_,λx c=>?_,λx c=>?_,f⟩
 ·obtain⟨p,hp,rfl⟩:=key x c;exact h.nd (a.at p.1) (Ox (d.pr p hp).1)
 ·obtain⟨p,hp,rfl⟩:=key x c;show NZ a p<2^64;unfold NZ;split<;>decide
 ·obtain⟨p,hp,rfl⟩:=key x c;exact Nat.le_trans (Kr _ _ _) (h.rows (a.at p.1) (Ox (d.pr p hp).1))
theorem Oo (h:Ew f=0):Gf (LP f) 256:=by
 obtain⟨hc,a,c⟩:=zk h;obtain⟨g,b,hb,e⟩:=I5 c;have d:LP f=b:=e;rw[d];exact ahB (O4 a).ok (afr a) hb
theorem afa (h:Kj f=0):(Kl f).init.length<=256:=by
 obtain⟨L,rows,b,c,a,e⟩:=Oh h;obtain⟨hi,hf⟩:=Rz b a;have d:=(O3 a).2;rw[e];simp[vW,iE];omega
theorem Wm (h:Ew f=0):(LP f).init.length<=256:=by
 obtain⟨hc,c,a⟩:=zk h;obtain⟨i,b,hb,e⟩:=I5 a;have d:LP f=b:=e;rw[d];unfold ML at hb;obtain⟨⟨L,out⟩,a,g⟩:=mH.1 hb;rw[<-g];exact Nat.le_trans (Kr _ _ _) (afa c)
theorem Wj (f):∀j,j<5->(sj 0 j (vO f)).2.2.2=0->QT (0+j) (sj 0 j (vO f)):=
 aht (λ_ h=>⟨256,afr h,ω⟩) (λh=>⟨256,Oo h,ω⟩)
theorem ae9 (h:Ew f=0):Gf (K4 (LP f)) 256:=(Wi (Oo h)).nda
theorem ahw (h:Ew f=0)(small):Gf (Dx f small) 256:=by
 unfold Dx;rw[jd h];cases small
 ·exact Oo h
 ·exact ae9 h
theorem afj (h:Ew f=0)(small):(Dx f small).init.length<=256:=by
 unfold Dx;rw[jd h];cases small
 ·exact Wm h
 ·exact Nat.le_trans (Wi (Oo h)).less.init (Wm h)
def wT (x:Nd):Int:=if x.op=3/\¬(0<=x.n/\x.n<8)then -1 else takes x.op
theorem P5:bad x d=0↔0<=wT x/\wT x<=(d:Int):=by
 have hb:=zY x.op;constructor
 ·intro h;obtain⟨a,b,c⟩:=x9 h;unfold wT;rw[d9 (λf=>f.2 (c f.1))];exact⟨a,b⟩
 ·rintro⟨a,b⟩;unfold wT at a b;by_cases c:x.op=3/\¬(0<=x.n/\x.n<8)
  ·rw[jd c]at a;omega
  ·rw[d9 c]at a b;refine Fu a b ?_;by_cases e:x.op=3
   ·exact .inr (mG λf=>c ⟨e,f⟩)
   ·exact .inl e
theorem ae1 (op:Int):op=1\/op=2\/op=3\/op=4\/op=5\/op=6\/op=7\/op=8\/op=9\/op=10\/op=11\/op=12\/(op<1\/12<op):=ω
theorem abX (b:k<η f)(hs:scan (f.take k) 0=(0,d))(hp:0<=wT f[k])(hd:wT f[k]<=(d:Int)):
  scan (f.take (k+1)) 0=(0,d-(wT f[k]).toNat+1):=by
 have hb:=P5.2 ⟨hp,hd⟩
 have e:wT f[k]=takes f[k].op:=by
  unfold wT;rw[d9 (λa=>a.2 ((x9 hb).2.2 a.1))]
 rw[e];exact Oe b hs hb
theorem abW (a:k<η f)(hs:scan (f.take k) 0=(0,d))(hp:wT f[k]<0\/(d:Int)<wT f[k]):wrong f≠0:=by
 have hb:bad f[k] d≠0:=λh=>by have:=P5.1 h;omega
 rw[(GR a hs hb).1];exact hb
theorem abY (hs:scan f 0=(0,d)):(wrong f==0)=(((d:Int))==1):=by
 by_cases hf:f=[]
 ·subst hf;simp[scan]at hs;subst hs;rfl
 ·have hw:=IC hf hs;have b:=Dj hs
  have hd:1<=d:=by
   rw[<-b];have a:f≠[]:=hf;obtain⟨g,x,rfl⟩:∃g x,f=g++[x]:=⟨f.dropLast,f.getLast a,(nZ a).symm⟩;rw[runs,jK];simp[Jo]
  rw[hw,lG];split<;>simp<;>omega
theorem RQ (A1 A2)(n1 c1 n2 c2:Nat)(k:Nat)(w)(hl:n1+n2<=60000)(j:k<n1+n2):
  Calls jJ 63 #[.agg #[.slice A1 n1 c1,.slice A2 n2 c2],.int .i64 (k:Int)] w (Num w ((nx n1 (n1+n2) k:Nat):Int)):=by
 obtain⟨hb,b,c⟩:=GA w A1 A2 n1 c1 n2 c2;have g:=dh b;have i:=hb.size;clear b c;by_cases h:k+1<n1+n2
 ·have e:nx n1 (n1+n2) k=k+1:=by rw[nx,jd h]
  rw[e];clear e;have d:((k:Int)+1)<((n1+n2:Nat):Int):=ω;go_enter Tryz.func63,Tryz.ntmps63;go_wp2_with fail
  refine(EU A1 A2 n1 c1 n2 c2 _ hl).mono ?_;rintro e w1 ⟨rfl,a⟩;go_wp2
  go_ret
  exact⟨BI ω,hb.trans (a.mono ς)⟩
 ·have e:nx n1 (n1+n2) k=n1:=by rw[nx,d9 h]
  rw[e];clear e;have d:¬((k:Int)+1)<((n1+n2:Nat):Int):=ω;go_enter Tryz.func63,Tryz.ntmps63;go_wp2_with fail
  refine(EU A1 A2 n1 c1 n2 c2 _ hl).mono ?_;rintro e w1 ⟨rfl,a⟩;have hc:=bC a ς g.o;go_wp2
  go_ret
  exact⟨rfl,hb.trans (a.mono ς)⟩
set_option maxHeartbeats 4000000
theorem YS {op m:Int}(h:op<1\/12<op):wT ⟨op,m⟩= -1:=by
 unfold wT;rw[d9 (λa=>by have:=a.1;dsimp only at this;omega)];show takes op= -1;unfold takes;(repeat' split)<;>omega
theorem afx (A c f w B)(hf:Sl w B 2 A (η f) c (qP f))(hl:η f<=100000):
  Calls jJ 37 #[.slice A (η f) c] w λe w'=>e=.returned (.bool (wrong f==0))/\w=w':=by
 go_enter Tryz.func37,Tryz.ntmps37;go_wp2
 go_loop [3,4] (λn i=>∃k d:Nat,k<=η f/\d<=k/\i=.int .i64 k/\n=.int .i64 d/\Hd (scan (f.take k) 0=(0,d))) (λ_ i=>η f-(intOf i).toNat)
 case atStart=>exact⟨0,0,ω,ω,rfl,rfl,rfl⟩
 case round=>
  obtain⟨k,d,M,G,rfl,rfl,E⟩:=hrel;by_cases s:k<η f
  ·obtain⟨b,o,rfl,_,H,I⟩:=vZ hf.rd s;have l:=abX s E.o;have q:=abW s E.o;generalize J:f[k]=x at *;obtain⟨op,m⟩:=x;dsimp only at *;generalize hp:wT ⟨op,m⟩=p at *;obtain⟨v,y,r⟩:=iA l q hp;clear l q J hp;rcases ae1 op with rfl|rfl|rfl|rfl|rfl|rfl|rfl|rfl|rfl|rfl|rfl|rfl|h
   case inr.inr.inl=>
    by_cases z:m<0
    ·have d0:decide (m<0)=jD:=by simpa using z
     have hs:=y (.inl (by rw[<-r.o];simp[wT];omega));have u:=dh hs;clear hs z;go_wp2
     go_ret
     exact⟨rH (by have:=u.o;symm;simpa using this),rfl⟩
    ·have d0:decide (m<0)=jE:=by simpa using z
     by_cases C:8<=m
     ·have d8:decide (8<=m)=jD:=by simpa using C
      have hs:=y (.inl (by rw[<-r.o];simp[wT];omega));have u:=dh hs;clear hs z C;go_wp2
      go_ret
      exact⟨rH (by have:=u.o;symm;simpa using this),rfl⟩
     ·have d8:decide (8<=m)=jE:=by simpa using C
      have hp:p=0:=by rw[<-r.o];unfold wT;rw[d9 (λK=>K.2 ⟨by dsimp only;omega,by dsimp only;omega⟩)];rfl
      have g:=v (by rw[hp];omega) (by rw[hp];omega);rw[hp]at g;have j:=dh g;clear g hp z C;have D:decide ((d:Int)<0)=jE:=ς;go_wp2
      go_round
      case rel=>exact⟨k+1,d+1,ω,ω,by go_num,by go_num,j⟩
      case measure=>simp[intOf];omega
   case inr.inr.inr.inr.inr.inr.inr.inr.inr.inr.inr.inr=>
    have hs:=y (.inl (by rw[<-r.o,YS h];omega));have u:=dh hs;clear hs;rcases h with h|h
    ·have d1:decide (op<1)=jD:=by simpa using h
     clear h;go_wp2
     go_ret
     exact⟨rH (by have:=u.o;symm;simpa using this),rfl⟩
    ·have d1:decide (op<1)=jE:=by simp;omega
     have d2:decide (12<op)=jD:=by simpa using h
     clear h;go_wp2
     go_ret
     exact⟨rH (by have:=u.o;symm;simpa using this),rfl⟩
   case inl=>
    have j:=dh (show scan (f.take (k+1)) 0=(0,d+1)from by
     have t:p=0:=by rw[<-r.o];simp[wT,takes]
     have:=v ω ω;rw[t]at this;exact this)
    have D:decide ((d:Int)<0)=jE:=ς;go_wp2
    go_round
    case rel=>exact⟨k+1,d+1,ω,ω,by go_num,by go_num,j⟩
    case measure=>simp[intOf];omega
   case inr.inl=>
    have j:=dh (show scan (f.take (k+1)) 0=(0,d+1)from by
     have t:p=0:=by rw[<-r.o];simp[wT,takes]
     have:=v ω ω;rw[t]at this;exact this)
    have D:decide ((d:Int)<0)=jE:=ς;go_wp2
    go_round
    case rel=>exact⟨k+1,d+1,ω,ω,by go_num,by go_num,j⟩
    case measure=>simp[intOf];omega
   all_goals first
    |(have a:p=1:=by rw[<-r.o];simp[wT,takes];done
      by_cases hd:(d:Int)<1
      ·have hs:=dh (y (.inr (by rw[a];exact hd)));clear a;go_wp2
       go_ret
       exact⟨rH (by have:=hs.out;symm;simpa using this),rfl⟩
      ·have D:decide ((d:Int)<1)=jE:=by simpa using hd
       have g:=v (by rw[a];omega) (by rw[a];omega);rw[a]at g;have j:=dh g;clear g a;go_wp2
       go_round
       case rel=>exact⟨k+1,d-1+1,ω,ω,by go_num,by congr 1;omega,j⟩
       case measure=>simp[intOf];omega)
    |(have a:p=2:=by rw[<-r.o];simp[wT,takes];done
      by_cases hd:(d:Int)<2
      ·have hs:=dh (y (.inr (by rw[a];exact hd)));clear a;go_wp2
       go_ret
       exact⟨rH (by have:=hs.out;symm;simpa using this),rfl⟩
      ·have D:decide ((d:Int)<2)=jE:=by simpa using hd
       have g:=v (by rw[a];omega) (by rw[a];omega);rw[a]at g;have j:=dh g;clear g a;go_wp2
       go_round
       case rel=>exact⟨k+1,d-2+1,ω,ω,by go_num,by congr 1;omega,j⟩
       case measure=>simp[intOf];omega)
  ·have F:k=η f:=ω;subst F;have hs:=E.o;rw[tL lR]at hs;have L:=dh (abY hs);clear hs;go_wp2
   go_ret
   exact⟨rH L.symm,rfl⟩
theorem acB {e:Nat}(hb:base<=w.1.size)(a:n<=maxLen):(w.alloc (.cells (madeCells #[v] n) e)).ownsRow base e 1 (.slice (jB ⟨w.1.size,0,jC⟩) n n) n (ρ n v):=by
 have hm:(madeCells #[v] n).toList=ρ n v:=toList_madeCells_one _ _;have hs:(madeCells #[v] n).size=n:=by have:=jM List.length hm;simpa using this
 refine⟨ς,.inr ⟨w.1.size,n,_,rfl,hb,heap_alloc_new w _,lR,a,by rw[hs,mU],?_⟩⟩;rw[tL (by rw[mI,hs];omega)];exact hm
theorem Fill.below {w2:jF}(h:Fill w wr g n F k)(hb:Below wr.1.size wr w2):Fill w w2 g n F k:=⟨own_below h.own hb,h.xq.trans (hb.mono h.xq.size)⟩
structure NY (w wr:jF)(g n:Nat)(l:List Bool):Prop where
 own:wr.ownsRow w.1.size 4 1 (.slice (jB ⟨g,0,jC⟩) n n) n (qV l)
 xq:Below w.1.size w wr
section
variable {w wr w2:jF}{g n:Nat}{l:List Bool}
theorem NY.len (h:NY w wr g n l):η l=n:=by have:=h.own.1;rw[yV]at this;omega
theorem NY.lt (h:NY w wr g n l):w.1.size<=g/\g<wr.1.size:=h.own.lt g rfl
theorem NY.below (h:NY w wr g n l)(hb:Below wr.1.size wr w2):NY w w2 g n l:=⟨own_below h.own hb,h.xq.trans (hb.mono h.xq.size)⟩
theorem NY.cell (h:NY w wr g n l)(a:k<n):wr.cell? ⟨g,k,jC⟩=jB (.bool (l.getD k jE))/\wr.frozen? ⟨g,k,jC⟩=jE:=by
 refine⟨?_,h.own.frozenAt k⟩;rw[h.own.cellAt k ω];exact tV (by rw[h.len];exact a)
theorem NY.put (h:NY w wr g n l)(k b):NY w (wr.setCell ⟨g,k,jC⟩ (.bool b)) g n (l.set k b):=by
 refine⟨?_,?_⟩
 ·have:=(h.own.stored k (.bool b)).1;rw[show qV (l.set k b)=(qV l).set k (.bool b) by simp[qV]];exact this
 ·exact h.xq.trans ((qW.uy (h.own.stored k (.bool b)).2).below h.xq.size (λj a e=>by cases e;have:=h.lt;omega))
end
def Fj (n:Nat)(c:Bool)(k:Nat):List Bool:=(ζ n).map λi=>if i<k then c else jE
theorem ZO (n c):Fj n c 0=ρ n jE:=by apply jw<;>simp[Fj]
theorem ZP (_hk:k<n):(Fj n c k).set k c=Fj n c (k+1):=by
 apply jw (by simp[Fj]);intro i a b;simp[Fj]at a;simp only[Fj,mq,lJ,l9];by_cases e:k=i
 ·subst e;simp
 ·rw[d9 e];by_cases h:i<k
  ·rw[jd h,jd ω]
  ·rw[d9 h,d9 ω]
theorem adp (n c):Fj n c n=ρ n c:=by
 apply jw (by simp[Fj]);intro i a b;simp[Fj]at a;simp[Fj,a]
set_option maxHeartbeats 4000000
theorem DL (w n)(h:n<=1000000):NY w (w.alloc (.cells (madeCells #[.bool jE] n) 4)) w.1.size n (ρ n jE):=by
 refine⟨?_,bR.alloc lR _⟩;have:=acB (w:=w) (base:=w.1.size) (e:=4) (n:=n) (v:=.bool jE) lR (by unfold maxLen;omega);rw[qV,nH];exact this
theorem ES (n:Nat)(v w)(hl:n<=1000000):
  Calls jJ 60 #[.int .i64 (n:Int),.bool v] w (sI w 4 1 n (qV (ρ n v)) False):=by
 have j:=run_make_row' (P:=jJ) 64 4 (.bool jE) 1 Tryz.underlying64 wN rfl .i64 .i64 n ω ω;have e:=dh (DL w n hl);go_enter Tryz.func60,Tryz.ntmps60;go_wp2
 go_loopw [6] (λi wr=>∃k:Nat,k<=n/\i=.int .i64 k/\NY w wr w.1.size n (Fj n v k)) (λi _=>n-(intOf i).toNat)
 case atStart=>exact⟨0,ω,rfl,by rw[ZO];exact e.o⟩
 case round=>
  clear e;obtain⟨k,m,rfl,b⟩:=hrel;by_cases c:k<n
  ·obtain⟨hc,hf⟩:=b.cell c;have a:=b.put k v;rw[ZP c]at a;have l:=dh a;clear a b;generalize (Fj n v k).getD k jE=u at *;go_wp2
   go_roundw
   case rel=>exact⟨k+1,ω,by go_num,l.o⟩
   case measure=>simp[intOf];omega
  ·have d:k=n:=ω;subst d;rw[adp]at b;have g:=dh b;clear b;go_wp2
   go_ret
   exact⟨_,rfl,g.own,g.xq,ς⟩
def MB (a:List Bool)(k:Nat):List Bool:=(ζ (η a)).map λi=>if i<k then !a.getD i jE else jE
theorem acM (a):MB a 0=ρ (η a) jE:=by apply jw<;>simp[MB]
theorem acN {a:List Bool}:(MB a k).set k (!a.getD k jE)=MB a (k+1):=by
 apply jw (by simp[MB]);intro i b c;simp only[MB,mq,lJ,l9];by_cases e:k=i
 ·subst e;simp
 ·rw[d9 e];by_cases h:i<k
  ·rw[jd h,jd ω]
  ·rw[d9 h,d9 ω]
theorem afp (a):MB a (η a)=sH a:=by
 apply jw (by simp[MB,sH]);intro i b c;simp[MB]at b;simp[MB,sH,b]
theorem ER (A n c a w B)(q:n=η a)(hs:Sl w B 1 A n c (qV a))(v:B<=w.1.size)(hl:n<=1000000):
  Calls jJ 61 #[.slice A n c] w (sI w 4 1 n (qV (sH a)) False):=by
 have y:=run_make_row' (P:=jJ) 64 4 (.bool jE) 1 Tryz.underlying64 wN rfl .i64 .i64 n ω ω;obtain⟨r,m,z⟩:=iA (DL w n hl) q hs;clear q hs;go_enter Tryz.func61,Tryz.ntmps61;go_wp2
 go_loopw [4] (λi wr=>∃k:Nat,k<=n/\i=.int .i64 k/\NY w wr w.1.size n (MB a k)) (λi _=>n-(intOf i).toNat)
 case atStart=>exact⟨0,ω,rfl,by rw[acM,<-m.o];exact r.o⟩
 case round=>
  clear r;obtain⟨k,F,rfl,d⟩:=hrel;by_cases j:k<n
  ·obtain⟨hc,hf⟩:=d.cell j;obtain⟨b,o,rfl,C,D⟩:=(z.below d.xq v).rd.at_ (tV (l:=a) (i:=k) (by rw[<-m.o];exact j));have g:=d.put k (!a.getD k jE);rw[acN]at g;have E:=dh g;clear g d;generalize (MB a k).getD k jE=u at *;generalize a.getD k jE=x at *;go_wp2
   go_roundw
   case rel=>exact⟨k+1,ω,by go_num,E.o⟩
   case measure=>simp[intOf];omega
  ·have p:k=n:=ω;subst p;have e:MB a k=sH a:=by rw[m.o,afp]
   rw[e]at d;have s:=dh d;clear d e;go_wp2
   go_ret
   exact⟨_,rfl,s.own,s.xq,ς⟩
theorem FN (A1 A2 A A' n1 c1 n2 c2 n c n' c' a b w B)(hl:n1+n2<=60000)(h2:0<n2)(ha:n=n1+n2)(hb:n'=n1+n2)(I:η a=n1+n2)(hs:Sl w B 1 A n c (qV a))(J:η b=n1+n2)(K:Sl w B 1 A' n' c' (qV b))(hB:B<=w.1.size):
  Calls jJ 62 #[.agg #[.slice A1 n1 c1,.slice A2 n2 c2],.slice A n c,.slice A' n' c'] w (sI w 4 1 (n1+n2) (qV (Gs n1 a b)) False):=by
 obtain⟨C,x0,Y⟩:=GA w A1 A2 n1 c1 n2 c2;obtain⟨w0,D⟩:=xR (w.alloc (.cells #[.slice A1 n1 c1,.slice A2 n2 c2] 25));have L:w0.1.size=w.1.size+1:=by rw[D];simp
 rw[<-D]at C x0 Y;obtain⟨M,HX⟩:=iw D (And.intro x0 Y);have O:w.1.size<w0.1.size:=ω;have F:w.1.size<=w0.1.size:=ω;have Z:=dh (λ(k:Nat) (w':jF) (hk:k<n1+n2)=>RQ A1 A2 n1 c1 n2 c2 k w' hl hk);have Q:n1<n1+n2:=ω;have y:=Q6 (lp:=n1) (a:=a) (b:=b) ω;rw[I]at y;subst ha hb;obtain⟨HA,HB⟩:=iw (hs.below C hB) (K.below C hB);generalize hN:n1+n2=N at *;have aj:=run_make_row' (P:=jJ) 64 4 (.bool jE) 1 Tryz.underlying64 wN rfl .i64 .i64 N ω ω;have h0:=DL w0 N ω;rw[L]at h0;obtain⟨H0,a1,a6,HT⟩:=iB h0 I J y;have G:B<=w0.1.size:=ω;clear D L hN h0 I J y hs K x0 Y;go_enter Tryz.func62,Tryz.ntmps62;go_wp2_with fail
 rw[<-M.o];clear M;go_wp2
 go_loopw [8] (λi wr=>∃t:Nat,t<=3/\i=.int .i64 t/\NY w0 wr (w.1.size+1) N (if t=0 then ρ N jE else if t=1 then Bl (Gv a b) N n1 (ρ N jE)else if t=2 then BH (Gv a b) N n1 jE else Bl (Gv a b) N n1 (BH (Gv a b) N n1 jE))) (λi _=>3-(intOf i).toNat)
 case atStart=>exact⟨0,ω,rfl,H0.o⟩
 case round=>
  clear H0;obtain⟨t,ht,rfl,d⟩:=hrel;by_cases ak:t<3
  ·have q:=dh d;clear d;obtain⟨old,hold⟩:=xR (if t=0 then ρ N jE else if t=1 then Bl (Gv a b) N n1 (ρ N jE)else if t=2 then BH (Gv a b) N n1 jE else Bl (Gv a b) N n1 (BH (Gv a b) N n1 jE));rw[<-hold]at q;have z:=q.len
   have H:Bl (Gv a b) N n1 old=(if t+1=0 then ρ N jE else if t+1=1 then Bl (Gv a b) N n1 (ρ N jE)else if t+1=2 then BH (Gv a b) N n1 jE else Bl (Gv a b) N n1 (BH (Gv a b) N n1 jE)):=by
    rw[hold];rcases(show t=0\/t=1\/t=2 by omega)with rfl|rfl|rfl
    ·simp
    ·simp[BH]
    ·simp
   obtain⟨a7,a8⟩:=iw H z;have ao:decide ((t:Int)<3)=jD:=by simp;omega
   clear H hold z;go_wp2
   go_loopw [9] (λi ad=>∃j:Nat,j<=N/\i=.int .i64 ((j:Int)-1)/\NY w0 ad (w.1.size+1) N (RA (Gv a b) N n1 old j)) (λi _=>(intOf i+1).toNat)
   case atStart=>exact⟨N,ω,by go_num,by rw[abK a8.o];exact q.o⟩
   case round=>
    clear q;obtain⟨j,hj,rfl,d⟩:=hrel;by_cases R:j=0
    ·subst R;have q:=dh d;clear d;go_wp2
     go_roundw
     case rel=>exact⟨t+1,ω,by go_num,by rw[<-a7.o];exact q.o⟩
     case measure=>simp[intOf];omega
    ·obtain⟨i,rfl⟩:∃i,j=i+1:=⟨j-1,ω⟩;have ei:(((i+1:Nat):Int)-1)=(i:Int):=ω;rw[ei];clear ei R;have s:i<N:=ω;have aq:=bC d.xq O HX.1;have ar:=bC d.xq O HX.2;obtain⟨ba,oa,rfl,au,S⟩:=(HA.below d.xq G).rd.at_ (tV (l:=a) (i:=i) (by rw[a1.o];exact s));obtain⟨bb,ob,rfl,av,T⟩:=(HB.below d.xq G).rd.at_ (tV (l:=b) (i:=i) (by rw[a6.o];exact s));have U:=yQ (lp:=n1) (n:=N) (i:=i) Q;have g:=aeb (of:=Gv a b) (old:=old) s Q;obtain⟨hc,hf⟩:=d.cell s;cases r:b.getD i jE
     ·rw[r]at T;cases x:a.getD i jE
      ·rw[x]at S;have e:∀v,Gv a b i v=jE:=λv=>by unfold Gv;rw[r,x];rfl
       have p:=d.put i jE;rw[e]at g;rw[g]at p;have V:=dh p;generalize (RA (Gv a b) N n1 old (i+1)).getD i jE=u at *;clear p g e r x d;go_wp2
       go_roundw
       case rel=>exact⟨i,ω,by go_num,V.o⟩
       case measure=>simp[intOf]<;>omega
      ·rw[x]at S;have e:∀v,Gv a b i v=v:=λv=>by unfold Gv;rw[r,x];rfl
       rw[e]at g;obtain⟨W,af,X⟩:=iA g d (Z i wr s);clear g e r x d hc hf;generalize nx n1 N i=m at *;go_wp2_with fail
       refine Calls.mono X ?_;rintro e w5 ⟨rfl,ag⟩;have E:=af.below ag;obtain⟨aw,ax⟩:=E.cell U;obtain⟨ay,az⟩:=E.cell s;have p:=E.put i ((RA (Gv a b) N n1 old (i+1)).getD m jE);rw[W.o]at p;have V:=dh p;generalize (RA (Gv a b) N n1 old (i+1)).getD m jE=v at *;generalize (RA (Gv a b) N n1 old (i+1)).getD i jE=u at *;clear p E;go_wp2
       go_roundw
       case rel=>exact⟨i,ω,by go_num,V.o⟩
       case measure=>simp[intOf]<;>omega
     ·rw[r]at T;have e:∀v,Gv a b i v=jD:=λv=>by unfold Gv;rw[r];rfl
      have p:=d.put i jD;rw[e]at g;rw[g]at p;have V:=dh p;generalize (RA (Gv a b) N n1 old (i+1)).getD i jE=u at *;clear p g e r d;go_wp2
      go_roundw
      case rel=>exact⟨i,ω,by go_num,V.o⟩
      case measure=>simp[intOf]<;>omega
  ·have ah:t=3:=ω;subst ah;simp only[show ¬((3:Nat)=0) by decide,show ¬((3:Nat)=1) by decide,show ¬((3:Nat)=2) by decide,nI]at d;rw[HT.o]at d;have q:=dh d;clear d;go_wp2
   go_ret
   exact⟨_,rfl,rC q.own F,C.trans (q.xq.mono F),ς⟩
structure NI (st lo:List Int)(m a:Nat):Prop where
 le:m<=η st
 lt:a<yJ lo
 ro:roll (AY st lo) (yJ lo) (η st)=roll (AY st lo) (yJ lo) m
 at_:∀j,j<yJ lo->AY st lo (m+j)=lo.getD ((a+j)%yJ lo) 0
theorem NI.last {a:Nat}(hi:NI st lo (m+1) a):AY st lo (m+yJ lo)=lo.getD ((a+yJ lo-1)%yJ lo) 0:=by
 have hp:=hi.lt;have:=hi.at_ (yJ lo-1) ω;rw[show m+1+(yJ lo-1)=m+yJ lo by omega,show a+(yJ lo-1)=a+yJ lo-1 by omega]at this;exact this
theorem NI.zero {a:Nat}(hi:NI st lo 0 a):aio st lo=0:=by rw[aio,hi.ro,roll]
def wH (st lo:List Int)(m:Int)(k:Nat):Bool:=(Go.bits .and .u64 (AY st lo k/2^m.toNat) 1==1)
structure agI (w:jF)(bx:Nat)(n:Nat)(l:List Bool):Prop where
 ex:∃A c,w.cell? ⟨bx,0,jC⟩=jB (.slice A n c)/\Sl w w.1.size 1 A n c (qV l)/\bx<w.1.size
theorem agI.below (h:agI w bx n l)(hb:Below w.1.size w w'):agI w' bx n l:=by
 obtain⟨A,c,b,d,a⟩:=h.ex;exact⟨A,c,bC hb a b,(d.below hb lR).up hb.size,jh a hb.size⟩
theorem agI.at_ (h:agI w bx n l)(e:k<n):∃b o c,w.cell? ⟨bx,0,jC⟩=jB (.slice (jB ⟨b,o,jC⟩) n c)/\w.cell? ⟨b,o+k,jC⟩=jB (.bool (l.getD k jE)):=by
 obtain⟨A,c,d,a,f⟩:=h.ex;have hl:η l=n:=by have:=a.len;rw[yV]at this;omega
 obtain⟨b,o,rfl,_,hc⟩:=a.rd.at_ (tV (i:=k) (l:=l) ω);exact⟨b,o,c,d,hc⟩
def ajy (w:jF)(lb:Nat)(A1 A2:Option Addr)(n1 c1 n2 c2:Nat):Prop:=
 lb<w.1.size/\w.cell? ⟨lb,0,jC⟩=jB (.slice A1 n1 c1)/\w.cell? ⟨lb,1,jC⟩=jB (.slice A2 n2 c2)/\w.cell? ⟨lb,2,jC⟩=jB (.int .i64 ((n1+n2:Nat):Int))/\w.cell? ⟨lb,3,jC⟩=jB (.int .i64 (n1:Int))
theorem ajy.below {lb:Nat}(h:ajy w lb A1 A2 n1 c1 n2 c2)(hb:Below w.1.size w w'):ajy w' lb A1 A2 n1 c1 n2 c2:=
 ⟨jh h.1 hb.size,bC hb h.1 h.2.1,bC hb h.1 h.2.2.1,bC hb h.1 h.2.2.2.1,bC hb h.1 h.2.2.2.2⟩
theorem zO {a b:List Bool}(h:¬(x.op=9\/x.op=10\/x.op=11\/x.op=12)):qY bits n lp x a b=(ζ n).map (tJ (bits x.n) x n lp a b):=by
 simp only[not_or]at h;rw[qY,d9 h.1,d9 h.2.1,d9 h.2.2.1,d9 h.2.2.2]
section
variable {bits:Int->Nat->Bool}{n lp:Nat}{f:List Nd}
def xw (bits:Int->Nat->Bool)(n lp:Nat)(f:List Nd)(k:Nat):List (List Bool)×List (List Bool):=(f.take k).foldl (D6 bits n lp) ([],[])
theorem Da (a:k<η f):xw bits n lp f (k+1)=D6 bits n lp (xw bits n lp f k) f[k]:=by
 rw[xw,rE f k a,jK];rfl
structure aki (bits:Int->Nat->Bool)(n lp:Nat)(f:List Nd)(k:Nat):Prop where
 len:(xw bits n lp f k).1.length=(runs (f.take k)).1.length
 row:∀r∈(xw bits n lp f k).1,η r=n
 all:(xw bits n lp f k).2.length=k
 rows:∀r∈(xw bits n lp f k).2,η r=n
theorem OY (hw:wrong f=0):∀k,k<=η f->aki bits n lp f k
 |0,_=>⟨by simp[xw,runs],by simp[xw],by simp[xw],by simp[xw]⟩
 |k+1,q=>by
  have a:k<η f:=ω;obtain⟨s,g,l,m⟩:=OY hw k ω;obtain⟨hs,hb⟩:=Li hw a;obtain⟨t,hle,_⟩:=x9 hb;have o:=zY f[k].op;have p:=IK a
  have c:η (qY bits n lp f[k] (if takes f[k].op=1 then(xw bits n lp f k).1.getD ((xw bits n lp f k).1.length-1) []else if takes f[k].op=2 then(xw bits n lp f k).1.getD ((xw bits n lp f k).1.length-2) []else[]) (if takes f[k].op=2 then(xw bits n lp f k).1.getD ((xw bits n lp f k).1.length-1) []else[]))=n:=by
   refine Ea (λu=>?_)
   have d:∀j,j<(xw bits n lp f k).1.length->η ((xw bits n lp f k).1.getD j [])=n:=λj i=>by
    rw[gD,gE i];exact g _ (mM i)
   by_cases e:takes f[k].op=1
   ·rw[jd e];exact d _ ω
   ·rw[d9 e,jd ω];exact d _ ω
  refine⟨?_,?_,?_,?_⟩
  ·rw[Da a,p,D6,Jo];simp only[lA,jq,jP,lD];omega
  ·rw[Da a];intro r b;simp only[D6,ν,mS]at b;rcases b with h|h
   ·exact g r (List.mem_of_mem_take h)
   ·rw[h];exact c
  ·rw[Da a,D6];simp[l]
  ·rw[Da a];intro r b;simp only[D6,ν,mS]at b;rcases b with h|h
   ·exact m r h
   ·rw[h];exact c
theorem Vl (hw:wrong f=0)(a:k<η f):0<=takes f[k].op/\takes f[k].op<=((xw bits n lp f k).1.length:Int)/\(f[k].op=3->0<=f[k].n/\f[k].n<8):=by
 rw[(OY (bits:=bits) (n:=n) (lp:=lp) hw k ω).len];exact x9 (Li hw a).2
theorem abC:(xw bits n lp f (η f)).2=KS bits n lp f:=by rw[xw,tL lR];rfl
end
def xu (bits:Int->Nat->Bool)(f:List Nd)(st lo:List Int):List (List Bool):=if lo≠[]/\wrong f=0 then KS bits (η st+η lo) (η st) f else[]
def Bb (w:jF)(A:Option Addr):Prop:=∀a,A=jB a->∃cs,w.1[a.block]? =jB (.cells cs 4 (0,0))
theorem Bb.below (h:Bb w A)(hb:Below w.1.size w w'):Bb w' A:=λa b=>by
 obtain⟨cs,hc⟩:=h a b;exact⟨cs,(hb.block _ (lt_of_block hc)).trans hc⟩
theorem aeW {c:Nat}(h:w.ownsRow base 4 size (.slice A m c) n xs):Bb w A:=λa b=>by
 rcases h.2 with⟨d,_⟩|⟨g,cap,cur,hv,_,e,_⟩
 ·cases d;cases b
 ·cases hv;cases b;exact⟨cur,e⟩
theorem adw {b o:Nat}(h:w'.1[b]? =w.1[b]?):w'.cell? ⟨b,o,jC⟩=w.cell? ⟨b,o,jC⟩:=by
 simp[jF.cell?,h]
theorem Sl.ajP {S:Nat->Prop}{B' c:Nat}(h:Sl w B size A n c xs)(d:qW S w w')(hs:∀a,A=jB a->¬S a.block)(i:B<=w.1.size)(e:B<=B'):Sl w' B' size A n c xs:=by
 refine {h with rd:=?_};rcases h.rd with f|⟨b,off,hA,hb,hc⟩
 ·exact .inl f
 ·refine .inr ⟨b,off,hA,ω,λj u g=>?_⟩;rw[adw (d.block b ω (hs _ hA))];exact hc j u g
def Tg (w:jF)(B n:Nat)(v:Value)(st:List (List Bool))(vs:List Value):Prop:=
 w.ownsRow B 64 1 v (η st) vs/\∀(j:Nat) r,st[j]? =jB r->∃A c,vs[j]? =jB (.slice A n c)/\Sl w w.1.size 1 A n c (qV r)/\Bb w A
section
variable {w w1 w2:jF}{B n m c g cap:Nat}{v v2:Value}{st:List (List Bool)}{vs:List Value}{A:Option Addr}{r:List Bool}{S:Nat->Prop}
theorem Tg.nil (w B n):Tg w B n (.slice jC 0 0) [] []:=⟨jF.ownsRow_nil _ _ _ _,ς⟩
theorem LA (h:w.ownsRow B 64 1 v k xs)(hA:Bb w A):∀a,A=jB a->v.ownBlock≠jB a.block:=λa b c=>by
 obtain⟨cs,hc⟩:=hA a b;exact qQ h hc δ c
theorem Tg.uQ (h:Tg w B n v st vs)(e:qW S w w1)(k:∀g,v.ownBlock=jB g->¬S g)(f:∀A:Option Addr,Bb w A->∀a,A=jB a->¬S a.block):Tg w1 B n v st vs:=by
 refine⟨qR h.1 e k,λj r l=>?_⟩;obtain⟨A,c,a,b,d⟩:=h.2 j r l;refine⟨A,c,a,b.ajP e (f A d) lR e.size,λx i=>?_⟩;obtain⟨cs,hc⟩:=d x i;exact⟨cs,e.blk hc (f A d x i)⟩
theorem Tg.below (h:Tg w B n v st vs)(hb:Below w.1.size w w1):Tg w1 B n v st vs:=
 h.uQ (qW.of_below hb) (λg b=>by have:=(h.1.lt g b).2;omega) (λA hA a c=>by
  obtain⟨cs,hc⟩:=hA a c;have:=lt_of_block hc;omega)
theorem Tg.cut (h:Tg w B n (.slice A m c) st vs)(g:k<=η st):Tg w B n (.slice A k c) (st.take k) (vs.take k):=by
 have l:m=η st:=by
  obtain⟨A',c',hv,_⟩:=CF h.1;cases hv;rfl
 subst l;have i:=Eb h.1 g;rw[mU]at i;refine⟨by rw[jq,mg g];exact i,λj r e=>?_⟩;rw[nX]at e;split at e
 ·rename_i f;obtain⟨A',c',a,b,d⟩:=h.2 j r e;exact⟨A',c',by rw[nX,jd f];exact a,b,d⟩
 ·cases e
theorem Tg.push (h:Tg w B n v st vs)(o:Sl w w.1.size 1 A n c (qV r))(hA:Bb w A)(f:w2.ownsRow B 64 1 v2 (η st+1) (vs++[.slice A n c]))(g:qW (λk=>v.ownBlock=jB k) w w2):
  Tg w2 B n v2 (st++[r]) (vs++[.slice A n c]):=by
 have hlen:η vs=η st:=by rw[h.1.1];simp
 have keep:∀(A':Option Addr) c' (r':List Bool),Sl w w.1.size 1 A' n c' (qV r')->Bb w A'->Sl w2 w2.1.size 1 A' n c' (qV r')/\Bb w2 A':=λA' c' r' hs i=>by
  refine⟨hs.ajP g (LA h.1 i) lR g.size,λa p=>?_⟩;obtain⟨cs,hc⟩:=i a p;exact⟨cs,g.blk hc (LA h.1 i a p)⟩
 refine⟨by simpa using f,λj r' e=>?_⟩;by_cases l:j<η st
 ·rw[gC l]at e;obtain⟨A',c',a,b,d⟩:=h.2 j r' e;exact⟨A',c',by rw[gC ω];exact a,(keep A' c' r' b d).1,(keep A' c' r' b d).2⟩
 ·have m:j=η st:=by
   have:=(gB.1 e).1;simp at this;omega
  subst m;rw[gR lR]at e;simp at e;subst e;exact⟨A,c,by rw[gR ω,hlen];simp,(keep A c r o hA).1,(keep A c r o hA).2⟩
theorem Tg.at_ (h:Tg w B n (.slice (jB ⟨g,0,jC⟩) m cap) st vs){j:Nat}(d:j<η st):∃A c,w.cell? ⟨g,j,jC⟩=jB (.slice A n c)/\Sl w w.1.size 1 A n c (qV st[j]):=by
 obtain⟨A,c,a,b,_⟩:=h.2 j st[j] (by simp[d])
 have e:m=η st:=by
  obtain⟨A',c',hv,_⟩:=CF h.1;cases hv;rfl
 subst e;exact⟨A,c,by rw[h.1.cellAt j ω];exact a,b⟩
theorem zw.uQ {R:List (List Bool)}(h:zw w0 w v R)(e:qW S w w1)(hS:∀g,S g->w0.1.size<=g)(l:∀g,v.ownBlock=jB g->¬S g)(m:∀A:Option Addr,Bb w A->∀a,A=jB a->¬S a.block):zw w0 w1 v R:=by
 obtain⟨us,a,b,d⟩:=h;refine⟨us,qR a e l,λj r n=>?_,d.trans (e.below d.size (λg c hs=>by have:=hS g hs;omega))⟩;obtain⟨u,hu,f⟩:=b j r n;refine⟨u,hu,qR f e (λg c=>?_)⟩;obtain⟨A',c',rfl,_⟩:=qX f;rcases A' with _|k
 ·simp[Value.ownBlock]at c
 ·have i:=aeW f;have:g=k.block:=by simp[Value.ownBlock]at c;exact c.symm
  rw[this];exact m _ i k rfl
end
def TRl (w:jF)(N:Nat)(s:List (List Bool)×List (List Bool))(vl vo:Value)(wr:jF):Prop:=
 ∃ig,Tg wr w.1.size N vl s.1 ig/\zw w wr vo s.2/\∀g,vl.ownBlock=jB g->vo.ownBlock≠jB g
structure ajX (w:jF)(N:Nat)(left out:List (List Bool))(vl vo:Value)(w7:jF)(u:Value)(r:List Bool)(ig:List Value):Prop where
 lsk:Tg w7 w.1.size N vl left ig
 grid:zw w w7 vo out
 U0:∀g,vl.ownBlock=jB g->vo.ownBlock≠jB g
 row:w7.ownsRow w.1.size 4 1 u N (qV r)
theorem OW {l:jF}{t C cl:Nat}{j:Option Addr}{p:Value}(E:Tg wr w.1.size N (.slice j d cl) left ig)(hd:d=η left)(F:zw w wr vo out)
  (D:∀g,(Value.slice j d cl).ownBlock=jB g->vo.ownBlock≠jB g)(m:Below wr.1.size wr l)(a:l.ownsRow C 4 1 (.slice A6 N c6) N (qV r))(q:w.1.size<=C)
  (i:w7.ownsRow w.1.size 64 1 p (d-t+1) (ig.take (d-t)++[.slice A6 N c6]))(s:qW (λk=>(Value.slice j (d-t) cl).ownBlock=jB k) (l.alloc O) w7)
  (n:p.ownBlock=(Value.slice j (d-t) cl).ownBlock\/p.ownBlock=jB (l.alloc O).1.size):ajX w N (left.take (d-t)++[r]) out p vo w7 (.slice A6 N c6) r (ig.take (d-t)++[.slice A6 N c6]):=by
 have u:=E.below m;have hC:=u.cut (k:=d-t) ω;have v:η (left.take (d-t))=d-t:=by rw[jq];omega
 have c:=qW.trans ((qW.refl _ l).alloc _) s (λ_ _ h=>h);have x:=aeW a;obtain⟨A',c',y,z⟩:=qX a;cases y;have f:(Value.slice j (d-t) cl).ownBlock=(Value.slice j d cl).ownBlock:=G9 _ _ _ _ _;have o:=F.below m;refine⟨hC.push z x (by rw[v];exact i) c,o.uQ c (λg e=>(hC.1.lt g e).1) (λg e b=>D g (by rw[<-f];exact b) e) (λA hA=>LA hC.1 hA),?_,rC (qR a c (λg e b=>own_ne a hC.1 δ g e b)) q⟩;intro g e b;rcases n with h|h
 ·rw[h,f]at e;exact D g e b
 ·rw[h]at e;cases e;obtain⟨G,B,_⟩:=o;have:=(B.lt _ b).2;simp at this;omega
theorem TG {n:jF}{vl l:Value}{c:List Value}(d:ajX w N left out vl vo w7 (.slice A6 N c6) r ig)(f:w7.ownsRow w.1.size 64 1 vo (η out) c)
  (o:∀(j:Nat) (r:List Bool),out[j]? =jB r->∃u,c[j]? =jB u/\w7.ownsRow w.1.size 4 1 u (η r) (qV r))
  (e:n.ownsRow w.1.size 64 1 l (η out+1) (c++[.slice A6 N c6]))(p:qW (λk=>vo.ownBlock=jB k) (w7.alloc O) n)
  (i:l.ownBlock=vo.ownBlock\/l.ownBlock=jB (w7.alloc O).1.size):TRl w N (left,out++[r]) vl l n:=by
 have b:=qW.trans ((qW.refl _ w7).alloc _) p (λ_ _ h=>h);have q:η r=N:=by have:=d.row.1;rw[yV]at this;omega
 refine⟨ig,d.lsk.uQ b (λg m a=>d.U0 g m a) (λA hA=>LA f hA),d.grid.push (by rw[q];exact d.row) f e b o,?_⟩;intro g m a;rcases i with h|h
 ·rw[h]at a;exact d.U0 g m a
 ·rw[h]at a;cases a;have:=(d.lsk.1.lt _ m).2;simp at this;omega
def Ey (bits:Int->Nat->Bool)(f:List Nd)(st lo:List Int):Bool:=decide (0<η (xu bits f st lo))&&((xu bits f st lo).getD (η (xu bits f st lo)-1) []).getD 0 jE
theorem M7 (h:lo≠[])(hw:wrong f=0):0<η f/\η (xu bits f st lo)=η f/\
  (xu bits f st lo)[η f-1]? =jB (val bits (η st+η lo) (η st) (sF f))/\η (val bits (η st+η lo) (η st) (sF f))=η st+η lo:=by
 have hp:0<η f:=by
  rcases f with _|⟨x,r⟩
  ·simp[wrong]at hw
  ·simp
 refine⟨hp,?_,?_,?_⟩
 ·rw[xu,jd ⟨h,hw⟩,ab5]
 ·rw[xu,jd ⟨h,hw⟩];exact YC hw
 ·exact adU hw
theorem Nv (h:lo≠[])(hw:wrong f=0):Ey bits f st lo=(val bits (η st+η lo) (η st) (sF f)).getD 0 jE:=by
 obtain⟨a,b,c,d⟩:=M7 (bits:=bits) (st:=st) h hw;rw[Ey,b,gD (l:=xu bits f st lo),c];simp[a]
theorem ajj (w x y):Below w.1.size w ((w.alloc x).alloc y)/\((w.alloc x).alloc y).1[w.1.size]? =jB x/\((w.alloc x).alloc y).1[w.1.size+1]? =jB y/\((w.alloc x).alloc y).1.size=w.1.size+2:=by
 refine⟨(bR.alloc lR _).alloc ς _,?_,?_,ς⟩
 ·rw[Below.heap_alloc _ _ _ ς];exact heap_alloc_new w x
 ·have:=heap_alloc_new (w.alloc x) y;rwa [show(w.alloc x).1.size=w.1.size+1 by simp]at this
section
variable {w0 W W':jF}{l1 l2 l1' l2':Nat}{p p':List Int×List Int}{v v':Option (Value×Value)}{g g':Option Nat}
theorem LW {W:jF}{g0:Nat}(h:W.1[g0]? =jB (.cells #[a,b] T (0,0))):(W.cell? ⟨g0,0,jC⟩=jB a/\W.cell? ⟨g0,1,jC⟩=jB b)/\(W.frozen? ⟨g0,0,jC⟩=jE/\W.frozen? ⟨g0,1,jC⟩=jE):=
 ⟨⟨cR h,cR h⟩,⟨frozen_of_row _ _ 0 _ _ h,frozen_of_row _ _ 1 _ _ h⟩⟩
end
set_option maxHeartbeats 4000000
set_option maxRecDepth 100000
structure gX (w wr:jF)(g n cap:Nat)(l:List Bool):Prop where
 own:wr.ownsRow w.1.size 4 1 (.slice (jB ⟨g,0,jC⟩) n cap) n (qV l)
 xq:Below w.1.size w wr
section
variable {w wr w2:jF}{g n cap:Nat}{l:List Bool}
theorem gX.len (h:gX w wr g n cap l):η l=n:=by have:=h.own.1;rw[yV]at this;omega
theorem gX.lt (h:gX w wr g n cap l):w.1.size<=g/\g<wr.1.size:=h.own.lt g rfl
theorem gX.below (h:gX w wr g n cap l)(hb:Below wr.1.size wr w2):gX w w2 g n cap l:=⟨own_below h.own hb,h.xq.trans (hb.mono h.xq.size)⟩
theorem gX.cell (h:gX w wr g n cap l)(a:k<n):wr.cell? ⟨g,k,jC⟩=jB (.bool (l.getD k jE))/\wr.frozen? ⟨g,k,jC⟩=jE:=by
 refine⟨?_,h.own.frozenAt k⟩;rw[h.own.cellAt k ω];exact tV (by rw[h.len];exact a)
theorem gX.put (h:gX w wr g n cap l)(k b):gX w (wr.setCell ⟨g,k,jC⟩ (.bool b)) g n cap (l.set k b):=by
 refine⟨?_,?_⟩
 ·have:=(h.own.stored k (.bool b)).1;rw[show qV (l.set k b)=(qV l).set k (.bool b) by simp[qV]];exact this
 ·exact h.xq.trans ((qW.uy (h.own.stored k (.bool b)).2).below h.xq.size (λj a e=>by cases e;have:=h.lt;omega))
theorem QB (h:wr.ownsRow w0.1.size 4 1 v n (qV l))(hb:Below w0.1.size w0 wr)(a:0<n):∃g cap,v=.slice (jB ⟨g,0,jC⟩) n cap/\gX w0 wr g n cap l:=by
 obtain⟨g,cap,rfl,_⟩:=sP h a;exact⟨g,_,rfl,h,hb⟩
end
def KC (n:Nat)(c:Bool)(F:Nat->Bool)(k:Nat):List Bool:=(ζ n).map λi=>if i<k then F i else c
theorem GD (n c)(F:Nat->Bool):KC n c F 0=ρ n c:=by apply jw<;>simp[KC]
theorem GH:(KC n c F k).set k (F k)=KC n c F (k+1):=by
 apply jw (by simp[KC]);intro i a b;simp[KC,mq]
 grind
theorem KA (n c)(F:Nat->Bool):KC n c F n=(ζ n).map F:=
 j6 (λi hi=>γ)
theorem ah9 (st lo)(k:Nat):atW st lo (k:Int)=AY st lo k:=rfl
theorem and_one {x:Int}(h:0<=x):(Go.bits .and .u64 x 1==1)=(x.tmod 2==1):=by
 obtain⟨n,rfl⟩:=nY h;rw[nN ω];show(IntKind.u64.wrap (BitVec.ofInt _ _&&&BitVec.ofInt 64 1).toNat==1)= _;rw[mY,jW,ko,show(BitVec.ofInt _ 1).toNat=1 by decide,qG,IntKind.wrap_u64]
 grind
theorem YG (A1 A2 n1 c1 n2 c2 m st lo w B)(h:QX w B A1 A2 n1 c1 n2 c2 st lo)(hB:B<=w.1.size)(hl:n1+n2<=60000)(h2:0<n2)(hm:0<=m/\m<8)(M:∀k,0<=AY st lo k):
  Calls jJ 38 #[.agg #[.int .i64 3,.int .i64 m],.agg #[.slice A1 n1 c1,.slice A2 n2 c2]] w (sI w 4 1 (n1+n2) (qV (qY (wH st lo) (n1+n2) n1 ⟨3,m⟩ [] [])) False):=by
 have hpl:qY (wH st lo) (n1+n2) n1 ⟨3,m⟩ [] []=(ζ (n1+n2)).map (wH st lo m):=rfl;rw[hpl];have O:=ajj w (.cells #[.int .i64 3,.int .i64 m] 44) (.cells #[.slice A1 n1 c1,.slice A2 n2 c2] 25);let⟨w0,I⟩:=xR ((w.alloc (.cells #[.int .i64 3,.int .i64 m] 44)).alloc (.cells #[.slice A1 n1 c1,.slice A2 n2 c2] 25))
 rw[<-I]at O;obtain⟨P,Q,R,ag⟩:=O;obtain⟨⟨p0,p1⟩, -⟩:=LW Q;obtain⟨⟨q0,q1⟩, -⟩:=LW R;obtain⟨T,U⟩:=iw I P;have j:w.1.size<w0.1.size:=ω;have q:w.1.size+1<w0.1.size:=ω;have ah:=dh (λ(W:jF) (k:Nat) (hb:Below w.1.size w W) (hk:k<=100000)=>(ah9 st lo k)▸aax A1 A2 n1 c1 n2 c2 st lo (k:Int) W B (h.below hb hB) (Nat.le_trans hB hb.size) hl ω);have aw:m<=64:=ω;have ax:=hm.1;have aj:=dh M;clear I hpl h P Q R ag M;go_enter Tryz.func38,Tryz.ntmps38;go_wp2
 rw[<-T.o];clear T;have J:Below w0.1.size w0 _:=Below.drew bR;refine wp_region_held_drew (S:=λw'=>q9 w' _ 0 _/\q9 w' _ 1 _/\q9 w' _ 0 _/\q9 w' _ 1 _) rfl ⟨p0,p1,q0,q1⟩ (λhS=>?_);apply qU 0;apply qU 2;apply qU 3;apply qU 4;refine rR 1 (λK n=>?_);go_simp;apply (EU _ _ _ _ _ _ _ hl).mono;rintro e r ⟨rfl,l⟩;have a:=J.trans (l.mono J.size);have ak:=a.size;have s:=bC a j p0;have u:=bC a j p1;have x:=bC a q q0;have z:=bC a q q1;go_wp2
 refine n _ _ γ (λhS=>?_);clear n;refine rR 5 (λK n=>?_);go_simp;apply (ES _ _ _ ω).mono;rintro e ao ⟨v,rfl,H,c,_⟩;have b:=a.trans (c.mono a.size);have aq:=b.size;have C:=bC b j p0;have D:=bC b j p1;have E:=bC b q q0;have F:=bC b q q1;obtain⟨g,cap,rfl,ar⟩:=QB H c ω;go_wp2
 refine n _ _ ⟨C,D,E,F⟩ (λhS=>?_);clear n;apply qU 6;refine wpAnyH_done rfl ?_ _;have V:gX r ao g (n1+n2) cap (KC (n1+n2) jE (wH st lo m) 0):=by rwa [GD]
 have X:=dh V;have L:w.1.size<=r.1.size:=ω;have p:w.1.size+1<r.1.size:=ω;have Y:=dh (U.trans (a.mono U.size));clear V ar H J l c hS;generalize hN:n1+n2=N at *;go_wp2
 go_loopw [6] (λi wr=>∃k,k<=N/\i=.int .i64 k/\gX r wr g N cap (KC N jE (wH st lo m) k)) (λi _=>N-(intOf i).toNat)
 case atStart=>exact⟨0,ω,rfl,X.o⟩
 case round=>
  clear X;obtain⟨k,hk,rfl,d⟩:=hrel;have y:=bC d.xq ω s;have y0:=bC d.xq ω u;have y1:=bC d.xq p x;have y2:=bC d.xq p z;by_cases au:k<N
  ·have Z:=Y.trans (d.xq.mono L);have a1:=jh p d.xq.size;have a6:w.1.size<wr.1.size:=ω;go_wp2
   refine sM (S:=λw'=>q9 w' _ 1 _/\q9 w' _ 0 _/\q9 w' _ 1 _) 12 rfl ⟨y0,y1,y2⟩ (λhS=>?_);apply rT 0;apply rT 1;apply rT 2;apply rT 3;apply rT 5;apply rT 6;apply rT 7;refine qZ (i:=4) rfl κ δ (λK n=>?_);go_simp;apply Calls.mono (ah _ _ (Z.trans (Below.drew bR |>.mono Z.size)) ω);rintro e w5 ⟨rfl,a7⟩;have G:Below wr.1.size _ _:=rF a7;have a8:=d.below G;let⟨ay,az⟩:=a8.cell au
   have k0:=bC G a6 y0;have k1:=bC G a1 y1;have k2:=bC G a1 y2;go_wp2
   refine n _ _ ⟨k0,k1,k2⟩ (λhS=>?_);clear n;apply rT 8;apply rT 9;apply rT 10;apply rT 11;refine sN rfl κ rfl (λK n=>?_);go_simp;apply n.out;clear n;go_wp2
   go_roundw
   case rel=>
    refine⟨k+1,ω,by go_num,?_⟩;have ad:=a8.put k (wH st lo m k);rw[GH]at ad
    have e:wH st lo m k=((AY st lo k/2^min m.toNat 64).tmod 2==1):=by
     rw[show min _ _ =m.toNat by omega,wH];exact and_one (qy (aj k) (Int.pow_nonneg δ))
    rwa [<-e]
   case measure=>simp[intOf];omega
  ·have av:k=N:=ω;subst av;rw[KA]at d;have af:=dh d;go_wp2
   go_ret
   exact⟨_,rfl,rC af.own L,Y.trans (af.xq.mono L),ς⟩
theorem YI (A1 A2 n1 c1 n2 c2 m)(bt:Int->Nat->Bool)(w)(hl:n1+n2<=60000)(W:0<n2):
  Calls jJ 38 #[.agg #[.int .i64 1,.int .i64 m],.agg #[.slice A1 n1 c1,.slice A2 n2 c2]] w (sI w 4 1 (n1+n2) (qV (qY bt (n1+n2) n1 ⟨1,m⟩ [] [])) False):=by
 have hpl:qY bt (n1+n2) n1 ⟨1,m⟩ [] []=ρ (n1+n2) jD:=by
  rw[zO ς];apply jw ς;intro i X W;simp[tJ]
 rw[hpl];have u:=ajj w (.cells #[.int .i64 1,.int .i64 m] 44) (.cells #[.slice A1 n1 c1,.slice A2 n2 c2] 25);let⟨w0,r⟩:=xR ((w.alloc (.cells #[.int .i64 1,.int .i64 m] 44)).alloc (.cells #[.slice A1 n1 c1,.slice A2 n2 c2] 25))
 rw[<-r]at u;obtain⟨x,y,z,L⟩:=u;obtain⟨⟨M,Y⟩, -⟩:=LW y;obtain⟨⟨O,P⟩, -⟩:=LW z;obtain⟨B,C⟩:=iw r x;have p:w.1.size<w0.1.size:=ω;have j:w.1.size+1<w0.1.size:=ω;clear r hpl x y z L;go_enter Tryz.func38,Tryz.ntmps38;go_wp2
 rw[<-B.o];clear B;have s:Below w0.1.size w0 _:=Below.drew bR;refine wp_region_held_drew (S:=λw'=>q9 w' _ 0 _/\q9 w' _ 0 _/\q9 w' _ 1 _) rfl ⟨M,O,P⟩ (λhS=>?_);apply qU 0;apply qU 2;apply qU 3;apply qU 4;refine rR 1 (λK D=>?_);go_simp;apply (EU _ _ _ _ _ _ _ hl).mono;rintro e Q ⟨rfl,d⟩;have a:=s.trans (d.mono s.size);have R:=a.size;have H:=bC a p M;have I:=bC a j O;have J:=bC a j P;go_wp2
 refine D _ _ γ (λhS=>?_);clear D;refine rR 5 (λK D=>?_);go_simp;apply (ES _ _ _ ω).mono;rintro e T ⟨v,rfl,q,b,_⟩;have c:=a.trans (b.mono a.size);have U:=c.size;have k:=bC c p M;have l:=bC c j O;have n:=bC c j P;obtain⟨g,cap,rfl,E⟩:=QB q b ω;go_wp2
 refine D _ _ ⟨k,l,n⟩ (λhS=>?_);clear D;apply qU 6;refine wpAnyH_done rfl ?_ _;have F:w.1.size<=Q.1.size:=ω;obtain⟨V,G⟩:=iw (C.trans (a.mono C.size)) E;clear E q s d b hS;generalize Z:n1+n2=N at *;go_wp2
 go_loopw [6] (λi wr=>i=.int .i64 0/\wr=T) (λ_ _=>0)
 case atStart=>exact⟨rfl,rfl⟩
 case round=>
  go_wp2
  go_ret
  exact⟨_,rfl,rC G.own F,V.trans (G.xq.mono F),ς⟩
theorem YH (A1 A2 n1 c1 n2 c2 m)(bt:Int->Nat->Bool)(w)(hl:n1+n2<=60000)(W:0<n2):
  Calls jJ 38 #[.agg #[.int .i64 2,.int .i64 m],.agg #[.slice A1 n1 c1,.slice A2 n2 c2]] w (sI w 4 1 (n1+n2) (qV (qY bt (n1+n2) n1 ⟨2,m⟩ [] [])) False):=by
 have hpl:qY bt (n1+n2) n1 ⟨2,m⟩ [] []=ρ (n1+n2) jE:=by
  rw[zO ς];apply jw ς;intro i X W;simp[tJ]
 rw[hpl];have u:=ajj w (.cells #[.int .i64 2,.int .i64 m] 44) (.cells #[.slice A1 n1 c1,.slice A2 n2 c2] 25);let⟨w0,r⟩:=xR ((w.alloc (.cells #[.int .i64 2,.int .i64 m] 44)).alloc (.cells #[.slice A1 n1 c1,.slice A2 n2 c2] 25))
 rw[<-r]at u;obtain⟨x,y,z,L⟩:=u;obtain⟨⟨M,Y⟩, -⟩:=LW y;obtain⟨⟨O,P⟩, -⟩:=LW z;obtain⟨B,C⟩:=iw r x;have p:w.1.size<w0.1.size:=ω;have j:w.1.size+1<w0.1.size:=ω;clear r hpl x y z L;go_enter Tryz.func38,Tryz.ntmps38;go_wp2
 rw[<-B.o];clear B;have s:Below w0.1.size w0 _:=Below.drew bR;refine wp_region_held_drew (S:=λw'=>q9 w' _ 0 _/\q9 w' _ 0 _/\q9 w' _ 1 _) rfl ⟨M,O,P⟩ (λhS=>?_);apply qU 0;apply qU 2;apply qU 3;apply qU 4;refine rR 1 (λK D=>?_);go_simp;apply (EU _ _ _ _ _ _ _ hl).mono;rintro e Q ⟨rfl,d⟩;have a:=s.trans (d.mono s.size);have R:=a.size;have H:=bC a p M;have I:=bC a j O;have J:=bC a j P;go_wp2
 refine D _ _ γ (λhS=>?_);clear D;refine rR 5 (λK D=>?_);go_simp;apply (ES _ _ _ ω).mono;rintro e T ⟨v,rfl,q,b,_⟩;have c:=a.trans (b.mono a.size);have U:=c.size;have k:=bC c p M;have l:=bC c j O;have n:=bC c j P;obtain⟨g,cap,rfl,E⟩:=QB q b ω;go_wp2
 refine D _ _ ⟨k,l,n⟩ (λhS=>?_);clear D;apply qU 6;refine wpAnyH_done rfl ?_ _;have F:w.1.size<=Q.1.size:=ω;obtain⟨V,G⟩:=iw (C.trans (a.mono C.size)) E;clear E q s d b hS;generalize Z:n1+n2=N at *;go_wp2
 go_loopw [6] (λi wr=>i=.int .i64 0/\wr=T) (λ_ _=>0)
 case atStart=>exact⟨rfl,rfl⟩
 case round=>
  go_wp2
  go_ret
  exact⟨_,rfl,rC G.own F,V.trans (G.xq.mono F),ς⟩
set_option maxHeartbeats 4000000
set_option maxRecDepth 100000
theorem acf (A1 A2 A n1 c1 n2 c2 n c m)(bt:Int->Nat->Bool)(a w B)(hl:n1+n2<=60000)(_h2:0<n2)(s:n=n1+n2)(d:η a=n1+n2)(hs:Sl w B 1 A n c (qV a))(x:B<=w.1.size):
  Calls jJ 39 #[.int .i64 4,.agg #[.slice A1 n1 c1,.slice A2 n2 c2],.slice A n c] w (sI w 4 1 (n1+n2) (qV (qY bt (n1+n2) n1 ⟨4,m⟩ a [])) False):=by
 have hpl:qY bt (n1+n2) n1 ⟨4,m⟩ a []=sH a:=by
  rw[zO ς];apply Ig (n:=n1+n2) ς (by rw[Bz,d]);intro i hi;rw[wG _ hi,zn ω];rfl
 rw[hpl];let⟨b,y,z⟩:=GA w A1 A2 n1 c1 n2 c2
 let⟨w0,g⟩:=xR (w.alloc (.cells #[.slice A1 n1 c1,.slice A2 n2 c2] 25))
 have C:w.1.size<w0.1.size:=ξ;rw[<-g]at b y z;obtain⟨l,p⟩:=iw g b;have q:B<=w0.1.size:=ω;have u:=dh (ER A n c a w0 B (s.trans d.symm) (hs.below b x) q ω);rw[s]at u;go_enter Tryz.func39,Tryz.ntmps39;go_wp2_with fail
 rw[<-l.o];apply Calls.mono u.o;rintro e w1 ⟨v,rfl,j,r,k⟩;go_wp2
 go_ret
 exact⟨_,rfl,rC j ω,p.trans (r.mono ω),k⟩
theorem YF (A1 A2 A n1 c1 n2 c2 n c m)(bt:Int->Nat->Bool)(a w B)(hl:n1+n2<=60000)(Q:0<n2)(P:n=n1+n2)(y:η a=n1+n2)(hs:Sl w B 1 A n c (qV a))(R:B<=w.1.size):
  Calls jJ 39 #[.int .i64 11,.agg #[.slice A1 n1 c1,.slice A2 n2 c2],.slice A n c] w (sI w 4 1 (n1+n2) (qV (qY bt (n1+n2) n1 ⟨11,m⟩ a [])) False):=by
 have hpl:qY bt (n1+n2) n1 ⟨11,m⟩ a []=Gs n1 (ρ (n1+n2) jD) a:=rfl;rw[hpl];clear hpl;let⟨i,H,I⟩:=GA w A1 A2 n1 c1 n2 c2
 let⟨w0,u⟩:=xR (w.alloc (.cells #[.slice A1 n1 c1,.slice A2 n2 c2] 25))
 have j:w.1.size<w0.1.size:=ξ;rw[<-u]at i H I;obtain⟨J,z⟩:=iw u i;have C:B<=w0.1.size:=ω;have T:=dh (λD d W hb U=>FN A1 A2 D A _ c1 _ c2 _ d n c (ρ (n1+n2) jD) a W _ hl Q rfl P ς U y (((hs.below i R).below hb C).up (Nat.le_trans C hb.size)) lR);subst P;generalize Y:n1+n2=N at *;clear u hs y i;go_enter Tryz.func39,Tryz.ntmps39;go_wp2
 rw[<-J.o];have E:Below w0.1.size w0 _:=Below.drew bR;refine wp_region_held_drew (S:=λw'=>q9 w' _ 0 _/\q9 w' _ 1 _) rfl ⟨H,I⟩ (λhS=>?_);apply qU 0;apply qU 1;apply qU 2;apply qU 4;refine rR 3 (λK F=>?_);go_simp;apply (ES N _ _ ω).mono;rintro e V ⟨v1,rfl,v,k,_⟩;have b:=E.trans (k.mono E.size);have L:=b.size;have l:=bC b j H;have p:=bC b j I;obtain⟨Z,d1,rfl,M⟩:=qX v;go_wp2
 refine F _ _ ⟨l,p⟩ (λhS=>?_);clear F;refine rR 5 (λK F=>?_);go_simp;apply (T _ _ _ b M).mono;rintro e X ⟨v2,rfl,x,q,G⟩;have g:=b.trans (q.mono b.size);have O:=g.size;have r:=bC g j H;have s:=bC g j I;go_wp2
 refine F _ _ ⟨r,s⟩ (λhS=>?_);clear F;apply qU 6;refine wpAnyH_done rfl ?_ _;go_wp2
 go_ret
 exact⟨_,rfl,rC x ω,z.trans (g.mono z.size),G⟩
theorem YE (A1 A2 A n1 c1 n2 c2 n c m)(bt:Int->Nat->Bool)(a w B)(hl:n1+n2<=60000)(h2:0<n2)(hn:n=n1+n2)(H:η a=n1+n2)(hs:Sl w B 1 A n c (qV a))(hB:B<=w.1.size):
  Calls jJ 39 #[.int .i64 12,.agg #[.slice A1 n1 c1,.slice A2 n2 c2],.slice A n c] w (sI w 4 1 (n1+n2) (qV (qY bt (n1+n2) n1 ⟨12,m⟩ a [])) False):=by
 have hpl:qY bt (n1+n2) n1 ⟨12,m⟩ a []=sH (Gs n1 (ρ (n1+n2) jD) (sH a)):=rfl;rw[hpl];clear hpl;let⟨q,P,Q⟩:=GA w A1 A2 n1 c1 n2 c2
 let⟨w0,I⟩:=xR (w.alloc (.cells #[.slice A1 n1 c1,.slice A2 n2 c2] 25))
 have l:w.1.size<w0.1.size:=ξ;rw[<-I]at q P Q;obtain⟨X,R⟩:=iw I q;have T:B<=w0.1.size:=ω;obtain⟨HL,Y⟩:=iw (λ(D D') (d d') W (hb:Below w0.1.size w0 W) h1 h3=>FN A1 A2 D D' _ c1 _ c2 _ d _ d' (ρ (n1+n2) jD) _ W _ hl h2 rfl rfl ς h1 ((Bz a).trans H) h3 lR) (λW hb=>ER A n c a W B (hn.trans H.symm) ((hs.below q hB).below hb T) (Nat.le_trans T hb.size) ω);have Z:=dh (show n1+n2=η (Gs n1 (ρ (n1+n2) jD) (sH a)) by rw[GI];simp);subst hn;generalize hN:n1+n2=N at *;clear I hs H q;go_enter Tryz.func39,Tryz.ntmps39;go_wp2
 rw[<-X.o];have U:Below w0.1.size w0 _:=Below.drew bR;refine wp_region_held_drew (S:=λw'=>q9 w' _ 0 _/\q9 w' _ 1 _) rfl ⟨P,Q⟩ (λhS=>?_);apply qU 0;apply qU 1;apply qU 2;apply qU 4;refine rR 3 (λK p=>?_);go_simp;apply (ES N _ _ ω).mono;rintro e ah ⟨v1,rfl,J,r,_⟩;have b:=U.trans (r.mono U.size);have a1:=b.size;have s:=bC b l P;have u:=bC b l Q;obtain⟨D1,d1,rfl,a6⟩:=qX J;go_wp2
 refine p _ _ ⟨s,u⟩ (λhS=>?_);clear p;refine rR 5 (λK p=>?_);go_simp;apply (Y _ b).mono;rintro e aj ⟨v2,rfl,L,j,_⟩;have g:=b.trans (j.mono b.size);have a7:=g.size;have v:=bC g l P;have x:=bC g l Q;obtain⟨D2,d2,rfl,a8⟩:=qX L;go_wp2
 refine p _ _ ⟨v,x⟩ (λhS=>?_);clear p;refine rR 6 (λK p=>?_);go_simp;apply (HL _ _ _ _ _ g ((a6.below j lR).up j.size) a8).mono;rintro e ak ⟨v3,rfl,M,y,_⟩;have i:=g.trans (y.mono g.size);have ad:=i.size;have z:=bC i l P;have C:=bC i l Q;obtain⟨D3,d3,rfl,af⟩:=qX M;go_wp2
 refine p _ _ ⟨z,C⟩ (λhS=>?_);clear p;refine rR 7 (λK p=>?_);go_simp;apply (ER _ N _ _ _ _ Z af lR ω).mono;rintro e ao ⟨v4,rfl,O,E,V⟩;have k:=i.trans (E.mono i.size);have ag:=k.size;have F:=bC k l P;have G:=bC k l Q;go_wp2
 refine p _ _ ⟨F,G⟩ (λhS=>?_);clear p;apply qU 8;refine wpAnyH_done rfl ?_ _;go_wp2
 go_ret
 exact⟨_,rfl,rC O ω,R.trans (k.mono R.size),V⟩
theorem ace (A1 A2 A n1 c1 n2 c2 n c m)(bt:Int->Nat->Bool)(a w B)(hl:n1+n2<=60000)(h2:0<n2)(U:n=n1+n2)(r:η a=n1+n2)(hs:Sl w B 1 A n c (qV a))(V:B<=w.1.size):
  Calls jJ 39 #[.int .i64 8,.agg #[.slice A1 n1 c1,.slice A2 n2 c2],.slice A n c] w (sI w 4 1 (n1+n2) (qV (qY bt (n1+n2) n1 ⟨8,m⟩ a [])) False):=by
 have hpl:qY bt (n1+n2) n1 ⟨8,m⟩ a []=(ζ (n1+n2)).map (λi=>a.getD (nx n1 (n1+n2) i) jE):=rfl;rw[hpl];clear hpl;let⟨d,M,O⟩:=GA w A1 A2 n1 c1 n2 c2
 let⟨w0,l⟩:=xR (w.alloc (.cells #[.slice A1 n1 c1,.slice A2 n2 c2] 25))
 have s:w.1.size<w0.1.size:=ξ;rw[<-l]at d M O;obtain⟨u,p⟩:=iw l d;have C:B<=w0.1.size:=ω;have D:=dh (λk w' Q=>RQ A1 A2 _ c1 _ c2 k w' hl Q);have E:n1<n1+n2:=ω;subst U;have W:=run_make_row' (P:=jJ) 64 4 (.bool jE) 1 Tryz.underlying64 wN rfl .i64 .i64 (n1+n2) ω ω;have X:=dh (hs.below d V);generalize Y:n1+n2=N at *;obtain⟨Z,F⟩:=iw (DL w0 N ω) r;have v:w0.1.size=w.1.size+1:=ξ;have R:Hd (NY _ _ (w.1.size+1) N (KC N _ (λi=>a.getD (nx n1 N i) jE) 0)):=dh (by rwa [GD,<-v]);clear l hs r d v Z Y;go_enter Tryz.func39,Tryz.ntmps39;go_wp2
 rw[<-u.o];clear u;go_wp2
 go_loopw [8] (λi wr=>∃k,k<=N/\i=.int .i64 k/\NY w0 wr (w.1.size+1) N (KC N jE (λi=>a.getD (nx n1 N i) jE) k)) (λi _=>N-(intOf i).toNat)
 case atStart=>exact⟨0,ω,rfl,R.o⟩
 case round=>
  clear R;obtain⟨k,Q,rfl,b⟩:=hrel;by_cases x:k<N
  ·have y0:=bC b.xq s M;have y1:=bC b.xq s O;have S:=yQ (i:=k) E;have y:=dh (D k wr x);have G:(KC N _ _ k).set k _ =KC N jE (λi=>a.getD (nx n1 N i) jE) _:=GH
   generalize nx _ N k=j at *;obtain⟨H,I⟩:=iw G b;go_wp2_with fail
   apply Calls.mono y.o;rintro e w5 ⟨rfl,J⟩;have q:=I.below J;let⟨a1,a6⟩:=q.cell x
   obtain⟨a7,a8,K,T,ad⟩:=(X.below q.xq C).rd.at_ (tV (by rwa [F.o]));cases K;have g:=q.put k (a.getD j jE);rw[H.o]at g;have HP:=dh g;go_wp2
   go_roundw
   case rel=>exact⟨_,ω,by go_num,HP.o⟩
   case measure=>simp[intOf];omega
  ·have L:k=N:=ω;subst L;rw[KA]at b;have z:=dh b;go_wp2
   go_ret
   exact⟨_,rfl,rC z.own p.size,p.trans (z.xq.mono p.size),ς⟩
theorem ab0 (A1 A2 A A' n1 c1 n2 c2 n c n' c' m)(bt:Int->Nat->Bool)(a b w B)(hl:n1+n2<=60000)(C:0<n2)(y:n=n1+n2)(l:η a=n1+n2)(hs:Sl w B 1 A n c (qV a))(g:n'=n1+n2)(p:η b=n1+n2)(q:Sl w B 1 A' n' c' (qV b))(z:B<=w.1.size):
  Calls jJ 40 #[.int .i64 9,.agg #[.slice A1 n1 c1,.slice A2 n2 c2],.slice A n c,.slice A' n' c'] w (sI w 4 1 (n1+n2) (qV (qY bt (n1+n2) n1 ⟨9,m⟩ a b)) False):=by
 obtain⟨d,D,E⟩:=GA w A1 A2 n1 c1 n2 c2;obtain⟨w0,i⟩:=xR (w.alloc (.cells #[.slice A1 n1 c1,.slice A2 n2 c2] 25));have F:w.1.size<w0.1.size:=ξ;rw[<-i]at d D E;obtain⟨r,s⟩:=iw i d;have u:B<=w0.1.size:=ω;have G:=dh (FN A1 A2 A _ _ c1 _ c2 n c _ _ a b _ B hl C y g l (hs.below d z) p (q.below d z) u);subst y g;go_enter Tryz.func40,Tryz.ntmps40;go_wp2_with fail
 rw[<-r.o];apply Calls.mono G.o;rintro e w1 ⟨v,rfl,j,x,k⟩;go_wp2
 go_ret
 exact⟨_,rfl,rC j ω,s.trans (x.mono ω),k⟩
theorem YA (A1 A2 A A' n1 c1 n2 c2 n c n' c' m)(bt:Int->Nat->Bool)(a b w B)(hl:n1+n2<=60000)(h2:0<n2)(hn:n=n1+n2)(s:η a=n1+n2)(hs:Sl w B 1 A n c (qV a))(X:n'=n1+n2)(L:η b=n1+n2)(Y:Sl w B 1 A' n' c' (qV b))(hB:B<=w.1.size):
  Calls jJ 40 #[.int .i64 10,.agg #[.slice A1 n1 c1,.slice A2 n2 c2],.slice A n c,.slice A' n' c'] w (sI w 4 1 (n1+n2) (qV (qY bt (n1+n2) n1 ⟨10,m⟩ a b)) False):=by
 have hpl:qY bt (n1+n2) n1 ⟨10,m⟩ a b=sH (Gs n1 (sH a) (sH b)):=rfl;rw[hpl];clear hpl;let⟨q,U,V⟩:=GA w A1 A2 n1 c1 n2 c2
 let⟨w0,M⟩:=xR (w.alloc (.cells #[.slice A1 n1 c1,.slice A2 n2 c2] 25))
 have p:w.1.size<w0.1.size:=ξ;rw[<-M]at q U V;obtain⟨a6,Z⟩:=iw M q;have u:B<=w0.1.size:=ω;obtain⟨HL,a7,a8⟩:=iA (λ(D D') (d d') W (hb:Below w0.1.size w0 W) h1 h3=>FN A1 A2 D D' _ c1 _ c2 _ d _ d' _ _ W _ hl h2 rfl rfl ((Bz a).trans s) h1 ((Bz b).trans L) h3 lR) (λW hb=>ER A n c a W B (hn.trans s.symm) ((hs.below q hB).below hb u) (Nat.le_trans u hb.size) ω) (λW hb=>ER A' n' c' b W B (X.trans L.symm) ((Y.below q hB).below hb u) (Nat.le_trans u hb.size) ω);have ad:=dh (show n1+n2=η (Gs n1 _ (sH b)) by rw[GI,Bz];exact s.symm);subst hn X;generalize hN:n1+n2=N at *;clear M hs Y s L q;go_enter Tryz.func40,Tryz.ntmps40;go_wp2
 rw[<-a6.o];have O:Below w0.1.size w0 _:=Below.drew bR;refine wp_region_held_drew (S:=λw'=>q9 w' _ 0 _/\q9 w' _ 1 _) rfl ⟨U,V⟩ (λhS=>?_);apply qU 0;apply qU 1;apply qU 3;refine rR 2 (λK r=>?_);go_simp;apply (a7 _ O).mono;rintro e ar ⟨v1,rfl,P,v,_⟩;have g:=O.trans (v.mono O.size);have af:=g.size;have x:=bC g p U;have y:=bC g p V;obtain⟨D1,d1,rfl,ag⟩:=qX P;go_wp2
 refine r _ _ ⟨x,y⟩ (λhS=>?_);clear r;refine rR 4 (λK r=>?_);go_simp;apply (a8 _ g).mono;rintro e au ⟨v2,rfl,Q,k,_⟩;have i:=g.trans (k.mono g.size);have ah:=i.size;have z:=bC i p U;have C:=bC i p V;obtain⟨D2,d2,rfl,aj⟩:=qX Q;go_wp2
 refine r _ _ ⟨z,C⟩ (λhS=>?_);clear r;refine rR 5 (λK r=>?_);go_simp;apply (HL _ _ _ _ _ i ((ag.below k lR).up k.size) aj).mono;rintro e av ⟨v3,rfl,R,E,_⟩;have j:=i.trans (E.mono i.size);have ak:=j.size;have F:=bC j p U;have G:=bC j p V;obtain⟨D3,d3,rfl,ao⟩:=qX R;go_wp2
 refine r _ _ ⟨F,G⟩ (λhS=>?_);clear r;refine rR 6 (λK r=>?_);go_simp;apply (ER _ N _ _ _ _ ad ao lR ω).mono;rintro e aw ⟨v4,rfl,T,H,a1⟩;have l:=j.trans (H.mono j.size);have aq:=l.size;have I:=bC l p U;have J:=bC l p V;go_wp2
 refine r _ _ ⟨I,J⟩ (λhS=>?_);clear r;apply qU 7;refine wpAnyH_done rfl ?_ _;go_wp2
 go_ret
 exact⟨_,rfl,rC T ω,Z.trans (l.mono Z.size),a1⟩
theorem ab3 (A1 A2 A A' n1 c1 n2 c2 n c n' c' m)(bt:Int->Nat->Bool)(a b w B)(hl:n1+n2<=60000)(_h2:0<n2)(Q:n=n1+n2)(p:η a=n1+n2)(hs:Sl w B 1 A n c (qV a))(E:n'=n1+n2)(q:η b=n1+n2)(r:Sl w B 1 A' n' c' (qV b))(K:B<=w.1.size):
  Calls jJ 40 #[.int .i64 5,.agg #[.slice A1 n1 c1,.slice A2 n2 c2],.slice A n c,.slice A' n' c'] w (sI w 4 1 (n1+n2) (qV (qY bt (n1+n2) n1 ⟨5,m⟩ a b)) False):=by
 have hpl:qY bt (n1+n2) n1 ⟨5,m⟩ a b=(ζ (n1+n2)).map (λi=>a.getD i jE&&b.getD i jE):=rfl;rw[hpl];clear hpl;let⟨e,L,M⟩:=GA w A1 A2 n1 c1 n2 c2
 let⟨w0,j⟩:=xR (w.alloc (.cells #[.slice A1 n1 c1,.slice A2 n2 c2] 25))
 have R:w.1.size<w0.1.size:=ξ;rw[<-j]at e L M;obtain⟨s,l⟩:=iw j e;have v:B<=w0.1.size:=ω;subst Q E;have S:=run_make_row' (P:=jJ) 64 4 (.bool jE) 1 Tryz.underlying64 wN rfl .i64 .i64 (n1+n2) ω ω;obtain⟨T,F⟩:=iw (hs.below e K) (r.below e K);generalize U:n1+n2=N at *;obtain⟨V,G,H⟩:=iA (DL w0 N ω) p q;have z:w0.1.size=w.1.size+1:=ξ;have O:Hd (NY _ _ (w.1.size+1) N (KC N _ (λi=>a.getD i jE&&b.getD i jE) 0)):=dh (by rwa [GD,<-z]);clear j hs r p q e z V U L M;go_enter Tryz.func40,Tryz.ntmps40;go_wp2
 rw[<-s.o];clear s;go_wp2
 go_loopw [10] (λi wr=>∃k:Nat,k<=N/\i=.int .i64 k/\NY w0 wr (w.1.size+1) N (KC N jE (λi=>a.getD i jE&&b.getD i jE) k)) (λi _=>N-(intOf i).toNat)
 case atStart=>exact⟨0,ω,rfl,O.o⟩
 case round=>
  clear O;obtain⟨k,hk,rfl,d⟩:=hrel;by_cases I:k<N
  ·obtain⟨hc,hf⟩:=d.cell I;obtain⟨ba,oa,rfl,W,X⟩:=(T.below d.xq v).rd.at_ (tV (by rwa [G.o]));obtain⟨bb,ob,rfl,Y,Z⟩:=(F.below d.xq v).rd.at_ (tV (by rwa [H.o]));have C:(KC N _ _ k).set k _ =KC N jE (λi=>a.getD i jE&&b.getD i jE) _:=GH
   have g:=d.put k (a.getD k jE&&b.getD k jE);rw[C]at g;generalize hu:(KC N _ _ k).getD k _ =u at *;clear C hu;generalize hx:a.getD k _ =x at *;generalize hy:b.getD k _ =y at *;clear hx hy d;have HP:=dh g;clear g;cases x<;>cases y<;>
   ·go_wp2
    go_roundw
    case rel=>exact⟨k+1,ω,by go_num,HP.o⟩
    case measure=>simp[intOf];omega
  ·have J:k=N:=ω;subst J;rw[KA]at d;have D:=dh d;go_wp2
   go_ret
   exact⟨_,rfl,rC D.own l.size,l.trans (D.xq.mono l.size),ς⟩
theorem ab2 (A1 A2 A A' n1 c1 n2 c2 n c n' c' m)(bt:Int->Nat->Bool)(a b w B)(hl:n1+n2<=60000)(_h2:0<n2)(P:n=n1+n2)(p:η a=n1+n2)(hs:Sl w B 1 A n c (qV a))(E:n'=n1+n2)(q:η b=n1+n2)(r:Sl w B 1 A' n' c' (qV b))(K:B<=w.1.size):
  Calls jJ 40 #[.int .i64 6,.agg #[.slice A1 n1 c1,.slice A2 n2 c2],.slice A n c,.slice A' n' c'] w (sI w 4 1 (n1+n2) (qV (qY bt (n1+n2) n1 ⟨6,m⟩ a b)) False):=by
 have hpl:qY bt (n1+n2) n1 ⟨6,m⟩ a b=(ζ (n1+n2)).map (λi=>a.getD i jE||b.getD i jE):=rfl;rw[hpl];clear hpl;let⟨e,L,M⟩:=GA w A1 A2 n1 c1 n2 c2
 let⟨w0,j⟩:=xR (w.alloc (.cells #[.slice A1 n1 c1,.slice A2 n2 c2] 25))
 have Q:w.1.size<w0.1.size:=ξ;rw[<-j]at e L M;obtain⟨s,l⟩:=iw j e;have v:B<=w0.1.size:=ω;subst P E;have R:=run_make_row' 64 4 _ 1 Tryz.underlying64 wN rfl .i64 .i64 (n1+n2) ω ω;obtain⟨S,F⟩:=iw (hs.below e K) (r.below e K);generalize T:n1+n2=N at *;obtain⟨U,G,H⟩:=iA (DL w0 N ω) p q;have z:w0.1.size=w.1.size+1:=ξ;have O:Hd (NY _ _ (w.1.size+1) N (KC N _ (λi=>a.getD i jE||b.getD i jE) 0)):=dh (by rwa [GD,<-z]);clear j hs r p q e z U T L M;go_enter Tryz.func40,Tryz.ntmps40;go_wp2
 rw[<-s.o];clear s;go_wp2
 go_loopw [10] (λi wr=>∃k,k<=N/\i=.int .i64 k/\NY w0 wr (w.1.size+1) N (KC N jE (λi=>a.getD i jE||b.getD i jE) k)) (λi _=>N-(intOf i).toNat)
 case atStart=>exact⟨0,ω,rfl,O.o⟩
 case round=>
  clear O;obtain⟨k,hk,rfl,d⟩:=hrel;by_cases I:k<N
  ·obtain⟨hc,hf⟩:=d.cell I;obtain⟨ba,oa,rfl,V,W⟩:=(S.below d.xq v).rd.at_ (tV (by rwa [G.o]));obtain⟨bb,ob,rfl,X,Y⟩:=(F.below d.xq v).rd.at_ (tV (by rwa [H.o]));have C:(KC N _ _ k).set k _ =KC N jE (λi=>a.getD i jE||b.getD i jE) _:=GH
   have g:=d.put k (a.getD k jE||b.getD k jE);rw[C]at g;generalize hu:(KC N _ _ k).getD k _ =u at *;clear C hu;generalize Z:a.getD k _ =x at *;generalize hy:b.getD k _ =y at *;clear Z hy d;have HP:=dh g;clear g;cases x<;>cases y<;>
   ·go_wp2
    go_roundw
    case rel=>exact⟨k+1,ω,by go_num,HP.o⟩
    case measure=>simp[intOf];omega
  ·have J:k=N:=ω;subst J;rw[KA]at d;have D:=dh d;go_wp2
   go_ret
   exact⟨_,rfl,rC D.own l.size,l.trans (D.xq.mono l.size),ς⟩
theorem ab1 (A1 A2 A A' n1 c1 n2 c2 n c n' c' m)(bt:Int->Nat->Bool)(a b w B)(hl:n1+n2<=60000)(_h2:0<n2)(P:n=n1+n2)(p:η a=n1+n2)(hs:Sl w B 1 A n c (qV a))(E:n'=n1+n2)(q:η b=n1+n2)(r:Sl w B 1 A' n' c' (qV b))(K:B<=w.1.size):
  Calls jJ 40 #[.int .i64 7,.agg #[.slice A1 n1 c1,.slice A2 n2 c2],.slice A n c,.slice A' n' c'] w (sI w 4 1 (n1+n2) (qV (qY bt (n1+n2) n1 ⟨7,m⟩ a b)) False):=by
 have hpl:qY bt (n1+n2) n1 ⟨7,m⟩ a b=(ζ (n1+n2)).map (λi=> !a.getD i jE||b.getD i jE):=rfl;rw[hpl];clear hpl;let⟨e,L,M⟩:=GA w A1 A2 n1 c1 n2 c2
 let⟨w0,j⟩:=xR (w.alloc (.cells #[.slice A1 n1 c1,.slice A2 n2 c2] 25))
 have Q:w.1.size<w0.1.size:=ξ;rw[<-j]at e L M;obtain⟨s,l⟩:=iw j e;have v:B<=w0.1.size:=ω;subst P E;have R:=run_make_row' 64 4 _ 1 Tryz.underlying64 wN rfl .i64 .i64 (n1+n2) ω ω;obtain⟨S,F⟩:=iw (hs.below e K) (r.below e K);generalize T:n1+n2=N at *;obtain⟨U,G,H⟩:=iA (DL w0 N ω) p q;have z:w0.1.size=w.1.size+1:=ξ;have O:Hd (NY _ _ (w.1.size+1) N (KC N _ (λi=> !a.getD i jE||b.getD i jE) 0)):=dh (by rwa [GD,<-z]);clear j hs r p q e z U T L M;go_enter Tryz.func40,Tryz.ntmps40;go_wp2
 rw[<-s.o];clear s;go_wp2
 go_loopw [10] (λi wr=>∃k:Nat,k<=N/\i=.int .i64 k/\NY w0 wr (w.1.size+1) N (KC N jE (λi=> !a.getD i jE||b.getD i jE) k)) (λi _=>N-(intOf i).toNat)
 case atStart=>exact⟨0,ω,rfl,O.o⟩
 case round=>
  clear O;obtain⟨k,hk,rfl,d⟩:=hrel;by_cases I:k<N
  ·obtain⟨hc,hf⟩:=d.cell I;obtain⟨ba,oa,rfl,V,W⟩:=(S.below d.xq v).rd.at_ (tV (by rwa [G.o]));obtain⟨bb,ob,rfl,X,Y⟩:=(F.below d.xq v).rd.at_ (tV (by rwa [H.o]));have C:(KC N _ _ k).set k _ =KC N jE (λi=> !a.getD i jE||b.getD i jE) _:=GH
   have g:=d.put k (!a.getD k jE||b.getD k jE);rw[C]at g;generalize hu:(KC N _ _ k).getD k _ =u at *;clear C hu;generalize Z:a.getD k _ =x at *;generalize hy:b.getD k _ =y at *;clear Z hy d;have HP:=dh g;clear g;cases x<;>cases y<;>
   ·go_wp2
    go_roundw
    case rel=>exact⟨k+1,ω,by go_num,HP.o⟩
    case measure=>simp[intOf];omega
  ·have J:k=N:=ω;subst J;rw[KA]at d;have D:=dh d;go_wp2
   go_ret
   exact⟨_,rfl,rC D.own l.size,l.trans (D.xq.mono l.size),ς⟩
set_option maxHeartbeats 8000000
set_option maxRecDepth 100000
theorem acg (op m A1 A2 n1 c1 n2 c2 st lo w B)(h:QX w B A1 A2 n1 c1 n2 c2 st lo)(c:B<=w.1.size)(hl:n1+n2<=60000)(a:0<n2)(d:takes op=0)(e:op=3->0<=m/\m<8)(b:∀k,0<=AY st lo k):
  Calls jJ 38 #[.agg #[.int .i64 op,.int .i64 m],.agg #[.slice A1 n1 c1,.slice A2 n2 c2]] w (sI w 4 1 (n1+n2) (qV (qY (wH st lo) (n1+n2) n1 ⟨op,m⟩ [] [])) False):=by
 rcases vV d with rfl|rfl|rfl
 ·exact YI _ _ _ _ _ _ m _ w hl a
 ·exact YH _ _ _ _ _ _ m _ w hl a
 ·exact YG _ _ _ _ _ _ m _ _ w B h c hl a ω b
theorem aeA (op A1 A2 A n1 c1 n2 c2 n c m)(bt:Int->Nat->Bool)(a w B)(hl:n1+n2<=60000)(d:0<n2)(e:n=n1+n2)(b:η a=n1+n2)(hs:Sl w B 1 A n c (qV a))(g:B<=w.1.size)(h:takes op=1):
  Calls jJ 39 #[.int .i64 op,.agg #[.slice A1 n1 c1,.slice A2 n2 c2],.slice A n c] w (sI w 4 1 (n1+n2) (qV (qY bt (n1+n2) n1 ⟨op,m⟩ a [])) False):=by
 rcases Bh h with rfl|rfl|rfl|rfl
 ·exact acf _ _ A _ _ _ _ n c m _ a w B hl d e b hs g
 ·exact ace _ _ A _ _ _ _ n c m _ a w B hl d e b hs g
 ·exact YF _ _ A _ _ _ _ n c m _ a w B hl d e b hs g
 ·exact YE _ _ A _ _ _ _ n c m _ a w B hl d e b hs g
theorem aev (op A1 A2 A A' n1 c1 n2 c2 n c n' c' m)(bt:Int->Nat->Bool)(a b w B)(hl:n1+n2<=60000)(i:0<n2)(j:n=n1+n2)(d:η a=n1+n2)(hs:Sl w B 1 A n c (qV a))(e:n'=n1+n2)(g:η b=n1+n2)(h:Sl w B 1 A' n' c' (qV b))(k:B<=w.1.size)(l:takes op=2):
  Calls jJ 40 #[.int .i64 op,.agg #[.slice A1 n1 c1,.slice A2 n2 c2],.slice A n c,.slice A' n' c'] w (sI w 4 1 (n1+n2) (qV (qY bt (n1+n2) n1 ⟨op,m⟩ a b)) False):=by
 rcases zM l with rfl|rfl|rfl|rfl|rfl
 ·exact ab3 _ _ A _ _ _ _ _ n c _ _ m _ a b w B hl i j d hs e g h k
 ·exact ab2 _ _ A _ _ _ _ _ n c _ _ m _ a b w B hl i j d hs e g h k
 ·exact ab1 _ _ A _ _ _ _ _ n c _ _ m _ a b w B hl i j d hs e g h k
 ·exact ab0 _ _ A _ _ _ _ _ n c _ _ m _ a b w B hl i j d hs e g h k
 ·exact YA _ _ A _ _ _ _ _ n c _ _ m _ a b w B hl i j d hs e g h k
theorem Yk (A A1 A2 c n1 c1 n2 c2 f st lo w)(hf:Sl w w.1.size 2 A (η f) c (qP f))(h:QX w w.1.size A1 A2 n1 c1 n2 c2 st lo)(hl:n1+n2<=60000)(bz:η f<=10000)(aL:∀k,0<=AY st lo k):
  Calls jJ 25 #[.slice A (η f) c,.agg #[.slice A1 n1 c1,.slice A2 n2 c2]] w (XW w (xu (wH st lo) f st lo)):=by
 obtain⟨au,aM,aN⟩:=GA w A1 A2 n1 c1 n2 c2;obtain⟨HX,HC,HF⟩:=iA (And.intro aM aN) (λw'=>Dl A1 A2 _ c1 _ c2 _ _ w' h.l1 h.l2 hl) (λw' hb=>afx A c f w' _ (hf.below hb lR) ω);by_cases h0:n2=0
 ·have j:xu (wH st lo) f st lo=[]:=by
   have:lo=[]:=jv (by have:=h.l2;omega);simp[xu,this]
  rw[j];have hC:=HC.o;rw[jd h0]at hC;have T:=dh hC;clear j h h0 hC;go_enter Tryz.func25,Tryz.ntmps25;go_wp2_with fail
  apply Calls.mono (T _);rintro e w1 ⟨rfl,z⟩;go_wp2
  go_ret
  exact⟨_,rfl,(zw.nil _).base (au.trans (z.mono ς))⟩
 have hC:=HC.o;rw[d9 h0]at hC;have T:=dh hC;clear hC;by_cases hw:wrong f=0
 ·have av:(wrong f==0)=jD:=γ;have hF:=HF.o;rw[av]at hF;obtain⟨ad,HW⟩:=iw hF hw;clear hF hw av;have aO:lo≠[]:=by intro e;have:=h.l2;grind
  have j:xu (wH st lo) f st lo=KS (wH st lo) (n1+n2) n1 f:=by rw[xu,jd ⟨aO,HW.o⟩,<-h.l1,<-h.l2]
  rw[j];clear j;have b5:=dh h;have h2:0<n2:=ω;have b6:=dh aL;clear h h0 aO aM aN aL;go_enter Tryz.func25,Tryz.ntmps25;go_wp2_with fail
  apply Calls.mono (T _);rintro e wc ⟨rfl,z⟩;have af:=au.trans (z.mono ς);have U:w.1.size<wc.1.size:=by have:=z.size;simp at this;omega
  have i0:=bC z ς HX.1;have i1:=bC z ς HX.2;go_wp2_with fail
  apply Calls.mono (ad _ af);rintro e _ ⟨rfl,rfl⟩;clear z HX HC T ad;obtain⟨b9,bc,bd⟩:=iA (λ(op m) j h3 w' hb=>acg op m _ _ _ _ _ _ _ _ w' _ (b5.below hb lR) hb.size hl h2 j h3 b6.o) (λ(op m) j Aa ca a aw w' hs=>aeA op A1 A2 Aa _ c1 _ c2 _ ca m (wH st lo) a w' _ hl h2 rfl aw hs lR j) (λ(op m) j (Aa Ab) (ca cb) (a b) aw ag w' hs bh=>aev op A1 A2 Aa Ab _ c1 _ c2 _ ca _ cb m (wH st lo) a b w' _ hl h2 rfl aw hs rfl ag bh lR j);generalize hN:n1+n2=N at *;clear hN;go_wp2
  go_loopw [5,6,7] (λvo vl i wr=>∃k:Nat,k<=η f/\i=.int .i64 k/\TRl wc N (xw (wH st lo) N n1 f k) vl vo wr) (λ_ _ i _=>η f-(intOf i).toNat)
  case atStart=>exact⟨0,ω,rfl,⟨_,Tg.nil _ _ _,zw.nil _,by simp[Value.ownBlock]⟩⟩
  case round=>
   obtain⟨k,hk,rfl,hrel⟩:=hrel;have y:=hrel.choose_spec.2.1.choose_spec.2.2;by_cases ax:k<η f
   ·have ay:=af.trans (y.mono af.size);have bj:=ay.size;have M:=jh U y.size;have y0:=bC y U i0;have y1:=bC y U i1;obtain⟨b,o,rfl,aP,aQ,aR⟩:=vZ (hf.rd.below ay lR) ax;have ag:=jh aP bj;have ah:=OY (bits:=wH st lo) (n:=N) (lp:=n1) HW k hk;have bm:=Vl (bits:=wH st lo) (n:=N) (lp:=n1) HW ax;have O:=Da (bits:=wH st lo) (n:=N) (lp:=n1) ax
    have hle:(xw (wH st lo) N n1 f k).1.length<=k:=by
     rw[ah.len];have:=GY (f.take k);rw[jq]at this;omega
    have P:Hd ((xw _ N _ f k).1.length<=k/\∀r∈(xw _ N _ f k).1,η r=N):=dh ⟨hle,ah.row⟩;have V:=dh ah.all;clear ah hle;generalize f[k]=x at *;generalize xw _ N _ f k=s at *;obtain⟨left,out⟩:=s;obtain⟨op,m⟩:=x;dsimp at *;obtain⟨ig,L,hG,hD⟩:=hrel;obtain⟨az,bn,aj⟩:=bm;have bA:=zY op;obtain⟨Al,cl,rfl,aA⟩:=qX L.1;have bw:cl<=9223372036854775807:=by have:=aA.max;unfold maxLen at this;omega
    have aS:=aA.cap;dsimp at L hG hD aA aS;rw[D6]at O;dsimp at O;have aB:takes op=0\/takes op=1\/takes op=2:=ω;rcases aB with j|j|j
    all_goals
     have HT:=dh j;rw[j]at O bn;simp only[show ¬((0:Int)=1) by decide,show ¬((0:Int)=2) by decide,show ¬((1:Int)=2) by decide,show ¬((2:Int)=1) by decide,pz,nI,show((0:Int)).toNat=0 from rfl,show((1:Int)).toNat=1 from rfl,show((2:Int)).toNat=2 from rfl]at O;have l:=O;clear O
    ·have W:=vV j;have d3:decide (op<=3)=jD:=by simp;omega
     have q:=dh (b9 _ m j aj _ (Below.drew ay));generalize qY _ N _ _ _ _ =r at *;have B:=dh l;clear l W aj j az;go_wp2
     refine wp_region_held_drew (S:=λw'=>q9 w' b _ _/\q9 w' b _ _/\q9 w' _ 0 _/\q9 w' _ 1 _) rfl ⟨aQ,aR,y0,y1⟩ (λhS=>?_);apply qU 0;apply qU 1;apply qU 2;apply qU 3;apply qU 4;refine rR 5 (λK hK=>?_);go_simp;apply Calls.mono q.o;rintro e Q ⟨v6,rfl,g,p,_⟩;have d:Below wr.1.size _ _:=rF p;obtain⟨A6,c6,rfl,aT⟩:=qX g;have k2:=bC d M y0;have k3:=bC d M y1;have k0:=bC d ag aQ;have k1:=bC d ag aR;go_wp2
     refine hK _ _ ⟨k0,k1,k2,k3⟩ (λhS=>?_);clear hK;apply qU 6;refine wpAnyH_done rfl ?_ _;have X:=L.below d
     have R:Q.ownsRow wc.1.size 64 1 (.slice Al (η left-0) cl) (η left-0) (ig.take (η left-0)):=by
      have:=(X.cut (k:=(η left-0)) ω).1;rwa [show η (left.take _)=(η left-0) by rw[jq];omega]at this
     simp[Nat.sub_zero]at R;have ao:=Nat.le_trans y.size d.size;have C:wc.1.size<=wr.drew.1.size:=y.size;have aU:η out<=10000:=by have:=V.o;omega
     have aV:=P.1;clear p k2 k3 hS k0 k1;go_wp2_with (first|(at_builtin;refine rD rfl (.tmp 83) (.tmp 85) 66 rfl wc.1.size 64 1 24 Bp _ _ _ (R.alloc _) rfl Q.1.size #[.slice A6 N c6] rfl (heap_alloc_new Q _) rfl (by simp[Value.oneCell']) ω ω (by simp;omega) ?_;intro v7 w7 u Y D _;have HM:=dh (OW (t:=0) L rfl hG hD d g C u Y D);obtain⟨aW,E,F,Z⟩:=HM.grid;have a1:=dh F;clear F;have aq:wc.1.size<=w7.1.size:=Z.size)|(at_builtin;refine rD rfl (.tmp 87) (.tmp 89) 66 rfl wc.1.size 64 1 24 Bp _ _ _ (E.alloc _) rfl w7.1.size #[.slice A6 N c6] rfl (heap_alloc_new w7 _) rfl (by simp[Value.oneCell']) ω ω (by simp;omega) ?_;intro v8 w8 v a6 G _;have aC:=dh (TG HM E a1 v a6 G)))
     go_roundw
     case rel=>exact⟨k+1,ω,by go_num,by rwa [B.o]⟩
     case measure=>simp[intOf];omega
    ·have W:=Bh j;have d3:decide (op<=3)=jE:=by simp;omega
     have H:η left-1<η left:=ω;let⟨gl,aX,aD,_,ak,aE,aF⟩:=sP L.1 ω
     cases aD;let⟨Aa,ca,I,aG⟩:=L.at_ H
     have a7:=P.2 _ (mM H);have J:left.getD (η left-1) []=left[η left-1]:=by simp[θ,H]
     rw[J]at l;let⟨e1,a8⟩:=xR (η left-1)
     have u2:IntKind.i64.wrap ((η left:Int)-1)=(e1:Int):=by rw[IntWalk.i64_in _ ω];omega
     have u4:e1<(η left:Int):=ω;generalize left[η left-1]=ra at *;rw[<-a8]at I;obtain⟨aH,bp,q⟩:=iA u2 J (bc _ m j _ _ _ a7 _ aG.drew);generalize qY _ N _ _ _ _ =r at *;have B:=dh l;clear l aj j az J a7 a8 u2;rcases W with rfl|rfl|rfl|rfl
     all_goals
      go_wp2_with fail
      have u2:=aH.o;refine wp_region_held_drew (S:=λw'=>q9 w' gl e1 (.slice Aa N ca)/\q9 w' w.1.size 0 (.slice A1 n1 c1)/\q9 w' w.1.size 1 (.slice A2 n2 c2)) κ ⟨I,y0,y1⟩ (λhS=>?_);refine qU 0 ?_;refine qU 1 ?_;refine qU 2 ?_;refine qU 3 ?_;refine qU 4 ?_;refine qU 5 ?_;refine qU 6 ?_;refine rR 7 (λK hK=>?_);go_simp;refine Calls.mono q ?_;rintro e Q ⟨v6,rfl,g,p,_⟩;have d:Below wr.1.size wr Q:=rF p;obtain⟨A6,c6,rfl,aT⟩:=qX g;have k2:=bC d M y0;have k3:=bC d M y1;have k0:=bC d ak I;go_wp2_with fail
      refine hK _ _ ⟨k0,k2,k3⟩ (λhS=>?_);clear hK;refine qU 8 ?_;refine wpAnyH_done κ ?_ _;clear u2;have X:=L.below d
      have R:Q.ownsRow wc.1.size 64 1 (.slice (jB ⟨gl,0,jC⟩) (η left-1) cl) (η left-1) (ig.take (η left-1)):=by
       have:=(X.cut (k:=(η left-1)) ω).1;rwa [show η (left.take (η left-1))=(η left-1) by rw[jq];omega]at this
      have ao:wc.1.size<=Q.1.size:=Nat.le_trans y.size d.size;have C:wc.1.size<=wr.drew.1.size:=y.size;have aU:η out<=10000:=by have:=V.o;omega
      have aV:=P.1;clear p k2 k3 hS k0;go_wp2_with (first|(at_builtin;refine rD rfl (.tmp 83) (.tmp 85) 66 rfl wc.1.size 64 1 24 Bp _ _ _ (R.alloc _) rfl Q.1.size #[.slice A6 N c6] rfl (heap_alloc_new Q _) rfl (by simp[Value.oneCell']) ω ω (by simp;omega) ?_;intro v7 w7 u Y D _;have HM:=dh (OW (t:=1) L rfl hG hD d g C u Y D);obtain⟨aW,E,F,Z⟩:=HM.grid;have a1:=dh F;clear F;have aq:wc.1.size<=w7.1.size:=Z.size)|(at_builtin;refine rD rfl (.tmp 87) (.tmp 89) 66 rfl wc.1.size 64 1 24 Bp _ _ _ (E.alloc _) rfl w7.1.size #[.slice A6 N c6] rfl (heap_alloc_new w7 _) rfl (by simp[Value.oneCell']) ω ω (by simp;omega) ?_;intro v8 w8 v a6 G _;have aC:=dh (TG HM E a1 v a6 G)))
      go_roundw
      case rel=>exact⟨k+1,ω,by go_num,by rw[B.o];exact aC.o⟩
      case measure=>simp[intOf];omega
    ·have W:=zM j;have d3:decide (op<=3)=jE:=by simp;omega
     have q4:(op==4)=jE:=by simp;omega
     have q8:(op==8)=jE:=by simp;omega
     have bB:(op==11)=jE:=by simp;omega
     have bE:(op==12)=jE:=by simp;omega
     have H:η left-1<η left:=ω;have aJ:η left-2<η left:=ω;let⟨gl,aX,aD,_,ak,aE,aF⟩:=sP L.1 ω
     cases aD;let⟨Aa,ca,I,aG⟩:=L.at_ aJ
     let⟨Ab,cb,aK,bq⟩:=L.at_ H
     have a7:=P.2 _ (mM aJ);have aY:=P.2 _ (mM H);have J:left.getD (η left-2) []=left[η left-2]:=by simp[θ,aJ]
     have aZ:left.getD (η left-1) []=left[η left-1]:=by simp[θ,H]
     rw[J,aZ]at l;let⟨e2,b4⟩:=xR (η left-2)
     let⟨e1,a8⟩:=xR (η left-1)
     have u1:IntKind.i64.wrap ((η left:Int)-2)=(e2:Int):=by rw[IntWalk.i64_in _ ω];omega
     have u2:IntKind.i64.wrap ((η left:Int)-1)=(e1:Int):=by rw[IntWalk.i64_in _ ω];omega
     have u3:e2<(η left:Int):=ω;have u4:e1<(η left:Int):=ω;generalize left[η left-2]=ra at *;generalize left[η left-1]=rb at *;rw[<-b4]at I;rw[<-a8]at aK;obtain⟨bp,br,aH,q⟩:=iB J u1 u2 (bd _ m j _ _ _ _ _ _ a7 aY _ aG.drew bq.drew);generalize qY _ N _ _ _ _ =r at *;have B:=dh l;clear J aZ a7 aY a8 b4 u1 u2 l aj j az W;go_wp2
     have u1:=br.o;have u2:=aH.o;refine wp_region_held_drew (S:=λw'=>q9 w' _ _ _/\q9 w' _ _ _/\q9 w' _ 0 _/\q9 w' _ 1 _) rfl ⟨I,aK,y0,y1⟩ (λhS=>?_);apply qU 0;apply qU 1;apply qU 2;apply qU 3;apply qU 4;apply qU 5;apply qU 6;apply qU 7;apply qU 8;apply qU 9;apply qU 10;apply qU 11;refine rR 12 (λK hK=>?_);go_simp;apply Calls.mono q.o;rintro e Q ⟨v6,rfl,g,p,_⟩;have d:Below wr.1.size _ _:=rF p;obtain⟨A6,c6,rfl,aT⟩:=qX g;have k2:=bC d M y0;have k3:=bC d M y1;have k0:=bC d ak I;have k1:=bC d ak aK;go_wp2
     refine hK _ _ ⟨k0,k1,k2,k3⟩ (λhS=>?_);clear hK;apply qU 13;refine wpAnyH_done rfl ?_ _;clear u1 u2;have X:=L.below d
     have R:Q.ownsRow wc.1.size 64 1 (.slice (jB ⟨gl,0,jC⟩) (η left-2) cl) (η left-2) (ig.take (η left-2)):=by
      have:=(X.cut (k:=(η left-2)) ω).1;rwa [show η (left.take _)=(η left-2) by rw[jq];omega]at this
     have ao:=Nat.le_trans y.size d.size;have C:wc.1.size<=wr.drew.1.size:=y.size;have aU:η out<=10000:=by have:=V.o;omega
     have aV:=P.1;clear p k2 k3 hS k0 k1;go_wp2_with (first|(at_builtin;refine rD rfl (.tmp 83) (.tmp 85) 66 rfl wc.1.size 64 1 24 Bp _ _ _ (R.alloc _) rfl Q.1.size #[.slice A6 N c6] rfl (heap_alloc_new Q _) rfl (by simp[Value.oneCell']) ω ω (by simp;omega) ?_;intro v7 w7 u Y D _;have HM:=dh (OW (t:=2) L rfl hG hD d g C u Y D);obtain⟨aW,E,F,Z⟩:=HM.grid;have a1:=dh F;clear F;have aq:wc.1.size<=w7.1.size:=Z.size)|(at_builtin;refine rD rfl (.tmp 87) (.tmp 89) 66 rfl wc.1.size 64 1 24 Bp _ _ _ (E.alloc _) rfl w7.1.size #[.slice A6 N c6] rfl (heap_alloc_new w7 _) rfl (by simp[Value.oneCell']) ω ω (by simp;omega) ?_;intro v8 w8 v a6 G _;have aC:=dh (TG HM E a1 v a6 G)))
     go_roundw
     case rel=>exact⟨k+1,ω,by go_num,by rwa [B.o]⟩
     case measure=>simp[intOf];omega
   ·have bu:k=η f:=ω;subst bu;obtain⟨ig,L,hG,hD⟩:=hrel;rw[abC]at hG;go_wp2
    go_ret
    exact⟨_,rfl,hG.base af⟩
 ·have av:(wrong f==0)=jE:=γ;have hF:=HF.o;have ad:=dh hF;have j:xu (wH st lo) f st lo=[]:=by simp[xu,hw]
  rw[j];go_enter Tryz.func25,Tryz.ntmps25;go_wp2_with fail
  apply Calls.mono (T _);rintro e w1 ⟨rfl,z⟩;have ar:=au.trans (z.mono ς);go_wp2_with fail
  apply Calls.mono (ad _ ar);rintro e _ ⟨rfl,rfl⟩;go_wp2
  go_ret
  exact⟨_,rfl,(zw.nil _).base ar⟩
set_option maxHeartbeats 2000000
theorem YN (A A1 A2 c n1 c1 n2 c2 f st lo w B B2)(hf:Sl w B 2 A (η f) c (qP f))(h:QX w B2 A1 A2 n1 c1 n2 c2 st lo)(u:B<=w.1.size)(l:B2<=w.1.size)(hl:n1+n2<=60000)(q:η f<=10000)(r:∀k,0<=AY st lo k):
  Calls jJ 11 #[.slice A (η f) c,.agg #[.slice A1 n1 c1,.slice A2 n2 c2]] w (AX w (Ey (wH st lo) f st lo)):=by
 have s:=dh (λ(w':jF) (hb:Below w.1.size w w')=>Yk A A1 A2 c n1 c1 n2 c2 f st lo w' ((hf.below hb u).up (Nat.le_trans u hb.size)) ((h.below hb l).up (Nat.le_trans l hb.size)) hl q r);clear h hf;go_enter Tryz.func11,Tryz.ntmps11;go_wp2_with fail
 refine Calls.mono (s _ (bR.alloc lR _)) ?_;rintro e w1 ⟨v,rfl,d⟩;have n:Below w.1.size w w1:=((Below.refl w.1.size w).alloc lR _).trans (d.choose_spec.2.2.mono ς);by_cases a:lo≠[]/\wrong f=0
 ·obtain⟨o,j,x,z⟩:=M7 (bits:=wH st lo) (st:=st) a.1 a.2;have y:=Nv (bits:=wH st lo) (st:=st) a.1 a.2;have C:0<η lo:=nT.2 a.1;have t:0<η (xu (wH st lo) f st lo):=ω;have D:η (xu (wH st lo) f st lo)<=100000:=by rw[j];omega
  obtain⟨g,cap,rfl⟩:=d.form t;obtain⟨E,F,hc,hs⟩:=d.cellAt x;have hlen:0<η (val (wH st lo) (η st+η lo) (η st) (sF f)):=ω;obtain⟨I,or,rfl,_,p⟩:=hs.rd.at_ (tV (i:=0) hlen);rw[<-y]at p;rw[<-j]at hc;generalize η (val (wH st lo) (η st+η lo) (η st) (sF f))=N at *;generalize Ey (wH st lo) f st lo=b at *;generalize η (xu (wH st lo) f st lo)=m at *;obtain⟨m,rfl⟩:∃k,m=k+1:=⟨m-1,ω⟩;rw[Nat.add_sub_cancel]at hc;rw[nG]at p;clear o j x z y d a s;go_wp2
  go_ret
  exact⟨rfl,n⟩
 ·have o:xu (wH st lo) f st lo=[]:=by rw[xu,d9 a]
  have j:Ey (wH st lo) f st lo=jE:=by simp[Ey,o]
  rw[o]at d;obtain⟨vs,hv,_⟩:=d;obtain⟨E,F,rfl,hs⟩:=qX hv;clear hv hs o s a;have G:=dh j;clear j;have H:decide ((0:Int)<((0:Nat):Int))=jE:=δ;go_wp2
  go_ret
  exact⟨rH G.symm,n⟩
theorem PX (h:∀m i,i<n->b1 m i=b2 m i)(x a b):qY b1 n lp x a b=qY b2 n lp x a b:=by
 unfold qY
 have e:(ζ n).map (tJ (b1 x.n) x n lp a b)=(ζ n).map (tJ (b2 x.n) x n lp a b):=j6 (λi hi=>by
  unfold tJ;rw[h x.n i (jl.1 hi)])
 rw[e]
theorem aag (h:∀m i,i<n->b1 m i=b2 m i):∀t:Tr,val b1 n lp t=val b2 n lp t
 | .leaf x=>PX h x [] []
 | .un x a=>by rw[val,val,aag h a];exact PX h x _ _
 | .bin x a b=>by rw[val,val,aag h a,aag h b];exact PX h x _ _
theorem aiF (a:∀k,0<=AY st lo k)(m k)(b:k<η st+η lo):wH st lo m k=yu (xM st lo) m k:=by
 unfold wH yu;have d:=a k;rw[OJ b];obtain⟨x,c⟩:∃x:Nat,AY st lo k=(x:Int):=⟨(AY st lo k).toNat,ω⟩;rw[c,tN,<-TN,and_one (qy ω (Int.le_of_lt (Int.pow_pos δ))),nN (qy ω (Int.le_of_lt (Int.pow_pos δ)))]
section
variable {f:List Nd}{st lo:List Int}
theorem Uw (hw:wrong f=0)(a:lo≠[])(b:∀n∈st,0<=n/\n<18446744073709551616)(c:∀n∈lo,0<=n/\n<18446744073709551616):
  Ey (wH st lo) f st lo=sat (yu (xM st lo)) (η (xM st lo)) (η st) (sF f) 0:=by
 rw[Nv a hw,EJ,aag (b2:=yu (xM st lo)) (λm i hi=>aiF (λk=>(Od b c k).1) m i hi)];rfl
theorem afy (a:lo≠[]):η st<η (xM st lo):=by
 rw[EJ];have:=nT.2 a;omega
theorem Dv (h:Ew f=0)(small)(a:lo≠[])(b:∀n∈st,0<=n/\n<18446744073709551616)(c:∀n∈lo,0<=n/\n<18446744073709551616):
  QI (Dx f small) (xM st lo) (η st)= !Ey (wH st lo) f st lo:=by
 have hw:=(yT (zk h).1).1;rw[Uw hw a b c,lG,Il,ahy h small (afy a)];simp
theorem ahs (h:Ew f=0)(e:Ew (neg f)=0)(a:lo≠[])(b:∀n∈st,0<=n/\n<18446744073709551616)(c:∀n∈lo,0<=n/\n<18446744073709551616):
  QI (Dx (neg f) jE) (xM st lo) (η st)= !QI (Dx f jD) (xM st lo) (η st):=by
 have hw:=(yT (zk h).1).1;obtain⟨d,hs⟩:=ag3 hw (bits:=yu (xM st lo)) (n:=η (xM st lo)) (lp:=η st) (by have:=afy (st:=st) a;omega);rw[Dv h jD a b c,Dv e jE a b c,Uw hw a b c,Uw d a b c,hs]
theorem afe (h:Ew f=0)(small:Bool):tO (Dx f small)=0:=vY.2 (zl h small).1
end
def NvP (w:jF)(f:List Nd)(small:Bool)(en:Ending)(w':jF):Prop:=
 ∃Ai ni ci An nn cn,en=.returned (.tuple #[.agg #[.int .i64 (Dx f small).sets,.slice Ai ni ci,.slice An nn cn],.int .i64 (Ew f)])/\sW w' w'.1.size (Dx f small) Ai ni ci An nn cn/\Below w.1.size w w'
theorem aiW {en:Ending}(h:aiz w (Ju f small) en w'):NvP w f small en w':=by
 obtain⟨Ai,ni,ci,An,nn,cn,e,a,hb⟩:=h
 have b:(if(Ju f small).2.2.2=0 then(Ju f small).2.1 else rQ.zero)=Dx f small:=by
  rw[Mw];split
  ·next h=>exact acJ h small
  ·next h=>unfold Dx;rw[d9 h]
 rw[b,Mw]at e;rw[b]at a;exact⟨Ai,ni,ci,An,nn,cn,e,a,hb⟩
theorem zQ (A c f small w)(hf:Sl w w.1.size 2 A (η f) c (qP f))(hl:η f<=1000000000)(a:TabAt 0 Lib.deBruijn64tab w)(b:0<w.1.size):
  Calls jJ 8 #[.slice A (η f) c,.bool small] w (NvP w f small):=
 Calls.mono (afb A c f small w hf hl a b (Wj f)) (λ_ _ h=>aiW h)
theorem yZ (h:Ew f=0){Ai:Option Addr}{ni ci:Nat}{An:Option Addr}{nn cn:Nat}(c:sW w B (Dx f small) Ai ni ci An nn cn)(hw:QX w B A1 A2 n1 c1 n2 c2 st lo)(d:B<=w.1.size)(hl:n1+n2<=24)(hp:0<n2)
  (g:∀n∈st,0<=n/\n<18446744073709551616)(i:∀n∈lo,0<=n/\n<18446744073709551616){a:Bool}(b:QI (Dx f small) (xM st lo) (η st)=a):
  Calls jJ 10 #[.agg #[.int .i64 (Dx f small).sets,.slice Ai ni ci,.slice An nn cn],.agg #[.slice A1 n1 c1,.slice A2 n2 c2]] w (AX w a):=by
 have j:nn<=256:=by rw[c.Ov];exact(zl h small).1.n256
 have hd:=ahw h small;have hi:=afj h small
 have e:(decide (tO (Dx f small)=0)&&decide (0<n2)&&QI (Dx f small) (xM st lo) n1)=a:=by
  rw[decide_eq_true (afe h small),decide_eq_true hp,hw.l1,b];simp
 have l:=oK j hl;have hc:=Ym (Dx f small) Ai ni ci An nn cn A1 A2 n1 c1 n2 c2 st lo w B c hw d ω ω g i hd.nd 100000 (λx k=>Nat.le_trans (hd.rows x k) ω) ω ω ω;rwa [e]at hc
theorem aiu:Km [⟨1,0⟩]=[⟨2,0⟩]:=KL ⟨⟨0,δ⟩,δ⟩
theorem XI:Ew [⟨1,0⟩]=0:=by
 unfold Ew;rw[aiu];decide +kernel
theorem ait:Km [⟨3,0⟩]=[⟨3,0⟩,⟨4,0⟩]:=KL ⟨⟨0,δ⟩,δ⟩
theorem NH:Ew [⟨3,0⟩]=0:=by
 unfold Ew;rw[ait];decide +kernel
theorem ajQ:Ew []=4:=by
 unfold Ew;rw[d9 δ];decide
theorem ajR:LP [⟨1,0⟩]=⟨1,[],[]⟩:=by
 unfold LP;rw[aiu];decide +kernel
theorem aiv:LP [⟨3,0⟩]=⟨1,[0],[⟨0,1,1,[1]⟩,⟨0,0,1,[1]⟩]⟩:=by
 unfold LP;rw[ait];decide +kernel
theorem ajT (W:List Nat)(lp:Nat):QI (Dx [⟨1,0⟩] jD) W lp=jE:=by
 rw[pR];intro h;rw[Il,K6 XI,ajR]at h;obtain⟨r,a, -⟩:=h;cases a
theorem ajS:QI (Dx [⟨3,0⟩] jD) (xM [] [1]) 0=jE:=by
 rw[pR];intro h;rw[Il,K6 NH,aiv]at h;obtain⟨r,b,c⟩:=h;have d:r 0=0:=by simpa using b
 have a:=c.gN 0;rw[d]at a
 revert a
 decide
theorem ajU:QI (Dx [⟨3,0⟩] jD) (xM [] [0]) 0=jD:=by
 rw[Il,K6 NH,aiv]
 have hw:∀i,(xM [] [0]).getD i 0=0:=λi=>by
  match i with
  |0=>rfl
  |i+1=>rfl
 have a:∀k:Nat,(if k=0 then 0 else 1)=0\/(if k=0 then 0 else 1)=1:=λk=>by split<;>simp
 refine⟨λk=>if k=0 then 0 else 1,δ,λk=>?_,λk=>?_,λk=>?_,λi hi k=>⟨k,lR,?_⟩⟩
 ·rcases a k with e|e<;>(rw[e];decide)
 ·rw[hw];rcases a k with e|e<;>(rw[e];decide)
 ·rw[d9 (Nat.succ_ne_zero k)];rcases a k with e|e<;>(rw[e];decide)
 ·have hi:i<1:=hi;obtain rfl:i=0:=ω;rcases a k with e|e<;>(rw[e];decide)
set_option maxHeartbeats 8000000
set_option maxRecDepth 100000
theorem Lx (w x y z):∃W,w.alloc (.cells #[x,y,z] 32)=W/\Below w.1.size w W/\W.1.size=w.1.size+1/\W.1[w.1.size]? =jB (.cells #[x,y,z] 32 (0,0)):=
 ⟨_,rfl,bR.alloc lR _,ς,heap_alloc_new w _⟩
theorem aga (w x y):∃W,w.alloc (.cells #[.int .i64 x,.int .i64 y] 44)=W/\Below w.1.size w W/\W.1.size=w.1.size+1/\Sl W W.1.size 2 (jB ⟨w.1.size,0,jC⟩) 1 1 (qP [⟨x,y⟩]):=by
 have a:(w.alloc (.cells #[.int .i64 x,.int .i64 y] 44)).1.size=w.1.size+1:=ς;exact⟨_,rfl,bR.alloc lR _,a,Oa (heap_alloc_new w _) rfl rfl (by unfold maxLen;omega) ω⟩
theorem ajV (l:List Obj):∀w:jF,Below w.1.size w (l.foldl jF.alloc w)/\(l.foldl jF.alloc w).1.size=w.1.size+η l/\∀i o,l[i]? =jB o->(l.foldl jF.alloc w).1[w.1.size+i]? =jB o:=by
 induction l with
 |nil=>exact λw=>⟨bR,rfl,λi o h=>by cases h⟩
 |cons x l d=>
  intro w;obtain⟨a,b,c⟩:=d (w.alloc x);have hs:(w.alloc x).1.size=w.1.size+1:=ς;rw[hs]at a b c;refine⟨(bR.alloc lR _).trans (a.mono (Nat.le_succ _)),by rw[jZ,b,jP];omega,λi o h=>?_⟩;rw[jZ];cases i with
  |zero=>
   rw[nG,a.block _ (nW _),heap_alloc_new w x];exact h
  |succ i=>
   rw[show w.1.size+(i+1)=w.1.size+1+i by omega];exact c i o h
theorem Ik (w)(hT:TabAt 0 Lib.deBruijn64tab w)(hg:0<w.1.size):Calls jJ 7 #[] w (AX w jD):=by
 have m:Hd (∀W',Below w.1.size w W'->TabAt 0 Lib.deBruijn64tab W'/\0<W'.1.size):=dh (λW' hb=>⟨λx hx=>bC hb hg (hT x hx),jh hg hb.size⟩);clear hT hg;obtain⟨W1,a6,s,z1,s1⟩:=aga w 1 0;obtain⟨a7,a8,ad⟩:=iA (zQ (jB ⟨w.1.size,0,jC⟩) 1 [⟨1,0⟩] jD W1 s1 δ (m W1 s).1 (m W1 s).2) a6 s;clear a6 s s1 z1;go_enter Tryz.func7,Tryz.ntmps7;go_wp2_with fail
 rw[a8.o];refine a7.mono ?_;rintro e w2 ⟨Ai,ni,ci,An,nn,cn,rfl,af,ag⟩;rw[XI,(zl XI jD).2];obtain⟨ah,aj⟩:=iw af (ad.trans (ag.mono ad.size));obtain⟨W3,ak,I,z3,k3⟩:=Lx w2 (.int .i64 1) (.slice Ai ni ci) (.slice An nn cn);obtain⟨ao,z,aq,ar,J⟩:=iC (aj.trans (I.mono aj.size)) I k3 z3 ak;obtain⟨W4,au,K,z4,s4⟩:=aga W3 3 0;obtain⟨u,n⟩:=iw (ao.trans (K.mono ao.size)) K;obtain⟨av,aw⟩:=iw (zQ (jB ⟨W3.1.size,0,jC⟩) 1 [⟨3,0⟩] jD W4 s4 δ (m W4 u.o).1 (m W4 u.o).2) au;clear af ag a7 a8 ak I z3 k3 au K z4 s4;go_upto_region 2 with fail
 first|rw[J.o]|(show Code.wp _ _ _ _ (w2.alloc (.cells #[.int .i64 1,.slice Ai ni ci,.slice An nn cn] 32));rw[J.o])
 go_wp2_with fail
 rw[aw.o];refine av.mono ?_;rintro e w5 ⟨W,X,Y,Z,mn,dn,rfl,ax,L⟩;rw[NH,(zl NH jD).2];obtain⟨ay,az,p⟩:=iA ax (u.trans (L.mono u.size)) (n.trans (L.mono n.size));obtain⟨W6,aA,v,z6,k6⟩:=Lx w5 (.int .i64 1) (.slice W X Y) (.slice Z mn dn);obtain⟨y,i,B,aB,aC,M⟩:=dh6 (az.trans (v.mono az.size)) (p.trans (v.mono p.size)) v k6 z6 aA;have aD:=dh (zQ jC 0 [] jD W6 (Sl.none_ _ _ _) δ (m W6 y.o).1 (m W6 y.o).2);clear ax L av aw aA v z6 k6 n p;go_upto_region 3 with fail
 first|rw[M.o]|(show Code.wp _ _ _ _ (w5.alloc (.cells #[.int .i64 1,.slice W X Y,.slice Z mn dn] 32));rw[M.o])
 go_wp2_with fail
 refine aD.mono ?_;rintro e w7 ⟨Ci,oi,pi,Cn,on,pn,rfl, -,N⟩;obtain⟨aE,C⟩:=iw (y.trans (N.mono y.size)) N;obtain⟨x,hx⟩:=xQ (Dx [] jD).sets;rw[hx,ajQ];obtain⟨d,aF,O,z8,k8⟩:=Lx w7 (.int .i64 x) (.slice Ci oi pi) (.slice Cn on pn);obtain⟨aG,D,P⟩:=iA (aE.trans (O.mono aE.size)) (C.trans (O.mono C.size)) aF;clear hx N aD aF O z8 k8;go_upto_region 4 with fail
 first|rw[P.o]|(show Code.wp _ _ _ _ (w7.alloc (.cells #[.int .i64 x,.slice Ci oi pi,.slice Cn on pn] 32));rw[P.o])
 go_upto_region 5 with fail
 obtain⟨j,q,c⟩:=ajV ([.cells #[.int .u64 1] 45,.cells #[.int .u64 0] 45,.cells #[.slice jC 0 0,.slice (jB ⟨d.1.size,0,jC⟩) 1 1] 25,.cells #[.slice jC 0 0,.slice (jB ⟨d.1.size+1,0,jC⟩) 1 1] 25]:List Obj) d;obtain⟨a,r⟩:=xQ (([.cells #[.int .u64 1] 45,.cells #[.int .u64 0] 45,.cells #[.slice jC 0 0,.slice (jB ⟨d.1.size,0,jC⟩) 1 1] 25,.cells #[.slice jC 0 0,.slice (jB ⟨d.1.size+1,0,jC⟩) 1 1] 25]:List Obj).foldl jF.alloc d);rw[r]at j q c;show Code.wp _ _ _ _ (([.cells #[.int .u64 1] 45,.cells #[.int .u64 0] 45,.cells #[.slice jC 0 0,.slice (jB ⟨d.1.size,0,jC⟩) 1 1] 25,.cells #[.slice jC 0 0,.slice (jB ⟨d.1.size+1,0,jC⟩) 1 1] 25]:List Obj).foldl jF.alloc d);rw[r];have j0:=c 0 _ rfl;have j1:=c 1 _ rfl;have j2:=c 2 _ rfl;have j3:=c 3 _ rfl;simp only[jP,lD]at q;obtain⟨E,b⟩:=iw (aG.trans (j.mono aG.size)) (D.trans (j.mono D.size));clear r c j;obtain⟨q3,aH⟩:=xQ (d.1.size+1+1+1);obtain⟨q2,aJ⟩:=xQ (d.1.size+1+1);obtain⟨q1,Q⟩:=xQ (d.1.size+1);obtain⟨R,S⟩:=xQ d.1.size;rw[show d.1.size+0=R by omega]at j0;rw[show d.1.size+1=q1 by omega]at j1;rw[show d.1.size+2=q2 by omega]at j2;rw[show d.1.size+3=q3 by omega]at j3;have lq:R<a.1.size/\q1<a.1.size/\q2<a.1.size/\q3<a.1.size:=ω;rw[aH,aJ,Q,S];rw[S]at j2;rw[Q]at j3;clear S Q aJ aH q;obtain⟨l0,l1,l2,l3⟩:=lq;have T:Hd (∀w',Below a.1.size a w'->QX w' w'.1.size jC (jB ⟨R,0,jC⟩) 0 0 1 1 [] [1]):=dh (λw' hb=>⟨Sl.none_ _ _ _,Oa ((hb.block R l0).trans j0) rfl rfl (by unfold maxLen;omega) (jh l0 hb.size),rfl,rfl⟩);have aK:Hd (∀w',Below a.1.size a w'->QX w' w'.1.size jC (jB ⟨q1,0,jC⟩) 0 0 1 1 [] [0]):=dh (λw' hb=>⟨Sl.none_ _ _ _,Oa ((hb.block q1 l1).trans j1) rfl rfl (by unfold maxLen;omega) (jh l1 hb.size),rfl,rfl⟩)
 have aL:Hd (∀w',Below a.1.size a w'->sW w' w'.1.size (Dx [⟨1,0⟩] jD) Ai ni ci An nn cn):=dh (λw' hb=>by
  have h6:=b.trans (hb.mono b.size);have h3:=i.trans (h6.mono i.size);have h2:=z.trans (h3.mono z.size);exact(ah.below h2 lR).up h2.size)
 have U:Hd (∀w',Below a.1.size a w'->sW w' w'.1.size (Dx [⟨3,0⟩] jD) W X Y Z mn dn):=dh (λw' hb=>by
  have h6:=b.trans (hb.mono b.size);have h5:=B.trans (h6.mono B.size);exact(ay.below h5 lR).up h5.size)
 have aN:Hd (∀w',Below a.1.size a w'->Calls jJ 10 #[.agg #[.int .i64 1,.slice Ai ni ci,.slice An nn cn],.agg #[.slice jC 0 0,.slice (jB ⟨R,0,jC⟩) 1 1]] w' (AX w' jE)):=dh (λw' hb=>by
  have h:=yZ XI (aL w' hb) (T w' hb) lR δ δ δ δ (ajT _ _);rw[(zl XI jD).2]at h;exact h)
 have aO:Hd (∀w',Below a.1.size a w'->Calls jJ 10 #[.agg #[.int .i64 1,.slice W X Y,.slice Z mn dn],.agg #[.slice jC 0 0,.slice (jB ⟨R,0,jC⟩) 1 1]] w' (AX w' jE)):=dh (λw' hb=>by
  have h:=yZ NH (U w' hb) (T w' hb) lR δ δ δ δ ajS;rw[(zl NH jD).2]at h;exact h)
 have aP:Hd (∀w',Below a.1.size a w'->Calls jJ 10 #[.agg #[.int .i64 1,.slice W X Y,.slice Z mn dn],.agg #[.slice jC 0 0,.slice (jB ⟨q1,0,jC⟩) 1 1]] w' (AX w' jD)):=dh (λw' hb=>by
  have h:=yZ NH (U w' hb) (aK w' hb) lR δ δ δ δ ajU;rw[(zl NH jD).2]at h;exact h)
 have V:Hd (∀w',Below a.1.size a w'->(w'.cell? ⟨w2.1.size,0,jC⟩=jB (.int .i64 1)/\w'.cell? ⟨w2.1.size,1,jC⟩=jB (.slice Ai ni ci)/\w'.cell? ⟨w2.1.size,2,jC⟩=jB (.slice An nn cn))/\(w'.cell? ⟨w5.1.size,0,jC⟩=jB (.int .i64 1)/\w'.cell? ⟨w5.1.size,1,jC⟩=jB (.slice W X Y)/\w'.cell? ⟨w5.1.size,2,jC⟩=jB (.slice Z mn dn))/\
   (w'.cell? ⟨q2,0,jC⟩=jB (.slice jC 0 0)/\w'.cell? ⟨q2,1,jC⟩=jB (.slice (jB ⟨R,0,jC⟩) 1 1))/\w'.cell? ⟨q3,0,jC⟩=jB (.slice jC 0 0)/\w'.cell? ⟨q3,1,jC⟩=jB (.slice (jB ⟨q1,0,jC⟩) 1 1)):=dh (λw' hb=>by
  have h6:=b.trans (hb.mono b.size);have h3:=i.trans (h6.mono i.size);have e1:=ar.o;have e2:=aC.o;have k2:=(hb.block q2 l2).trans j2;have k3:=(hb.block q3 l3).trans j3;refine⟨sQ ((h3.block _ ω).trans aq.o),sQ ((h6.block _ ω).trans aB.o),⟨?_,?_⟩,?_,?_⟩<;>first|(rw[cell_of_row _ _ _ _ _ (0,0) k2];rfl)|(rw[cell_of_row _ _ _ _ _ (0,0) k3];rfl))
 clear ah aq ar J ay aB aC M P j0 j1 j2 j3 l0 l1 l2 l3 aL U T aK;obtain⟨⟨a0,a1,a2⟩,⟨b0,b1,b2⟩,⟨c0,c1⟩,d0,d1⟩:=V a bR;go_wp2_with fail
 refine(aN _ bR).mono ?_;rintro e aQ ⟨rfl,F⟩;have k:=dh F;clear a0 a1 a2 b0 b1 b2 c0 c1 d0 d1 F;obtain⟨⟨a0,a1,a2⟩,⟨b0,b1,b2⟩,⟨c0,c1⟩,d0,d1⟩:=V aQ k.o;go_wp2_with fail
 refine(aO _ k.o).mono ?_;rintro e aR ⟨rfl,G⟩;have l:=dh (k.trans (G.mono k.size));clear a0 a1 a2 b0 b1 b2 c0 c1 d0 d1 G;obtain⟨⟨a0,a1,a2⟩,⟨b0,b1,b2⟩,⟨c0,c1⟩,d0,d1⟩:=V aR l.o;go_wp2_with fail
 refine(aP _ l.o).mono ?_;rintro e aS ⟨rfl,H⟩;have aM:=dh (E.trans ((l.trans (H.mono l.size)).mono E.size));clear a0 a1 a2 b0 b1 b2 c0 c1 d0 d1 H;go_wp2_with fail
 go_ret
 exact⟨rfl,aM.o⟩
theorem own:ownKnob Tryz.prog.godebug=jC:=κ
theorem laidOut:laidOutB jJ=jD:=κ
theorem UJ {x:Int}(h:(Lit.int .u64 x).wf=jD):0<=x/\x<=18446744073709551615:=by
 simp[Lit.wf,IntKind.min,IntKind.max,IntKind.signed,IntKind.bits]at h;omega
set_option maxHeartbeats 8000000
set_option maxRecDepth 100000
theorem QN (A c f A1 A2 n1 c1 n2 c2 st lo small w)(hf:Sl w w.1.size 2 A (η f) c (qP f))(hw:QX w w.1.size A1 A2 n1 c1 n2 c2 st lo)(hl:η f<=8796093022208)(h1:∀n∈st,(Lit.int .u64 n).wf=jD)(h2:∀n∈lo,(Lit.int .u64 n).wf=jD)(ag:η st<=17592186044416)(ah:η lo<=17592186044416)(hT:TabAt 0 Lib.deBruijn64tab w)(hg:0<w.1.size):
  Calls jJ 3 #[.slice A (η f) c,.agg #[.slice A1 n1 c1,.slice A2 n2 c2],.bool small] w (AX w jD):=by
 obtain⟨m,x0,x1⟩:=GA w A1 A2 n1 c1 n2 c2;have z0:(w.alloc (.cells #[.slice A1 n1 c1,.slice A2 n2 c2] 25)).1.size=w.1.size+1:=ς;obtain⟨a,V⟩:=xQ (w.alloc (.cells #[.slice A1 n1 c1,.slice A2 n2 c2] 25));rw[V]at m x0 x1 z0;have d:w.1.size<=a.1.size:=ω;have hq:w.1.size<a.1.size:=ω;have HF:Hd (∀W',Below a.1.size a W'->Sl W' W'.1.size 2 A (η f) c (qP f)):=dh (λW' hb=>(hf.below (m.trans (hb.mono d)) lR).up (Nat.le_trans d hb.size));have Y:Hd (∀W',Below a.1.size a W'->QX W' W'.1.size A1 A2 n1 c1 n2 c2 st lo):=dh (λW' hb=>(hw.below (m.trans (hb.mono d)) lR).up (Nat.le_trans d hb.size));have Z:Hd (∀W',Below a.1.size a W'->W'.cell? ⟨w.1.size,0,jC⟩=jB (.slice A1 n1 c1)/\W'.cell? ⟨w.1.size,1,jC⟩=jB (.slice A2 n2 c2)):=dh (λW' hb=>⟨bC hb hq x0,bC hb hq x1⟩)
 have L:Hd (∀W',Below a.1.size a W'->TabAt 0 Lib.deBruijn64tab W'/\0<W'.1.size):=dh (λW' hb=>by
  have a1:=m.trans (hb.mono d);exact⟨λx hx=>bC a1 hg (hT x hx),jh hg a1.size⟩)
 have p:Hd (∀W',Below a.1.size a W'->Calls jJ 7 #[] W' (AX W' jD)):=dh (λW' hb=>Ik W' (L W' hb).1 (L W' hb).2);have W:=dh (λn hn=>by have:=UJ (h1 n hn);(exact(⟨ω,ω⟩:0<=n/\n<18446744073709551616)));have X:=dh (λn hn=>by have:=UJ (h2 n hn);(exact(⟨ω,ω⟩:0<=n/\n<18446744073709551616)));obtain⟨B,q⟩:=iw V m;have R:=hw.l1;have T:=hw.l2;obtain⟨aj,a6⟩:=iw R T;have ax:n1<=17592186044416:=ω;have ay:n2<=17592186044416:=ω;obtain⟨x0,x1⟩:=Z a bR;clear V m z0 hf hw h1 h2 hT hg R T ag ah;by_cases g0:30<η f
 ·have az:(30:Int)<(η f:Int):=ω;go_enter Tryz.func3,Tryz.ntmps3;go_wp2_with fail
  rw[B.o];refine(p _ (Below.refl a.1.size a)).mono ?_;rintro e w9 ⟨rfl,b⟩;have l:=dh (q.trans (((Below.refl a.1.size a).trans (b.mono (Below.refl a.1.size a).size)).mono d));clear b;go_wp2_with fail
  go_ret
  exact⟨rfl,l.o⟩
 have aA:¬(30:Int)<(η f:Int):=ω;by_cases g1:12<n1
 ·have aB:(12:Int)<(n1:Int):=ω;go_enter Tryz.func3,Tryz.ntmps3;go_wp2_with fail
  rw[B.o];refine(p _ (Below.refl a.1.size a)).mono ?_;rintro e w9 ⟨rfl,b⟩;have l:=dh (q.trans (((Below.refl a.1.size a).trans (b.mono (Below.refl a.1.size a).size)).mono d));clear b;go_wp2_with fail
  go_ret
  exact⟨rfl,l.o⟩
 have aC:¬(12:Int)<(n1:Int):=ω;by_cases g2:12<n2
 ·have aD:(12:Int)<(n2:Int):=ω;go_enter Tryz.func3,Tryz.ntmps3;go_wp2_with fail
  rw[B.o];refine(p _ (Below.refl a.1.size a)).mono ?_;rintro e w9 ⟨rfl,b⟩;have l:=dh (q.trans (((Below.refl a.1.size a).trans (b.mono (Below.refl a.1.size a).size)).mono d));clear b;go_wp2_with fail
  go_ret
  exact⟨rfl,l.o⟩
 have aE:¬(12:Int)<(n2:Int):=ω;have C:=dh (Dl A1 A2 n1 c1 n2 c2 st lo a aj a6 ω);by_cases D:n2=0
 ·rw[jd D]at C;clear D;go_enter Tryz.func3,Tryz.ntmps3;go_wp2_with fail
  rw[B.o];refine C.mono ?_;rintro e w1 ⟨rfl,r⟩;go_wp2_with fail
  refine(p _ r).mono ?_;rintro e w9 ⟨rfl,b⟩;have l:=dh (q.trans ((r.trans (b.mono r.size)).mono d));clear b;go_wp2_with fail
  go_ret
  exact⟨rfl,l.o⟩
 rw[d9 D]at C;have a7:0<n2:=ω;have ak:Hd (lo≠[]):=dh (by rintro rfl;exact D a6.o);clear D;go_enter Tryz.func3,Tryz.ntmps3;go_wp2_with fail
 rw[B.o];refine C.mono ?_;rintro e w1 ⟨rfl,r⟩;have E:=dh r;clear r C x0 x1;have HO:=dh (zQ A c f small w1 (HF w1 E.o) ω (L w1 E.o).1 (L w1 E.o).2);go_wp2_with fail
 refine HO.mono ?_;rintro e w2 ⟨Ai,ni,ci,An,nn,cn,rfl,F,a8⟩;have M:=dh (E.trans (a8.mono E.size));clear a8 HO;by_cases U:Ew f=0
 ·rw[U];have hs:=(zl U small).2;obtain⟨v,hv⟩:=xQ (Ey (wH st lo) f st lo);obtain⟨i,G,s,z3,k3⟩:=Lx w2 (.int .i64 1) (.slice Ai ni ci) (.slice An nn cn);obtain⟨u,ad⟩:=iw (M.trans (s.mono M.size)) (F.below s lR);have z:Hd (∀W',Below i.1.size i W'->Below a.1.size a W'):=dh (λW' hb=>u.trans (hb.mono u.size))
  have ao:Hd (∀W',Below i.1.size i W'->Calls jJ 10 #[.agg #[.int .i64 1,.slice Ai ni ci,.slice An nn cn],.agg #[.slice A1 n1 c1,.slice A2 n2 c2]] W' (AX W' (!v))):=dh (λW' hb=>by
   have h:=yZ U ((ad.below hb ω).up (by have:=hb.size;omega)) (Y W' (z W' hb)) lR ω a7 W X (Dv U small ak W X.o);rw[hs,hv]at h;exact h)
  have aq:Hd (∀W',Below i.1.size i W'->Calls jJ 9 #[.agg #[.int .i64 1,.slice Ai ni ci,.slice An nn cn]] W' (Num W' 0)):=dh (λW' hb=>by
   have h:=Qz (Dx f small) Ai ni ci An nn cn W' w2.1.size (ad.below hb ω) (by have:=hb.size;omega);rw[hs,afe U small]at h;exact h)
  have ar:Hd (∀W',Below i.1.size i W'->Calls jJ 11 #[.slice A (η f) c,.agg #[.slice A1 n1 c1,.slice A2 n2 c2]] W' (AX W' v)):=dh (λW' hb=>by
   have h:=YN A A1 A2 c n1 c1 n2 c2 f st lo W' W'.1.size W'.1.size (HF W' (z W' hb)) (Y W' (z W' hb)) lR lR ω ω (λk=>(Od W X k).1);rw[hv]at h;exact h)
  have au:w2.1.size<i.1.size:=ω
  have H:Hd (∀w',Below i.1.size i w'->w'.cell? ⟨w2.1.size,0,jC⟩=jB (.int .i64 1)/\w'.cell? ⟨w2.1.size,1,jC⟩=jB (.slice Ai ni ci)/\w'.cell? ⟨w2.1.size,2,jC⟩=jB (.slice An nn cn)/\w'.cell? ⟨w.1.size,0,jC⟩=jB (.slice A1 n1 c1)/\w'.cell? ⟨w.1.size,1,jC⟩=jB (.slice A2 n2 c2)):=dh (λw' hb=>by
   obtain⟨k0,k1,k2⟩:=sQ ((hb.block w2.1.size au).trans k3);obtain⟨p0,p1⟩:=Z w' (z w' hb);exact⟨k0,k1,k2,p0,p1⟩)
  have N:Hd (Below i.1.size i i.drew):=dh (Below.drew bR);have I:=dh G;have aF:((!v)==(!v))=jD:=by cases v<;>rfl
  rw[hs];clear F hs hv U G s k3;go_upto_region 6 with fail
  first|rw[I.o]|(show Code.wp _ _ _ _ (w2.alloc (.cells #[.int .i64 1,.slice Ai ni ci,.slice An nn cn] 32));rw[I.o])
  refine wp_region_held_drew (S:=λw'=>q9 w' w2.1.size 0 (.int .i64 1)/\q9 w' w2.1.size 1 (.slice Ai ni ci)/\q9 w' w2.1.size 2 (.slice An nn cn)/\q9 w' w.1.size 0 (.slice A1 n1 c1)/\q9 w' w.1.size 1 (.slice A2 n2 c2)) κ (H _ N.o) (λhS=>?_);refine qU 0 ?_;refine qU 1 ?_;refine qU 2 ?_;refine qU 3 ?_;refine qU 4 ?_;refine rR 5 (λK J=>?_);go_simp;refine(aq _ N.o).mono ?_;rintro e w4 ⟨rfl,j⟩;have O:Below i.1.size i w4:=(N.o).trans (j.mono (N.o).size);clear j;dsimp only;refine J _ _ (H _ O) (λhS=>?_);clear J;refine qU 6 ?_;refine qU 7 ?_;refine qU 8 ?_;refine qU 9 ?_;refine qU 10 ?_;refine qU 12 ?_;refine qU 13 ?_;refine rR 11 (λK J=>?_);go_simp;refine(ao _ O).mono ?_;rintro e w5 ⟨rfl,j⟩;have P:Below i.1.size i w5:=(O).trans (j.mono (O).size);clear j;dsimp only;refine J _ _ (H _ P) (λhS=>?_);clear J;refine rR 14 (λK J=>?_);go_simp;refine(ar _ P).mono ?_;rintro e w6 ⟨rfl,j⟩;have Q:Below i.1.size i w6:=(P).trans (j.mono (P).size);clear j;dsimp only;refine J _ _ (H _ Q) (λhS=>?_);clear J;refine qU 15 ?_;refine qU 16 ?_;refine qU 17 ?_;refine qU 18 ?_;refine rR 19 (λK J=>?_);go_simp;refine(p _ (z _ Q)).mono ?_;rintro e w7 ⟨rfl,j⟩;have af:Below i.1.size i w7:=Q.trans (j.mono Q.size);clear j;dsimp only;refine J _ _ (H _ af) (λhS=>?_);clear J;refine qU 20 ?_;refine qU 21 ?_;refine wpAnyH_done κ ?_ _;clear hS;have av:=dh (q.trans ((z _ af).mono d));go_wp2_with fail
  go_ret
  exact⟨rfl,av.o⟩
 ·have ha:Dx f small=rQ.zero:=by unfold Dx;rw[d9 U]
  rw[ha]at F⊢;have aw:nn=0:=F.Ov;subst aw;obtain⟨y,hy⟩:=xQ (Ew f);rw[hy]at U⊢;obtain⟨i,G,s,z3,k3⟩:=Lx w2 (.int .i64 0) (.slice Ai ni ci) (.slice An 0 cn);obtain⟨u,I⟩:=iw (M.trans (s.mono M.size)) G;obtain⟨k0,k1,k2⟩:=sQ k3;clear F ha hy G s k3;go_upto_region 5 with fail
  first|rw[I.o]|(show Code.wp _ _ _ _ (w2.alloc (.cells #[.int .i64 0,.slice Ai ni ci,.slice An 0 cn] 32));rw[I.o])
  go_wp2_with fail
  refine(p _ u.o).mono ?_;rintro e w9 ⟨rfl,b⟩;have l:=dh (q.trans ((u.trans (b.mono u.size)).mono d));clear b;go_wp2_with fail
  go_ret
  exact⟨rfl,l.o⟩
set_option maxHeartbeats 1000000
theorem agE (A c f w B)(hf:Sl w B 2 A (η f) c (qP f))(v:B<=w.1.size)(hl:η f<=1000000):
  Calls jJ 12 #[.slice A (η f) c] w (sI w 44 2 (η (neg f)) (qP (neg f)) (neg f=[])):=by
 by_cases hw:wrong f=0
 ·have l:(wrong f==0)=jD:=by simp[hw]
  have m:=dh hw;clear hw
  have n:∀w:jF,(w.alloc (.cells #[] 44)).ownsRow w.1.size 44 2 (.slice (jB ⟨w.1.size,0,jC⟩) 0 0) 0 []:=
   λw=>jF.ownsRow_made w #[] 0 lR (by unfold maxLen;omega) ς
  go_enter Tryz.func12,Tryz.ntmps12;go_wp2_with (first|(go_at_call 26;refine(Ti A c f w B hf ω).mono ?_;rintro e w' ⟨rfl,rfl⟩)|(at_builtin;refine yA rfl (.tmp 6) (.tmp 7) 22 rfl w.1.size 44 2 16 FK _ _ _ (n w) rfl B A (η f) c (qP f) rfl (hf.below ((Below.refl w.1.size w).alloc lR _) v) (FX f) ω ω ς ?_;intro v2 w2 a d s p;have q:=d.size;simp only[jF.size_alloc]at q)|(at_builtin;refine rD rfl (.tmp 8) (.tmp 10) 22 rfl w.1.size 44 2 16 FK _ _ _ (a.alloc _) rfl w2.1.size #[.int .i64 4,.int .i64 0] rfl (heap_alloc_new w2 _) rfl (by simp[Value.oneCell']) ω ω (by simp;omega) ?_;intro v3 w3 b g u i))
  go_ret
  have j:neg f=f++[⟨4,0⟩]:=by rw[neg,jd m.o]
  refine⟨v3,rfl,?_,?_,?_⟩
  ·rw[j,uY,lA];simpa[qP]using b
  ·have x:=g.size;have r:=((Below.refl w.1.size w).alloc lR _).trans (d.below ς (λk y h=>by simp[Value.ownBlock]at h;omega));exact r.trans (((Below.refl w.1.size w2).alloc ω _).trans (g.below (by simp;omega) (λk y h=>by have:=(a.lt k h).1;omega)))
  ·rw[j];simp[i]
 ·have l:(wrong f==0)=jE:=by simpa using hw
  have m:=dh hw;clear hw;go_enter Tryz.func12,Tryz.ntmps12;go_wp2_with (first|(go_at_call 26;refine(Ti A c f w B hf ω).mono ?_;rintro e w' ⟨rfl,rfl⟩))
  go_ret
  have j:neg f=[]:=by rw[neg,d9 m.o]
  exact⟨_,rfl,by rw[j];exact jF.ownsRow_nil _ _ _ _,bR,by simp[j]⟩
set_option maxHeartbeats 8000000
set_option maxRecDepth 100000
theorem Rj (A c f A1 A2 n1 c1 n2 c2 st lo w)(hf:Sl w w.1.size 2 A (η f) c (qP f))(hw:QX w w.1.size A1 A2 n1 c1 n2 c2 st lo)(hl:η f<=8796093022208)(h1:∀n∈st,(Lit.int .u64 n).wf=jD)(h2:∀n∈lo,(Lit.int .u64 n).wf=jD)(aJ:η st<=17592186044416)(aK:η lo<=17592186044416)(hT:TabAt 0 Lib.deBruijn64tab w)(hg:0<w.1.size):
  Calls jJ 4 #[.slice A (η f) c,.agg #[.slice A1 n1 c1,.slice A2 n2 c2]] w (AX w jD):=by
 obtain⟨y,x0,x1⟩:=GA w A1 A2 n1 c1 n2 c2;have z0:(w.alloc (.cells #[.slice A1 n1 c1,.slice A2 n2 c2] 25)).1.size=w.1.size+1:=ς;obtain⟨b,a8⟩:=xQ (w.alloc (.cells #[.slice A1 n1 c1,.slice A2 n2 c2] 25));rw[a8]at y x0 x1 z0;have d:w.1.size<=b.1.size:=ω;have hq:w.1.size<b.1.size:=ω;have HF:Hd (∀W',Below b.1.size b W'->Sl W' W'.1.size 2 A (η f) c (qP f)):=dh (λW' hb=>(hf.below (y.trans (hb.mono d)) lR).up (Nat.le_trans d hb.size));have ao:Hd (∀W',Below b.1.size b W'->QX W' W'.1.size A1 A2 n1 c1 n2 c2 st lo):=dh (λW' hb=>(hw.below (y.trans (hb.mono d)) lR).up (Nat.le_trans d hb.size));have aq:Hd (∀W',Below b.1.size b W'->W'.cell? ⟨w.1.size,0,jC⟩=jB (.slice A1 n1 c1)/\W'.cell? ⟨w.1.size,1,jC⟩=jB (.slice A2 n2 c2)):=dh (λW' hb=>⟨bC hb hq x0,bC hb hq x1⟩)
 have z:Hd (∀W',Below b.1.size b W'->TabAt 0 Lib.deBruijn64tab W'/\0<W'.1.size):=dh (λW' hb=>by
  have ar:=y.trans (hb.mono d);exact⟨λx hx=>bC ar hg (hT x hx),jh hg ar.size⟩)
 have m:Hd (∀W',Below b.1.size b W'->Calls jJ 7 #[] W' (AX W' jD)):=dh (λW' hb=>Ik W' (z W' hb).1 (z W' hb).2);have p:=dh (λn hn=>by have:=UJ (h1 n hn);(exact(⟨ω,ω⟩:0<=n/\n<18446744073709551616)));have q:=dh (λn hn=>by have:=UJ (h2 n hn);(exact(⟨ω,ω⟩:0<=n/\n<18446744073709551616)));obtain⟨D,r⟩:=iw a8 y;have W:=hw.l1;have X:=hw.l2;obtain⟨aL,au⟩:=iw W X;have aX:n1<=17592186044416:=ω;have aY:n2<=17592186044416:=ω;obtain⟨x0,x1⟩:=aq b bR;clear a8 y z0 hf hw h1 h2 hT hg W X aJ aK;by_cases g0:24<=η f
 ·have aZ:(24:Int)<=(η f:Int):=ω;go_enter Tryz.func4,Tryz.ntmps4;go_wp2_with fail
  rw[D.o];refine(m _ (Below.refl b.1.size b)).mono ?_;rintro e w9 ⟨rfl,a⟩;have i:=dh (r.trans (((Below.refl b.1.size b).trans (a.mono (Below.refl b.1.size b).size)).mono d));clear a;go_wp2_with fail
  go_ret
  exact⟨rfl,i.o⟩
 have b4:¬(24:Int)<=(η f:Int):=ω;by_cases g1:12<n1
 ·have b5:(12:Int)<(n1:Int):=ω;go_enter Tryz.func4,Tryz.ntmps4;go_wp2_with fail
  rw[D.o];refine(m _ (Below.refl b.1.size b)).mono ?_;rintro e w9 ⟨rfl,a⟩;have i:=dh (r.trans (((Below.refl b.1.size b).trans (a.mono (Below.refl b.1.size b).size)).mono d));clear a;go_wp2_with fail
  go_ret
  exact⟨rfl,i.o⟩
 have b6:¬(12:Int)<(n1:Int):=ω;by_cases g2:12<n2
 ·have b9:(12:Int)<(n2:Int):=ω;go_enter Tryz.func4,Tryz.ntmps4;go_wp2_with fail
  rw[D.o];refine(m _ (Below.refl b.1.size b)).mono ?_;rintro e w9 ⟨rfl,a⟩;have i:=dh (r.trans (((Below.refl b.1.size b).trans (a.mono (Below.refl b.1.size b).size)).mono d));clear a;go_wp2_with fail
  go_ret
  exact⟨rfl,i.o⟩
 have bc:¬(12:Int)<(n2:Int):=ω;have E:=dh (Dl A1 A2 n1 c1 n2 c2 st lo b aL au ω);by_cases F:n2=0
 ·rw[jd F]at E;clear F;go_enter Tryz.func4,Tryz.ntmps4;go_wp2_with fail
  rw[D.o];refine E.mono ?_;rintro e w1 ⟨rfl,B⟩;go_wp2_with fail
  refine(m _ B).mono ?_;rintro e w9 ⟨rfl,a⟩;have i:=dh (r.trans ((B.trans (a.mono B.size)).mono d));clear a;go_wp2_with fail
  go_ret
  exact⟨rfl,i.o⟩
 rw[d9 F]at E;have Y:0<n2:=ω;have G:Hd (lo≠[]):=dh (by rintro rfl;exact F au.o);clear F;go_enter Tryz.func4,Tryz.ntmps4;go_wp2_with fail
 rw[D.o];refine E.mono ?_;rintro e w1 ⟨rfl,B⟩;have H:=dh B;clear B E x0 x1;have HO:=dh (zQ A c f jD w1 (HF w1 H.o) ω (z w1 H.o).1 (z w1 H.o).2);go_wp2_with fail
 refine HO.mono ?_;rintro e w2 ⟨Ai,ni,ci,An,nn,cn,rfl,av,I⟩;obtain⟨aw,aM⟩:=iw (H.trans (I.mono H.size)) av;obtain⟨s1,ad⟩:=xQ (Dx f jD).sets;rw[ad];have ax:=dh ad;obtain⟨W3,ay,s,z3,k3⟩:=Lx w2 (.int .i64 s1) (.slice Ai ni ci) (.slice An nn cn);obtain⟨Z,af,aN,az⟩:=iB s (aw.trans (s.mono aw.size)) k3 ay;have aA:=dh (agE A c f W3 W3.1.size (HF W3 af.o) lR ω);obtain⟨y1,ag⟩:=xQ (Ew f);rw[ag];obtain⟨J,aO⟩:=iw ag z3;clear I av HO ad ay s k3 ag z3;go_upto_region 4 with fail
 first|rw[az.o]|(show Code.wp _ _ _ _ (w2.alloc (.cells #[.int .i64 s1,.slice Ai ni ci,.slice An nn cn] 32));rw[az.o])
 go_wp2_with fail
 refine aA.mono ?_;rintro e w4 ⟨v4,rfl,aB,ah, -⟩;obtain⟨A4,c4,rfl,aC⟩:=qX aB;obtain⟨a1,O⟩:=iw ah (af.trans (ah.mono af.size));have bd:=Y9 f;have HO:=dh (zQ A4 c4 (neg f) jE w4 aC ω (z w4 O.o).1 (z w4 O.o).2);clear ah aB aC aA;go_wp2_with fail
 refine HO.mono ?_;rintro e L ⟨Bi,mi,di,Bn,mn,dn,rfl,aD,C⟩;obtain⟨a6,aE⟩:=iw (a1.trans (C.mono a1.size)) (O.trans (C.mono O.size));obtain⟨s2,aj⟩:=xQ (Dx (neg f) jE).sets;rw[aj];obtain⟨y2,ak⟩:=xQ (Ew (neg f));rw[ak];obtain⟨j,aF,P,z6,k6⟩:=Lx L (.int .i64 s2) (.slice Bi mi di) (.slice Bn mn dn);obtain⟨k,u,a7,aG,aP,aQ,aH,M,aR⟩:=dh9 (aE.trans (P.mono aE.size)) (a6.trans (P.mono a6.size)) P aF k6 aD aj ak z6;clear aD C aj ak aF P k6 z6 HO;go_upto_region 5 with fail
 first|rw[aG.o]|(show Code.wp _ _ _ _ (L.alloc (.cells #[.int .i64 s2,.slice Bi mi di,.slice Bn mn dn] 32));rw[aG.o])
 by_cases e1:y1=0;rotate_left 1
 ·go_wp2_with fail
  refine(m _ k.o).mono ?_;rintro e w9 ⟨rfl,a⟩;have i:=dh (r.trans ((k.trans (a.mono k.size)).mono d));clear a;go_wp2_with fail
  go_ret
  exact⟨rfl,i.o⟩
 by_cases e2:y2=0;rotate_left 1
 ·subst e1;go_wp2_with fail
  refine(m _ k.o).mono ?_;rintro e w9 ⟨rfl,a⟩;have i:=dh (r.trans ((k.trans (a.mono k.size)).mono d));clear a;go_wp2_with fail
  go_ret
  exact⟨rfl,i.o⟩
 subst e1;subst e2;have aS:s1=1:=ax.symm.trans (zl J jD).2;have aT:s2=1:=aH.symm.trans (zl M jE).2;subst aS;subst aT;have Q:=ahs J M G p q.o;rw[Dv J jD G p q.o,Dv M jE G p q.o]at Q;obtain⟨v,hv⟩:=xQ (!Ey (wH st lo) f st lo);rw[hv]at Q;have N:Hd (∀W',Below j.1.size j W'->Below b.1.size b W'):=dh (λW' hb=>k.trans (hb.mono k.size))
 have aU:Hd (∀W',Below j.1.size j W'->Calls jJ 10 #[.agg #[.int .i64 1,.slice Ai ni ci,.slice An nn cn],.agg #[.slice A1 n1 c1,.slice A2 n2 c2]] W' (AX W' v)):=dh (λW' hb=>by
  have s:Below W3.1.size W3 W':=u.trans (hb.mono u.size);have I:Below w2.1.size w2 W':=Z.trans (s.mono Z.size);have h:=yZ J ((aM.below I lR).up I.size) (ao W' (N W' hb)) lR ω Y p q (Dv J jD G p q.o);rw[ax.o,hv]at h;exact h)
 have aV:Hd (∀W',Below j.1.size j W'->Calls jJ 10 #[.agg #[.int .i64 1,.slice Bi mi di,.slice Bn mn dn],.agg #[.slice A1 n1 c1,.slice A2 n2 c2]] W' (AX W' (!v))):=dh (λW' hb=>by
  have C:Below L.1.size L W':=a7.trans (hb.mono a7.size);have h:=yZ M ((aQ.below C lR).up C.size) (ao W' (N W' hb)) lR ω Y p q (Dv M jE G p q.o);rw[aH.o,Q]at h;exact h)
 have R:Hd (Below j.1.size j j.drew):=dh (Below.drew bR);have bh:(v==(!v))=jE:=by cases v<;>rfl
 have T:Hd (∀w',Below j.1.size j w'->w'.cell? ⟨w2.1.size,0,jC⟩=jB (.int .i64 1)/\w'.cell? ⟨w2.1.size,1,jC⟩=jB (.slice Ai ni ci)/\w'.cell? ⟨w2.1.size,2,jC⟩=jB (.slice An nn cn)/\w'.cell? ⟨L.1.size,0,jC⟩=jB (.int .i64 1)/\w'.cell? ⟨L.1.size,1,jC⟩=jB (.slice Bi mi di)/\w'.cell? ⟨L.1.size,2,jC⟩=jB (.slice Bn mn dn)/\w'.cell? ⟨w.1.size,0,jC⟩=jB (.slice A1 n1 c1)/\w'.cell? ⟨w.1.size,1,jC⟩=jB (.slice A2 n2 c2)):=dh (λw' hb=>by
  have s:Below W3.1.size W3 w':=u.trans (hb.mono u.size);have q1:=aO.o;have q2:=aR.o;obtain⟨k0,k1,k2⟩:=sQ ((s.block w2.1.size ω).trans aN.o);obtain⟨j0,j1,j2⟩:=sQ ((hb.block L.1.size ω).trans aP.o);obtain⟨p0,p1⟩:=aq w' (N w' hb);exact⟨k0,k1,k2,j0,j1,j2,p0,p1⟩)
 clear Q hv;go_upto_region 7 with fail
 refine wp_region_held_drew (S:=λw'=>q9 w' w2.1.size 0 (.int .i64 1)/\q9 w' w2.1.size 1 (.slice Ai ni ci)/\q9 w' w2.1.size 2 (.slice An nn cn)/\q9 w' L.1.size 0 (.int .i64 1)/\q9 w' L.1.size 1 (.slice Bi mi di)/\q9 w' L.1.size 2 (.slice Bn mn dn)/\q9 w' w.1.size 0 (.slice A1 n1 c1)/\q9 w' w.1.size 1 (.slice A2 n2 c2)) κ (T _ R.o) (λhS=>?_);refine qU 0 ?_;refine qU 1 ?_;refine qU 3 ?_;refine qU 4 ?_;refine rR 2 (λK hK=>?_);go_simp;refine(aU _ R.o).mono ?_;rintro e w7 ⟨rfl,l⟩;have U:Below j.1.size j w7:=(R.o).trans (l.mono (R.o).size);clear l;dsimp only;refine hK _ _ (T _ U) (λhS=>?_);clear hK;refine rR 5 (λK hK=>?_);go_simp;refine(aV _ U).mono ?_;rintro e w8 ⟨rfl,l⟩;have V:Below j.1.size j w8:=(U).trans (l.mono (U).size);clear l;dsimp only;refine hK _ _ (T _ V) (λhS=>?_);clear hK;refine qU 6 ?_;refine qU 7 ?_;refine rR 8 (λK hK=>?_);go_simp;refine(m _ (N _ V)).mono ?_;rintro e w9 ⟨rfl,l⟩;have a:Below j.1.size j w9:=V.trans (l.mono V.size);clear l;dsimp only;refine hK _ _ (T _ a) (λhS=>?_);clear hK;refine qU 9 ?_;refine qU 10 ?_;refine wpAnyH_done κ ?_ _;clear hS;have aW:=dh (r.trans ((N _ a).mono d));go_wp2_with fail
 go_ret
 exact⟨rfl,aW.o⟩
set_option maxHeartbeats 8000000
set_option maxRecDepth 100000
theorem agX (h:Ew f=0):∃x0 c d g a b:Nat,(sj 0 5 (vO f)).2.2.1=[(x0:Int),(c:Int),(d:Int),(g:Int),(a:Int),(b:Int)]/\d<=c/\b<=a/\(Dx f jD).nodes.length=b/\(Dx f jE).nodes.length=a:=by
 have i:=aaD (yT (zk h).1).1;have e:=ahx h;have e1:Dx f jD=K4 (LP f):=by unfold Dx;rw[jd h,jd rfl]
 have e2:Dx f jE=LP f:=by unfold Dx;rw[jd h,d9 δ]
 rw[e1,e2]at e;refine⟨_,_,_,_,_,_,by rw[Y5 h],i,e,by rw[e1],by rw[e2]⟩
theorem ajD (f):(sj 0 5 (vO f)).2.2.2=Ew f:=Mw (f:=f) jD
theorem QO (A c f w)(hf:Sl w w.1.size 2 A (η f) c (qP f))(hl:η f<=8796093022208)(hT:TabAt 0 Lib.deBruijn64tab w)(hg:0<w.1.size):
  Calls jJ 5 #[.slice A (η f) c] w (AX w jD):=by
 have HF:Hd (∀W',Below w.1.size w W'->Sl W' W'.1.size 2 A (η f) c (qP f)):=dh (λW' hb=>(hf.below hb lR).up hb.size);have a:Hd (∀W',Below w.1.size w W'->TabAt 0 Lib.deBruijn64tab W'/\0<W'.1.size):=dh (λW' hb=>⟨λx hx=>bC hb hg (hT x hx),jh hg hb.size⟩);have E:Hd (∀W',Below w.1.size w W'->Calls jJ 7 #[] W' (AX W' jD)):=dh (λW' hb=>Ik W' (a W' hb).1 (a W' hb).2);clear hf hT hg;by_cases g0:30<η f
 ·have aC:(30:Int)<(η f:Int):=ω;go_enter Tryz.func5,Tryz.ntmps5;go_wp2_with fail
  refine(E _ bR).mono ?_;rintro e w9 ⟨rfl,d⟩;have F:=dh d;clear d;go_wp2_with fail
  go_ret
  exact⟨rfl,F.o⟩
 have aD:¬(30:Int)<(η f:Int):=ω;have O:=dh (Vz A c f w (HF w bR) ω (a w bR).1 (a w bR).2 (Wj f));go_enter Tryz.func5,Tryz.ntmps5;go_wp2_with fail
 refine O.mono ?_;rintro e w1 ⟨v,rfl,s,hz,P⟩;rw[ajD]at s hz⊢;have i:=dh P;clear P O;by_cases G:Ew f=0;rotate_left 1
 ·obtain rfl:=hz G;obtain⟨y,hy⟩:=xQ (Ew f);rw[hy]at G⊢;clear hy s hz;go_wp2_with fail
  refine(E _ i.o).mono ?_;rintro e w9 ⟨rfl,d⟩;have F:=dh (i.trans (d.mono i.size));clear d;go_wp2_with fail
  go_ret
  exact⟨rfl,F.o⟩
 have s:=s G;obtain⟨x0,M,N,x3,Q,R,hx,aq,ar,hA,hB⟩:=agX G;rw[hx]at s;obtain⟨g,cg,rfl,aE,n,aF,aG⟩:=sP s ς
 have k:∀j x,[(x0:Int),(M:Int),(N:Int),(x3:Int),(Q:Int),(R:Int)][j]? =jB x->w1.cell? ⟨g,0+j,jC⟩=jB (.int .i64 x):=λj x hj=>by
  obtain⟨A',c',hv,hs⟩:=qX s;cases hv;obtain⟨b,o,hb, -,hc⟩:=hs.rd.at_ (j:=j) (u:=.int .i64 x) (by unfold qO;rw[kR,hj];rfl);cases hb;exact hc
 have au:Hd (∀W',Below w1.1.size w1 W'->(W'.cell? ⟨g,2,jC⟩=jB (.int .i64 (N:Int))/\W'.cell? ⟨g,1,jC⟩=jB (.int .i64 (M:Int))/\W'.cell? ⟨g,5,jC⟩=jB (.int .i64 (R:Int))/\W'.cell? ⟨g,4,jC⟩=jB (.int .i64 (Q:Int)))):=dh (λW' hb=>
  ⟨(hb.cell (p:=⟨g,2,jC⟩) n).trans (k 2 _ rfl),(hb.cell (p:=⟨g,1,jC⟩) n).trans (k 1 _ rfl),(hb.cell (p:=⟨g,5,jC⟩) n).trans (k 5 _ rfl),(hb.cell (p:=⟨g,4,jC⟩) n).trans (k 4 _ rfl)⟩)
 have T:η ([(x0:Int),(M:Int),(N:Int),(x3:Int),(Q:Int),(R:Int)]:List Int)=6:=rfl;have O:=dh (zQ A c f jD w1 (HF w1 i.o) ω (a w1 i.o).1 (a w1 i.o).2);rw[G];have aA:(N:Int)<=(M:Int):=ω;have aB:(R:Int)<=(Q:Int):=ω;obtain⟨HA,U,HE⟩:=iA hA hB G;clear s hx aq ar hA hB k hz G;rw[T];clear T;go_wp2_with fail
 refine O.mono ?_;rintro e w2 ⟨Ai,ni,ci,An,nn,cn,rfl,V,H⟩;obtain⟨W,z⟩:=iw (i.trans (H.mono i.size)) H;have av:nn=R:=V.Ov.trans HA.o;subst av;obtain⟨s1,X⟩:=xQ (Dx f jD).sets;rw[X,HE.o];obtain⟨W3,Y,I,z3,k3⟩:=Lx w2 (.int .i64 s1) (.slice Ai ni ci) (.slice An nn cn);obtain⟨B,l,aw,ax,Z⟩:=iC (z.trans (I.mono z.size)) (W.trans (I.mono W.size)) k3 z3 Y;have a6:=dh (zQ A c f jE W3 (HF W3 l.o) ω (a W3 l.o).1 (a W3 l.o).2);clear V H O X Y I z3 k3 HA;go_upto_region 7 with fail
 first|rw[Z.o]|(show Code.wp _ _ _ _ (w2.alloc (.cells #[.int .i64 s1,.slice Ai ni ci,.slice An nn cn] 32));rw[Z.o])
 go_wp2_with fail
 refine a6.mono ?_;rintro e w5 ⟨Bi,mi,di,Bn,mn,dn,rfl,a7,J⟩;obtain⟨a8,C⟩:=iw (l.trans (J.mono l.size)) J;have ay:mn=Q:=a7.Ov.trans U.o;subst ay;obtain⟨s2,ad⟩:=xQ (Dx f jE).sets;rw[ad,HE.o];obtain⟨q,af,L,z6,k6⟩:=Lx w5 (.int .i64 s2) (.slice Bi mi di) (.slice Bn mn dn);obtain⟨ag,m⟩:=iw (a8.trans (L.mono a8.size)) (C.trans (L.mono C.size));have D:=dh (B.trans (m.mono B.size))
 have ah:Hd (∀w',Below q.1.size q w'->w'.cell? ⟨w2.1.size,2,jC⟩=jB (.slice An nn cn)/\w'.cell? ⟨w5.1.size,2,jC⟩=jB (.slice Bn mn dn)/\w'.cell? ⟨g,2,jC⟩=jB (.int .i64 (N:Int))/\w'.cell? ⟨g,1,jC⟩=jB (.int .i64 (M:Int))/\w'.cell? ⟨g,5,jC⟩=jB (.int .i64 (nn:Int))/\w'.cell? ⟨g,4,jC⟩=jB (.int .i64 (mn:Int))):=dh (λw' hb=>by
  have q1:=ax.o;obtain⟨-, -,k2⟩:=sQ (((m.trans (hb.mono m.size)).block w2.1.size ω).trans aw.o);obtain⟨-, -,j2⟩:=sQ ((hb.block w5.1.size ω).trans k6);obtain⟨a1,a2,a3,a4⟩:=au w' (D.trans (hb.mono D.size));exact⟨k2,j2,a1,a2,a3,a4⟩)
 have aj:Hd (∀W',Below q.1.size q W'->Below w.1.size w W'):=dh (λW' hb=>ag.trans (hb.mono ag.size));have r:Hd (Below q.1.size q q.drew):=dh (Below.drew bR);have ak:=dh af;clear a7 J ad af L z6 k6 a6 U;go_upto_region 8 with fail
 first|rw[ak.o]|(show Code.wp _ _ _ _ (w5.alloc (.cells #[.int .i64 s2,.slice Bi mi di,.slice Bn mn dn] 32));rw[ak.o])
 refine wp_region_held_drew (S:=λw'=>q9 w' w2.1.size 2 (.slice An nn cn)/\q9 w' w5.1.size 2 (.slice Bn mn dn)/\q9 w' g 2 (.int .i64 (N:Int))/\q9 w' g 1 (.int .i64 (M:Int))/\q9 w' g 5 (.int .i64 (nn:Int))/\q9 w' g 4 (.int .i64 (mn:Int))) κ (ah _ r.o) (λhS=>?_);refine qU 0 ?_;refine qU 1 ?_;refine qU 2 ?_;refine qU 3 ?_;refine qU 4 ?_;refine qU 5 ?_;refine qU 6 ?_;refine qU 7 ?_;refine qU 8 ?_;refine qU 9 ?_;refine qU 10 ?_;refine qU 11 ?_;refine qU 12 ?_;refine qU 13 ?_;refine qU 14 ?_;refine qU 15 ?_;refine qU 16 ?_;refine qU 17 ?_;refine qU 18 ?_;refine qU 19 ?_;refine qU 20 ?_;refine qU 21 ?_;refine qU 22 ?_;refine qU 23 ?_;refine qU 24 ?_;refine qU 25 ?_;refine qU 26 ?_;refine qU 27 ?_;refine qU 28 ?_;refine qU 29 ?_;refine qU 30 ?_;refine qU 31 ?_;refine qU 32 ?_;refine qU 33 ?_;refine qU 34 ?_;refine qU 35 ?_;refine qU 36 ?_;refine qU 37 ?_;refine qU 38 ?_;refine qU 39 ?_;refine qU 40 ?_;refine qU 41 ?_;refine qU 42 ?_;refine qU 43 ?_;refine qU 44 ?_;refine qU 45 ?_;refine qU 46 ?_;refine qU 47 ?_;refine qU 48 ?_;refine qU 49 ?_;refine qU 50 ?_;refine qU 51 ?_;refine qU 52 ?_;refine qU 53 ?_;refine qU 54 ?_;refine qU 55 ?_;refine qU 56 ?_;refine rR 57 (λK hK=>?_);go_simp;refine(E _ (aj _ r.o)).mono ?_;rintro e w9 ⟨rfl,ao⟩;have d:Below q.1.size q w9:=r.trans (ao.mono r.size);clear ao;dsimp only;refine hK _ _ (ah _ d) (λhS=>?_);clear hK;refine qU 58 ?_;refine qU 59 ?_;refine wpAnyH_done κ ?_ _;clear hS;have az:=dh (aj _ d);go_wp2_with fail
 go_ret
 exact⟨rfl,az.o⟩
open Go.ChangeShapes Go.WideShapes Go.ChangeAt Go.Shelf
theorem J7 (os:Os)(args:Array Value):laidMetH jJ [("math/bits.deBruijn32tab",Rows.laid_math_bits_deBruijn32tab),("math/bits.deBruijn64tab",Rows.laid_math_bits_deBruijn64tab),("internal/strconv.uint64pow10",Rows.laid_internal_strconv_uint64pow10)] ((jF.doorLaid jJ 24 os).forCall (λ_ _=>0) ⟨#[],args,[]⟩).memory:=
 laidMetH_of_parts3 (fuel:=8) (laidMet_of_run' 8 κ κ) κ κ
theorem ac1 {x:String×DataW Unit}{r:List (String×DataW Unit)}(h:laidMet P (x::r) W):laidMet P r W:=by
 obtain⟨ps,⟨g,t,cs,fuel,p,q,_,_,_,_,hl,rfl⟩,a,c⟩:=h;exact⟨q,hl,(mP.1 a).2.1,λb off hm=>c b off (jo.2 (.inr hm))⟩
theorem ajL:Tryz.prog.globalNamed "math/bits.deBruijn64tab" =jB 0:=κ
theorem aj8:(Tryz.prog.globals[0]?).map (·.type)=jB 228:=κ
def aiK:List Int:=Lib.deBruijn64tab.map (λ(n:Nat)=>(n:Int))
theorem Ep (h:laidMetH jJ [("math/bits.deBruijn32tab",Rows.laid_math_bits_deBruijn32tab),("math/bits.deBruijn64tab",Rows.laid_math_bits_deBruijn64tab),("internal/strconv.uint64pow10",Rows.laid_internal_strconv_uint64pow10)] W):xJ W:=by
 rw[MakeChecks.laidMetH_plain _ _ _ κ]at h;have a:=ac1 h;have e:([("math/bits.deBruijn64tab",Rows.laid_math_bits_deBruijn64tab),("internal/strconv.uint64pow10",Rows.laid_internal_strconv_uint64pow10)]:List (String×DataW Unit))=("math/bits.deBruijn64tab",Lib.tabData .u8 aiK)::[("internal/strconv.uint64pow10",Rows.laid_internal_strconv_uint64pow10)]:=rfl;rw[e]at a;have c:=Lib.tabIs_of_head ajL aj8 Tryz.underlying228 Tryz.underlying5 κ κ a
 exact λj b=>by
  have:=c.cell ajL j (by simpa[aiK]using b);rw[this];simp[aiK,θ,b]
theorem Hq {ts:Array TypeId}{t:TypeId}(hm:t∈ts)(h:(ts.toList.all λu=> !P.wantsStandIn u)=jD):P.wantsStandIn t=jE:=by
 have:=jR.1 h t (by simpa using hm);simpa using this
