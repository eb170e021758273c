/- A part of the proof. -/
import Derived.Test.YtdmeoldcifddiaaGreatDoorZaf
import Derived.Test.YtdmeoldcifddiaaGreatDoorZad
import Derived.Deep.Cut
import Derived.Deep.DeepCutAuto
/- What the closure of cover.Of holds in memory (layer 28). -/
namespace Go.Proofs.YtdmeoldcifddiaaGreatDoor
open Go.RowKit Go.Maps
open Go.Value renaming slice -> iX, pointer -> jH
open Go.IntKind renaming i64 -> iZ, u64 -> jA
open Option renaming some -> jB, none -> jC
open Bool renaming true -> jD, false -> jE
open Go renaming World -> jF
open Go.Obj renaming cells -> jG
open Go.Proofs.Tryz renaming prog -> jJ
open List renaming length -> η, range -> ζ, getD -> θ
variable {cs:Array Value}{c:uI}{m:Int}{rows:List (List Nat)}{L T outs:List uI}{l parts:List Nat}{f:List Nd}{xs:List Value}{ws:List Way}{g:Lit->Option Value}{B B' b c1 c2 e1 e2 i j k lo n nb ob p q t:Nat}{u:Nat->Bool}{Z:Nat->Nat->Prop}{S:Nat->Prop}{A A1 A2 E1 E2:Option Addr}{r s v:Value}{x:Way}{w w' w1 wr:jF}
def zK (w:jF)(xs:List Value)(outs:List uI):Prop:=
 ∀(k:Nat) (c:uI),outs[k]? =jB c->∃A1 c1 A2 c2,xs[k*4]? =jB (.int jA (c.1:Int))/\xs[k*4+1]? =jB (.int jA (c.2.1:Int))/\
  xs[k*4+2]? =jB (iX A1 (η (uw c.2.2.1)) c1)/\xs[k*4+3]? =jB (iX A2 (η (uw c.2.2.2)) c2)/\
  zV w 3 A1 (η (uw c.2.2.1)) c1 (qO (iE (uw c.2.2.1)))/\zV w 3 A2 (η (uw c.2.2.2)) c2 (qO (iE (uw c.2.2.2)))
theorem zK.keep (h:zK w xs outs)(a:qW S w w')(hi:yc S w 3):zK w' xs outs:=by
 intro k c b;obtain⟨A1,c1,A2,c2,d,e1,e2,e,t1,t2⟩:=h k c b;exact⟨A1,c1,A2,c2,d,e1,e2,e,t1.keep a hi,t2.keep a hi⟩
theorem zK.nil (w):zK w [] []:=λk c h=>by simp at h
theorem zK.push (h:zK w xs outs)(hl:η xs=η outs*4)(c:uI)
  (t1:zV w 3 A1 (η (uw c.2.2.1)) c1 (qO (iE (uw c.2.2.1))))(t2:zV w 3 A2 (η (uw c.2.2.2)) c2 (qO (iE (uw c.2.2.2)))):
  zK w (xs++[.int jA (c.1:Int),.int jA (c.2.1:Int),iX A1 (η (uw c.2.2.1)) c1,iX A2 (η (uw c.2.2.2)) c2]) (outs++[c]):=by
 intro k d a;by_cases b:k<η outs
 ·rw[gC b]at a;obtain⟨A1,c1,A2,c2,f,e1,e2,g,t1,t2⟩:=h k d a;refine⟨A1,c1,A2,c2,?_,?_,?_,?_,t1,t2⟩<;>(rw[gC ω];assumption)
 ·have e:k=η outs:=by
   have:=(gB.1 a).1;simp at this;omega
  subst e;simp at a;subst a;refine⟨A1,c1,A2,c2,?_,?_,?_,?_,t1,t2⟩
  ·rw[gR ω,hl,show η outs*4-η outs*4=0 by omega];rfl
  ·rw[gR ω,hl,show η outs*4+1-η outs*4=1 by omega];rfl
  ·rw[gR ω,hl,show η outs*4+2-η outs*4=2 by omega];rfl
  ·rw[gR ω,hl,show η outs*4+3-η outs*4=3 by omega];rfl
structure GS (n0 fb gb tb mb ob:Nat)(Af:Option Addr)(cf:Nat)(f:List Nd)(w:jF)(T:List uI)(v:Value):Prop where
 bf:w.1[fb]? =jB (jG #[iX Af (η f) cf] 22 (0,0))
 bg:w.1[gb]? =jB (jG #[.func (.func 107) #[] #[jH (jB ⟨fb,0,jC⟩),jH (jB ⟨gb,0,jC⟩),jH (jB ⟨tb,0,jC⟩),jH (jB ⟨ob,0,jC⟩)]] 160 (0,0))
 bt:w.1[tb]? =jB (jG #[.map (jB mb)] 159 (0,0))
 bo:w.1[ob]? =jB (jG #[v] 119 (0,0))
 map:NS w mb T
 out:∃xs,w.ownsRow n0 90 4 v (η T) xs/\zK w xs T
 lt:n0<=w.1.size/\n0<=ob/\n0<=mb
 fs:Sl w n0 2 Af (η f) cf (qP f)
section
variable {n0 fb gb tb mb ob:Nat}{Af:Option Addr}{cf:Nat}{f:List Nd}{w:jF}{T:List uI}{v:Value}
theorem GS.own_ne (h:GS n0 fb gb tb mb ob Af cf f w T v)(a:w.1[k]? =jB (jG cs t (0,0)))(b:90≠t):v.ownBlock≠jB k:=by
 obtain⟨xs,c,_⟩:=h.out;exact qQ c a b
theorem GS.Dy (h:GS n0 fb gb tb mb ob Af cf f w T v)(a:w.1[k]? =jB (jG cs t (0,0))):k≠mb:=by
 rintro rfl;obtain⟨D,⟨es,clock,hb,_⟩,_⟩:=h.map;rw[a]at hb;cases hb
def Tn (ob mb:Nat)(v:Value)(k:Nat):Prop:=k=ob\/k=mb\/v.ownBlock=jB k
theorem GS.spares (h:GS n0 fb gb tb mb ob Af cf f w T v)(b:90≠t)(c:119≠t):yc (Tn ob mb v) w t:=by
 rintro k cs a (rfl|rfl|hv)
 ·rw[h.bo]at a;injection a with a;injection a with _ e;exact c e
 ·exact h.Dy a rfl
 ·exact h.own_ne a b hv
theorem GS.keep (h:GS n0 fb gb tb mb ob Af cf f w T v)(a:qW S w w')(b:¬S fb)(c:¬S gb)(d:¬S tb)(e:¬S ob)(i:¬S mb)(j:∀g,v.ownBlock=jB g->¬S g)(hi:yc S w 3)(l:∀k,k<n0->¬S k):
  GS n0 fb gb tb mb ob Af cf f w' T v:=by
 obtain⟨xs,m,hc⟩:=h.out;exact⟨a.blk h.bf b,a.blk h.bg c,a.blk h.bt d,a.blk h.bo e,h.map.keep a i,⟨xs,qR m a j,hc.keep a hi⟩,⟨Nat.le_trans h.lt.1 a.size,h.lt.2⟩,h.fs.uQ a h.lt.1 l⟩
theorem GS.below (h:GS n0 fb gb tb mb ob Af cf f w T v)(hb:Below w.1.size w w'):GS n0 fb gb tb mb ob Af cf f w' T v:=by
 obtain⟨xs,a,_⟩:=h.out;have l1:=rX h.bf;have l2:=rX h.bg;have c:=rX h.bt;have d:=rX h.bo;have e:=h.map.lt;exact h.keep (qW.of_below hb) ω ω ω ω ω (λg b=>by have:=(a.lt g b).2;omega) (ug w _) (λk i=>by have:=h.lt.1;omega)
theorem GS.adI (h:GS n0 fb gb tb mb ob Af cf f w T v)(l:w.grownBy w1 (jB mb)):
  (∃xs,w1.ownsRow n0 90 4 v (η T) xs/\zK w1 xs T)/\∀{k t:Nat} {cs:Array Value},w.1[k]? =jB (jG cs t (0,0))->w1.1[k]? =jB (jG cs t (0,0)):=by
 have g1:=(qW.uy l).mono (λi _ e=>by simpa using e.symm);obtain⟨xs,d,hc⟩:=h.out;refine⟨⟨xs,qR d g1 (λg a e=>?_),hc.keep g1 (λk cs b e=>h.Dy b e)⟩,λb=>g1.blk b (h.Dy b)⟩;subst e;obtain⟨D,⟨es,clock,c,_⟩,_⟩:=h.map;rcases d.2 with⟨rfl,_⟩|⟨g0,cap,cur,rfl,_,j,_⟩
 ·simp[Value.ownBlock]at a
 ·simp[Value.ownBlock]at a;subst a;rw[c]at j;cases j
theorem GS.tell {w2 w3:jF}{v':Value}(h:GS n0 fb gb tb mb ob Af cf f w T v)(r:w.grownBy w1 (jB mb))(hm:NS w1 mb (T++[c]))(hb:Below w1.1.size w1 w2)
  (t1:zV w2 3 A1 (η (uw c.2.2.1)) c1 (qO (iE (uw c.2.2.1))))(t2:zV w2 3 A2 (η (uw c.2.2.2)) c2 (qO (iE (uw c.2.2.2))))
  (j:w2.ownsRow n0 90 4 v (η T) xs)(hcs:zK w2 xs T)
  (B:w3.ownsRow n0 90 4 v' (η T+1) (xs++[.int jA (c.1:Int),.int jA (c.2.1:Int),iX A1 (η (uw c.2.2.1)) c1,iX A2 (η (uw c.2.2.2)) c2]))(n:qW (λk=>v.ownBlock=jB k) w2 w3)(s:v'.ownBlock=v.ownBlock\/v'.ownBlock=jB w2.1.size):
  GS n0 fb gb tb mb ob Af cf f (w3.setCell ⟨ob,0,jC⟩ v') (T++[c]) v'/\qW (Tn ob mb v) w (w3.setCell ⟨ob,0,jC⟩ v')/\∀i,v'.ownBlock=jB i->i<w.1.size->v.ownBlock=jB i:=by
 have g1:=(qW.uy r).mono (λi _ e=>by simpa using e.symm);have E:=h.map.lt;have F:=rX h.bo;have H:=g1.size;have z2:=hb.size;have z3:=n.size
 have b1:∀{k:Nat} {cs:Array Value} {t:Nat},w.1[k]? =jB (jG cs t (0,0))->w2.1[k]? =jB (jG cs t (0,0)):=λd=>
  (qW.of_below hb).blk (g1.blk d (h.Dy d)) (by have:=rX d;omega)
 have b2:∀{k:Nat} {cs:Array Value} {t:Nat},w.1[k]? =jB (jG cs t (0,0))->90≠t->w3.1[k]? =jB (jG cs t (0,0)):=λd a=>
  n.blk (b1 d) (qQ j (b1 d) a)
 have l:=(qW.refl (λk=>k=ob) w3).setCell (p:=⟨ob,0,jC⟩) (λ_=>rfl) v'
 have b3:∀{k:Nat} {cs:Array Value} {t:Nat},w.1[k]? =jB (jG cs t (0,0))->90≠t->k≠ob->(w3.setCell ⟨ob,0,jC⟩ v').1[k]? =jB (jG cs t (0,0)):=λd a u=>
  l.blk (b2 d a) u
 have m:=b2 h.bo δ
 have a:∀{k t:Nat} {cs:Array Value},w.1[k]? =jB (jG cs t (0,0))->119≠t->k≠ob:=λd a e=>by
  subst e;rw[h.bo]at d;injection d with d;injection d with _ e;exact a e
 have o:∀i,v'.ownBlock=jB i->i<w.1.size->v.ownBlock=jB i:=λi hi G=>by
  rcases s with e|e
  ·rw[<-e];exact hi
  ·rw[e]at hi;cases hi;omega
 have x:yc (λk=>v.ownBlock=jB k) w2 3:=λk cs d=>qQ j d δ
 have y:yc (λk=>k=ob) w3 3:=uM m δ
 have z:∀g,v'.ownBlock=jB g->g≠ob:=λg r e=>by
  subst e;exact qQ B m δ r
 refine⟨⟨b3 h.bf δ (a h.bf δ),b3 h.bg δ (a h.bg δ),b3 h.bt δ (a h.bt δ),?_,?_,?_,?_,?_⟩,?_,o⟩
 ·have:=heap_setCell_same w3 ob 0 _ _ v' m;simpa using this
 ·refine(((hm.keep (qW.of_below hb) ω).keep n ?_).keep l ?_)
  ·intro e;obtain⟨D,⟨es,clock,A,_⟩,_⟩:=hm.keep (qW.of_below hb) ω;rcases j.2 with⟨rfl,_⟩|⟨g,cap,cur,rfl,_,C,_⟩
   ·simp[Value.ownBlock]at e
   ·simp[Value.ownBlock]at e;subst e;rw[A]at C;cases C
  ·exact λe=>h.Dy h.bo e.symm
 ·refine⟨_,by rw[lA];exact qR B l z,?_⟩;exact((hcs.push (by rw[j.1]) c t1 t2).keep n x).keep l y
 ·refine⟨?_,h.lt.2⟩;have:=l.size;have:=h.lt.1;omega
 ·have f1:=h.fs.uQ g1 h.lt.1 (λb q e=>by have:=h.lt.2.2;omega);have f2:=f1.below hb (by have:=h.lt.1;omega);have f3:=f2.uQ n (by have:=h.lt.1;omega) (λb q e=>by have:=(j.lt b e).1;omega);exact f3.uQ l (by have:=h.lt.1;omega) (λb q e=>by have:=h.lt.2.1;omega)
 ·have t3:qW (Tn ob mb v) w w1:=g1.mono (λi _ e=>.inr (.inl e));have t4:=t3.trans (qW.of_below hb) (λi hi e=>ω);have t5:=t4.trans n (λi _ e=>.inr (.inr e));exact t5.trans l (λi _ e=>.inl e)
end
section
variable {bits:Int->Nat->Bool}{n lp:Nat}{f:List Nd}
theorem aa0 (C:yh f=jD)(_hlp:lp<n)(r:k<η f)(x:opAt f k=9\/opAt f k=10):∃(m:Int) (a c:Tr),a.ok/\c.ok/\(∀i,rz bits n lp f k i=sat bits n lp (.bin ⟨opAt f k,m⟩ a c) i)/\
  (∀i,rz bits n lp f (leftOf f k) i=sat bits n lp a i)/\∀i,rz bits n lp f (ru f k) i=sat bits n lp c i:=by
 obtain⟨t,s,D,rfl⟩:=Fg C;have hw:=zm C;obtain⟨b,t',p,o,d,g⟩:=LB t 0 k s D (Cb s) ω (by rw[t.rU]at r;omega);have q:=(at_root d g).1;have z:=gE r;rw[z]at q;have A:opAt t.flat k=t.flat[k].op:=by simp[opAt,θ,r]
 have l:=Jd hw r;have u:∀i,rz bits n lp t.flat k i=sat bits n lp t' i:=xU p d g r;rw[A]at x⊢
 match t',p,o,d,g,q,u with
 | .leaf y,⟨h,G⟩,o,d,g,q,u=>
  have e:t.flat[k]=y:=jY q;rw[<-e]at h;rcases x with v|v<;>rw[v]at h<;>simp[takes]at h
 | .un y a,⟨h,B⟩,o,d,g,q,u=>
  have e:t.flat[k]=y:=jY q;rw[<-e]at h;rcases x with v|v<;>rw[v]at h<;>simp[takes]at h
 | .bin y a c,⟨h,B,hc⟩,o,d,g,q,u=>
  have e:t.flat[k]=y:=jY q;subst e;simp only[Tr.size]at g;obtain⟨j,E⟩:∃j,j+1=b+a.size:=⟨b+a.size-1,by have:=a.size_pos;omega⟩;obtain⟨m,hm⟩:∃m,m+1=b+a.size+c.size:=⟨b+a.size+c.size-1,by have:=c.size_pos;omega⟩;have F:=c.size_pos;have hA:∀i,rz bits n lp t.flat j i=sat bits n lp a i:=xU B d.1 E ω;have hC:∀i,rz bits n lp t.flat m i=sat bits n lp c i:=xU hc d.2.1 hm ω;rw[h]at l;have hs:=(at_root d.2.1 hm).2
  have w:kids t.flat k=((j:Int),(m:Int)):=by
   rw[l,d9 δ,jd rfl,show k-1=m by omega,hs];simp only[jS];congr 1<;>omega
  refine⟨t.flat[k].n,a,c,B,hc,u,?_,?_⟩
  ·unfold leftOf;rw[w];exact hA
  ·unfold ru;rw[w];exact hC
theorem Vd (e:yh f=jD)(b:lp<n)(g:k<η f)(d:opAt f k=9)(h:∀i,i<n->(rz bits n lp f (ru f k) i||(rz bits n lp f (leftOf f k) i&&u (nx lp n i)))=jD->u i=jD)
  (hi:i<n)(hs:rz bits n lp f k i=jD):u i=jD:=by
 obtain⟨m,a,c,j,hc,l,o,p⟩:=aa0 (bits:=bits) e b g (.inl d);rw[l,d]at hs;exact Ch b j (λi hi q=>h i hi (by rw[o,p];exact q)) hi hs
theorem aeC (e:yh f=jD)(b:lp<n)(g:k<η f)(d:opAt f k=10)(h:∀i,i<n->u i=jD->(rz bits n lp f (ru f k) i&&(rz bits n lp f (leftOf f k) i||u (nx lp n i)))=jD)
  (hi:i<n)(hu:u i=jD):rz bits n lp f k i=jD:=by
 obtain⟨m,a,c,j,hc,l,o,p⟩:=aa0 (bits:=bits) e b g (.inr d);rw[l,d];exact FM b j hc (λi hi q=>by have:=h i hi q;rw[o,p]at this;exact this) hi hu
def agB (bits:Int->Nat->Bool)(n lp:Nat)(f:List Nd)(i:Nat)(w:Way):Prop:=
 ∀u,opAt f u=9->w.now.getD u jE=jD->rz bits n lp f (ru f u) i=jD->w.now.getD (ru f u) jE=jD\/ru f u∈w.todo
theorem adt (I:yh f=jD)(z:lp<n)(hi:i<n):∀(k:Nat) (w:Way),LQ f w->cntF w.now<k->Fits bits n lp f i w->agB bits n lp f i w->
  ∃y∈leaves f k w,Fits bits n lp f i y/\∀u,opAt f u=9->y.now.getD u jE=jD->rz bits n lp f (ru f u) i=jD->y.now.getD (ru f u) jE=jD:=by
 have L:=vU I;intro k;induction k with
 |zero=>intro w _ h;omega
 |succ k M=>
  intro w hw hc hf o;unfold leaves;cases hs:xP w.now w.todo with
  |nil=>exact⟨w,ς,hf,λu d c s=>(o u d c s).elim id (Pj hs _)⟩
  |cons j t=>
   obtain⟨hm,J,A⟩:=F3 hw hs;obtain⟨_,B,N⟩:=Md hs;have hl:j<η w.now:=by rw[hw.now];exact A
   have b:=hf.2.2 j B;have hA:=QF (bits:=bits) I z A hi;have hb:Fits bits n lp f i (w.made j t):=⟨hf.1,hf.2.1,λy hy=>hf.2.2 y (N y hy)⟩
   have a:∀(v:Way) (l:List Nat),Fits bits n lp f i v->(∀y∈l,rz bits n lp f y i=jD)->Fits bits n lp f i (v.with_ l):=λv l hv hl=>
    ⟨hv.1,hv.2.1,λy hy=>(jo.1 hy).elim (hl y) (hv.2.2 y)⟩
   have how:∀(v:Way) (p:Nat),Fits bits n lp f i v->rz bits n lp f p (nx lp n i)=jD->Fits bits n lp f i (v.owing p):=λv p hv hp=>
    ⟨hv.1,λy hy=>(Pn hy).elim (λe=>e▸hp) (hv.2.1 y),hv.2.2⟩
   suffices q:∃x∈sZ f j (w.made j t),Fits bits n lp f i x/\(opAt f j=9->rz bits n lp f (ru f j) i=jD->ru f j∈x.todo) by
    obtain⟨x,q,C,D⟩:=q;obtain⟨E,g⟩:=KH L A hm x q;obtain⟨_,O,_⟩:=GQ x q
    have m:∀y,w.now.getD y jE=jD->x.now.getD y jE=jD:=by
     intro y hy;rw[g];simp only[Way.made];rw[gD,mE];by_cases K:j=y
     ·subst K;simp[hl]
     ·rw[d9 K,<-gD];exact hy
    have F:agB bits n lp f i x:=by
     intro u d c s;rw[g]at c;rcases Pn (l:=w.now) c with rfl|c
     ·exact .inr (D d s)
     ·rcases o u d c s with h|h
      ·exact .inl (m _ h)
      ·rcases Pk hs _ h with h|h|h
       ·exact .inl (m _ h)
       ·rw[h,g];exact .inl (set_self hl)
       ·exact .inr (O _ h)
    obtain⟨y,hy,G,hyp⟩:=M x E (by rw[g];omega) C F;exact⟨y,pq.2 ⟨x,q,hy⟩,G,hyp⟩
   unfold sZ;rcases hA.op with e|e|e|e|e|e|e|e|e
   ·exact⟨_,by rw[jd e];simp,hb,λh=>ω⟩
   ·rw[hA.fls e]at b;cases b
   ·have r:Reads bits (w.need|||2^Jv f j) w.ban i:=⟨λp hp=>by
     rw[Nat.testBit_or,kX,nU]at hp;rcases hp with hp|hp
     ·exact hf.1.1 p hp
     ·have:Jv f j=p:=by simpa using hp
      rw[<-this,<-hA.prop e];exact b,hf.1.2⟩
    refine⟨{w.made j t with need:=w.need|||2^Jv f j},?_,⟨r,hb.2.1,hb.2.2⟩,λh=>ω⟩;rw[d9 ω,jd e];exact Wv (u:={w.made j t with need:=w.need|||2^Jv f j}) (Nc r)
   ·have r:Reads bits w.need (w.ban|||2^Jv f (j-1)) i:=⟨hf.1.1,λp hp=>by
     rw[Nat.testBit_or,kX,nU]at hp;rcases hp with hp|hp
     ·exact hf.1.2 p hp
     ·have:Jv f (j-1)=p:=by simpa using hp
      rw[hA.not_ e,this]at b;simpa using b⟩
    refine⟨{w.made j t with ban:=w.ban|||2^Jv f (j-1)},?_,⟨r,hb.2.1,hb.2.2⟩,λh=>ω⟩;rw[d9 ω,d9 ω,jd e];exact Wv (u:={w.made j t with ban:=w.ban|||2^Jv f (j-1)}) (Nc r)
   ·rw[hA.ags e,jm]at b;refine⟨_,by rw[d9 ω,d9 ω,d9 ω,jd e];exact mS.2 rfl,a _ _ hb (λy hy=>?_),λh=>ω⟩;simp only[jk,kC,nA]at hy;rcases hy with rfl|rfl
    ·exact b.1
    ·exact b.2
   ·rw[hA.or_ e,kX]at b;rcases b with b|b
    ·refine⟨_,by rw[d9 ω,d9 ω,d9 ω,d9 ω,jd e];exact ji ..,a _ _ hb (λy hy=>by rw[mS]at hy;subst hy;exact b),λh=>ω⟩
    ·refine⟨_,by rw[d9 ω,d9 ω,d9 ω,d9 ω,jd e];exact jc _ (ji ..),a _ _ hb (λy hy=>by rw[mS]at hy;subst hy;exact b),λh=>ω⟩
   ·rw[hA.next e]at b;exact⟨_,by rw[d9 ω,d9 ω,d9 ω,d9 ω,d9 ω,jd e];exact mS.2 rfl,how _ _ hb b,λh=>ω⟩
   ·rw[hA.LZ e,kX,jm]at b;by_cases H:rz bits n lp f (ru f j) i=jD
    ·refine⟨_,by rw[d9 ω,d9 ω,d9 ω,d9 ω,d9 ω,d9 ω,jd e];exact ji ..,a _ _ hb (λy hy=>by rw[mS]at hy;subst hy;exact H),λ_ _=>by simp[Way.with_]⟩
    ·obtain⟨d,c⟩:=b.resolve_left H;refine⟨_,by rw[d9 ω,d9 ω,d9 ω,d9 ω,d9 ω,d9 ω,jd e];exact jc _ (ji ..),how _ _ (a _ _ hb (λy hy=>by rw[mS]at hy;subst hy;exact d)) c,λ_ h=>absurd h H⟩
   ·rw[hA.rel e,jm,kX]at b;obtain⟨d,c|c⟩:=b
    ·refine⟨_,by rw[d9 ω,d9 ω,d9 ω,d9 ω,d9 ω,d9 ω,d9 ω,jd e];exact ji ..,a _ _ hb (λy hy=>?_),λh=>ω⟩;simp only[jk,kC,nA]at hy;rcases hy with rfl|rfl
     ·exact c
     ·exact d
    ·refine⟨_,by rw[d9 ω,d9 ω,d9 ω,d9 ω,d9 ω,d9 ω,d9 ω,jd e];exact jc _ (ji ..),how _ _ (a _ _ hb (λy hy=>by rw[mS]at hy;subst hy;exact d)) c,λh=>ω⟩
def aiC (bits:Int->Nat->Bool)(n lp:Nat)(f:List Nd)(i:Nat)(c:uI):Prop:=
 aiD bits n lp f i c/\∀u,opAt f u=9->c.2.2.2.getD u jE=jD->rz bits n lp f (ru f u) i=jD->c.2.2.2.getD (ru f u) jE=jD
theorem Jy (e:yh f=jD)(b:lp<n)(hi:i<n)(hp:∀x∈parts,x<η f)(h:∀x∈parts,rz bits n lp f x i=jD):∃c∈rV f parts,aiC bits n lp f i c:=by
 obtain⟨y,hy,⟨g,a,_⟩,k⟩:=adt e b hi (η f+1) (uJ (η f) parts) (zN hp) (Pb _ _) ⟨⟨λp hp=>by simp[uJ]at hp,λp hp=>by simp[uJ]at hp⟩,(λj d=>by
   simp only[uJ,gD,nK]at d;split at d<;>cases d),h⟩ (λu _ a=>by
   simp only[uJ,gD,nK]at a;split at a<;>cases a)
 exact⟨y.Jh,(yB _ _ _).2 (.inr (jg.2 ⟨y,hy,rfl⟩)),⟨g,a⟩,k⟩
theorem J8 (b:yh f=jD)(hp:∀x∈parts,x<η f)(hc:c∈rV f parts):∀j,c.2.2.2.getD j jE=jD->Obl f c.1 c.2.1 c.2.2.1 (λp=>c.2.2.2.getD p jE=jD) j:=by
 rcases(yB _ _ _).1 hc with hc|hc
 ·cases hc
 ·obtain⟨y,hy,rfl⟩:=jg.1 hc
  exact Nq (vU b) _ _ (zN hp) y hy (λj a=>by
   simp only[uJ,gD,nK]at a;split at a<;>cases a)
end
inductive JB (R:Nat×Nat->Nat×Nat->Prop):Nat×Nat->Nat×Nat->Prop
 |refl (a:Nat×Nat):JB R a a
 |step {a b c:Nat×Nat}:R a b->JB R b c->JB R a c
structure Jz (f:List Nd)(L:List uI)(rows:List (List Nat))(init:List Nat):Prop where
 len:η rows=η L
 afL:∀c∈rV f [η f-1],∃q∈init,L[q]? =jB c
 Uv:∀q∈init,∃c∈rV f [η f-1],L[q]? =jB c
 ag6:∀q c,L[q]? =jB c->∀c'∈rV f (uw c.2.2.1),∃q'∈rows.getD q [],L[q']? =jB c'
 aew:∀q c,L[q]? =jB c->∀q'∈rows.getD q [],∃c'∈rV f (uw c.2.2.1),L[q']? =jB c'
 Jh:∀c∈L,∃ps:List Nat,(∀x∈ps,x<η f)/\c∈rV f ps
def IZ (c:uI)(u:Nat):Prop:=c.2.2.2.getD u jE=jD->c.2.2.2.getD (u-1) jE=jD
section
variable {bits:Int->Nat->Bool}{n lp:Nat}{f:List Nd}{L:List uI}{rows:List (List Nat)}{init:List Nat}
theorem G5 (c:yh f=jD){u:Nat}(hu:u<η f)(d:opAt f u=9):ru f u=u-1/\1<=u:=by
 obtain⟨l,r,h⟩:=Om (bits:=λ_ _=>jE) (n:=1) (lp:=0) c ω (aa3 hu);obtain⟨a,_,_,b⟩:=h.Ut (.inr (.inr (.inl d)));unfold ru;rw[a];simp;omega
def Stp (n lp:Nat)(rows:List (List Nat))(Z:Nat->Nat->Prop)(a b:Nat×Nat):Prop:=Z a.1 a.2/\Z b.1 b.2/\b.1∈rows.getD a.1 []/\b.2=nx lp n a.2
structure ZOk (bits:Int->Nat->Bool)(n lp:Nat)(f:List Nd)(L:List uI)(rows:List (List Nat))(Z:Nat->Nat->Prop):Prop where
 pl:∀q k,Z q k->k<n
 nd:∀q k,Z q k->∃c,L[q]? =jB c/\Reads bits c.1 c.2.1 k
 any:∀q k,Z q k->∃b,Stp n lp rows Z (q,k) b
 met:∀q k,Z q k->∀u,u<η f->opAt f u=9->∃b d:Nat×Nat,Stp n lp rows Z (q,k) b/\JB (Stp n lp rows Z) b d/\∃c,L[d.1]? =jB c/\IZ c u
theorem aaE (d:yh f=jD)(e:Jz f L rows init)(g:L[q]? =jB c):η c.2.2.1=η f/\η c.2.2.2=η f:=by
 obtain⟨ps,h,i⟩:=e.Jh c (jy g);obtain⟨_,_,a,b⟩:=(wW (vU d) h).2 c i;exact⟨a,b⟩
theorem Uq (b:yh f=jD)(d:Jz f L rows init)(e:L[q]? =jB c):∀x∈uw c.2.2.1,x<η f:=λx a=>by
 unfold uw at a;have:=jl.1 (jL.1 a).1;rw[(aaE b d e).1]at this;exact this
theorem abG (t:yh f=jD)(D:lp<n)(K:Jz f L rows init)(F:ZOk bits n lp f L rows Z):
  ∀(j:Nat) (q k:Nat) (c:uI),Z q k->L[q]? =jB c->c.2.2.2.getD j jE=jD->rz bits n lp f j k=jD:=by
 have hk:=vU t
 have l:∀{q k:Nat} {c:uI} {b:Nat×Nat},L[q]? =jB c->Stp n lp rows Z (q,k) b->∃c',L[b.1]? =jB c'/\∀x,c.2.2.1.getD x jE=jD->c'.2.2.2.getD x jE=jD:=by
  intro q k c b o hs;obtain⟨c',p,hb⟩:=K.aew q c o b.1 hs.2.2.1;exact⟨c',hb,λx hx=>((wW hk (Uq t K o)).2 c' p).2.1 x (KX.2 hx)⟩
 intro j;induction j using Nat.strongRecOn with
 | _ j v=>
  intro q k c C o M;have N:=F.pl q k C;obtain⟨ps,T,U⟩:=K.Jh c (jy o);have hlen:=aaE t K o
  have m:j<η f:=by
   rw[<-hlen.2];rw[gD]at M;by_cases h:j<η c.2.2.2
   ·exact h
   ·rw[jQ ω]at M;cases M
  have hA:=QF (bits:=bits) t D m N;obtain⟨S,q1⟩:=hk j m;have hO:=J8 t T U j M;obtain⟨c0,O,P⟩:=F.nd q k C;rw[o]at O;cases O;by_cases G:opAt f j=9
  ·-- an until
   obtain⟨a,b⟩:=S (.inr (.inr (.inl G)));obtain⟨V,a6⟩:=G5 t m G;obtain⟨s,d,hs,hl,cd,W,how⟩:=F.met q k C j m G
   have X:∀{x d:Nat×Nat},JB (Stp n lp rows Z) x d->(∃c,L[d.1]? =jB c/\IZ c j)->Z x.1 x.2->∀c,L[x.1]? =jB c->c.2.2.2.getD j jE=jD->rz bits n lp f j x.2=jD:=by
    intro x d hl;induction hl with
    |refl x=>
     rintro⟨c',p,how⟩ g c hc w;rw[hc]at p;cases p;have H:=how w;rw[(QF (bits:=bits) t D m (F.pl _ _ g)).LZ G,v _ b x.1 x.2 _ g hc (by rw[V];exact H)];rfl
    | @step x y d r _ Y=>
     intro hd g c hc w;obtain⟨a1,z,A⟩:=K.Jh c (jy hc);have I:=J8 t z A j w;rw[(QF (bits:=bits) t D m (F.pl _ _ g)).LZ G]
     have hh:c.2.2.2.getD (ru f j) jE=jD\/(c.2.2.2.getD (leftOf f j) jE=jD/\c.2.2.1.getD j jE=jD):=by
      rcases I with e|⟨e,_⟩|⟨e,_⟩|⟨e,_⟩|⟨e,_⟩|⟨e,_⟩|⟨_,h⟩|⟨e,_⟩<;>first|exact h|(rw[G]at e;cases e)
     rcases hh with h|⟨H,Q⟩
     ·rw[v _ b x.1 x.2 c g hc h];rfl
     ·obtain⟨c',p,R⟩:=l (q:=x.1) (k:=x.2) hc r;have:=Y hd r.2.1 c' p (R j Q);rw[r.2.2.2]at this;rw[v _ a x.1 x.2 c g hc H,this];simp
   exact X (.step hs hl) ⟨cd,W,how⟩ C c o M
  by_cases E:opAt f j=10
  ·-- a release
   obtain⟨a,b⟩:=S (.inr (.inr (.inr E)));have:=Classical.propDecidable;refine aeC t D m E (u:=λi=>decide (∃q c,Z q i/\L[q]? =jB c/\c.2.2.2.getD j jE=jD)) (λi hi hu=>?_) N (decide_eq_true ⟨q,c,C,o,M⟩);obtain⟨q',c',g,B,w⟩:=kD hu;obtain⟨a1,z,A⟩:=K.Jh c' (jy B);have I:=J8 t z A j w
   have hh:(c'.2.2.2.getD (leftOf f j) jE=jD/\c'.2.2.2.getD (ru f j) jE=jD)\/(c'.2.2.2.getD (ru f j) jE=jD/\c'.2.2.1.getD j jE=jD):=by
    rcases I with e|⟨e,_⟩|⟨e,_⟩|⟨e,_⟩|⟨e,_⟩|⟨e,_⟩|⟨e,_⟩|⟨_,h⟩<;>first|exact h|(rw[E]at e;cases e)
   rcases hh with⟨H,Q⟩|⟨H,Q⟩
   ·rw[v _ b q' i c' g B Q,v _ a q' i c' g B H];rfl
   ·obtain⟨s,hs⟩:=F.any q' i g;obtain⟨c2,J,R⟩:=l (k:=i) B hs;have hU:decide (∃q c,Z q (nx lp n i)/\L[q]? =jB c/\c.2.2.2.getD j jE=jD)=jD:=decide_eq_true ⟨s.1,c2,by rw[<-hs.2.2.2];exact hs.2.1,J,R j Q⟩;rw[v _ b q' i c' g B H,hU];simp
  rcases hO with e|⟨e,h⟩|⟨e,h⟩|⟨e,h,k'⟩|⟨e,h⟩|⟨e,h⟩|⟨e,h⟩|⟨e,h⟩
  ·exact hA.tru e
  ·rw[hA.prop e];exact P.1 _ h
  ·rw[hA.not_ e,P.2 _ h];rfl
  ·obtain⟨a,b⟩:=S (.inl e);rw[hA.ags e,v _ a q k c C o h,v _ b q k c C o k'];rfl
  ·obtain⟨a,b⟩:=S (.inr (.inl e));rw[hA.or_ e];rcases h with h|h
   ·rw[v _ a q k c C o h];rfl
   ·rw[v _ b q k c C o h,Bool.or_true]
  ·obtain⟨s,hs⟩:=F.any q k C;obtain⟨c2,J,R⟩:=l (k:=k) o hs;rw[hA.next e,<-show s.2=nx lp n k from hs.2.2.2];exact v _ (q1 e) s.1 s.2 c2 hs.2.1 J (R _ h)
  ·exact absurd e G
  ·exact absurd e E
def Ir (bits:Int->Nat->Bool)(n lp:Nat)(f:List Nd)(L:List uI)(q k:Nat):Prop:=k<n/\∃c,L[q]? =jB c/\aiC bits n lp f k c/\∀j,c.2.2.2.getD j jE=jD->rz bits n lp f j k=jD
theorem Qq (g:yh f=jD)(a:lp<n)(l:Jz f L rows init)(h:Ir bits n lp f L q k):∃b,Stp n lp rows (Ir bits n lp f L) (q,k) b:=by
 obtain⟨o,c,j,hf,p⟩:=h;obtain⟨c',d,e⟩:=Jy (bits:=bits) g a (yQ a (i:=k)) (Uq g l j) (λx r=>hf.1.2 x (KX.1 r));obtain⟨q',m,s⟩:=l.ag6 q c j c' d;exact⟨(q',nx lp n k),⟨o,c,j,hf,p⟩,⟨yQ a,c',s,e,(Lp g a (yQ a) (Uq g l j) d e.1).1⟩,m,rfl⟩
theorem ahQ (g:yh f=jD)(e:lp<n)(m:Jz f L rows init):ZOk bits n lp f L rows (Ir bits n lp f L):=by
 refine⟨λq k h=>h.1,λq k ⟨_,c,j,hf,_⟩=>⟨c,j,hf.1.1⟩,λq k h=>Qq g e m h,λq k h u hu o=>?_⟩;have:=Classical.propDecidable;obtain⟨p,_⟩:=G5 g hu o
 have key:∀q k,Ir bits n lp f L q k->∃d:Nat×Nat,JB (Stp n lp rows (Ir bits n lp f L)) (q,k) d/\∃c,L[d.1]? =jB c/\IZ c u:=by
  intro q k h;by_cases r:rz bits n lp f u k=jD
  ·have:=Vd (bits:=bits) g e hu o (u:=λi=>decide (∀q,Ir bits n lp f L q i->∃d:Nat×Nat,JB (Stp n lp rows (Ir bits n lp f L)) (q,i) d/\∃c,L[d.1]? =jB c/\IZ c u)) (λi hi l=>by
    refine decide_eq_true (λq s=>?_);rw[kX,jm]at l;rcases l with t|⟨_,v⟩
    ·obtain⟨_,c,j,hf,_⟩:=s;exact⟨(q,i),.refl _,c,j,λa=>by have:=hf.2 u o a t;rwa [p]at this⟩
    ·obtain⟨b,hb⟩:=Qq g e m s;obtain⟨d,hd,hc⟩:=kD v b.1 (by rw[<-show b.2=nx lp n i from hb.2.2.2];exact hb.2.1);rw[<-show b.2=nx lp n i from hb.2.2.2]at hd;exact⟨d,.step hb hd,hc⟩) h.1 r
   exact kD this q h
  ·obtain⟨_,c,j,_,w⟩:=id h;exact⟨(q,k),.refl _,c,j,λa=>absurd (w u a) r⟩
 obtain⟨b,hb⟩:=Qq g e m h;obtain⟨d,hd,hc⟩:=key b.1 b.2 hb.2.1;exact⟨b,d,hb,hd,hc⟩
theorem abH (e:yh f=jD)(a:lp<n)(g:Jz f L rows init)(hf:0<η f)(h:rz bits n lp f (η f-1) 0=jD):∃q∈init,Ir bits n lp f L q 0:=by
 have hp:∀x∈[η f-1],x<η f:=λx d=>by simp at d;omega
 obtain⟨c,hc,b⟩:=Jy (bits:=bits) e a (i:=0) ω hp (λx d=>by simp at d;rw[d];exact h);obtain⟨q,j,k⟩:=g.afL c hc;exact⟨q,j,ω,c,k,b,(Lp e a ω hp hc b.1).1⟩
theorem aea (b:yh f=jD)(a:lp<n)(d:Jz f L rows init)(hf:0<η f)(e:ZOk bits n lp f L rows Z)(g:q∈init)(h:Z q 0):rz bits n lp f (η f-1) 0=jD:=by
 have hp:∀x∈[η f-1],x<η f:=λx i=>by simp at i;omega
 obtain⟨c,hc,j⟩:=d.Uv q g;exact abG b a d e (η f-1) q 0 c h j (((wW (vU b) hp).2 c hc).2.1 _ ς)
end
def uG (L cs:List uI):List Nat:=cs.map (λc=>L.idxOf c)
def Dc (f:List Nd):Nat->List uI->List (List Nat)->Option (List uI×List (List Nat))
 |0,_,_=>jC
 |k+1,L,rows=>
  if η rows<η L then
   if 256<η (rA (rV f (uw (L.getD (η rows) (0,0,[],[])).2.2.1)) L)then jC
   else Dc f k (rA (rV f (uw (L.getD (η rows) (0,0,[],[])).2.2.1)) L) (rows++[uG (rA (rV f (uw (L.getD (η rows) (0,0,[],[])).2.2.1)) L) (rV f (uw (L.getD (η rows) (0,0,[],[])).2.2.1))])
  else jB (L,rows)
def tC (f:List Nd):List uI:=rV f [η f-1]
def JK (f:List Nd):Option (List uI×List (List Nat)):=if 256<η (tC f)then jC else Dc f 257 (tC f) []
theorem EZ (cs):∀L:List uI,∃m,rA cs L=L++m:=by
 induction cs with
 |nil=>intro L;exact⟨[],by simp[rA]⟩
 |cons c cs a=>
  intro L;obtain⟨m,hm⟩:=a (uO L c);show ∃m,rA cs (uO L c)=L++m;rw[hm];unfold uO;split
  ·exact⟨m,rfl⟩
  ·exact⟨[c]++m,ς⟩
theorem Ou (h:c∈L):L[L.idxOf c]? =jB c:=by
 have hl:=mO h;rw[gE hl,List.getElem_idxOf]
structure DU (f:List Nd)(L:List uI)(rows:List (List Nat)):Prop where
 nodup:L.Nodup
 le:η rows<=η L
 Jh:∀c∈L,∃ps:List Nat,(∀x∈ps,x<η f)/\c∈rV f ps
 row:∀q c,q<η rows->L[q]? =jB c->rows.getD q []=uG L (rV f (uw c.2.2.1))/\∀c'∈rV f (uw c.2.2.1),c'∈L
 first:∃m,L=tC f++m
theorem GZ {m cs:List uI}(h:∀c∈cs,c∈L):uG (L++m) cs=uG L cs:=
 j6 (λc hc=>by rw[mK,jd (h c hc)])
theorem Wo (d:yh f=jD)(h:∃ps:List Nat,(∀x∈ps,x<η f)/\c∈rV f ps):∀x∈uw c.2.2.1,x<η f:=λx b=>by
 obtain⟨ps,e,g⟩:=h;obtain⟨_,_,a,_⟩:=(wW (vU d) e).2 c g;unfold uw at b;have:=jl.1 (jL.1 b).1;rw[a]at this;exact this
theorem DU.step {f:List Nd}(n:yh f=jD){L:List uI}{rows:List (List Nat)}(h:DU f L rows)(a:η rows<η L):
  DU f (rA (rV f (uw (L.getD (η rows) (0,0,[],[])).2.2.1)) L) (rows++[uG (rA (rV f (uw (L.getD (η rows) (0,0,[],[])).2.2.1)) L) (rV f (uw (L.getD (η rows) (0,0,[],[])).2.2.1))]):=by
 have o:L.getD (η rows) (0,0,[],[])=L[η rows]:=by simp[θ,a]
 rw[o];have i:=h.Jh L[η rows] (mM a);have j:=Wo n i;generalize hcs:rV f (uw L[η rows].2.2.1)=cs;obtain⟨m,hm⟩:=EZ cs L;have d:∀c∈cs,c∈rA cs L:=λc hc=>(yB _ _ _).2 (.inr hc)
 refine⟨Hl _ _ h.nodup,?_,λc hc=>?_,λq c p hc=>?_,?_⟩
 ·rw[hm,lA,lA,jU];omega
 ·rcases(yB _ _ _).1 hc with hc|hc
  ·exact h.Jh c hc
  ·exact⟨_,j,by rw[hcs];exact hc⟩
 ·rw[lA,jU]at p;by_cases e:q<η rows
  ·have b:L[q]? =jB c:=by
    rw[hm,gC ω]at hc;exact hc
   obtain⟨e1,e2⟩:=h.row q c e b;refine⟨?_,λc' g=>(yB _ _ _).2 (.inl (e2 c' g))⟩;rw[gD,gC e,<-gD,e1,hm,GZ e2]
  ·have k:q=η rows:=ω;subst k
   have b:c=L[η rows]:=by
    rw[hm,gC a,gE a]at hc;injection hc with hc;exact hc.symm
   subst b;rw[hcs];refine⟨?_,d⟩;rw[gD,gR lR];simp
 ·obtain⟨m0,l⟩:=h.first
  exact⟨m0++m,by rw[hm,l,lg]⟩
theorem L8 (c:yh f=jD):∀(k:Nat) (L:List uI) (rows:List (List Nat)),DU f L rows->∀L' a,Dc f k L rows=jB (L',a)->DU f L' a/\η a=η L'
 |0,_,_,_,_,_,h=>by cases h
 |k+1,L,rows,hi,L',a,h=>by
  unfold Dc at h;split at h
  ·next b=>
   split at h
   ·cases h
   ·exact L8 c k _ _ (hi.step c b) L' a h
  ·next b=>
   injection h with h
   injection h with d e
   subst d;subst e;exact⟨hi,by have:=hi.le;omega⟩
theorem Gd (a:yh f=jD)(hf:0<η f):DU f (tC f) []:=by
 have hp:∀x∈[η f-1],x<η f:=λx b=>by simp at b;omega
 exact⟨(wW (vU a) hp).1,ς,λc hc=>⟨_,hp,hc⟩,λq c d=>by simp at d,⟨[],ς⟩⟩
theorem ac8 (h:L.Nodup)(m):uG (L++m) L=ζ (η L):=by
 rw[GZ (λc hc=>hc)];refine jw (by simp[uG]) (λi a b=>?_);have hi:i<η L:=by simpa[uG]using a
 simp only[uG,lJ,l9];exact h.idxOf_getElem i hi
theorem Yp (j:yh f=jD)(hf:0<η f)(h:JK f=jB (L,rows)):Jz f L rows (ζ (η (tC f))):=by
 unfold JK at h;split at h
 ·cases h
 obtain⟨hi,hl⟩:=L8 j _ _ _ (Gd j hf) L rows h;obtain⟨m,hm⟩:=hi.first
 have d:∀q,q<η (tC f)->L[q]? =(tC f)[q]? :=λq g=>by rw[hm,gC g]
 refine⟨hl,λc hc=>?_,λq g=>?_,λq c hc c' b=>?_,λq c hc q' a=>?_,hi.Jh⟩
 ·obtain⟨q,g,e⟩:=lZ.1 (show c∈tC f from hc);exact⟨q,jl.2 g,by rw[d q g,gE g,e]⟩
 ·have a:=jl.1 g;exact⟨(tC f)[q],mM a,by rw[d q a,gE a]⟩
 ·have i:=(gB.1 hc).1;obtain⟨e1,e2⟩:=hi.row q c ω hc;refine⟨L.idxOf c',?_,Ou (e2 c' b)⟩;rw[e1];exact jg.2 ⟨c',b,rfl⟩
 ·have i:=(gB.1 hc).1;obtain⟨e1,e2⟩:=hi.row q c ω hc;rw[e1]at a;obtain⟨c',b,rfl⟩:=jg.1 a;exact⟨c',b,Ou (e2 c' b)⟩
structure Iw (n:Nat)(c:uI):Prop where
 txt:UU c
 l1:η c.2.2.1=n
 l2:η c.2.2.2=n
def kS (c:uI):Lit:=.string (strOfNums (Gi c)).data.toList
theorem af7 {a b:Int}(c:0<=a/\a<=255)(hb:0<=b/\b<=255)(h:UInt8.ofNat a.toNat=UInt8.ofNat b.toNat):a=b:=by
 have:=jM UInt8.toNat h;rw[UInt8.toNat_ofNat',UInt8.toNat_ofNat']at this;omega
theorem bytes_inj:∀{l m:List Int},(∀x∈l,0<=x/\x<=255)->(∀x∈m,0<=x/\x<=255)->zh l=zh m->l=m
 |[],[],_,_,_=>rfl
 |[],_::_,_,_,h=>by simp[zh]at h
 | _::_,[],_,_,h=>by simp[zh]at h
 |a::l,b::m,hl,hm,h=>by
  simp[zh]at h;rw[af7 (hl a ς) (hm b ς) h.1,bytes_inj γ γ h.2]
theorem Pt (h:UU c):∀x∈Gi c,0<=x/\x<=255:=by
 intro x b;unfold Gi at b;simp at b;rcases b with a|rfl|a|rfl|a|rfl|a
 ·exact(MG h.need).2.2 x a
 ·omega
 ·exact(MG h.ban).2.2 x a
 ·omega
 ·exact(Oj h.next).2 x a
 ·omega
 ·exact(Oj h.now).2 x a
theorem aaB {l m:List Bool}(hl:η l=η m)(h:uw l=uw m):l=m:=by
 refine jw hl (λi a b=>?_);have e:(i∈uw l)↔(i∈uw m):=by rw[h]
 rw[KX,KX]at e
 grind
theorem ai4 {d:uI}(hc:Iw n c)(hd:Iw n d)(h:kS c=kS d):c=d:=by
 unfold kS at h;injection h with h
 have hs:=bytes_inj (Pt hc.txt) (Pt hd.txt) μ;let⟨i,j,e,f⟩:=Yz hc.txt hd.txt hs
 obtain⟨a,b,x,y⟩:=c;obtain⟨a',b',g,y'⟩:=d;have k:x=g:=aaB (hc.l1.trans hd.l1.symm) e;have l:y=y':=aaB (hc.l2.trans hd.l2.symm) f
 grind
theorem aep (hc:Iw n c)(d:n<=1000):η (Gi c)<=10000:=by
 have a:=E5 (uw c.2.2.1);have b:=E5 (uw c.2.2.2);have a2:=KY c.2.2.1;have b2:=KY c.2.2.2;have e:η (xZ c.1)<=2:=by unfold xZ;grind
 have f:η (xZ c.2.1)<=2:=by unfold xZ;grind
 have:=hc.l1;have:=hc.l2;unfold Gi
 grind
theorem Vp:Keyed jJ 9:=string_keyed Tryz.underlying9
theorem afH (hc:Iw n c)(a:n<=1000):keyOf jJ 9 (.string (strOfNums (Gi c)))=jB (kS c):=
 Go.WideMaps.keyOf_string_mk Tryz.underlying9 (by rw[strOfNums_size];have:=aep hc a;unfold maxLen;omega)
theorem ME (h:q<=1000000):keyOf jJ 3 (.int iZ (q:Int))=jB (.int iZ (q:Int)):=
 keyOf_int_mk Tryz.underlying3 (by rw[Lit.wf,show IntKind.i64.min= -9223372036854775808 from rfl,show IntKind.i64.max=9223372036854775807 from rfl];grind)
theorem Fh:Keyed jJ 3:=int_keyed Tryz.underlying3
def JA (w:jF)(nb n:Nat)(L:List uI):Prop:=
 ∃g,vI w 9 nb (η L) g/\∀c,Iw n c->g (kS c)=if c∈L then jB (.int iZ (L.idxOf c:Nat))else jC
structure OA (lo:Nat)(w:jF)(B:Nat)(A:Option Addr)(n c:Nat)(xs:List Value):Prop where
 t:zV w 3 A n c xs
 lt:∀a,A=jB a->lo<=a.block/\a.block<B
def LD (S:Nat->Prop)(w:jF)(B:Nat):Prop:=∀k cs,k<B->w.1[k]? =jB (jG cs 3 (0,0))->¬S k
theorem LD.of (h:yc S w 3):LD S w B:=λk cs _ a=>h k cs a
theorem OA.afJ {c:Nat}(h:OA lo w B A n c xs)(f:qW S w w')(hS:∀k cs,lo<=k->k<B->w.1[k]? =jB (jG cs 3 (0,0))->¬S k):OA lo w' B A n c xs:=by
 have hb:∀a,A=jB a->w'.1[a.block]? =w.1[a.block]? :=λa d=>by
  obtain⟨cs,hc⟩:=h.t.ty a d;exact f.block _ γ (hS _ _ (h.lt a d).1 (h.lt a d).2 hc)
 refine⟨⟨⟨h.t.sl.len,h.t.sl.cap,h.t.sl.max,h.t.sl.nil,?_⟩,λa d=>?_⟩,h.lt⟩
 ·rcases h.t.sl.rd with g|⟨b,off,hA,e,hc⟩
  ·exact .inl g
  ·exact .inr ⟨b,_,hA,jh e f.size,λj u i=>(El (hb _ hA)).trans γ⟩
 ·obtain⟨cs,hc⟩:=h.t.ty a d
  grind
theorem OA.keep {c:Nat}(h:OA lo w B A n c xs)(a:qW S w w')(hS:LD S w B):OA lo w' B A n c xs:=h.afJ a (λk cs _ b hc=>hS k cs b hc)
theorem OA.ofL {c:Nat}(h:zV w 3 A n c xs)(hl:∀a,A=jB a->lo<=a.block):OA lo w w.1.size A n c xs:=⟨h,λa b=>⟨hl a b,by obtain⟨cs,hc⟩:=h.ty a b;grind⟩⟩
theorem OA.of {c:Nat}(h:zV w 3 A n c xs):OA 0 w w.1.size A n c xs:=OA.ofL h (λ_ _=>mR _)
theorem OA.mono {c:Nat}(h:OA lo w B A n c xs)(d:B<=B'):OA lo w B' A n c xs:=⟨h.t,λa b=>⟨(h.lt a b).1,jh (h.lt a b).2 d⟩⟩
def ads (c:uI)(E1:Option Addr)(e1:Nat)(E2:Option Addr)(e2:Nat):Value:=.agg #[.int jA (c.1:Int),.int jA (c.2.1:Int),iX E1 (η (uw c.2.2.1)) e1,iX E2 (η (uw c.2.2.2)) e2]
def JC (B:Nat)(w:jF)(c:uI)(E1:Option Addr)(e1:Nat)(E2:Option Addr)(e2:Nat):Prop:=
 OA 0 w B E1 (η (uw c.2.2.1)) e1 (qO (iE (uw c.2.2.1)))/\OA 0 w B E2 (η (uw c.2.2.2)) e2 (qO (iE (uw c.2.2.2)))
theorem JC.keep (h:JC B w c E1 e1 E2 e2)(a:qW S w w')(hi:LD S w B):JC B w' c E1 e1 E2 e2:=⟨h.1.keep a hi,h.2.keep a hi⟩
def FC (B:Nat)(w:jF)(ob p:Nat)(L:List uI):Prop:=
 ∃g,vI w 3 ob (η L) g/\∀q c,p<=q->L[q]? =jB c->∃E1 e1 E2 e2,g (.int iZ (q:Int))=jB (ads c E1 e1 E2 e2)/\JC B w c E1 e1 E2 e2
theorem JA.keep (h:JA w nb n L)(a:qW S w w')(hS:¬S nb):JA w' nb n L:=by
 obtain⟨g,b,c⟩:=h;exact⟨g,b.keep a hS,c⟩
theorem FC.keep (h:FC B w ob p L)(d:qW S w w')(hS:¬S ob)(hi:LD S w B):FC B w' ob p L:=by
 obtain⟨g,e,f⟩:=h;refine⟨g,e.keep d hS,λq c i hc=>?_⟩;obtain⟨E1,e1,E2,e2,a,b⟩:=f q c i hc;exact⟨_,_,_,_,a,b.keep d hi⟩
theorem JA.nil (h:w.1[nb]? =jB (.map #[] 0)):JA w nb n []:=⟨_,vI.Ho h,λc _=>ς⟩
theorem FC.nil (h:w.1[ob]? =jB (.map #[] 0)):FC B w ob p []:=⟨_,vI.Ho h,λq c _ hc=>γ⟩
theorem ahz (a:∀c,Iw n c->g (kS c)=if c∈L then jB (.int iZ (L.idxOf c:Nat))else jC)(hc:Iw n c)(b:c∉L)
  (h:∀g',NT g g' (kS c) (.int iZ (η L:Nat))->vI w 9 nb (η L+1) g'):JA w nb n (L++[c]):=by
 obtain⟨g',hp⟩:=D9 g (kS c) (.int iZ (η L));refine⟨_,by rw[lA];exact h _ hp,λd hd=>?_⟩;by_cases e:d=c
 ·subst e;rw[hp.1,jd ς,mK,d9 b];simp
 ·rw[hp.2 _ (λh=>e (ai4 hd hc h)),a d hd]
  grind
theorem ahf (f:∀q c,p<=q->L[q]? =jB c->∃E1 e1 E2 e2,g (.int iZ (q:Int))=jB (ads c E1 e1 E2 e2)/\JC B w c E1 e1 E2 e2)(b:JC B w c E1 e1 E2 e2)
  (h:∀g',NT g g' (.int iZ (η L:Nat)) (ads c E1 e1 E2 e2)->vI w 3 ob (η L+1) g'):FC B w ob p (L++[c]):=by
 obtain⟨g',hp⟩:=D9 g (.int iZ (η L)) (ads c E1 e1 E2 e2);refine⟨_,by rw[lA];exact h _ hp,λq d i hd=>?_⟩;by_cases e:q<η L
 ·rw[gC e]at hd;rw[hp.2 _ γ]
  grind
 ·have a:q=η L:=by
   grind
  subst a;simp at hd;subst hd;exact⟨_,_,_,_,hp.1,b⟩
theorem ahg (b:∀q c,p<=q->L[q]? =jB c->∃E1 e1 E2 e2,g (.int iZ (q:Int))=jB (ads c E1 e1 E2 e2)/\JC B w c E1 e1 E2 e2)
  (h:∀g',ajz g g' (.int iZ (p:Nat))->g' (.int iZ (p:Nat))=jC->vI w 3 ob (η L) g'):FC B w ob (p+1) L:=by
 obtain⟨g',hp,a⟩:=ahR g (.int iZ p);refine⟨_,h _ hp a,λq d e hd=>?_⟩;rw[hp _ γ]
 grind
def Ip (lo B:Nat)(w:jF)(xs:List Value)(f:List Nd)(L:List uI)(rows:List (List Nat)):Prop:=
 ∀(k:Nat) (c:uI),L[k]? =jB c->∃A cp,xs[k*4]? =jB (.int jA (c.1:Int))/\xs[k*4+1]? =jB (.int jA (c.2.1:Int))/\xs[k*4+2]? =jB (.int jA ((aaG f (iE (uw c.2.2.2)):Nat):Int))/\
  xs[k*4+3]? =jB (iX A (η (rows.getD k [])) cp)/\OA lo w B A (η (rows.getD k [])) cp (qO (iE (rows.getD k [])))
theorem Ip.keep (h:Ip lo B w xs f L rows)(a:qW S w w')(hi:LD S w B):Ip lo B w' xs f L rows:=by
 intro k c b;obtain⟨A,g,d,e1,e2,e,t⟩:=h k c b;exact⟨A,_,d,e1,e2,e,t.keep a hi⟩
theorem agP (w t):zV w t jC 0 0 []:=by
 obtain⟨A,c,hv,h⟩:=zV.Br (jF.ownsRow_nil w w.1.size t 1)
 grind
theorem Ip.push (h:Ip lo B w xs f L rows)(hl:η xs=η L*4)(j:η rows<=η L)(c:uI)(hm:m=((aaG f (iE (uw c.2.2.2)):Nat):Int)):
  Ip lo B w (xs++[.int jA (c.1:Int),.int jA (c.2.1:Int),.int jA m,iX jC 0 0]) f (L++[c]) rows:=by
 subst hm;intro k d b;by_cases e:k<η L
 ·rw[gC e]at b;obtain⟨A,l,n,e1,e2,o,t⟩:=h k d b
  grind
 ·have g:k=η L:=by
   grind
  subst g;simp at b;subst b;have i:rows.getD (η L) []=[]:=γ;rw[i];refine⟨_,0,?_,?_,?_,?_,⟨agP w _,λa p=>γ⟩⟩
  ·grind
  ·grind
  ·grind
  ·grind
theorem Ip.ael (h:Ip lo B w xs f L rows)(_:η xs=η L*4)(a){b:Nat}(i:OA lo w B A (η a) b (qO (iE a))):
  Ip lo B w (xs.set (η rows*4+3) (iX A (η a) b)) f L (rows++[a]):=by
 intro k c d;have e:=(gB.1 d).1;let⟨A',g,j,e1,e2,l,t⟩:=h k c d
 grind
structure TS (n0 B kb nb ob:Nat)(Af:Option Addr)(cf:Nat)(f:List Nd)(sets:Int)(w:jF)(L:List uI)(p:Nat)(rows:List (List Nat))(vi vn:Value):Prop where
 bk:w.1[kb]? =jB (jG #[iX Af (η f) cf,.map (jB nb),.map (jB ob),.int iZ sets,vi,vn] 86 (0,0))
 num:JA w nb (η f) L
 opn:FC B w ob p L
 Wq:∃xs,w.ownsRow n0 53 4 vn (η L) xs/\Ip n0 B w xs f L rows
 oks:∀c∈L,Iw (η f) c
 rl:η rows<=η L
 lt:n0<=w.1.size/\n0<=kb/\n0<=nb/\n0<=ob/\nb≠ob
 fs:Sl w n0 2 Af (η f) cf (qP f)
section
variable {n0 B kb nb ob:Nat}{Af:Option Addr}{cf:Nat}{f:List Nd}{sets:Int}{w:jF}{L:List uI}{p:Nat}{rows:List (List Nat)}{vi vn:Value}
theorem TS.Qd (h:TS n0 B kb nb ob Af cf f sets w L p rows vi vn):nb<w.1.size:=by obtain⟨g,a,_⟩:=h.num;exact a.lt
theorem TS.aaC (h:TS n0 B kb nb ob Af cf f sets w L p rows vi vn):ob<w.1.size:=by obtain⟨g,a,_⟩:=h.opn;exact a.lt
theorem TS.tQ (h:TS n0 B kb nb ob Af cf f sets w L p rows vi vn)(a:w.1[k]? =jB (jG cs t (0,0))):k≠nb:=by obtain⟨g,b,_⟩:=h.num;exact b.wM a
theorem TS.yP (h:TS n0 B kb nb ob Af cf f sets w L p rows vi vn)(a:w.1[k]? =jB (jG cs t (0,0))):k≠ob:=by obtain⟨g,b,_⟩:=h.opn;exact b.wM a
theorem sK {base e size:Nat}(h:w.ownsRow base e size v n xs){g:Nat}(a:v.ownBlock=jB g):∃cs,w.1[g]? =jB (jG cs e (0,0)):=by
 rcases h.2 with⟨rfl,_⟩|⟨k,cap,cur,rfl,_,b,_⟩
 ·simp[Value.ownBlock]at a
 ·simp[Value.ownBlock]at a;grind
def Tk (kb nb ob:Nat)(vn:Value)(k:Nat):Prop:=k=kb\/k=nb\/k=ob\/vn.ownBlock=jB k
theorem TS.spares (h:TS n0 B kb nb ob Af cf f sets w L p rows vi vn){t:TypeId}(b:53≠t)(d:86≠t):yc (Tk kb nb ob vn) w t:=by
 rintro k cs a (rfl|rfl|rfl|hv)
 ·rw[h.bk]at a;grind
 ·exact h.tQ a rfl
 ·exact h.yP a rfl
 ·obtain⟨xs,c,_⟩:=h.Wq;exact qQ c a b hv
theorem TS.keep (h:TS n0 B kb nb ob Af cf f sets w L p rows vi vn)(a:qW S w w')(b:¬S kb)(c:¬S nb)(d:¬S ob)(e:∀g,vn.ownBlock=jB g->¬S g)(hi:LD S w B)(i:∀k,k<n0->¬S k):
  TS n0 B kb nb ob Af cf f sets w' L p rows vi vn:=by
 obtain⟨xs,j,l⟩:=h.Wq;exact⟨a.blk h.bk b,h.num.keep a c,h.opn.keep a d hi,⟨_,qR j a e,l.keep a hi⟩,h.oks,h.rl,⟨Nat.le_trans h.lt.1 a.size,h.lt.2⟩,h.fs.uQ a h.lt.1 i⟩
theorem TS.below (h:TS n0 B kb nb ob Af cf f sets w L p rows vi vn)(hb:Below w.1.size w w'):TS n0 B kb nb ob Af cf f sets w' L p rows vi vn:=by
 obtain⟨xs,a,_⟩:=h.Wq;have l1:=rX h.bk;have l2:=h.Qd;have c:=h.aaC;exact h.keep (qW.of_below hb) ω ω ω (λg b=>by have:=(a.lt g b).2;omega) (LD.of (ug w _)) (λk d=>by have:=h.lt.1;omega)
theorem TS.up (h:TS n0 B kb nb ob Af cf f sets w L p rows vi vn)(b:B<=B'):TS n0 B' kb nb ob Af cf f sets w L p rows vi vn:=by
 obtain⟨g,g1,g2⟩:=h.opn;obtain⟨xs,d,e⟩:=h.Wq;refine⟨h.bk,h.num,⟨g,g1,λq c i hc=>?_⟩,⟨_,d,λk c j=>?_⟩,h.oks,h.rl,h.lt,h.fs⟩
 ·obtain⟨E1,e1,E2,e2,a,b1,b2⟩:=g2 q c i hc;exact⟨_,_,_,_,a,b1.mono b,b2.mono b⟩
 ·obtain⟨A,n,l,e1,e2,m,t⟩:=e k c j;exact⟨A,_,l,e1,e2,m,t.mono b⟩
theorem TS.Vk (h:TS n0 B kb nb ob Af cf f sets w L p rows vi vn)(a:Tk kb nb ob vn k):n0<=k:=by
 obtain⟨xs,b,_⟩:=h.Wq;have:=h.lt;rcases a with rfl|rfl|rfl|a
 ·omega
 ·omega
 ·omega
 ·exact(b.lt k a).1
theorem TS.tell {o q w7:jF}{Rn:Value}(h:TS n0 B kb nb ob Af cf f sets w L p rows vi vn)(M:Iw (η f) c)(C:qW (λk=>k=nb\/k=ob) w o)(r:JA o nb (η f) (L++[c]))(s:FC B o ob p (L++[c]))
  (j:Below o.1.size o q)(a:q.ownsRow n0 53 4 vn (η L) xs)(hcs:Ip n0 B q xs f L rows)(hm:m=((aaG f (iE (uw c.2.2.2)):Nat):Int))
  (J:w7.ownsRow n0 53 4 Rn (η L+1) (xs++[.int jA (c.1:Int),.int jA (c.2.1:Int),.int jA m,iX jC 0 0]))(l:qW (λk=>vn.ownBlock=jB k) q w7)(N:Rn.ownBlock=vn.ownBlock\/Rn.ownBlock=jB q.1.size):
  TS n0 B kb nb ob Af cf f sets (w7.setCell ⟨kb,5,jC⟩ Rn) (L++[c]) p rows vi Rn/\qW (Tk kb nb ob vn) w (w7.setCell ⟨kb,5,jC⟩ Rn)/\∀i,Rn.ownBlock=jB i->i<w.1.size->vn.ownBlock=jB i:=by
 have R:=rX h.bk;have ln:=h.Qd;have lo:=h.aaC;have z5:=C.size;have S:=j.size;have T:=l.size;have u:=h.lt;have D:=C.blk h.bk (by rintro(e|e);exact h.tQ h.bk e;exact h.yP h.bk e);have v:=(qW.of_below j).blk D ω;have x:=l.blk v (qQ a v δ);have n:=(qW.refl (λk=>k=kb) w7).setCell (p:=⟨_,5,jC⟩) (λ_=>rfl) Rn;have y:LD _ _ B:=λk cs _ O=>qQ a O δ
 have z:LD _ _ B:=LD.of (uM x δ)
 have K:∀b,b=nb\/b=ob->vn.ownBlock≠jB b:=by
  rintro b hb e;obtain⟨cs,hc⟩:=sK a e;have E:=r.keep (qW.of_below j) ω;have F:=s.keep (qW.of_below j) ω (LD.of (ug o _));obtain⟨g1,P,_⟩:=E;obtain⟨g2,a2,_⟩:=F;rcases hb with rfl|rfl
  ·exact P.wM hc rfl
  ·exact a2.wM hc rfl
 have G:nb≠kb:=λe=>h.tQ h.bk e.symm
 have A:ob≠kb:=λe=>h.yP h.bk e.symm
 have H:∀g,Rn.ownBlock=jB g->g≠kb:=λg Q e=>by
  subst e;obtain⟨cs,hc⟩:=sK J Q
  grind
 refine⟨⟨?_,?_,?_,?_,?_,?_,?_,?_⟩,?_,?_⟩
 ·have:=heap_setCell_same _ _ 5 _ _ Rn x
  grind
 ·exact((r.keep (qW.of_below j) ω).keep l γ).keep n G
 ·exact((s.keep (qW.of_below j) ω (LD.of (ug _ _))).keep l γ y).keep n A z
 ·exact⟨_,by rw[lA];exact qR J n H,((hcs.push a.1 h.rl c hm).keep l y).keep n z⟩
 ·intro d hd;rcases jo.1 hd with hd|hd
  ·exact h.oks d hd
  ·grind
 ·have:=h.rl;grind
 ·have:=n.size;omega
 ·have f1:=h.fs.uQ C u.1 (λb I e=>ω);have f2:=f1.below j ω;have f3:=f2.uQ l ω (λb I e=>by have:=(a.lt b e).1;omega);exact f3.uQ n ω ω
 ·have t5:qW (Tk kb _ _ vn) w _:=C.mono (λi _ e=>by rcases e with e|e;exact .inr (.inl e);exact .inr (.inr (.inl e)));have t6:=t5.trans (qW.of_below j) ω;have t7:=t6.trans l (λi _ e=>.inr (.inr (.inr e)));exact t7.trans n (λi _ e=>.inl e)
 ·intro i hi u
  grind
end
set_option maxHeartbeats 4000000
set_option maxRecDepth 100000
theorem Dh:uq jJ 30 53 4 48:=
 uq.mk (z:=.agg #[.int jA 0,.int jA 0,.int jA 0,iX jC 0 0]) Tryz.underlying30 κ δ δ
theorem D5 {p q u:Value}(h:w.1[b]? =jB (jG #[p,q,r,s,u,v] t (0,0))):w.cell? ⟨b,0,jC⟩=jB p/\w.cell? ⟨b,1,jC⟩=jB q/\w.cell? ⟨b,2,jC⟩=jB r/\w.cell? ⟨b,3,jC⟩=jB s/\w.cell? ⟨b,4,jC⟩=jB u/\w.cell? ⟨b,5,jC⟩=jB v:=by
 refine⟨?_,?_,?_,?_,?_,?_⟩<;>(rw[cell_of_row _ _ _ _ _ _ h];rfl)
theorem yt {p q:Value}(h:w.1[b]? =jB (jG #[p,q,r,s] t (0,0))):w.cell? ⟨b,0,jC⟩=jB p/\w.cell? ⟨b,1,jC⟩=jB q/\w.cell? ⟨b,2,jC⟩=jB r/\w.cell? ⟨b,3,jC⟩=jB s:=by
 refine⟨?_,?_,?_,?_⟩<;>(rw[cell_of_row _ _ _ _ _ _ h];rfl)
def aj1 (n0 B kb nb ob:Nat)(Af:Option Addr)(cf:Nat)(f:List Nd)(sets:Int)(w:jF)(L:List uI)(p:Nat)(rows:List (List Nat))(vi vn:Value)(c:uI)(en:Ending)(w':jF):Prop:=
 ∃Rn,en=.returned (.int iZ ((uO L c).idxOf c:Nat))/\TS n0 B kb nb ob Af cf f sets w' (uO L c) p rows vi Rn/\qW (Tk kb nb ob vn) w w'/\∀i,Rn.ownBlock=jB i->i<w.1.size->vn.ownBlock=jB i
theorem Y6 (n0 B kb nb ob:Nat)(Af:Option Addr)(cf:Nat)(f:List Nd)(sets:Int)(w:jF)(L:List uI)(p:Nat)(rows:List (List Nat))(vi vn:Value)(c:uI)(E1:Option Addr)(e1:Nat)(E2:Option Addr)(e2:Nat)
  (h:TS n0 B kb nb ob Af cf f sets w L p rows vi vn)(hr:JC B w c E1 e1 E2 e2)(x:Iw (η f) c)(hT:xJ w)(bI:η f<=1000)(hL:η L<=1000):
  Calls jJ 73 #[jH (jB ⟨kb,0,jC⟩),.agg #[.int jA (c.1:Int),.int jA (c.2.1:Int),iX E1 (η (uw c.2.2.1)) e1,iX E2 (η (uw c.2.2.2)) e2]] w (aj1 n0 B kb nb ob Af cf f sets w L p rows vi vn c):=by
 have T:Below _ w (w.alloc (jG #[.int jA c.1,.int jA c.2.1,iX E1 (η (uw c.2.2.1)) e1,iX E2 (η (uw c.2.2.2)) e2] 90)):=bR.alloc lR _;have ax:=heap_alloc_new w (jG #[.int jA c.1,.int jA c.2.1,iX E1 (η (uw c.2.2.1)) e1,iX E2 (η (uw c.2.2.2)) e2] 90);have bc:(w.alloc (jG #[.int jA c.1,.int jA c.2.1,iX E1 (η (uw c.2.2.1)) e1,iX E2 (η (uw c.2.2.2)) e2] 90)).1.size=w.1.size+1:=ς;let⟨W0,ay⟩:=xQ (w.alloc (jG #[.int jA c.1,.int jA c.2.1,iX E1 (η (uw c.2.2.1)) e1,iX E2 (η (uw c.2.2.2)) e2] 90))
 rw[ay]at T ax bc;have bd:=dh ay;clear ay;have aK:=Nat.le_trans (KY _) (by rw[x.l1];omega);have aL:=Nat.le_trans (KY _) (by rw[x.l2];omega);have Z:=hr.keep (qW.of_below T) (LD.of (ug w _));have bh:=dh (aer _ _ x.txt.need x.txt.ban _ _ _ _ _ _ _ (zW hT T) Z.1.t.sl Z.2.t.sl x.txt.next x.txt.now aK aL);let⟨k0,k1,k2,k3⟩:=yt ax
 obtain⟨HT,G,bj⟩:=iA h x hr;clear h x hr hT;go_enter Tryz.func73,Tryz.ntmps73;go_wp2_with fail
 rw[bd.o];apply Calls.mono bh.o;rintro e w1 ⟨rfl,aM⟩;have y:=T.trans (aM.mono ω);have bm:=(aM.block _ ω).trans ax;obtain⟨m,a1⟩:=iw (HT.below y) (bj.keep (qW.of_below y) (LD.of (ug w _)));let⟨b0,b1,b2,b3,b4,b5⟩:=D5 m.bk
 let⟨gn,az,H⟩:=m.num
 have U:=az.look jD Vp Tryz.underlying83 κ (afH G ω) (z:=.int iZ 0);rw[H c G.o]at U;have aN:strOfNums (xZ _++32::(xZ _++59::(vR _++59::vR _)))=strOfNums (Gi c):=rfl;rw[aN];let⟨S,hS⟩:=xQ (strOfNums (Gi c))
 rw[hS]at U⊢;have HS:=dh hS;clear aN hS k0 k1 k2 k3;by_cases hm:c∈L
 ·go_wp2
  go_ret
  have ha:uO L c=L:=by unfold uO;rw[jd hm]
  refine⟨_,ξ,by rw[ha];assumption,(qW.of_below y).mono ω,λi hi _=>hi⟩
 ·rw[d9 hm]at U;simp[Option.getD_none,Option.isSome_none]at U;obtain⟨HN,bn⟩:=iw az H;clear az H;let⟨bJ,I,a6⟩:=m.Wq
  obtain⟨An,cn,rfl,bp⟩:=qX I;obtain⟨aO,bq⟩:=iw I a6;clear bp I a6;let⟨wd,V⟩:=xQ w1.drew
  have aP:Below w1.1.size w1 wd:=by rw[<-V];exact bR.drew
  have br:=dh V;have J:∀{a b} {k},k=nb\/k=ob->a.grownBy b (jB k)->qW (λk=>k=nb\/k=ob) a b:=λhk hg=>(qW.uy hg).mono (λi _ e=>by injection e with e;omega)
  have td:qW (λk=>k=nb\/k=ob) _ _:=(qW.of_below aP).mono ω;let⟨bK,w2,M,aA,a7⟩:=(HN.blk (w':=wd) (by rw[<-V];rfl)).entry Vp Tryz.underlying83 (z:=.int iZ 0) (λu=>κ) (by unfold maxLen;omega) (afH G ω)
  let⟨w3,aB,aQ,aC⟩:=a7 _ (.int iZ (η L)) rfl
  let⟨go,aR,a8⟩:=m.opn
  have bu:=m.lt.2.2.2.2;have t2:=td.trans (J (.inl rfl) aA) (λ_ _ h=>h);have t3:=t2.trans (J (.inl rfl) aC) (λ_ _ h=>h);have aS:qW (λk=>k=nb) _ _:=(((qW.of_below aP).mono ω).trans ((qW.uy aA).mono (λi _ e=>by injection e with e;exact e.symm)) (λ_ _ h=>h)).trans ((qW.uy aC).mono (λi _ e=>by injection e with e;exact e.symm)) (λ_ _ h=>h);let⟨bL,w4,W,aD,ad⟩:=(aR.keep aS ω).entry Fh Tryz.underlying84 (z:=.agg #[.int jA 0,.int jA 0,iX jC 0 0,iX jC 0 0]) (λu=>κ) (by unfold maxLen;omega) (ME (q:=η L) ω)
  let⟨w5,aE,aT,aF⟩:=ad _ (.agg #[.int jA c.1,.int jA c.2.1,iX E1 (η (uw c.2.2.1)) e1,iX E2 (η (uw c.2.2.2)) e2]) rfl
  have t4:=t3.trans (J (.inr rfl) aD) (λ_ _ h=>h);have t5:=t4.trans (J (.inr rfl) aF) (λ_ _ h=>h);have s:∀{k t:Nat} {cs},w1.1[k]? =jB (jG cs t _)->¬(k=nb\/k=ob):=λhk e=>by rcases e with e|e;exact m.tQ hk e;exact m.yP hk e
  have N:LD (λk=>k=nb\/k=ob) _ B:=λk cs _ hk e=>s hk e
  have O:=ahz bn G hm (λg' aG=>(aQ _ aG).keep (((qW.uy aD).mono (λi _ e=>by injection e with e;exact e.symm):qW (λk=>k=ob) _ _).trans ((qW.uy aF).mono (λi _ e=>by injection e with e;exact e.symm)) (λ_ _ h=>h)) bu)
  have P:=ahf (λq d hq hd=>by
   obtain⟨F1,f1,F2,f2,a,b⟩:=a8 q d hq hd;exact⟨_,_,_,_,a,b.keep t5 N⟩) (a1.keep t5 N) (λg' aG=>aT _ aG)
  have af:=qR aO t5 (λg hg=>by obtain⟨cs,hc⟩:=sK aO hg;exact s hc);have ag:=bq.keep t5 N;have j:=m.bk;have n:=bm;have ah:=t2.blk j (s j);have aU:=t2.blk n (s n);have aj:=t3.blk j (s j);have aV:=t3.blk n (s n);have ak:=t4.blk j (s j);have aW:=t4.blk n (s n);have r:=t5.blk j (s j);have v:=t5.blk n (s n);have ao:Sl w5 w5.1.size 2 Af (η f) cf (qP f):=((m.fs.uQ t5 m.lt.1 (λb hb e=>by have:=m.lt;omega)).up (by have:=t5.size;have:=m.lt.1;omega));have aq:=a1.keep t5 N;have bG:n0<=w5.1.size:=by have:=t5.size;have:=m.lt.1;omega
  let⟨we,aH⟩:=xQ w5.drew
  have Q:Below w5.1.size w5 we:=by rw[<-aH];exact bR.drew
  obtain⟨bw,HM,ar,aX,bz,bA,bB⟩:=iD aH (acS Af cf f (c.1:Int) (c.2.1:Int) (iX E1 (η (uw c.2.2.1)) e1) E2 (η (uw c.2.2.2)) e2 (iE (uw c.2.2.2)) we w5.1.size (ao.below Q lR) (aq.2.t.sl.below Q lR) (by simp[iE]) Q.size ω ω) af ag O P t5;clear V aH aQ aT a7 ad aR a8 td t2 t3 aS t4 t5 s N O P af ag ao aq J aA aC aD aF;rw[HS.o]at M;unfold goInt at M aB W aE;generalize (gn _).getD _ =z1 at M;generalize (go _).getD _ =z2 at W;go_wp2
  refine wp_region_held_drew (S:=λw'=>q9 w' _ 1 _/\q9 w' _ 2 _/\q9 w' _ 0 _/\q9 w' _ 1 _/\q9 w' _ 2 _/\q9 w' _ 3 _) rfl ⟨(D5 j).2.1,(D5 j).2.2.1,yt n⟩ (λhS=>?_);apply qU 0;apply qU 1;apply qU 2;apply qU 3;apply qU 4;apply qU 5;apply qU 6;apply qU 7;apply qU 8;apply qU 9;apply qU 10;apply qU 11;refine rR 12 (λK l=>?_);rw[br.o];go_simp;try rw[M]
  try dsimp[Oper.upon,Result.andThen]
  refine l _ _ ⟨(D5 ah).2.1,(D5 ah).2.2.1,yt aU⟩ (λhS=>?_);clear l;apply qU 13;refine rR 14 (λK l=>?_);go_simp;try rw[aB]
  try dsimp[Oper.upon,Result.andThen]
  refine l _ _ ⟨(D5 aj).2.1,(D5 aj).2.2.1,yt aV⟩ (λhS=>?_);clear l;refine rR 15 (λK l=>?_);go_simp;try rw[W]
  try dsimp[Oper.upon,Result.andThen]
  refine l _ _ ⟨(D5 ak).2.1,(D5 ak).2.2.1,yt aW⟩ (λhS=>?_);clear l;apply qU 16;refine rR 17 (λK l=>?_);go_simp;try rw[aE]
  try dsimp[Oper.upon,Result.andThen]
  refine l _ _ ⟨(D5 r).2.1,(D5 r).2.2.1,yt v⟩ (λhS=>?_);clear l;refine wpAnyH_done rfl ?_ _;clear M aB W aE;go_wp2
  refine sM (S:=λw'=>q9 w' _ 0 _/\q9 w' _ 5 _/\q9 w' _ 0 _/\q9 w' _ 1 _/\q9 w' _ 2 _/\q9 w' _ 3 _) 22 rfl (⟨(D5 r).1,(D5 r).2.2.2.2.2,yt v⟩) (λhS=>?_);apply rT 0;apply rT 1;apply rT 2;apply rT 3;apply rT 4;apply rT 5;apply rT 6;apply rT 7;apply rT 8;apply rT 9;apply rT 10;apply rT 11;apply rT 12;apply rT 13;apply rT 14;refine qZ (i:=15) rfl κ δ (λK l=>?_);go_simp;rw[bw.o];apply Calls.mono HM.o;rintro e w6 ⟨rfl,au⟩;have X:=Q.trans (au.mono Q.size);clear au;have av:=(X.block _ (rX r)).trans r;have aY:=(X.block _ (rX v)).trans v;dsimp;refine l _ _ ⟨(D5 av).1,(D5 av).2.2.2.2.2,yt aY⟩ (λhS=>?_);clear l;refine rT 16 ?_;refine qZ (i:=17) rfl κ δ (λK l=>?_);go_simp;obtain⟨W7,Y⟩:=xR (w6.alloc (jG #[.int jA c.1,.int jA c.2.1,.int jA (aaG f (iE (uw c.2.2.2))),iX jC 0 0] 53));have bE:Below w6.1.size w6 W7:=by rw[Y];exact bR.alloc lR _
  have bF:W7.1[w6.1.size]? =jB (jG #[.int jA c.1,.int jA c.2.1,.int jA (aaG f (iE (uw c.2.2.2))),iX jC 0 0] 53 (0,0)):=by rw[Y];exact heap_alloc_new _ _
  rw[<-Y];clear Y;have F:=X.trans (bE.mono X.size);have C:=(F.block _ (rX r)).trans r;have R:=(F.block _ (rX v)).trans v;have D:=qR ar (qW.of_below F) (λg hg=>by have:=(ar.lt g hg).2;omega);have aZ:=aX.keep (qW.of_below F) (LD.of (ug _ _));refine l _ _ ⟨(D5 C).1,(D5 C).2.2.2.2.2,yt R⟩ (λhS=>?_);clear l;refine qZ (i:=18) rfl κ δ (λK l=>?_);apply su rfl _ _ _ rfl _ _ 4 _ Dh _ _ _ D rfl _ _ rfl bF rfl (by simp[Value.oneCell']) ω ω (by have:=F.size;omega);intro v8 W8 b6 aJ b9 bH;obtain⟨A8,c8,rfl, -⟩:=qX b6;have aw:=aJ.blk C (qQ D C δ);have E:=aJ.blk R (qQ D R δ);have bM:=frozen_of_row _ _ 5 _ _ aw;let⟨u0,u1,u2,u3,u4,u5⟩:=D5 aw
  refine l _ _ ⟨u0,u5,yt E⟩ (λhS=>?_);clear l;refine qZ (i:=19) rfl κ δ (λK l=>?_);go_simp;refine l _ _ ⟨u0,u5,yt E⟩ (λhS=>?_);clear l;refine qZ (i:=20) rfl κ δ (λK l=>?_);go_simp;refine l _ _ ⟨u0,u5,yt E⟩ (λhS=>?_);clear l;refine qZ (i:=21) rfl κ δ (λK l=>?_);go_simp;refine l _ _ ⟨u0,u5,yt E⟩ (λhS=>?_);clear l;refine sN rfl κ rfl (λK l=>?_);go_simp;apply l.out;clear l;go_wp2
  go_ret
  obtain⟨hA,hB,hC⟩:=m.tell G bB bz bA F D aZ rfl b6 aJ b9;have ha:uO L c=L++[c]:=by unfold uO;rw[d9 hm]
  refine⟨_,?_,by rwa [ha],((qW.of_below y).mono ω).trans hB (λ_ _ h=>h),λi hi bN=>hC i hi (by have:=y.size;omega)⟩;rw[ha,mK,d9 hm];simp
set_option maxHeartbeats 4000000
set_option maxRecDepth 100000
def FH (w wr:jF)(x:Way)(A1:Option Addr)(c1:Nat)(A2:Option Addr)(c2:Nat)(l:List Nat):Prop:=
 Below w.1.size w wr/\∃A3 c3,wr.1[w.1.size]? =jB (jG #[.int jA (x.need:Int),.int jA (x.ban:Int),iX A1 (η x.now) c1,iX A2 (η x.next) c2,iX A3 (η l) c3] 162 (0,0))/\zV wr 3 A3 (η l) c3 (qO (iE l))
def Z0 (w:jF)(b:Nat):Nat:=match w.cell? ⟨b,4,jC⟩with|some (iX _ n _)=>n| _=>0
theorem FH.drewN (h:FH w wr x A1 c1 A2 c2 l)(n):FH w (wr.drewN n) x A1 c1 A2 c2 l:=by
 obtain⟨hb,A3,c3,b,c⟩:=h;have a:qW (λ_=>False) _ _:=(qW.refl _ wr).drewN n;exact⟨hb.trans (a.below hb.size (λ_ _ h=>h)),_,_,b,c.keep a (λ_ _ _ h=>h)⟩
theorem FH.cells (h:FH w wr x A1 c1 A2 c2 l):
  Below w.1.size w wr/\wr.cell? ⟨w.1.size,0,jC⟩=jB (.int jA (x.need:Int))/\wr.cell? ⟨w.1.size,1,jC⟩=jB (.int jA (x.ban:Int))/\
   wr.cell? ⟨w.1.size,2,jC⟩=jB (iX A1 (η x.now) c1)/\wr.cell? ⟨w.1.size,3,jC⟩=jB (iX A2 (η x.next) c2)/\
   ∃A3 c3,wr.cell? ⟨w.1.size,4,jC⟩=jB (iX A3 (η l) c3)/\wr.frozen? ⟨w.1.size,4,jC⟩=jE/\zV wr 3 A3 (η l) c3 (qO (iE l)):=by
 obtain⟨hb,A3,c3,a,b⟩:=h;refine⟨hb,?_,?_,?_,?_,_,_,?_,frozen_of_row _ _ 4 _ _ a,b⟩<;>(rw[cell_of_row _ _ _ _ _ _ a];rfl)
theorem FH.below (h:FH w wr x A1 c1 A2 c2 l)(hb:Below wr.1.size wr w'):FH w w' x A1 c1 A2 c2 l:=by
 obtain⟨a,A3,c3,b,c⟩:=h;exact⟨a.trans (hb.mono a.size),_,_,(hb.block _ γ).trans b,c.below hb⟩
theorem aji {p q u:Value}(h:w.1[b]? =jB (jG #[p,q,r,s,u] t (0,0))):w.cell? ⟨b,0,jC⟩=jB p/\w.cell? ⟨b,1,jC⟩=jB q/\w.cell? ⟨b,2,jC⟩=jB r/\w.cell? ⟨b,3,jC⟩=jB s:=by
 refine⟨?_,?_,?_,?_⟩<;>(rw[cell_of_row _ _ _ _ _ _ h];rfl)
theorem FH.next {t:List Nat}{a:Option Addr}{b:Nat}(hb:Below w.1.size w wr)(c:wr.1[w.1.size]? =jB (jG #[.int jA (x.need:Int),.int jA (x.ban:Int),iX A1 (η x.now) c1,iX A2 (η x.next) c2,iX a (η (j::t)) b] 162 (0,0)))(f:zV wr 3 a (η (j::t)) b (qO (iE (j::t))))(n):
  FH w ((wr.drewN n).setCell ⟨w.1.size,4,jC⟩ (iX (if b=1 then a else a.map (·.add 1)) (η t) (b-1))) x A1 c1 A2 c2 t:=by
 have d:qW _ _ ((wr.drewN n).setCell _ (iX (if b=1 then a else a.map (·.add 1)) (η t) (b-1))):=
  ((qW.refl (λk=>k=w.1.size) _).drewN n).setCell (p:=⟨w.1.size,4,jC⟩) (λ_=>rfl) _
 refine⟨hb.trans (d.below hb.size (λk g e=>ω)),_,_,?_,(zV.tail f).keep d (uM c δ)⟩;have h:=heap_setCell_same (wr.drewN n) _ 4 _ _ (iX (if b=1 then a else a.map (·.add 1)) (η t) (b-1)) c
 grind
theorem FH.len (h:FH w wr x A1 c1 A2 c2 l):Z0 wr w.1.size=η l:=by
 obtain⟨_,A3,c3,a,_⟩:=h;unfold Z0;rw[cell_of_row _ _ 4 _ _ _ a];rfl
theorem MS.form (h:MS w ws v):∃As,v=iX As (η ws) (η ws):=by
 rcases h with⟨rfl,rfl⟩|⟨g,cs,rfl,_⟩
 ·simp
 ·simp
theorem M8 (hF:NdF f j){w:Way}(d:w.need<256)(g:w.ban<256):∀y∈sZ f j w,y.need<256/\y.ban<256/\η y.todo<=η w.todo+2:=by
 intro y hy
 have h:∀{a p},a<256->p<8->a|||2^p<256:=λ{a p} ha hp=>by
  have:2^p<2^8:=oF ω hp;have:=nP (n:=8) (x:=a) ω ω;omega
 have fin:∀v,v.need<256->v.ban<256->v.todo=w.todo->y∈CG v->y.need<256/\y.ban<256/\η y.todo<=η w.todo+2:=by
  intro v a b c hy;unfold CG at hy
  grind
 unfold sZ at hy;split at hy
 ·grind
 split at hy
 ·rename_i e;exact fin {w with need:=w.need|||2^Jv f j} (h d (hF.prop e).2) g rfl hy
 split at hy
 ·rename_i e;exact fin {w with ban:=w.ban|||2^Jv f _} d (h g (hF.lit e).2.2) rfl hy
 split at hy
 ·rw[mS]at hy;subst hy;exact⟨d,g,by simp[Way.with_]⟩
 split at hy
 ·simp at hy;rcases hy with rfl|rfl<;>exact⟨d,g,by simp[Way.with_]⟩
 split at hy
 ·rw[mS]at hy;subst hy;exact⟨d,g,by simp[Way.owing]⟩
 split at hy
 ·simp at hy;rcases hy with rfl|rfl<;>exact⟨d,g,by simp[Way.with_,Way.owing]⟩
 split at hy
 ·simp at hy;rcases hy with rfl|rfl<;>exact⟨d,g,by simp[Way.with_,Way.owing]⟩
 ·grind
theorem NQ {α β:Type}{ws:List α}{g:α->List β}{y:α}(a:k<η ws)(hy:ws[k]=y):η ((ws.take k).flatMap g)+η (g y)<=η (ws.flatMap g):=by
 have e:ws=ws.take k++(y::ws.drop (k+1)):=by rw[<-hy,List.getElem_cons_drop,lK]
 grind
theorem acH {g:Way->List Way}{y:Way}(a:k<η ws)(hy:ws[k]=y):
  rA (((ws.take (k+1)).flatMap g).map Way.Jh) T=rA ((g y).map Way.Jh) (rA (((ws.take k).flatMap g).map Way.Jh) T):=by
 rw[rE _ k a,hy,List.flatMap_append,jT,I7];simp
def aj3 (W:jF)(c:uI)(p:Value)(wF:jF):Prop:=
 ∃bk,p=jH (jB ⟨bk,0,jC⟩)/\wF.1[bk]? =jB (jG #[.int jA (c.1:Int),.int jA (c.2.1:Int),.string (Cg c.2.2.1),.string (Cg c.2.2.2)] 168 (0,0))/\Below W.1.size W wF
def akz (W:jF)(v:Value)(w:jF):Prop:=∃g,v=jH (jB ⟨g,0,jC⟩)/\W.1.size<=g/\w.1[g]? =jB (jG #[.int jA 0,.int jA 0,.string {data:=#[]},.string {data:=#[]}] 168 (0,0))
theorem Qk {W g:jF}{bk:Nat}{a b d e:Value}(h:g.1[bk]? =jB (jG cs 168 (0,0)))(hcs:cs.size=4)(hb:Below W.1.size W g)(f:W.1.size<=bk)
  (n:a=.int jA (c.1:Int))(o:b=.int jA (c.2.1:Int))(ed:d=.string (Cg c.2.2.1))(ee:e=.string (Cg c.2.2.2)):
  aj3 W c (jH (jB ⟨bk,0,jC⟩)) ((((g.setCell ⟨bk,0,jC⟩ a).setCell ⟨bk,1,jC⟩ b).setCell ⟨bk,2,jC⟩ d).setCell ⟨bk,3,jC⟩ e):=by
 subst n o ed ee;have i:=heap_setCell_same _ _ 0 _ _ (.int jA c.1) h;have j:=heap_setCell_same _ _ 1 _ _ (.int jA c.2.1) i;have k:=heap_setCell_same _ _ 2 _ _ (.string (Cg c.2.2.1)) j;have m:=heap_setCell_same _ _ 3 _ _ (.string (Cg c.2.2.2)) k;refine⟨_,rfl,?_,(((hb.setCell f _).setCell f _).setCell f _).setCell f _⟩;rw[m];clear i j k m h;obtain⟨l⟩:=cs
 match l,hcs with
 |[p,q,r,s],_=>simp
theorem aeh:uq jJ 119 90 4 64:=
 uq.mk (z:=.agg #[.int jA 0,.int jA 0,iX jC 0 0,iX jC 0 0]) Tryz.underlying119 κ δ δ
theorem afD (h:xP x.now x.todo=[])(hm:x.Jh∈T):rA ((leaves f (n+1) x).map Way.Jh) T=T:=by
 unfold leaves;rw[h];simp[rA,uO,hm]
theorem afC (h:xP x.now x.todo=[])(hm:x.Jh∉T):rA ((leaves f (n+1) x).map Way.Jh) T=T++[x.Jh]:=by
 unfold leaves;rw[h];simp[rA,uO,hm]
theorem vC {P:Program}{fn:Func}{R:Ending->jF->Prop}{a:Act}(b:fn.results=#[])(hd:a.defers=[])(c:R (.returned (.tuple #[])) w):bodyPost P fn R .normal a w:=
 bodyPost_end (results_none b _ _ _) hd c
def aiB (n0 fb gb tb mb ob:Nat)(Af:Option Addr)(cf:Nat)(f:List Nd)(w:jF)(v:Value)(T':List uI)(en:Ending)(w':jF):Prop:=
 en=.returned (.tuple #[])/\∃v',GS n0 fb gb tb mb ob Af cf f w' T' v'/\qW (Tn ob mb v) w w'/\∀i,v'.ownBlock=jB i->i<w.1.size->v.ownBlock=jB i
theorem afQ (n0 fb gb tb mb ob Af cf f)(hN:yh f=jD)(hl:η f<=1000):∀(n:Nat) (x:Way) (A1:Option Addr) (c1:Nat) (A2:Option Addr) (c2:Nat) (A3:Option Addr) (c3:Nat) (w:jF) (T:List uI) (v:Value),
  GS n0 fb gb tb mb ob Af cf f w T v->WR w x A1 c1 A2 c2 A3 c3->LQ f x->x.need<256->x.ban<256->cntF x.now<n->η x.todo+2*n<=1000000->η T+η (leaves f n x)<=20000000->
  Calls jJ 107 #[.agg #[.int jA (x.need:Int),.int jA (x.ban:Int),iX A1 (η x.now) c1,iX A2 (η x.next) c2,iX A3 (η x.todo) c3],jH (jB ⟨fb,0,jC⟩),jH (jB ⟨gb,0,jC⟩),jH (jB ⟨tb,0,jC⟩),jH (jB ⟨ob,0,jC⟩)] w
   (aiB n0 fb gb tb mb ob Af cf f w v (rA ((leaves f n x).map Way.Jh) T)):=by
 intro n;induction n with
 |zero=>intro x _ _ _ _ _ _ w T v _ _ _ _ _ h;omega
 |succ n ih=>
  intro x A1 c1 A2 c2 A3 c3 w T v hG hR hx hn hb dF dG H
  have bn:FH w (w.alloc (jG #[.int _ _,.int _ _,iX A1 _ c1,iX A2 _ c2,iX _ _ _] _)) x _ _ _ _ _:=
   ⟨bR.alloc lR _,_,_,heap_alloc_new _ _,hR.todo.below (bR.alloc lR _)⟩
  obtain⟨HG,HR,HX,bp,cF⟩:=iC hG hR hx H bn;obtain⟨dH,dI⟩:η x.now<=1000/\η x.next<=1000:=⟨by rw[hx.now];omega,by rw[hx.next];omega⟩
  clear hG hR hx H bn;go_enter Tryz.func107,Tryz.ntmps107;go_wp2
  go_loopw [] (λwr=>∃l,Hd (xP x.now l=xP x.now x.todo/\(∀y∈l,y<η f))/\η l<=η x.todo/\Hd (FH w wr x A1 c1 A2 c2 l)) (λwr=>Z0 wr w.1.size)
  case atStart=>exact⟨_,⟨rfl,HX.todo⟩,lR,cF.o⟩
  case round=>
   obtain⟨l,HL,bq,Z⟩:=hrel;cases l with
   |nil=>
    obtain⟨a1,A4,c4,E,F⟩:=Z.o;have j4:wr.cell? ⟨_,4,_⟩=jB (iX _ 0 _):=cR E;go_wp2
    go_quiet (fail)
    obtain⟨W,O⟩:=xR (wr.drewN nq);have cG:=dh (O▸Z.drewN _);obtain⟨av,k0,k1,k2,k3,A5,c5,k4, -, -⟩:=FH.cells (O▸Z.drewN _);rw[lD]at k4;rw[<-O];have cH:=HG.below av;have aT:=HR.below av;clear j4 E F a1 O;have I:w.1.size<W.1.size:=jF.block_lt_of_cell? W _ k0;obtain⟨cI,cJ⟩:=iw (λw' hb=>SN _ _ _ w' _ (aT.next.sl.below hb lR) hb.size ω) (λw' hb=>SN _ _ _ w' _ (aT.now.sl.below hb lR) hb.size ω);go_wp2
    go_cut [9]from 10 (λp wF=>aj3 W x.Jh p wF)
    case first=>
     refine wp_region_held_drew (S:=λw'=>q9 w' _ 0 _/\q9 w' _ 1 _/\q9 w' _ 2 _/\q9 w' _ 3 _) rfl ⟨k0,k1,k2,k3⟩ (λhS=>?_);apply qU 0;apply qU 1;apply qU 2;apply qU 3;apply qU 4;apply qU 5;apply qU 7;apply qU 8;have aU:Hd (∀W',Below _ _ _->Below _ W W'):=dh (λW' hb=>(Below.drew (Below.refl _ W)).trans (hb.mono (Below.drew (Below.refl W.1.size W)).size));apply BG 4 [⟨6,_,[],λv _=>v=.string (Cg x.next)⟩,⟨9,_,[6],λv _=>v=.string (Cg x.now)⟩,⟨_,_,[6,9],λv _=>v=.agg #[.int jA x.need,.int jA x.ban,.string (Cg x.next),.string (Cg x.now)]⟩,⟨_,9,[],akz W⟩] rfl _ _ _ _ (show[61,64,65,9].Nodup by decide) (show[6,9,10,11].Nodup by decide) rfl κ (λW' hb=>by have hB:=aU _ hb;exact⟨bC hB I k0,bC hB I k1,bC hB I k2,bC hB I k3⟩)
     ·intro m hm y u1 u2 hb h;simp at hm;rcases hm with rfl|rfl|rfl|rfl
      ·exact h
      ·exact h
      ·exact h
      ·obtain⟨g,e,hg,hx⟩:=h;exact⟨g,e,hg,(hb.block g (rX hx)).trans hx⟩
     ·intro m hm a' w' aw br hb;have U:=aU _ hb;simp at hm;rcases hm with rfl|rfl|rfl|rfl
      ·have cK:a'.eval (.tmp 60)=iX _ _ _:=aw 60 ς;refine yO rfl (by simp[cK]<;>rfl) rfl (cI _ U) (λe w2 h=>?_);obtain⟨rfl,hq⟩:=h;exact⟨_,rfl,_,rfl,rfl,hq⟩
      ·have cL:a'.eval (.tmp 63)=iX _ _ _:=aw 63 ς;refine yO rfl (by simp[cL]<;>rfl) rfl (cJ _ U) (λe w2 h=>?_);obtain⟨rfl,hq⟩:=h;exact⟨_,rfl,_,rfl,rfl,hq⟩
      ·have dJ:=JI (show a'.eval (.tmp 56)=.int _ _ from aw 56 ς);have dK:=JI (show a'.eval (.tmp 58)=.int _ _ from aw 58 ς);have cM:=JI (br _ (.head _) ς);have cN:=JI (br _ (.tail _ (.head _)) ς);dsimp at cM cN;exact EH rfl (by simp[Region.wanted]) (by go_simp;try rfl) ⟨_,rfl,rfl,bR⟩
      ·exact EH rfl rfl rfl ⟨_,rfl,⟨_,rfl,U.size,heap_alloc_new _ _⟩,bR.alloc lR _⟩
     intro v w2 J hv;have C:=aU _ J;have e6:=hv _ (.head _);have e9:=hv _ (.tail _ (.head _));have aV:=hv _ (.tail _ (.tail _ (.head _)));obtain⟨bk,aW,E,ha⟩:=hv _ (.tail _ (.tail _ (.tail _ (.head _))));dsimp at e6 e9 aV aW;simp only[Jp,jZ,nO,e6,e9,aV,aW,xk];clear e6 e9 aV aW hv J hS;have z0:=cell_of_row _ _ 0 _ _ _ ha;have z1:=cell_of_row _ _ 1 _ _ _ ha;have z2:=cell_of_row _ _ 2 _ _ _ ha;have z3:=cell_of_row _ _ 3 _ _ _ ha;have y0:=frozen_of_row _ _ 0 _ _ ha;have y1:=frozen_of_row _ _ 1 _ _ ha;have y2:=frozen_of_row _ _ 2 _ _ ha;have y3:=frozen_of_row _ _ 3 _ _ ha;simp at z0 z1 z2 z3;refine rR 12 (λK B=>?_);go_simp;have HK:=Qk (a:=.int _ x.need) (b:=.int _ x.ban) (d:=.string (Cg x.next)) (e:=.string (Cg x.now)) (c:=x.Jh) ha rfl C E rfl rfl rfl rfl;have ax:=HK.choose_spec.2.2;refine B _ _ ⟨bC ax I k0,bC ax I k1,bC ax I k2,bC ax I k3⟩ (λhS=>?_);clear B;refine wpAnyH_done κ ?_ _;go_wp2
     go_meet
     exact HK
    case rest=>
     obtain⟨bk,rfl,E,ay⟩:=hcut;have s:=cH.below ay;have c0:=cell_of_row _ _ 0 _ _ _ E;have aX:=cell_of_row _ _ 1 _ _ _ E;have aY:=cell_of_row _ _ 2 _ _ _ E;have aZ:=cell_of_row _ _ 3 _ _ _ E;simp at c0 aX aY aZ;have bu:Iu x.Jh:=⟨hn,hb,by show η x.next<=_;omega,by show η x.now<=_;omega⟩;have az:=s.map.lookup bu;have ct:=cell_of_row _ _ 0 _ _ _ s.bt;simp at ct;have a6:xP _ _ =[]:=HL.1.symm;have a7:=av.trans (ay.mono av.size);by_cases L:x.Jh∈T
     ·rw[decide_eq_true L]at az;have a8:=dh L;simp[Q9,Way.Jh]at az c0 aX aY aZ;go_wp2
      apply vC rfl rfl;refine⟨rfl,v,by rw[afD a6 a8.o];exact s,(qW.of_below a7).mono (λi hi e=>ω),λi hi _=>hi⟩
     ·rw[decide_eq_false L]at az;have a8:=dh L;have hle:η T<=20000000:=by have:=bp.o;omega
      obtain⟨W5,cO,bw,aA⟩:=s.map.update bu hle;obtain⟨⟨xs,bz,hcs⟩,ad⟩:=s.adI aA;obtain⟨dL,A6,c6,P,_⟩:=FH.below cG ay;have aK:=ad P;obtain⟨m0,m1,m2,m3⟩:=aji aK;have mo:=cell_of_row _ _ 0 _ _ _ (ad s.bo);have mf:=frozen_of_row _ _ 0 _ _ (ad s.bo);simp at mo;have cP:=aA.size;obtain⟨cQ,bA⟩:=iw bw aA;simp[Q9,Way.Jh]at az cO c0 aX aY aZ;have aL:=ad s.bo;clear L bw aA;have b5:=(aT.below ay).keep (qW.uy bA.o) (λk cs hk e=>s.Dy hk (by simpa using e.symm)) (λk cs hk e=>s.Dy hk (by simpa using e.symm));have q:w.1.size<W5.1.size:=jF.block_lt_of_cell? _ _ m0;have M:ob<W5.1.size:=jF.block_lt_of_cell? _ _ mo;obtain⟨cS,cT,bB,cU⟩:=iB (λw' hb=>PW _ _ _ w' _ (b5.next.sl.below hb lR) hb.size ω) (λw' hb=>PW _ _ _ w' _ (b5.now.sl.below hb lR) hb.size ω) bz hcs;have dD:=Nat.le_trans s.lt.1 cP;clear b5 bz hcs ad;go_wp2
      refine sM (S:=λw'=>q9 w' _ 0 _/\q9 w' _ 1 _/\q9 w' _ 2 _/\q9 w' _ 3 _/\q9 w' _ 0 v) 14 rfl (⟨m0,m1,m2,m3,mo⟩) (λhS=>?_);apply rT 0;apply rT 1;apply rT 2;apply rT 3;apply rT 4;apply rT 5;apply rT 6;apply rT 8;apply rT 9;refine qZ (i:=7) rfl κ δ (λK B=>?_);go_simp;apply Calls.mono (cS _ bR.drew);rintro e W7 ⟨v7,rfl,bE,aM, -⟩;have N:Below W5.1.size _ _:=rF aM;clear aM;obtain⟨A7,c7,rfl,cV⟩:=zV.Br bE;clear bE;have bF:=bC N q m0;have bG:=bC N q m1;have bH:=bC N q m2;have bI:=bC N q m3;have bJ:=bC N M mo;go_wp2
      refine B _ _ ⟨bF,bG,bH,bI,bJ⟩ (λhS=>?_);clear B;refine qZ (i:=10) rfl κ δ (λK B=>?_);go_simp;apply Calls.mono (cT _ N);rintro e W8 ⟨v8,rfl,bK,af, -⟩;have Q:=N.trans (af.mono N.size);have bL:=cV.below af;clear af;obtain⟨A8,c8,rfl,cW⟩:=zV.Br bK;clear bK;have bM:=bC Q q m0;have bN:=bC Q q m1;have bO:=bC Q q m2;have bP:=bC Q q m3;have bQ:=bC Q M mo;go_wp2
      refine B _ _ ⟨bM,bN,bO,bP,bQ⟩ (λhS=>?_);clear B;refine rT 11 ?_;refine qZ (i:=12) rfl κ δ (λK B=>?_);go_simp;obtain⟨W9,aB⟩:=xR (W8.alloc (jG #[.int jA x.need,.int jA x.ban,iX A7 (η (uw x.next)) c7,iX A8 (η (uw x.now)) c8] 90));have b6:Below W8.1.size W8 W9:=by rw[aB];exact bR.alloc lR _
      have cX:W9.1[W8.1.size]? =jB (jG #[.int jA x.need,.int jA x.ban,iX A7 (η (uw x.next)) c7,iX A8 (η (uw x.now)) c8] 90 (0,0)):=by rw[aB];exact heap_alloc_new _ _
      rw[<-aB];clear aB;have z:=Q.trans (b6.mono Q.size);have bS:=bL.below b6;have bT:=cW.below b6;have ag:=qR bB (qW.of_below z) (λg hg=>by have:=(bB.lt g hg).2;omega);have bU:=cU.keep (qW.of_below z) (ug _ _);have bV:=bC z q m0;have bW:=bC z q m1;have bX:=bC z q m2;have bY:=bC z q m3;have bZ:=bC z M mo;refine B _ _ ⟨bV,bW,bX,bY,bZ⟩ (λhS=>?_);clear B;refine qZ (i:=13) rfl κ δ (λK B=>?_);apply su rfl _ _ _ rfl _ _ 4 _ aeh _ _ _ ag rfl _ _ rfl cX rfl (by simp[Value.oneCell']) ω ω (by have:=z.size;omega);intro v9 dM ca cb cd dE;obtain⟨A9,c9,rfl, -⟩:=qX ca;have ah:=λk cs (t:Nat) (hk:W9.1[k]? =jB (jG cs t (0,0))) (cY:90≠t)=>cb.blk hk (qQ ag hk cY)
      obtain⟨u0,u1,u2,u3⟩:=aji (ah _ _ _ ((z.block _ q).trans aK) δ);have uo:=cell_of_row _ _ 0 _ _ _ (ah _ _ _ ((z.block _ M).trans aL) δ);have uf:=frozen_of_row _ _ 0 _ _ (ah _ _ _ ((z.block _ M).trans aL) δ);simp at uo;refine B _ _ ⟨u0,u1,u2,u3,uo⟩ (λhS=>?_);clear B;refine sN rfl κ rfl (λK B=>?_);go_simp;apply B.out;clear B;obtain⟨R1,R2,R3⟩:=s.tell bA cQ z bS bT ag bU ca cb cd;go_wp2
      apply vC rfl rfl;refine⟨rfl,_,by rw[afC a6 a8.o];exact R1,((qW.of_below a7).mono (λi hi e=>ω)).trans R2 (λi hi e=>e),λi hi R=>R3 i hi (jh R a7.size)⟩
   |cons j t=>
    have hj:=HL.2 j ς;have cg:j<η x.now:=by rw[HX.now];exact hj
    obtain⟨a1,A4,c4,P,F⟩:=Z.o;obtain⟨j0,j1,j2,j3⟩:=aji P;have j4:wr.cell? ⟨_,4,_⟩=jB (iX _ _ _):=cR P;have jf:=frozen_of_row _ _ 4 _ _ P;have aC:=HR.below a1;rw[jP]at j4;obtain⟨b4,o4,rfl,_,b9⟩:=F.sl.rd.at_ (j:=0) (u:=.int _ j) rfl;obtain⟨b1,o1,rfl,_,cZ⟩:=aC.now.sl.rd.at_ (tV cg);have ch:=F.sl.cap;have cj:=aC.now.sl.cap;have ck:=F.sl.max;rw[jP]at ch;unfold maxLen at ck;have a6:x.now.getD j _ =jD->xP _ _ =xP _ t:=λh=>by unfold xP;rw[pG,jd h]
    have cm:x.now.getD j _ =jE->xP _ _ =j::t:=λh=>by unfold xP;rw[pG,d9 (by rw[h];decide)]
    have bc:x.now.getD j jE=jE->True:=λ_=>trivial
    generalize hy:x.now.getD j _ =y at *;obtain⟨HY,da,db,cp,dN⟩:=iC hy a6 cm F aC;have dc:=by simpa using bq
    have dd:(η t:Int)+1<=9223372036854775807:=ω;rw[nG]at b9;clear hy a6 cm bc F aC bq;have aN:=dh P;have aO:Option.map (λx:Addr=>x.add 1) (jB ⟨b4,o4,jC⟩)=jB ⟨b4,o4+1,jC⟩:=by simp[Addr.add]
    clear P;cases y
    ·go_wp2
     go_quiet (fail)
     obtain⟨W,O⟩:=xR (wr.drewN nq);have k0:W.cell? ⟨w.1.size,0,jC⟩=jB (.int jA x.need):=by rw[O];exact j0
     have k1:W.cell? ⟨w.1.size,1,jC⟩=jB (.int jA x.ban):=by rw[O];exact j1
     have k2:W.cell? ⟨w.1.size,2,jC⟩=jB (iX (jB ⟨b1,o1,jC⟩) (η x.now) c1):=by rw[O];exact j2
     have k3:W.cell? ⟨w.1.size,3,jC⟩=jB (iX A2 (η x.next) c2):=by rw[O];exact j3
     have k4:W.cell? ⟨w.1.size,4,jC⟩=jB (iX (jB ⟨b4,o4,jC⟩) (η t+1) c4):=by rw[O];exact j4
     have kd:W.cell? ⟨b4,o4,jC⟩=jB (.int iZ j):=by rw[O];exact b9
     have kf:W.frozen? ⟨w.1.size,4,jC⟩=jE:=by rw[O];exact jf
     have X:=dh (FH.next a1 aN cp nq);rw[aO]at X;rw[<-O];have HW:=dh O;clear O j0 j1 j2 j3 j4 b9 jf cZ;repeat (first|go_values|go_skip|go_guarded|go_step|go_upon|(rename_i r;refine r _ _ ?_;clear r))
     obtain⟨V,hV⟩:=xR (W.setCell ⟨w.1.size,4,jC⟩ (iX (if c4=1 then jB ⟨b4,o4,jC⟩else jB ⟨b4,o4+1,jC⟩) (η t) (c4-1)));have de:FH w V x (jB ⟨b1,o1,jC⟩) c1 A2 c2 t:=by rw[hV,HW.o];exact X.o
     rw[<-hV];clear hV k0 k1 k2 k3 k4 kd kf;obtain⟨aD,k0,k1,k2,k3,A5,c5,k4, -,df⟩:=FH.cells de;have aj:=HG.below aD;have ak:=HR.below aD;have di:WR V {x with todo:=t} _ _ _ _ _ _:=⟨ak.now,ak.next,df⟩;have ao:=cell_of_row _ _ 0 _ _ _ aj.bf;simp at ao;have D:w.1.size<V.1.size:=jF.block_lt_of_cell? V _ k0;have cq:fb<V.1.size:=jF.block_lt_of_cell? V _ ao;have aq:=HL.1.symm.trans (db trivial);obtain⟨cr,dj,_⟩:=F3 HX aq;obtain⟨ws,bd⟩:=xR (sZ f j (x.made j t));have dk:=dh (λw' hb=>afw _ _ _ _ _ _ _ j w' (di.below hb) cg (by show η x.now<=_;omega))
     have dm:Hd (∀(w':jF) (D1:Option Addr) (d1:Nat) (D2:Option Addr) (d2:Nat) (D3:Option Addr) (d3:Nat),Below V.1.size V w'->WR w' (x.made j t) D1 d1 D2 d2 D3 d3->
       Calls jJ 109 #[.agg #[.int jA (x.need:Int),.int jA (x.ban:Int),iX D1 (η x.now) d1,iX D2 (η x.next) d2,iX D3 (η t) d3],iX Af (η f) cf,.int iZ (j:Int)] w' (Splits w' ws)):=by
      intro w' D1 d1 D2 d2 D3 d3 U hr;have h:=abP f (x.made j t) D1 d1 D2 d2 D3 d3 Af cf j w' n0 hr (aj.fs.below U aj.lt.1) (Nat.le_trans aj.lt.1 U.size) ω hN hj cr hn hb (by show η t<=_;omega);rw[<-bd,show(x.made j t).now.length=η x.now by simp[Way.made]]at h;exact h
     have aE:=dh bd;clear ak bd;refine wp_region_held_drew (S:=λw'=>q9 w' _ 0 _/\q9 w' _ 1 _/\q9 w' _ 2 _/\q9 w' _ 3 _/\q9 w' _ 4 _/\q9 w' _ 0 _) rfl ⟨k0,k1,k2,k3,k4,ao⟩ (λhS=>?_);apply qU 0;apply qU 1;apply qU 3;apply qU 4;apply qU 7;refine rR 2 (λK B=>?_);go_simp;apply Calls.mono (dk _ bR.drew);rintro e W1 ⟨v1,rfl,⟨D1,d1,D2,d2,D3,d3,rfl,dp⟩,aP⟩;have G:Below V.1.size V _:=rF aP;clear aP;have p0:=bC G D k0;have p1:=bC G D k1;have p2:=bC G D k2;have p3:=bC G D k3;have p4:=bC G D k4;have pf:=bC G cq ao;dsimp;refine B _ _ ⟨p0,p1,p2,p3,p4,pf⟩ (λhS=>?_);clear B;refine rR 5 (λK B=>?_);go_simp;apply Calls.mono (dm _ _ _ _ _ _ _ G dp);rintro e W2 ⟨v2,rfl,ar,J⟩;have C:=G.trans (J.mono G.size);clear J;obtain⟨As,rfl⟩:=ar.form;have q0:=bC C D k0;have q1:=bC C D k1;have q2:=bC C D k2;have q3:=bC C D k3;have q4:=bC C D k4;have qf:=bC C cq ao;dsimp;refine B _ _ ⟨q0,q1,q2,q3,q4,qf⟩ (λhS=>?_);clear B;apply qU 6;refine wpAnyH_done rfl ?_ _;have aF:=aj.below C;have aQ:=aD.trans (C.mono aD.size);clear q0 q1 q2 q3 q4 qf p0 p1 p2 p3 p4 pf hS;repeat (first|go_values|go_skip|go_guarded|go_step|go_upon|(rename_i r;refine r _ _ ?_;clear r))
     go_loopw [47] (λi wz=>∃(k:Nat) (vk:Value),k<=η ws/\i=.int iZ k/\Hd (GS n0 fb gb tb mb ob Af cf f wz (rA (((ws.take k).flatMap (leaves f n)).map Way.Jh) T) vk/\qW (Tn ob mb v) W2 wz/\∀i,vk.ownBlock=jB i->i<W2.1.size->v.ownBlock=jB i)) (λi _=>η ws-(intOf i).toNat)
     case atStart=>exact⟨0,v,ω,rfl,by simpa[rA]using aF,qW.refl _ _,λi h _=>h⟩
     case round=>
      obtain⟨k,vk,hk,rfl,bh⟩:=hrel;by_cases R:k<η ws
      ·obtain⟨Y,au,aG⟩:=bh.o;have dr:=ar.keep au (aF.spares δ δ) (aF.spares δ δ) (aF.spares δ δ);rcases dr with⟨cu,_⟩|⟨g,cs,hv,hg,hcell⟩
       ·rw[cu]at R;simp at R
       cases hv;obtain⟨E1,e1,E2,e2,E3,e3,cv,g0,g1,g2,g3,g4⟩:=hcell k ws[k] (gE _);rw[<-cell_of_row _ _ _ _ _ _ hg]at g0 g1 g2 g3 g4;have gf:=cell_of_row _ _ 0 _ _ _ Y.bg;simp at gf;generalize aH:ws[k]=y at *;have bj:y∈sZ f j (x.made j t):=by rw[<-aE.o,<-aH];exact mM _
       obtain⟨cw,cx⟩:=KH (vU hN) hj cr y bj;obtain⟨cy,cz,dt⟩:=M8 (w:=x.made j t) (ndF hN hj) hn hb y bj;have du:=NQ (g:=leaves f n) _ aH;have aJ:leaves f (n+1) x=ws.flatMap (leaves f n):=by rw[leaves,aq,aE.o]
       have aR:=bp.o;rw[aJ]at aR;have cC:=Ms (((ws.take k).flatMap (leaves f n)).map Way.Jh) T;rw[jr]at cC;have dv:=rX Y.bg;have H:=λo=>(Below.refl wr.1.size _).alloc lR o
       have dO:=λo=>bC (H o) dv gf
       have dx:=dh (λ(o:Obj)=>ih y E1 e1 E2 e2 E3 e3 (wr.alloc o) (rA (((ws.take k).flatMap (leaves f n)).map Way.Jh) T) vk (Y.below (H o)) (cv.below (H o)) cw cy cz (by rw[cx];omega)
        (by have:(x.made j t).todo.length=η t:=rfl;omega) ω)
       have dy:=dh (acH (T:=T) (g:=leaves f n) _ aH);have dP:η ws<=2:=by rw[aE.o];have:=RF f j (x.made j t);split at this<;>omega
       obtain⟨bm,dQ,cD,cE⟩:=iB au R aG H;clear aH cv Y au aG hcell hg ar dd ck ch cj dc bj cw cx cy cz dt du aJ aR cC H dj;repeat (first|go_values|go_skip|go_guarded|go_step|go_upon|(rename_i r;refine r _ _ ?_;clear r))
       apply Calls.mono (dx _);rintro e W4 ⟨rfl,v4,dz,F,dA⟩
       have dB:=(bm.trans (qW.of_below (cE _)) (λi hi e=>by have h1:=bm.size;omega)).trans F (λi hi e=>by
        rcases e with e|e|e
        ·exact .inl e
        ·exact .inr (.inl e)
        ·exact .inr (.inr (cD i e hi)))
       dsimp;repeat (first|go_values|go_skip|go_guarded|go_step|go_upon|(rename_i r;refine r _ _ ?_;clear r))
       go_roundw
       case rel=>
        refine⟨k+1,v4,ω,by go_num,?_,dB,λi hi aS=>?_⟩
        ·rw[dy.o];exact dz
        ·refine cD i (dA i hi ?_) aS;have h1:=bm.size;exact jh aS (Nat.le_trans h1 ς)
       case measure=>simp[intOf];omega
      ·have dC:k=η ws:=ω;subst dC;rw[tL lR]at bh;repeat (first|go_values|go_skip|go_guarded|go_step|go_upon|(rename_i r;refine r _ _ ?_;clear r))
       obtain⟨Y,au,aG⟩:=bh.o;have aJ:leaves f (n+1) x=ws.flatMap (leaves f n):=by rw[leaves,aq,aE.o]
       refine bodyPost_ret (results_none rfl _ _ _) rfl ⟨rfl,_,by rw[aJ];exact Y,((qW.of_below aQ).mono (λi hi e=>ω)).trans au (λi hi e=>e),λi hi R=>aG i hi (jh R aQ.size)⟩
    ·go_wp2
     go_quiet (fail)
     have X:=dh (FH.next a1 aN cp nq);rw[aO]at X;go_wp2
     refine⟨⟨t,⟨(da trivial).symm.trans HL.1,λy hy=>HL.2 y (by simp[hy])⟩,ω,X.o⟩,?_⟩;rw[X.len,Z.len];simp
