/- A part of the proof. -/
import Derived.Test.YtdmeoldcifddiaaGreatDoorZab
import Derived.Test.YtdmeoldcifddiaaGreatDoorZae
import Derived.DeepKeys5
import Derived.Maps.Own
import Derived.Maps.OwnOps
import Derived.Maps.Views
import Derived.WideKeyEntry
import Derived.Shelf.Spec.TrailingZeros
import Derived.Lib.ItoaMem
import Derived.Shelf.RegionOpen
/- A region that draws its order, some of whose operations are 'make's that may come in any order: one walk for all orders. No program in sight. -/
namespace Go.Proofs.YtdmeoldcifddiaaGreatDoor
open Go Go.RowKit
open Option renaming some -> jB, none -> jC
open Bool renaming true -> jD, false -> jE
open Go renaming World -> jF
open Go.Proofs.Tryz renaming prog -> jJ
open List renaming length -> η
variable {a:Act}{K:Act->jF->Prop}{listed:Array Bool}{after:Array Edge}{c:uI}{T:List uI}{l m now:List Int}{B b d i j mb s u:Nat}{S:Nat->Prop}{pos:String}{ty:TypeId}{v:Value}{w w':jF}
structure Mk where
 i:Nat
 d:Nat
 t:TypeId
 l:Nat
 c:Nat
 ob:Obj
def Mk.val (_m:Mk)(n q:Nat):Value:=.slice (jB ⟨q,0,jC⟩) n n
section
variable {P:Program}{ops:Array Oper}{Q:Exit->Act->jF->Prop}{md:Region.Mode}{S:jF->Prop}
def aj2 (P:Program)(ops:Array Oper)(n:Nat)(a:Act)(m:Mk):Prop:=
 (∃ty pos after,ops[m.i]? =jB ⟨jB m.d,.makeSlice m.t (.tmp m.l) (.tmp m.c),ty,pos,after,jC⟩)/\a.eval (.tmp m.l)=.int .i64 (n:Int)/\a.eval (.tmp m.c)=.int .i64 (n:Int)/\
  ∀w,(Instr.makeSlice m.t (.int .i64 (n:Int)) (.int .i64 (n:Int))).run P w=.ok (.slice (jB ⟨w.1.size,0,jC⟩) n n) (w.alloc m.ob)
theorem eval_put_ne (h:d≠s):(a.put (jB d) v).eval (.tmp s)=a.eval (.tmp s):=by
 simp only[Act.put,Act.eval,Array.getD_eq_getD_getElem?,Array.getElem?_setIfInBounds_ne h]
theorem abk {n:Nat}{m:Mk}(h:aj2 P ops n a m)(b:K (a.put (jB m.d) (m.val n w.1.size)) (w.alloc m.ob)):wpOp P ops Q m.i K a w:=by
 obtain⟨⟨ty,pos,after,e⟩,f,g,j⟩:=h;refine wpOp_step e (λo k=>?_);have hw:Region.wanted ⟨jB m.d,.makeSlice m.t (.tmp m.l) (.tmp m.c),ty,pos,after,jC⟩ (yielded ops a.tmps)=jD:=by simp[Region.wanted]
 rw[jd hw];unfold Oper.wp execOp;simp only[Sem.run_bind,f,g,j,Result.andThen_ok];exact k _ _ b
def xk (l:List Nat)(listed:Array Bool):Array Bool:=l.foldl (λx i=>x.setIfInBounds i jD) listed
theorem afv {l:List Nat}(d)(b:j<listed.size):(xk l listed).getD j d=if j∈l then jD else listed.getD j d:=by
 induction l generalizing listed with
 |nil=>simp[xk]
 |cons i l c=>
  show(xk l (listed.setIfInBounds i jD)).getD j d= _;rw[c (by simpa using b)];by_cases h:j∈l
  ·rw[jd h,jd (jc _ h)]
  ·rw[d9 h];by_cases e:i=j
   ·subst e;rw[jd (ji ..)];simp[b]
   ·rw[getD_set_ne d e,d9 (λa=>(jk.1 a).elim (λa=>e a.symm) h)]
def aiy (md:Region.Mode)(ops:Array Oper)(I:List Nat)(listed:Array Bool):Prop:=
 ∀T:List Nat,(∀t∈T,t∈I)->(∃i∈I,i∉T)->∀j,j∈Region.ready md ops (xk T listed)↔(j∈I/\j∉T)
def ajN (md:Region.Mode)(ops:Array Oper)(listed:Array Bool)(I:List Nat):Bool:=
 decide (listed.size=ops.size)&&I.all (λi=> !(listed.getD i jD)&&decide (i<ops.size))&&
 (List.range ops.size).all λj=>listed.getD j jD||(match ops[j]? with
  |none=>jD
  |some o=>o.after.all (λe=>decide (e.on<ops.size))&&(if I.contains j then o.after.all (λe=> !Region.binds md e||listed.getD e.on jE)else
   (o.after.any (λe=>Region.binds md e&& !(listed.getD e.on jE)&& !I.contains e.on))||I.all (λi=>o.after.any (λe=>Region.binds md e&&e.on==i))))
theorem ae3 {I:List Nat}(h:ajN md ops listed I=jD):aiy md ops I listed:=by
 unfold ajN at h;rw[jm,jm,jN,jR,jR]at h;obtain⟨⟨hs,A⟩,B⟩:=h
 have b:∀i∈I,listed.getD i jD=jE/\i<ops.size:=λi hi=>by
  have:=A i hi;rw[jm,jN]at this;exact⟨by simpa using this.1,this.2⟩
 intro T C hex j;rw[mem_ready];by_cases c:j<ops.size
 ·have g:∀k,k<ops.size->∀d,(xk T listed).getD k d=if k∈T then jD else listed.getD k d:=λk D d=>afv d ω
  rw[g j c];obtain⟨o,s⟩:∃o,ops[j]? =jB o:=⟨_,Array.getElem?_eq_getElem c⟩;have f:=B j (jl.2 c);rw[s]at f;constructor
  ·rintro⟨u,E,t,n⟩;rw[s]at t;cases t;have l:j∉T:=λh=>by rw[jd h]at u;cases u
   rw[d9 l]at u;rw[u,oI]at f;dsimp only at f;rw[jm]at f;refine⟨?_,l⟩;apply mG;intro a;have hc:I.contains j=jE:=by simpa using a
   have p:=λe he=>by
    have:=oH.1 f.1 e he;simpa using this
   have q:=f.2;rw[hc,d9 ς,kX]at q;rcases q with q|q
   ·obtain⟨e,he,m⟩:=Array.any_eq_true'.1 q;rw[jm,jm]at m;have r:=n e he m.1.1
    have v:e.on∉T:=λh=>by
     have:=C _ h;simp[this]at m
    rw[g _ (p e he),d9 v]at r;simp[r]at m
   ·obtain⟨i,hi,w⟩:=hex;have m:=jR.1 q i hi;obtain⟨e,he,r⟩:=Array.any_eq_true'.1 m;rw[jm,lV]at r;have x:=n e he r.1;rw[r.2,g _ (b i hi).2,d9 w]at x;have y:=(b i hi).1;have z:i<listed.size:=by rw[hs];exact(b i hi).2
    simp[z]at x y;rw[x]at y;cases y
  ·rintro⟨a,l⟩;rw[d9 l];refine⟨(b j a).1,o,s,λe he hb=>?_⟩;rw[(b j a).1,oI]at f;dsimp only at f;have hc:I.contains j=jD:=by simpa using a
   rw[jm,hc,jd rfl]at f
   have p:e.on<ops.size:=by
    have:=oH.1 f.1 e he;simpa using this
   have m:=oH.1 f.2 e he;rw[hb,Bool.not_true,oI]at m;rw[g _ p,m];split<;>rfl
 ·constructor
  ·rintro⟨_,o,s,_⟩;exact absurd (aI.1 s).1 c
  ·rintro⟨a,_⟩;exact absurd (b j a).2 c
def G6 (n:Nat)(q:Nat->Nat)(l:List Mk)(a:Act):Act:=l.foldl (λa m=>a.put (jB m.d) (m.val n (q m.i))) a
theorem RY {n:Nat}{q:Nat->Nat}{m:Mk}{v:Value}:∀{l:List Mk} {a:Act},(∀x∈l,x.d≠m.d)->G6 n q l (a.put (jB m.d) v)=(G6 n q l a).put (jB m.d) v
 |[],_,_=>rfl
 |x::l,a,h=>by
  show G6 n q l ((a.put (jB m.d) v).put (jB x.d) (x.val n (q x.i)))=(G6 n q l (a.put (jB x.d) (x.val n (q x.i)))).put (jB m.d) v;have b:=h x (ji ..)
  have e:(a.put (jB m.d) v).put (jB x.d) (x.val n (q x.i))=(a.put (jB x.d) (x.val n (q x.i))).put (jB m.d) v:=by
   simp only[Act.put];rw[nC _ _ (Ne.symm b)]
  rw[e,RY (λy hy=>h y (jc _ hy))]
theorem J3 {i:Nat}:∀{l:List Nat} {x:Array Bool},i∉l->xk l (x.setIfInBounds i jD)=(xk l x).setIfInBounds i jD
 |[],_,_=>rfl
 |j::l,x,h=>by
  show xk l ((x.setIfInBounds i jD).setIfInBounds j jD)=(xk l (x.setIfInBounds j jD)).setIfInBounds i jD;have a:i≠j:=λe=>h (by rw[e];exact ji ..)
  rw[nC _ _ a,J3 (λb=>h (jc _ b))]
theorem Kz (n):∀(k:Nat) (g:List Mk) (_:η g=k) (fuel:Nat) (listed:Array Bool) (a:Act) (w:jF)
  (_:(g.map (·.d)).Nodup) (_:(g.map (·.i)).Nodup) (_:∀m∈g,∀m'∈g,m.d≠m'.l/\m.d≠m'.c) (_:∀m∈g,aj2 P ops n a m) (_:aiy md ops (g.map (·.i)) listed)
  (_:∀w',Below w.1.size w w'->S w')
  (_:∀(q:Nat->Nat) (w':jF),Below w.1.size w w'->(∀m∈g,w.1.size<=q m.i/\w'.1[q m.i]? =jB m.ob)->(∀m∈g,∀m'∈g,m.i≠m'.i->q m.i≠q m'.i)->
   wpAnyH P md ops Q S fuel (xk (g.map (·.i)) listed) (G6 n q g a) w'),
  wpAnyH P md ops Q S (fuel+k) listed a w
 |0,g,F,fuel,listed,a,w,_,_,_,_,_,_,h=>by
  have:g=[]:=jv F;subst this;exact h (λ_=>0) w bR (λm hm=>by cases hm) (λm hm=>by cases hm)
 |k+1,g,F,fuel,listed,a,w,hd,hi,hl,W,X,hS,h=>by
  have Y:=X [] (λt G=>by cases G) (by
   cases g with
   |nil=>simp at F
   |cons m l=>exact⟨m.i,ς,ς⟩)
  have H:∀j,j∈Region.ready md ops listed↔j∈g.map (·.i):=λj=>by
   have:=Y j;simpa[xk]using this
  refine⟨λZ=>?_,λj hj=>?_⟩
  ·exfalso;cases g with
   |nil=>simp at F
   |cons m l=>
    have:=(H m.i).2 ς;rw[Z]at this;cases this
  ·obtain⟨m,hm,rfl⟩:=jg.1 ((H j).1 hj);obtain⟨M1,M2,rfl⟩:=qL hm;have p:=hd;have s:=hi;simp only[jT,kE]at p s;rw[mP,og]at p s
   have I:∀x∈M1++M2,x.d≠m.d:=λx b e=>by
    rcases jo.1 b with b|b
    ·exact p.2.2 x.d (jg.2 ⟨x,b,rfl⟩) m.d (ji ..) e
    ·exact p.2.1.1 (jg.2 ⟨x,b,e⟩)
   have f:∀x∈M1++M2,x.i≠m.i:=λx b e=>by
    rcases jo.1 b with b|b
    ·exact s.2.2 x.i (jg.2 ⟨x,b,rfl⟩) m.i (ji ..) e
    ·exact s.2.1.1 (jg.2 ⟨x,b,e⟩)
   have o:∀x∈M1++M2,x∈M1++m::M2:=λx b=>by
    rcases jo.1 b with b|b
    ·exact jX _ b
    ·exact kM _ (jc _ b)
   refine abk (W m hm) ⟨hS _ (bR.alloc lR _),?_⟩;have J:Below w.1.size w (w.alloc m.ob):=bR.alloc lR _;have hA:=heap_alloc_new w m.ob;refine Kz n k (M1++M2) (by simp at F⊢;omega) fuel _ _ _ ?_ ?_ ?_ ?_ ?_ ?_ ?_
   ·simp only[jT];rw[mP];exact⟨p.1,p.2.1.2,λx b y hy=>p.2.2 x b y (jc _ hy)⟩
   ·simp only[jT];rw[mP];exact⟨s.1,s.2.1.2,λx b y hy=>s.2.2 x b y (jc _ hy)⟩
   ·exact λx b y hy=>hl x (o x b) y (o y hy)
   ·intro x b;obtain⟨o1,o2,o3,o4⟩:=W x (o x b);have K:=hl m hm x (o x b);exact⟨o1,by rw[eval_put_ne K.1];exact o2,by rw[eval_put_ne K.2];exact o3,o4⟩
   ·intro T hT hex j
    have u:∀{j},j∈(M1++M2).map (·.i)↔(j∈(M1++m::M2).map (·.i)/\j≠m.i):=by
     intro j;constructor
     ·intro v;obtain⟨x,b,rfl⟩:=jg.1 v;exact⟨jg.2 ⟨x,o x b,rfl⟩,f x b⟩
     ·rintro⟨v,D⟩;obtain⟨x,b,rfl⟩:=jg.1 v;rcases jo.1 b with b|b
      ·exact jg.2 ⟨x,jX _ b,rfl⟩
      ·rcases jk.1 b with rfl|b
       ·exact absurd rfl D
       ·exact jg.2 ⟨x,kM _ b,rfl⟩
    have:=X (m.i::T) (λt G=>by
      rcases jk.1 G with rfl|G
      ·exact jg.2 ⟨m,hm,rfl⟩
      ·exact(u.1 (hT t G)).1) (by
      obtain⟨i,C,A⟩:=hex;obtain⟨M,h4⟩:=u.1 C;exact⟨i,M,λv=>(jk.1 v).elim h4 A⟩) j
    rw[show xk (m.i::T) listed=xk T (listed.setIfInBounds m.i jD)from rfl]at this;rw[this,u];constructor
    ·rintro⟨C,A⟩;exact⟨⟨C,λe=>A (by rw[e];exact ji ..)⟩,λv=>A (jc _ v)⟩
    ·rintro⟨⟨C,A⟩,M⟩;exact⟨C,λv=>(jk.1 v).elim A M⟩
   ·intro w' hb;exact hS w' (J.trans (hb.mono ς))
   ·intro q w' hb N O;have R:=J.trans (hb.mono ς)
    have C:=h (λi=>if i=m.i then w.1.size else q i) w' R (λx b=>by
      by_cases e:x.i=m.i
      ·have U:x=m:=by
        rcases jo.1 b with b|b
        ·exact absurd e (f x (jX _ b))
        ·rcases jk.1 b with rfl|b
         ·rfl
         ·exact absurd e (f x (kM _ b))
       subst U;rw[jd rfl];exact⟨lR,(hb.block _ ς).trans hA⟩
      ·have V:x∈M1++M2:=by
        rcases jo.1 b with b|b
        ·exact jX _ b
        ·rcases jk.1 b with rfl|b
         ·exact absurd rfl e
         ·exact kM _ b
       have:=N x V;simp only[jF.size_alloc]at this;rw[d9 e];exact⟨ω,this.2⟩) (λx b y hy L=>by
      have B:∀z∈M1++m::M2,z.i≠m.i->z∈M1++M2:=λz E D=>by
       rcases jo.1 E with E|E
       ·exact jX _ E
       ·rcases jk.1 E with rfl|E
        ·exact absurd rfl D
        ·exact kM _ E
      by_cases e1:x.i=m.i
      ·rw[jd e1];have e2:y.i≠m.i:=λe2=>L (e1.trans e2.symm)
       rw[d9 e2];have:=(N y (B y hy e2)).1;simp only[jF.size_alloc]at this;omega
      ·rw[d9 e1];by_cases e2:y.i=m.i
       ·rw[jd e2];have:=(N x (B x b e1)).1;simp only[jF.size_alloc]at this;omega
       ·rw[d9 e2];exact O x (B x b e1) y (B y hy e2) L)
    have hp:∀(l:List Mk) (a':Act),(∀x∈l,x.i≠m.i)->G6 n (λi=>if i=m.i then w.1.size else q i) l a'=G6 n q l a':=by
     intro l;induction l with
     |nil=>intro a' _;rfl
     |cons x l ih=>
      intro a' b;have e0:G6 n (λi=>if i=m.i then w.1.size else q i) (x::l) a'=G6 n (λi=>if i=m.i then w.1.size else q i) l (a'.put (jB x.d) (x.val n (if x.i=m.i then w.1.size else q x.i))):=rfl;rw[e0,d9 (b x (ji ..)),ih _ (λy hy=>b y (jc _ hy))];rfl
    have e1:G6 n (λi=>if i=m.i then w.1.size else q i) (M1++m::M2) a=G6 n q (M1++M2) (a.put (jB m.d) (m.val n w.1.size)):=by
     have A:G6 n (λi=>if i=m.i then w.1.size else q i) (M1++m::M2) a=G6 n (λi=>if i=m.i then w.1.size else q i) M2 ((G6 n (λi=>if i=m.i then w.1.size else q i) M1 a).put (jB m.d) (m.val n w.1.size)):=by
      unfold G6;rw[jK,jZ];simp
     rw[A,hp M1 a (λx b=>f x (jX _ b)),hp M2 _ (λx b=>f x (kM _ b)),<-RY (λx b=>I x (jX _ b))];unfold G6;rw[jK]
    have e2:xk ((M1++m::M2).map (·.i)) listed=xk ((M1++M2).map (·.i)) (listed.setIfInBounds m.i jD):=by
     have hn:m.i∉M1.map (·.i):=λv=>by
      obtain⟨x,b,e⟩:=jg.1 v;exact f x (jX _ b) e
     rw[jT,jT,kE];have A:∀(l r:List Nat) (x:Array Bool),xk (l++r) x=xk r (xk l x):=λl r x=>by simp[xk]
     rw[A,A,J3 hn];rfl
    rw[e1,e2]at C;exact C
end
structure ItP where
 i:Nat
 d:Nat
 pre:List Nat
 Rel:Value->jF->Prop
def Jp (v:Nat->Value)(l:List ItP)(a:Act):Act:=l.foldl (λa m=>a.put (jB m.d) (v m.i)) a
def okP (md:Region.Mode)(ops:Array Oper):Nat->List (Nat×List Nat)->Array Bool->Bool
 |0,_,_=>jD
 |k+1,I,listed=> !(Region.ready md ops listed).isEmpty&&(Region.ready md ops listed).all (λj=>(I.map (·.1)).contains j&&I.all (λp=>p.1 !=j||p.2.all (λq=> !(I.map (·.1)).contains q))&&okP md ops k (I.filter (λp=>p.1 !=j)) (listed.setIfInBounds j jD))
theorem RX {v:Nat->Value}{m:ItP}{x:Value}:∀{l:List ItP} {a:Act},(∀y∈l,y.d≠m.d)->Jp v l (a.put (jB m.d) x)=(Jp v l a).put (jB m.d) x
 |[],_,_=>rfl
 |y::l,a,h=>by
  show Jp v l ((a.put (jB m.d) x).put (jB y.d) (v y.i))=(Jp v l (a.put (jB y.d) (v y.i))).put (jB m.d) x;have b:=h y (ji ..)
  have e:(a.put (jB m.d) x).put (jB y.d) (v y.i)=(a.put (jB y.d) (v y.i)).put (jB m.d) x:=by
   simp only[Act.put];rw[nC _ _ (Ne.symm b)]
  rw[e,RX (λz c=>h z (jc _ c))]
theorem PU {v v':Nat->Value}:∀{l:List ItP} {a:Act},(∀y∈l,v y.i=v' y.i)->Jp v l a=Jp v' l a
 |[],_,_=>rfl
 |y::l,a,h=>by
  show Jp v l (a.put (jB y.d) (v y.i))=Jp v' l (a.put (jB y.d) (v' y.i));rw[h y (ji ..),PU (λz b=>h z (jc _ b))]
theorem eval_put_same (h:d<a.tmps.size):(a.put (jB d) v).eval (.tmp d)=v:=by
 simp[Act.put,Act.eval,h]
theorem JI (h:a.eval (.tmp s)=v):a.tmps[s]?.getD undef=v:=by
 rw[<-h];simp only[Act.eval,Array.getD_eq_getD_getElem?]
theorem ZN {M1 M2:List ItP}{m:ItP}(h:∀y∈M1++M2,y.i≠m.i):((M1++m::M2).map (λm=>(m.i,m.pre))).filter (λp=>p.1 !=m.i)=(M1++M2).map (λm=>(m.i,m.pre)):=by
 have key:∀l:List ItP,(∀y∈l,y.i≠m.i)->(l.map (λm=>(m.i,m.pre))).filter (λp=>p.1 !=m.i)=l.map (λm=>(m.i,m.pre)):=λl hl=>by
  rw[nu];intro p hp;obtain⟨y,hy,rfl⟩:=jg.1 hp;simpa using hl y hy
 simp only[jT,kE,ku];rw[key M1 (λy hy=>h y (jX _ hy)),List.filter_cons_of_neg ς,key M2 (λy hy=>h y (kM _ hy))]
section
variable {P:Program}{ops:Array Oper}{Q:Exit->Act->jF->Prop}{md:Region.Mode}{S:jF->Prop}
theorem BG:∀(k:Nat) (b:List ItP) (_:η b=k) (fuel:Nat) (listed:Array Bool) (a:Act) (w:jF)
  (_:(b.map (·.d)).Nodup) (_:(b.map (·.i)).Nodup) (_:b.all (λm=>decide (m.d<a.tmps.size))=jD) (_:okP md ops k (b.map (λm=>(m.i,m.pre))) listed=jD) (_:∀w',Below w.1.size w w'->S w')
  (_:∀m∈b,∀x w1 w2,Below w1.1.size w1 w2->m.Rel x w1->m.Rel x w2)
  (_:∀m∈b,∀a' w',(∀s,(∀m'∈b,m'.d≠s)->a'.eval (.tmp s)=a.eval (.tmp s))->(∀m'∈b,m'.i∈m.pre->m'.Rel (a'.eval (.tmp m'.d)) w')->Below w.1.size w w'->
   wpOp P ops Q m.i (λa2 w2=>∃x,a2=a'.put (jB m.d) x/\m.Rel x w2/\Below w'.1.size w' w2) a' w')
  (_:∀(v:Nat->Value) (w':jF),Below w.1.size w w'->(∀m∈b,m.Rel (v m.i) w')->wpAnyH P md ops Q S fuel (xk (b.map (·.i)) listed) (Jp v b a) w'),
  wpAnyH P md ops Q S (fuel+k) listed a w
 |0,b,R,fuel,listed,a,w,_,_,_,_,_,_,_,h=>by
  have:b=[]:=jv R;subst this;exact h (λ_=>undef) w bR (λm hm=>by cases hm)
 |k+1,b,R,fuel,listed,a,w,hd,hi,F,G,hS,c,o,h=>by
  have F:∀m∈b,m.d<a.tmps.size:=λm hm=>by simpa using jR.1 F m hm
  unfold okP at G;rw[jm,jR]at G;obtain⟨H,G⟩:=G;refine⟨λh0=>by rw[h0]at H;simp at H,λj hj=>?_⟩;have I:=G j hj;rw[jm,jm,jR]at I;obtain⟨⟨B,J⟩,K⟩:=I;have B:j∈b.map (·.i):=by simpa using B
  obtain⟨m,hm,rfl⟩:=jg.1 B
  have T:∀m'∈b,m'.i∉m.pre:=λm' C p=>by
   have:=J (m.i,m.pre) (jg.2 ⟨m,hm,rfl⟩);simp only[bne_self_eq_false,oI,jR]at this;have:=this m'.i p;simp at this;exact this m' C rfl
  refine wpOp_mono ?_ (o m hm a w (λ_ _=>rfl) (λm' C p=>(T m' C p).elim) bR);rintro a2 w2 ⟨x,rfl,hrel,hb⟩;have D:∀w',Below w2.1.size w2 w'->Below w.1.size w w':=λw' L=>hb.trans (L.mono hb.size)
  refine⟨hS _ hb,?_⟩;obtain⟨M1,M2,rfl⟩:=qL hm;have f:=hd;have g:=hi;simp only[jT,kE]at f g;rw[mP,og]at f g
  have A:∀y∈M1++M2,y.d≠m.d:=λy hy e=>by
   rcases jo.1 hy with hy|hy
   ·exact f.2.2 y.d (jg.2 ⟨y,hy,rfl⟩) m.d (ji ..) e
   ·exact f.2.1.1 (jg.2 ⟨y,hy,e⟩)
  have q:∀y∈M1++M2,y.i≠m.i:=λy hy e=>by
   rcases jo.1 hy with hy|hy
   ·exact g.2.2 y.i (jg.2 ⟨y,hy,rfl⟩) m.i (ji ..) e
   ·exact g.2.1.1 (jg.2 ⟨y,hy,e⟩)
  have n:∀y∈M1++M2,y∈M1++m::M2:=λy hy=>by
   rcases jo.1 hy with hy|hy
   ·exact jX _ hy
   ·exact kM _ (jc _ hy)
  have r:∀y∈M1++m::M2,y=m\/y∈M1++M2:=λy hy=>by
   rcases jo.1 hy with hy|hy
   ·exact .inr (jX _ hy)
   ·rcases jk.1 hy with rfl|hy
    ·exact .inl rfl
    ·exact .inr (kM _ hy)
  have U:m.i∉M1.map (·.i):=λL=>by
   obtain⟨y,hy,e⟩:=jg.1 L;exact q y (jX _ hy) e
  rw[ZN q]at K;have V:(a.put (jB m.d) x).tmps.size=a.tmps.size:=by simp[Act.put]
  refine BG k (M1++M2) (by simp at R⊢;omega) fuel _ _ _ ?_ ?_ (jR.2 (λy hy=>by rw[V];simpa using F y (n y hy))) K (λw' L=>hS _ (D w' L)) (λy hy=>c y (n y hy)) ?_ ?_
  ·simp only[jT];rw[mP];exact⟨f.1,f.2.1.2,λx W y hy=>f.2.2 x W y (jc _ hy)⟩
  ·simp only[jT];rw[mP];exact⟨g.1,g.2.1.2,λx W y hy=>g.2.2 x W y (jc _ hy)⟩
  ·intro y hy a' w' M X t;refine o y (n y hy) a' w' (λs hs=>?_) (λz E p=>?_) (D w' t)
   ·rw[M s (λz F=>hs z (n z F)),eval_put_ne (hs m hm)]
   ·rcases r z E with rfl|E
    ·rw[M z.d (λu hu=>A u hu),eval_put_same (F z hm)];exact c z hm _ _ _ t hrel
    ·exact X z E p
  ·intro v w' t hv
   have Y:xk ((M1++M2).map (·.i)) (listed.setIfInBounds m.i jD)=xk ((M1++m::M2).map (·.i)) listed:=by
    simp only[jT,kE,xk,jK,jZ];have:=J3 (x:=listed) U;unfold xk at this;rw[this]
   have Z:∀v':Nat->Value,v' m.i=x->(∀y∈M1++M2,v' y.i=v y.i)->Jp v (M1++M2) (a.put (jB m.d) x)=Jp v' (M1++m::M2) a:=λv' h1 h2=>by
    rw[PU (λy hy=>(h2 y hy).symm)];simp only[Jp,jK,jZ];have:=RX (v:=v') (m:=m) (x:=x) (a:=a) (l:=M1) (λy hy=>A y (jX _ hy));unfold Jp at this;rw[this,h1]
   obtain⟨v',N,O⟩:∃v':Nat->Value,v' m.i=x/\∀y∈M1++M2,v' y.i=v y.i:=⟨λi=>if i=m.i then x else v i,ς,λy hy=>by simp[q y hy]⟩;rw[Y,Z v' N O];refine h v' w' (D w' t) (λy hy=>?_);rcases r y hy with rfl|hy
   ·rw[N];exact c y hm _ _ _ t hrel
   ·rw[O y hy];exact hv y hy
theorem yO {f:Nat}{xs:Array Operand}{b:Array TypeId}{vs:Array Value}{R:Ending->jF->Prop}
  (c:ops[i]? =jB ⟨jB d,.call {callee:=.value (.func f),args:=xs,argTypes:=b},ty,pos,after,jC⟩)(hv:xs.map a.eval=vs)(hc:(callFunc f vs).run P w=.ok (.enter f vs) w)
  (h:Calls P f vs w R)(g:∀e w',R e w'->∃v,e=.returned v/\K (a.put (jB d) v) w'):wpOp P ops Q i K a w:=by
 refine wpOp_step c (λl j=>?_);have hw:Region.wanted ⟨jB d,.call {callee:=.value (.func f),args:=xs,argTypes:=b},ty,pos,after,jC⟩ (yielded ops a.tmps)=jD:=by simp[Region.wanted]
 rw[jd hw];unfold Oper.wp;rw[execOp_call_go];have e:(#[]++xs.map a.eval++#[]:Array Value)=vs:=by rw[hv];simp
 rw[e,hc,Oper.upon_enter];refine h.mono ?_;intro e w' k;obtain⟨v,rfl,hv⟩:=g e w' k;exact j _ _ hv
theorem EH {op:Op}{w2:jF}
  (b:ops[i]? =jB ⟨jB d,op,ty,pos,after,jC⟩)(hw:Region.wanted ⟨jB d,op,ty,pos,after,jC⟩ (yielded ops a.tmps)=jD)(c:(execOp a.eval ⟨jB d,op,ty,pos,after,jC⟩).run P w=.ok (.value v) w2)
  (e:K (a.put (jB d) v) w2):wpOp P ops Q i K a w:=by
 refine wpOp_step b (λg f=>?_);rw[jd hw];unfold Oper.wp;rw[c,Oper.upon_value];exact f _ _ e
end
set_option maxHeartbeats 16000000
set_option maxRecDepth 100000
theorem abP (f:List Nd)(x:Way)(A1:Option Addr)(c1:Nat)(A2:Option Addr)(c2:Nat)(A3:Option Addr)(c3:Nat)(Af:Option Addr)(cf j:Nat)(w:jF)(B:Nat)(h:WR w x A1 c1 A2 c2 A3 c3)(hf:Sl w B 2 Af (η f) cf (qP f))(hB:B<=w.1.size)(hl:η f<=1000000)
  (hN:yh f=jD)(hj:j<η f)(hx:LQ f x)(hn:x.need<256)(hb:x.ban<256)(O:η x.todo<=1000000):
  Calls jJ 109 #[.agg #[.int .u64 (x.need:Int),.int .u64 (x.ban:Int),.slice A1 (η x.now) c1,.slice A2 (η x.next) c2,.slice A3 (η x.todo) c3],.slice Af (η f) cf,.int .i64 (j:Int)] w (Splits w (sZ f j x)):=by
 have HK:=dh (λ(w':jF) (hb:Below w.1.size w w')=>QU Af cf f (j:Int) w' B (hf.below hb hB) (Nat.le_trans hB hb.size) ω ⟨ω,ω⟩);have hF:=ndF hN hj;obtain⟨HR,aF,HX⟩:=iA h hf hx;have bE:=hf.cap;obtain⟨b,o,rfl,bF,P,Z⟩:=vZ hf.rd hj;have ak:f[j]=f.getD j ⟨0,0⟩:=γ;rw[ak]at P Z;have X:Below _ w (w.alloc (.cells #[.int .u64 x.need,.int .u64 x.ban,.slice A1 (η x.now) c1,.slice A2 (η x.next) c2,.slice A3 (η x.todo) c3] 162)):=bR.alloc lR _;have a1:=heap_alloc_new w (.cells #[.int .u64 x.need,.int .u64 x.ban,.slice A1 (η x.now) c1,.slice A2 (η x.next) c2,.slice A3 (η x.todo) c3] 162);have a6:(w.alloc (.cells #[.int .u64 x.need,.int .u64 x.ban,.slice A1 (η x.now) c1,.slice A2 (η x.next) c2,.slice A3 (η x.todo) c3] 162)).1.size=w.1.size+1:=ς;let⟨W0,a7⟩:=xQ (w.alloc (.cells #[.int .u64 x.need,.int .u64 x.ban,.slice A1 (η x.now) c1,.slice A2 (η x.next) c2,.slice A3 (η x.todo) c3] 162))
 rw[a7]at X a1 a6;have ao:=dh a7;clear a7 h hx ak;change w.cell? _ =jB (.int _ (opAt f j))at P;let⟨op,a⟩:=xQ (opAt f j)
 let⟨ws,a8⟩:=xQ (sZ f j x)
 obtain⟨kl,kr,ad⟩:∃kl kr,kids f j=(kl,kr):=⟨_,_,rfl⟩;rw[a]at P;rw[a8];rw[ad]at HK;obtain⟨F,c,d,n⟩:=iB hF a a8 ad;clear hF a a8 ad;go_enter Tryz.func109,Tryz.ntmps109;go_wp2_with fail
 rw[ao.o];go_wp2_with fail
 apply Calls.mono (HK _ X);rintro e w1 ⟨rfl,Y⟩;rw[a6]at Y;have aG:=Y.size;rw[a6]at aG;have C:=X.trans (Y.mono ω);have q0:=(Y.block _ ω).trans a1;let⟨k0,k1,k2,k3,k4⟩:=ais q0
 have k5:=bC C ω P;have k6:=bC C ω Z;obtain⟨Q,Q0,N⟩:=iA (HR.below C) q0 C;clear X a1 q0 C HK ao P Z;have L:Hd (∀w',Below w1.1.size _ w'->w'.cell? _ =jB _/\w'.cell? _ =jB _/\w'.cell? _ =jB _/\w'.cell? _ =jB _/\w'.cell? _ =jB _):=dh (λw' hb=>ais ((hb.block _ ω).trans Q0.o));rcases F.op with a|a|a|a|a|a|a|a|a
 ·skip
  have hs:sZ f j x=[x]:=by unfold sZ;rw[jd a]
  obtain rfl:=c.symm.trans a;obtain rfl:=d.symm.trans hs;clear hs a F c d n;go_wp2
  go_ret
  exact Dg N Q.out
 ·have hs:sZ f j x=[]:=by unfold sZ;rw[a];rfl
  obtain rfl:=c.symm.trans a;obtain rfl:=d.symm.trans hs;go_wp2
  go_ret
  exact GN N.o
 ·skip
  have hs:sZ f j x=CG {x with need:=x.need|||2^Jv f j}:=by unfold sZ;rw[a];rfl
  let⟨u,M⟩:=F.prop a
  obtain rfl:=c.symm.trans a;obtain rfl:=d.symm.trans hs;rw[u]at k6;generalize Jv f j=p at *;clear hs u a F c d n;have aH:=Rm M;have aJ:2^p<256:=by have:2^p<2^8:=oF ω M;omega
  have aK:=YZ (x:=x.need) (y:=2^p) ω ω;have aL:x.need|||2^p<2^8:=nP ω ω;have hand:=QG (x:=x.need|||2^p) (y:=x.ban) ω ω;generalize hq:2^p=q at *;generalize hm:x.need|||q=m at *;obtain⟨HQ,HM⟩:=iw hq hm;clear hq hm;have aM:=frozen_of_row _ _ 0 _ _ Q0.o;go_wp2
  refine sM (S:=λw'=>q9 w' _ 0 _/\q9 w' b _ _) 10 rfl (⟨k0,k6⟩) (λhS=>?_);apply rT 0;apply rT 1;apply rT 2;apply rT 3;apply rT 4;apply rT 5;apply rT 6;apply rT 7;apply rT 8;apply rT 9;refine sN rfl κ rfl (λK J=>?_);go_simp;apply J.out;clear J;by_cases R:m&&&x.ban=0
  ·have hd:(((m&&&x.ban):Int)!=0)=jE:=by rw[R];rfl
   have HS:Hd (CG {x with need:=m}=[{x with need:=m}]):=dh (by unfold CG;rw[jd (by exact R)]);clear R;go_wp2
   go_ret
   rw[HS.o];have O:=(qW.refl (λk=>k=w.1.size) w1).setCell (p:=⟨w.1.size,0,jC⟩) (λ_=>rfl) (.int .u64 m);have H:=Dg (x:={x with need:=m}) (N.setCell lR _) (by have:=Q.out.keep O (uM Q0 δ) (uM Q0 δ);exact⟨this.now,this.next,this.todo⟩) rfl rfl rfl rfl rfl;rw[show(w1.setCell _ _).1.size=w1.1.size by simp[jF.setCell]]at H;exact D8 H
  ·have hd:(((m&&&x.ban):Int)!=0)=jD:=by simpa using R
   have HS:Hd (CG {x with need:=m}=[]):=dh (by unfold CG;rw[d9 (by exact R)]);clear R;go_wp2
   go_ret
   rw[HS.o];exact D8<|GN (N.setCell lR _)
 ·skip
  have hs:sZ f j x=CG {x with ban:=x.ban|||2^Jv f (j-1)}:=by unfold sZ;rw[a];rfl
  let⟨D,u,M⟩:=F.lit a
  obtain⟨i,hi⟩:∃i,j=i+1:=⟨j-1,ω⟩;have af:j-1=i:=ω;rw[af]at u M;obtain⟨b',o',he, -, -,aq⟩:=vZ aF.rd (k:=i) ω;cases he;rw[show f[i]=f.getD i ⟨0,0⟩ by simp[List.getD,show i<η f by omega],u]at aq;obtain rfl:=c.symm.trans a;rw[af]at hs;obtain rfl:=d.symm.trans hs;have bB:j-1=(i:Int):=ω;have bG:IntKind.i64.wrap _ =i:=IntWalk.i64_in _ ω;have HI:=dh hi;have bH:i<η f:=ω;clear af hi D;generalize Jv f i=p at *;clear hs u a F c d n;have aH:=Rm M;have aJ:2^p<256:=by have:2^p<2^8:=oF ω M;omega
  have aK:=YZ (x:=x.ban) (y:=2^p) ω ω;have aL:x.ban|||2^p<2^8:=nP ω ω;have hand:=QG (x:=x.need) (y:=x.ban|||2^p) ω ω;generalize hq:2^p=q at *;generalize hm:x.ban|||q=m at *;obtain⟨HQ,HM⟩:=iw hq hm;clear hq hm;have k7:=bC N ω aq;have aM:=frozen_of_row _ _ 1 _ _ Q0.o;go_wp2
  refine sM (S:=λw'=>q9 w' _ 1 _/\q9 w' b _ _) 11 rfl (⟨k1,k7⟩) (λhS=>?_);apply rT 0;apply rT 1;apply rT 2;apply rT 3;apply rT 4;apply rT 5;apply rT 6;apply rT 7;apply rT 8;apply rT 9;apply rT 10;refine sN rfl κ rfl (λK J=>?_);go_simp;apply J.out;clear J;by_cases R:x.need&&&m=0
  ·have hd:(((x.need&&&m):Int)!=0)=jE:=by rw[R];rfl
   have HS:Hd (CG {x with ban:=m}=[{x with ban:=m}]):=dh (by unfold CG;rw[jd (by exact R)]);clear R;go_wp2
   go_ret
   rw[HS.o];have O:=(qW.refl (λk=>k=w.1.size) w1).setCell (p:=⟨w.1.size,1,jC⟩) (λ_=>rfl) (.int .u64 m);have H:=Dg (x:={x with ban:=m}) (N.setCell lR _) (by have:=Q.out.keep O (uM Q0 δ) (uM Q0 δ);exact⟨this.now,this.next,this.todo⟩) rfl rfl rfl rfl rfl;rw[show(w1.setCell _ _).1.size=w1.1.size by simp[jF.setCell]]at H;exact D8 H
  ·have HS:Hd (CG {x with ban:=m}=[]):=dh (by unfold CG;rw[d9 (by exact R)]);go_wp2
   go_ret
   rw[HS.o];exact D8<|GN (N.setCell lR _)
 ·skip
  have hs:sZ f j x=[x.with_ [leftOf f j,ru f j]]:=by unfold sZ;rw[a];rfl
  let⟨u,_,_⟩:=F.Ut (.inl a)
  obtain rfl:=c.symm.trans a;obtain rfl:=d.symm.trans hs;obtain⟨rfl,rfl⟩:=qM (n.symm.trans u);clear hs u a F c d n;have aN:=Wp w1 [leftOf f j,ru f j] ς ς;have l:Below _ _ (w1.alloc (.cells #[.int .i64 (leftOf f j),.int .i64 (ru f j)] 3)):=bR.alloc lR _;have HC:=dh (C9 x _ _ _ _ _ _ _ _ _ _ (Q.out.below l) aN ς O);go_wp2_with fail
  apply Calls.mono HC.o;rintro e w3 ⟨v,rfl,⟨D1,d1,D2,d2,D3,d3,rfl,G⟩,ag⟩;go_wp2
  go_ret
  exact Dg (N.trans ((l.trans (ag.mono l.size)).mono ω)) G
 ·skip
  have hs:sZ f j x=[x.with_ [leftOf f j],x.with_ [ru f j]]:=by unfold sZ;rw[a];rfl
  let⟨u,_,_⟩:=F.Ut ω
  obtain rfl:=c.symm.trans a;obtain rfl:=d.symm.trans hs;obtain⟨rfl,rfl⟩:=qM (n.symm.trans u);clear hs u a F c d n;go_wp2
  refine wp_region_held_drew (S:=λw'=>q9 w' _ 0 _/\q9 w' _ 1 _/\q9 w' _ 2 _/\q9 w' _ 3 _/\q9 w' _ 4 _) rfl ⟨k0,k1,k2,k3,k4⟩ (λhS=>?_);apply qU 0;apply qU 1;apply qU 4;apply qU 5;have s:Hd (∀W',Below _ _ _->Below _ _ W'):=dh (λW' hb=>(Below.drew (Below.refl w1.1.size w1)).trans (hb.mono (Below.drew (Below.refl w1.1.size _)).size));refine BG 4 [⟨2,_,[],MV [leftOf f j]⟩,⟨3,_,[2],XU (x.with_ [leftOf f j])⟩,⟨6,_,[],MV [ru f j]⟩,⟨7,_,[6],XU (x.with_ [ru f j])⟩] rfl _ _ _ _ (show[61,62,65,66].Nodup by decide) (show[2,3,6,7].Nodup by decide) rfl κ (λW' hb=>L _ (s _ hb)) ?_ ?_ ?_
  ·intro m hm y u1 u2 hb h;simp at hm;rcases hm with rfl|rfl|rfl|rfl<;>first|exact MV.below h hb|exact Im.below h hb
  ·intro m hm a' w' g z hb;have E:=s _ hb;simp at hm;rcases hm with rfl|rfl|rfl|rfl
   ·have aO:a'.eval (.tmp 60)=.int _ _:=g 60 ς;exact EH rfl rfl (by have bI:=JI aO;go_simp;try rfl) ⟨_,rfl,ET w' [leftOf f j] ς ς⟩
   ·have aP:a'.eval (.tmp 59)=.agg _:=g 59 ς;let⟨A,aQ,hs⟩:=z _ (.head _) ς
    exact yO rfl (by simp[aP,aQ]<;>rfl) rfl (C9 x _ _ _ _ _ _ A 1 [leftOf f j] _ (Q.out.below E) hs ς O) (λe w2 ⟨v,hv,D,I⟩=>⟨v,hv,v,rfl,D,I⟩)
   ·have aR:a'.eval (.tmp 64)=.int _ _:=g 64 ς;exact EH rfl rfl (by have bJ:=JI aR;go_simp;try rfl) ⟨_,rfl,ET w' [ru f j] ς ς⟩
   ·have aS:a'.eval (.tmp 63)=.agg _:=g 63 ς;let⟨A,aT,hs⟩:=z _ (.tail _ (.tail _ (.head _))) ς
    exact yO rfl (by simp[aS,aT]<;>rfl) rfl (C9 x _ _ _ _ _ _ A 1 [ru f j] _ (Q.out.below E) hs ς O) (λe w2 ⟨v,hv,D,I⟩=>⟨v,hv,v,rfl,D,I⟩)
  intro v w2 r hv;have l:=s _ r;obtain⟨B0,e2, -⟩:=hv _ (.head _);let⟨ar,au,av,aw,ax,ay,T,U⟩:=hv _ (.tail _ (.head _))
  obtain⟨B2,e6, -⟩:=hv _ (.tail _ (.tail _ (.head _)));let⟨az,aA,aB,aC,aD,aE,V,G⟩:=hv _ (.tail _ (.tail _ (.tail _ (.head _))))
  dsimp at e2 T e6 V;simp only[Jp,jZ,nO,e2,T,e6,V,xk];clear e2 T e6 V hv r;refine rR 8 (λK J=>?_);go_simp;have W:=λo=>l.trans (((Below.refl _ _).alloc lR o).mono l.size)
  refine J _ _ (L _ (W _)) (λhS=>?_);clear J;apply qU 9;refine wpAnyH_done κ ?_ _;clear hS;go_wp2
  go_ret
  exact JM (N.trans (l.mono ω)) U G
 ·skip
  have hs:sZ f j x=[x.owing (leftOf f j)]:=by unfold sZ;rw[a];rfl
  let⟨u,_⟩:=F.ac3 a
  obtain rfl:=c.symm.trans a;obtain rfl:=d.symm.trans hs;obtain⟨rfl,rfl⟩:=qM (n.symm.trans u);clear hs u a F c d n;have HC:=dh (Mq x _ _ _ _ _ _ (leftOf f j) _ Q.out (by rw[HX.next];omega) (by rw[HX.next];omega));go_wp2_with fail
  apply Calls.mono HC.o;rintro e w3 ⟨v,rfl,⟨D1,d1,D2,d2,D3,d3,rfl,G⟩,ag⟩;go_wp2
  go_ret
  exact Dg (N.trans (ag.mono ω)) G
 ·skip
  have hs:sZ f j x=[x.with_ [ru f j],(x.with_ [leftOf f j]).owing j]:=by unfold sZ;rw[a];rfl
  let⟨u,_,_⟩:=F.Ut ω
  obtain rfl:=c.symm.trans a;obtain rfl:=d.symm.trans hs;obtain⟨rfl,rfl⟩:=qM (n.symm.trans u);clear hs u a F c d n;go_wp2
  refine wp_region_held_drew (S:=λw'=>q9 w' _ 0 _/\q9 w' _ 1 _/\q9 w' _ 2 _/\q9 w' _ 3 _/\q9 w' _ 4 _) rfl ⟨k0,k1,k2,k3,k4⟩ (λhS=>?_);apply qU 0;apply qU 1;apply qU 4;apply qU 5;apply qU 8;have s:Hd (∀W',Below _ _ _->Below _ _ W'):=dh (λW' hb=>(Below.drew (Below.refl w1.1.size w1)).trans (hb.mono (Below.drew (Below.refl w1.1.size _)).size));refine BG 5 [⟨2,_,[],MV [ru f j]⟩,⟨3,_,[2],XU (x.with_ [ru f j])⟩,⟨6,_,[],MV [leftOf f j]⟩,⟨7,_,[6],XU (x.with_ [leftOf f j])⟩,⟨9,_,[7],XU ((x.with_ [leftOf f j]).owing j)⟩] rfl _ _ _ _ (show[78,79,82,83,85].Nodup by decide) (show[2,3,6,7,9].Nodup by decide) rfl κ (λW' hb=>L _ (s _ hb)) ?_ ?_ ?_
  ·intro m hm y u1 u2 hb h;simp at hm;rcases hm with rfl|rfl|rfl|rfl|rfl<;>first|exact MV.below h hb|exact Im.below h hb
  ·intro m hm a' w' g z hb;have E:=s _ hb;simp at hm;rcases hm with rfl|rfl|rfl|rfl|rfl
   ·have aU:a'.eval (.tmp 77)=.int _ _:=g 77 ς;exact EH rfl rfl (by have bK:=JI aU;go_simp;try rfl) ⟨_,rfl,ET w' [ru f j] ς ς⟩
   ·have aV:a'.eval (.tmp 76)=.agg _:=g 76 ς;let⟨A,aW,hs⟩:=z _ (.head _) ς
    exact yO rfl (by simp[aV,aW]<;>rfl) rfl (C9 x _ _ _ _ _ _ A 1 [ru f j] _ (Q.out.below E) hs ς O) (λe w2 ⟨v,hv,D,I⟩=>⟨v,hv,v,rfl,D,I⟩)
   ·have aX:a'.eval (.tmp 81)=.int _ _:=g 81 ς;exact EH rfl rfl (by have bL:=JI aX;go_simp;try rfl) ⟨_,rfl,ET w' [leftOf f j] ς ς⟩
   ·have aY:a'.eval (.tmp 80)=.agg _:=g 80 ς;let⟨A,aZ,hs⟩:=z _ (.tail _ (.tail _ (.head _))) ς
    exact yO rfl (by simp[aY,aZ]<;>rfl) rfl (C9 x _ _ _ _ _ _ A 1 [leftOf f j] _ (Q.out.below E) hs ς O) (λe w2 ⟨v,hv,D,I⟩=>⟨v,hv,v,rfl,D,I⟩)
   ·have b4:a'.eval (.tmp 84)=.int _ _:=g 84 ς;let⟨D1,d1,D2,d2,D3,d3,b5,hw⟩:=z _ (.tail _ (.tail _ (.tail _ (.head _)))) ς
    exact yO rfl (by simp[b5,b4]<;>rfl) rfl (Mq _ _ _ _ _ _ _ j _ hw (by have:=HX.next;show j<η x.next;omega) (by have:=HX.next;show η x.next<=1000000;omega)) (λe w2 ⟨v,hv,D,I⟩=>⟨v,hv,v,rfl,D,I⟩)
  intro v w2 r hv;have l:=s _ r;obtain⟨B0,e2, -⟩:=hv _ (.head _);let⟨ar,au,av,aw,ax,ay,T,U⟩:=hv _ (.tail _ (.head _))
  obtain⟨B2,e6, -⟩:=hv _ (.tail _ (.tail _ (.head _)));let⟨az,aA,aB,aC,aD,aE,V,G⟩:=hv _ (.tail _ (.tail _ (.tail _ (.head _))))
  let⟨b6,b9,bc,bd,bh,bj,e9,ah⟩:=hv _ (.tail _ (.tail _ (.tail _ (.tail _ (.head _)))))
  dsimp at e2 T e6 V e9;simp only[Jp,jZ,nO,e2,T,e6,V,e9,xk];clear e2 T e6 V e9 hv r;refine rR 10 (λK J=>?_);go_simp;have W:=λo=>l.trans (((Below.refl _ _).alloc lR o).mono l.size)
  refine J _ _ (L _ (W _)) (λhS=>?_);clear J;apply qU 11;refine wpAnyH_done κ ?_ _;clear hS;go_wp2
  go_ret
  exact JM (N.trans (l.mono ω)) U ah
 ·skip
  have hs:sZ f j x=[x.with_ [leftOf f j,ru f j],(x.with_ [ru f j]).owing j]:=by unfold sZ;rw[a];rfl
  let⟨u,_,_⟩:=F.Ut ω
  obtain rfl:=c.symm.trans a;obtain rfl:=d.symm.trans hs;obtain⟨rfl,rfl⟩:=qM (n.symm.trans u);clear hs u a F c d n;go_wp2
  refine wp_region_held_drew (S:=λw'=>q9 w' _ 0 _/\q9 w' _ 1 _/\q9 w' _ 2 _/\q9 w' _ 3 _/\q9 w' _ 4 _) rfl ⟨k0,k1,k2,k3,k4⟩ (λhS=>?_);apply qU 0;apply qU 1;apply qU 2;apply qU 5;apply qU 6;apply qU 9;have s:Hd (∀W',Below _ _ _->Below _ _ W'):=dh (λW' hb=>(Below.drew (Below.refl w1.1.size w1)).trans (hb.mono (Below.drew (Below.refl w1.1.size _)).size));refine BG 5 [⟨3,_,[],MV [leftOf f j,ru f j]⟩,⟨4,_,[3],XU (x.with_ [leftOf f j,ru f j])⟩,⟨7,_,[],MV [ru f j]⟩,⟨8,_,[7],XU (x.with_ [ru f j])⟩,⟨_,_,[8],XU ((x.with_ [ru f j]).owing j)⟩] rfl _ _ _ _ (show[92,93,96,97,99].Nodup by decide) (show[3,4,7,8,10].Nodup by decide) rfl κ (λW' hb=>L _ (s _ hb)) ?_ ?_ ?_
  ·intro m hm y u1 u2 hb h;simp at hm;rcases hm with rfl|rfl|rfl|rfl|rfl<;>first|exact MV.below h hb|exact Im.below h hb
  ·intro m hm a' w' g z hb;have E:=s _ hb;simp at hm;rcases hm with rfl|rfl|rfl|rfl|rfl
   ·have bm:a'.eval (.tmp 90)=.int _ _:=g 90 ς;have bn:a'.eval (.tmp 91)=.int _ _:=g 91 ς;exact EH rfl (by simp[Region.wanted]) (by have bM:=JI bm;have bN:=JI bn;go_simp;try rfl) ⟨_,rfl,ET w' [leftOf f j,ru f j] ς ς⟩
   ·have bp:a'.eval (.tmp 89)=.agg _:=g 89 ς;let⟨A,bq,hs⟩:=z _ (.head _) ς
    exact yO rfl (by simp[bp,bq]<;>rfl) rfl (C9 x _ _ _ _ _ _ A 2 [leftOf f j,ru f j] _ (Q.out.below E) hs ς O) (λe w2 ⟨v,hv,D,I⟩=>⟨v,hv,v,rfl,D,I⟩)
   ·have br:a'.eval (.tmp 95)=.int _ _:=g 95 ς;exact EH rfl rfl (by have bO:=JI br;go_simp;try rfl) ⟨_,rfl,ET w' [ru f j] ς ς⟩
   ·have bu:a'.eval (.tmp 94)=.agg _:=g 94 ς;let⟨A,bw,hs⟩:=z _ (.tail _ (.tail _ (.head _))) ς
    exact yO rfl (by simp[bu,bw]<;>rfl) rfl (C9 x _ _ _ _ _ _ A 1 [ru f j] _ (Q.out.below E) hs ς O) (λe w2 ⟨v,hv,D,I⟩=>⟨v,hv,v,rfl,D,I⟩)
   ·have bz:a'.eval (.tmp 98)=.int _ _:=g 98 ς;let⟨D1,d1,D2,d2,D3,d3,bA,hw⟩:=z _ (.tail _ (.tail _ (.tail _ (.head _)))) ς
    exact yO rfl (by simp[bA,bz]<;>rfl) rfl (Mq _ _ _ _ _ _ _ j _ hw (by have:=HX.next;show j<η x.next;omega) (by have:=HX.next;show η x.next<=1000000;omega)) (λe w2 ⟨v,hv,D,I⟩=>⟨v,hv,v,rfl,D,I⟩)
  intro v w2 r hv;have l:=s _ r;obtain⟨B0,T, -⟩:=hv _ (.head _);let⟨ar,au,av,aw,ax,ay,e4,U⟩:=hv _ (.tail _ (.head _))
  obtain⟨B2,V, -⟩:=hv _ (.tail _ (.tail _ (.head _)));let⟨az,aA,aB,aC,aD,aE,e8,G⟩:=hv _ (.tail _ (.tail _ (.tail _ (.head _))))
  let⟨b6,b9,bc,bd,bh,bj,aj,ah⟩:=hv _ (.tail _ (.tail _ (.tail _ (.tail _ (.head _)))))
  dsimp at T e4 V e8 aj;simp only[Jp,jZ,nO,T,e4,V,e8,aj,xk];clear T e4 V e8 aj hv r;refine rR 11 (λK J=>?_);go_simp;have W:=λo=>l.trans (((Below.refl _ _).alloc lR o).mono l.size)
  refine J _ _ (L _ (W _)) (λhS=>?_);clear J;apply qU 12;refine wpAnyH_done κ ?_ _;clear hS;go_wp2
  go_ret
  exact JM (N.trans (l.mono ω)) U ah
open Go.Maps
theorem WG:laidOutB jJ=jD:=κ
theorem IJ:Keyed jJ 168:=
 Keyed.of_law (deep_law_gate WG (kD κ) (kD κ) κ κ)
theorem Pv:Tryz.prog.cellsOf 168=4:=κ
theorem Pq:Tryz.prog.types.size+1=(Tryz.prog.types.size-1)+2:=by
 have:1<=Tryz.prog.types.size:=kD κ;omega
theorem TT:Tryz.prog.keyType 168=jD:=κ
theorem abt:Tryz.prog.cellsOf 45=1:=κ
theorem abL:Tryz.prog.cellsOf 9=1:=κ
def Q9 (c:uI):Value:=.agg #[.int .u64 (c.1:Int),.int .u64 (c.2.1:Int),.string (Cg c.2.2.1),.string (Cg c.2.2.2)]
def Iu (c:uI):Prop:=c.1<256/\c.2.1<256/\η c.2.2.1<=1000000/\η c.2.2.2<=1000000
theorem Qi (h:Iu c):∃kl,keyOf jJ 168 (Q9 c)=jB kl:=by
 obtain⟨a,b,d,e⟩:=h;have w1:(Lit.int .u64 (c.1:Int)).wf=jD:=by rw[Lit.wf,show IntKind.u64.min=0 from rfl,show IntKind.u64.max=18446744073709551615 from rfl];simp;omega
 have w2:(Lit.int .u64 (c.2.1:Int)).wf=jD:=by rw[Lit.wf,show IntKind.u64.min=0 from rfl,show IntKind.u64.max=18446744073709551615 from rfl];simp;omega
 have s1:(Cg c.2.2.1).size<=maxLen:=by rw[Cg,strOfNums_size];simp;unfold maxLen;omega
 have s2:(Cg c.2.2.2).size<=maxLen:=by rw[Cg,strOfNums_size];simp;unfold maxLen;omega
 unfold keyOf Q9;rw[Tryz.underlying168];simp only[TT,Value.formed,Tryz.underlying168,Pv];rw[Pq];simp only[Program.keyLits,Tryz.underlying168,Pv];simp[w1,w2,s1,s2,Value.cells,abt,abL]
theorem afI {d:uI}(h:Q9 c=Q9 d):c=d:=by
 obtain⟨a,b,x,y⟩:=c;obtain⟨a',b',g,y'⟩:=d;simp only[Q9,Value.agg.injEq,Array.mk.injEq,oU,Value.int.injEq,Value.string.injEq,true_and,and_true]at h;obtain⟨i,j,e,f⟩:=h;rw[Vq e,Vq f,show a=a' by omega,show b=b' by omega]
def NS (w:jF)(mb:Nat)(T:List uI):Prop:=
 ∃D:DataW Unit,w.ownsMap jJ 168 (plainElem jJ 4) mb (η T) D/\IsMap D/\
  ∀(c:uI) (kl:Lit),Iu c->keyOf jJ 168 (Q9 c)=jB kl->D.atKey kl (.lit (.bool jE))=.lit (.bool (decide (c∈T)))
theorem NS.lt (h:NS w mb T):mb<w.1.size:=by obtain⟨D,a,_⟩:=h;exact a.lt
theorem NS.keep (h:NS w mb T)(a:qW S w w')(hS:¬S mb):NS w' mb T:=by
 obtain⟨D,⟨es,clock,hb,F,hs,b⟩,c,d⟩:=h;exact⟨D,⟨es,clock,a.blk hb hS,F,hs,b⟩,c,d⟩
theorem Dp {P:Program}{e:TypeId}(he:P.underlying e=jB .bool){x:Bool}{ps:List MemPlace}(h:plainElem (H:=Unit) P e v=jB (.lit (.bool x),ps)):v=.bool x:=by
 unfold plainElem at h;rw[he]at h;cases v<;>simp at h;rw[h.1]
theorem NS.lookup (h:NS w mb T)(hc:Iu c):
  (Instr.lookup 159 (.map (jB mb)) (Q9 c) jE).run jJ w=.ok (.bool (decide (c∈T))) w:=by
 obtain⟨D,b,_,d⟩:=h;obtain⟨kl,a⟩:=Qi hc;have f:(zeroValue 4).run jJ w=.ok (.bool jE) w:=κ;obtain⟨v,ps,g,hv⟩:=b.lookup IJ Tryz.underlying159 f (plainElem_bool Tryz.underlying4 jE) a;rw[d c kl hc a]at hv;have e:v=.bool (decide (c∈T)):=Dp Tryz.underlying4 hv;rw[<-e];exact g
theorem NS.update (h:NS w mb T)(hc:Iu c)(hl:η T<=20000000):
  ∃w',(Instr.mapUpdate 159 (.map (jB mb)) (Q9 c) (.bool jD)).run jJ w=.ok () w'/\NS w' mb (T++[c])/\w.grownBy w' (jB mb):=by
 obtain⟨D,j,i,k⟩:=h;obtain⟨kl,f⟩:=Qi hc;obtain⟨w',l,m,n⟩:=j.update IJ Tryz.underlying159 (by unfold maxLen;omega) f (plainElem_bool Tryz.underlying4 jD);refine⟨w',l,⟨_,by rw[lA];exact m,i.put _ _,λd b hd a=>?_⟩,n⟩;by_cases e:b=kl
 ·subst e;have:=afI (IJ.inj a f);subst this;rw[atKey_put_same i (IJ.key f)];simp
 ·have g:d≠c:=λo=>by subst o;rw[f]at a;cases a;exact e rfl
  rw[atKey_put_other e,k d b hd a];simp[g]
open Go.MapKept Go.ChangeMaps
open Go.WideElems (Fit rg rd rg_of findIdx_born findIdx_arr modify_last)
def Rv (v:Value):Option (DataW Value×List MemPlace):=jB (.held v,[])
def NT (g g':Lit->Option Value)(kl:Lit)(v:Value):Prop:=g' kl=jB v/\∀l,l≠kl->g' l=g l
def ajz (g g':Lit->Option Value)(kl:Lit):Prop:=∀l,l≠kl->g' l=g l
theorem D9 (g:Lit->Option Value)(kl:Lit)(v):∃g',NT g g' kl v:=
 ⟨λl=> @ite _ (l=kl) (Classical.propDecidable _) (jB v) (g l),jd rfl,λ_l hl=>d9 hl⟩
theorem ahR (g:Lit->Option Value)(kl:Lit):∃g',ajz g g' kl/\g' kl=jC:=
 ⟨λl=> @ite _ (l=kl) (Classical.propDecidable _) jC (g l),λ_l hl=>d9 hl,jd rfl⟩
def vI (w:jF)(kt:TypeId)(mb n:Nat)(g:Lit->Option Value):Prop:=
 ∃D:DataW Value,w.ownsMap jJ kt Rv mb n D/\IsMap D/\∀(key:Value) (kl:Lit),keyOf jJ kt key=jB kl->∀zd,D.atKey kl zd=(g kl).elim zd .held
section
variable {w w':jF}{kt t e:TypeId}{mb n:Nat}{g:Lit->Option Value}{z key:Value}{kl:Lit}
theorem vI.lt (h:vI w kt mb n g):mb<w.1.size:=by obtain⟨D,a,_⟩:=h;exact a.lt
theorem vI.blk (h:vI w kt mb n g)(hb:w'.1[mb]? =w.1[mb]?):vI w' kt mb n g:=by
 obtain⟨D,⟨es,clock,a,F,hs,b⟩,c,d⟩:=h;exact⟨D,⟨es,clock,hb.trans a,F,hs,b⟩,c,d⟩
theorem vI.keep (h:vI w kt mb n g)(a:qW S w w')(hS:¬S mb):vI w' kt mb n g:=h.blk (a.block _ h.lt hS)
theorem vI.Ho (h:w.1[mb]? =jB (.map #[] 0)):vI w kt mb 0 (λ_=>jC):=
 ⟨.map [],⟨#[],0,h,⟨ς,MapKept.stamped_empty 0,ς⟩,lR,rfl⟩,isMap_empty,λ_ _ _ _=>rfl⟩
theorem vI.wM (h:vI w kt mb n g){k t:Nat}{cs:Array Value}(a:w.1[k]? =jB (.cells cs t (0,0))):k≠mb:=by
 rintro rfl;obtain⟨D,⟨es,clock,hb,_⟩,_⟩:=h;rw[a]at hb;cases hb
theorem vI.look (h:vI w kt mb n g)(c)(K:Keyed jJ kt)(l:Tryz.prog.underlying t=jB (.map kt e))(m:(zeroValue e).run jJ w=.ok z w)(a:keyOf jJ kt key=jB kl):
  (Instr.lookup t (.map (jB mb)) key c).run jJ w=.ok (if c then .tuple #[(g kl).getD z,.bool (g kl).isSome]else(g kl).getD z) w:=by
 obtain⟨D,⟨es,clock,hb,F,hs,o⟩,_,p⟩:=h;subst o;have i:=p key kl a;rcases Maps.fit_look c K l m hb F a with⟨d,_,f⟩|⟨j,y,_,_,d,k,f,_⟩
 ·have:g kl=jC:=by
   have e1:=i (.lit (.bool jE));rw[f]at e1;cases b:g kl with
   |none=>rfl
   |some v=>rw[b]at e1;cases e1
  rw[this];exact d
 ·have:g kl=jB j.val:=by
   have e1:=i (.lit (.bool jE));rw[f]at e1;simp only[Rv,Option.some.injEq]at k;subst k;cases b:g kl with
   |none=>rw[b]at e1;cases e1
   |some v=>
    rw[b]at e1;have e2:(DataW.held j.val:DataW Value)=.held v:=e1;have q:=DataW.held.inj e2;exact jM jB q.symm
  rw[this];exact d
theorem vI.update (h:vI w kt mb n g)(K:Keyed jJ kt)(f:Tryz.prog.underlying t=jB (.map kt e))(i:n<maxLen)(a:keyOf jJ kt key=jB kl)(v):
  ∃w1,(Instr.mapUpdate t (.map (jB mb)) key v).run jJ w=.ok () w1/\(∀g',NT g g' kl v->vI w1 kt mb (n+1) g')/\w.grownBy w1 (jB mb):=by
 obtain⟨D,j,d,k⟩:=h;obtain⟨w1,l,m,o⟩:=j.update K f i a (show Rv v=jB (.held v,[])from rfl);refine⟨w1,l,λg' hp=>⟨_,m,d.put _ _,λq b c p=>?_⟩,o⟩;by_cases e:b=kl
 ·subst e;rw[hp.1,atKey_put_same d (K.key a)];rfl
 ·rw[hp.2 _ e,atKey_put_other e];exact k _ _ c p
theorem vI.delete (h:vI w kt mb n g)(K:Keyed jJ kt)(k:Tryz.prog.underlying t=jB (.map kt e))(a:keyOf jJ kt key=jB kl):
  ∃w1,(Builtin.delete_ #[t,kt] ty #[.map (jB mb),key]).run jJ w=.ok (.tuple #[]) w1/\(∀g',ajz g g' kl->g' kl=jC->vI w1 kt mb n g')/\w.grownBy w1 (jB mb):=by
 obtain⟨D,⟨es,clock,hb,F,hs,l⟩,q,m⟩:=h;subst l;obtain⟨b,o,F',c,hd,_⟩:=Maps.fit_drop (ty:=ty) K k hb F a;refine⟨_,o,λg' hp d=>⟨_,⟨b,clock,heap_setBlock_same hb _,F',Nat.le_trans c hs,rfl⟩,⟨_,rfl⟩,λr f j p=>?_⟩,⟨rfl,rfl,rfl,by simp[setBlock],λi _ hi=>heap_setBlock_other hb _ (λe=>hi (by rw[e]))⟩⟩;rw[hd,<-DataW.del_eq];by_cases e:f=kl
 ·subst e;rw[d,atKey_del_same];rfl
 ·rw[hp _ e,atKey_del_other e];exact m _ _ j p
theorem vI.entry (h:vI w kt mb n g)(K:Keyed jJ kt)(r:Tryz.prog.underlying t=jB (.map kt e))(J:∀u:jF,(zeroValue e).run jJ u=.ok z u)(O:n<maxLen)(b:keyOf jJ kt key=jB kl):
  ∃(st:Nat) (w1:jF),(Instr.mapEntry t (.map (jB mb)) key).run jJ w=.ok (.tuple #[(g kl).getD z,goInt st]) w1/\w.grownBy w1 (jB mb)/\
   ∀(w2:jF) (v:Value),w2.1[mb]? =w1.1[mb]? ->∃w3,(Instr.entryStore t (.map (jB mb)) (goInt st) v).run jJ w2=.ok () w3/\(∀g',NT g g' kl v->vI w3 kt mb (n+1) g')/\w2.grownBy w3 (jB mb):=by
 have hl:=h.look jE K r (J w) b;obtain⟨D,⟨es,clock,hb,F,hs,S⟩,T,U⟩:=id h;obtain⟨s1,s2,_⟩:=F.stamped
 have gr:∀(u:jF) (H:Array MapEntry) (M:Nat) (o:Obj),u.1[mb]? =jB (.map H M)->u.grownBy (setBlock u mb o) (jB mb):=λu H M o hu=>
  ⟨rfl,rfl,rfl,by simp[setBlock],λi _ hi=>heap_setBlock_other hu _ (λe=>hi (by rw[e]))⟩
 have fin:∀(s:Array MapEntry) (f:Nat) (w2:jF) (v:Value),(∃c:Array MapEntry×Nat,w2.1[mb]? =jB (.map c.1 c.2))->(Instr.mapUpdate t (.map (jB mb)) key v).run jJ w=.ok () (setBlock w mb (.map s f))->
   ∀g',NT g g' kl v->vI (setBlock w2 mb (.map s f)) kt mb (n+1) g':=by
  rintro s f w2 v ⟨c,hc⟩ hu g' hp;obtain⟨w1,I,hm,_⟩:=h.update K r O b v;rw[hu]at I;injection I with _ I
  subst I;exact(hm g' hp).blk ((heap_setBlock_same hc _).trans (heap_setBlock_same hb _).symm)
 rcases K.find w b es.toList F.keys with⟨y,P⟩|⟨j,e0,y,k,q⟩
 ·have B:(Instr.lookup t (.map (jB mb)) key jE).run jJ w=.ok z w:=by
   simp[Instr.lookup,run_underlying r,MapKept.run_getObj_map hb,K.check w _ b,y,J,Result.andThen]
  rw[B]at hl;injection hl with hl _
  have C:(g kl).getD z=z:=hl.symm;have E:(setBlock w mb (.map (es.push ⟨key,z,clock⟩) (clock+1))).1[mb]? =jB (.map (es.push ⟨key,z,clock⟩) (clock+1)):=heap_setBlock_same hb _;refine⟨clock,setBlock w mb (.map (es.push ⟨key,z,clock⟩) (clock+1)),?_,gr _ _ _ _ hb,λw2 v d=>?_⟩
  ·rw[C];simp[Instr.mapEntry,run_underlying r,MapKept.run_getObj_map hb,K.check w _ b,y,J,MapKept.run_setObj_map _ hb,Result.andThen,setBlock]
  ·rw[E]at d
   have m:(es.push ⟨key,z,clock⟩).findIdx? (λe=>((e.born:Nat):Int)==((clock:Nat):Int))=jB es.size:=by
    rw[findIdx_arr];refine findIdx_born (l:=(es.push ⟨key,z,clock⟩).toList) (j:=es.size) (e0:=⟨key,z,clock⟩) ?_ ς;simp only[Array.toList_push,jT,kE,l5];refine mP.2 ⟨s2,ς,λa Q c hc he=>?_⟩;rw[mS]at hc;obtain⟨x,R,rfl⟩:=jg.1 Q;have:=s1 x R;omega
   have p:(es.push ⟨key,z,clock⟩).modify es.size (λe=>{e with val:=v})=es.push ⟨key,v,clock⟩:=by
    apply Array.ext';rw[pI,Array.toList_push,Array.toList_push,<-mI,modify_last]
   refine⟨setBlock w2 mb (.map (es.push ⟨key,v,clock⟩) (clock+1)),?_,fin _ _ _ _ ⟨(_,_),d⟩ ?_,gr _ _ _ _ d⟩
   ·simp[Instr.entryStore,MapKept.run_getObj_map d,asInt,asIntOf,goInt,m,p,MapKept.run_setObj_map _ d,Result.andThen,setBlock]
   ·simp[Instr.mapUpdate,run_underlying r,MapKept.run_getObj_map hb,K.check w _ b,y,MapKept.run_setObj_map _ hb,Result.andThen,setBlock]
 ·have N:es[j]? =jB e0:=by simpa using k
  have B:(Instr.lookup t (.map (jB mb)) key jE).run jJ w=.ok e0.val w:=by
   simp[Instr.lookup,run_underlying r,MapKept.run_getObj_map hb,K.check w _ b,y,Result.andThen]
  rw[B]at hl;injection hl with hl _
  have C:(g kl).getD z=e0.val:=hl.symm
  have G:es.modify j (λe=>{e with key:=key})=es:=by
   apply Array.ext';rw[pI,modify_eq_set _ _ _ _ k];have:({e0 with key:=key}:MapEntry)=e0:=by rw[<-q]
   rw[this];exact Go.WideElems.set_self _ _ _ k
  have E:(setBlock w mb (.map es clock)).1[mb]? =jB (.map es clock):=heap_setBlock_same hb _;refine⟨e0.born,setBlock w mb (.map es clock),?_,gr _ _ _ _ hb,λw2 v d=>?_⟩
  ·rw[C];simp[Instr.mapEntry,run_underlying r,MapKept.run_getObj_map hb,K.check w _ b,y,N,q,K.stays w b,G,MapKept.run_setObj_map _ hb,Result.andThen,setBlock]
  ·rw[E]at d
   have m:es.findIdx? (λe=>((e.born:Nat):Int)==((e0.born:Nat):Int))=jB j:=by
    rw[findIdx_arr];exact findIdx_born s2 k
   have p:es.modify j (λe=>{e with val:=v})=es.modify j (λL=>{L with key:=key,val:=v}):=by
    apply Array.ext';rw[pI,pI,modify_eq_set _ _ _ _ k,modify_eq_set _ _ _ _ k,<-q]
   refine⟨setBlock w2 mb (.map (es.modify j (λL=>{L with key:=key,val:=v})) clock),?_,fin _ _ _ _ ⟨(_,_),d⟩ ?_,gr _ _ _ _ d⟩
   ·simp[Instr.entryStore,MapKept.run_getObj_map d,asInt,asIntOf,goInt,m,p,MapKept.run_setObj_map _ d,Result.andThen,setBlock]
   ·simp[Instr.mapUpdate,run_underlying r,MapKept.run_getObj_map hb,K.check w _ b,y,N,q,K.stays w b,MapKept.run_setObj_map _ hb,Result.andThen,setBlock]
end
set_option maxHeartbeats 4000000
set_option maxRecDepth 100000
open Go.Shelf
abbrev xJ (w:jF):Prop:=TabAt 0 Lib.deBruijn64tab w
theorem OU (b:xJ w):0<w.1.size:=by
 have h:=b 0 δ;rcases oG 0 w.1.size with a|a
 ·exact a
 ·unfold jF.cell? at h;dsimp only at h;rw[oh a]at h;cases h
theorem zW (a:xJ w)(hb:Below w.1.size w w'):xJ w':=λj b=>bC hb (OU a) (a j b)
theorem ad2 (w)(a:xJ w):Calls jJ 154 #[.int .u64 16] w λe w'=>e=.returned (.int .i64 4)/\w'=w:=by
 have hcell:w.cell? ⟨0,15,jC⟩=jB (.int .u8 4):=a 15 δ;have key:IntKind.u64.wrap (bits BinOp.and IntKind.u64 16 (IntKind.u64.wrap (-16))*285870213051353865)/288230376151711744=15:=δ;go_enter Tryz.func154,Tryz.ntmps154;go_wp2_with (simp only[key])
 go_ret
 exact⟨rfl,rfl⟩
theorem abu (w)(a:xJ w):Calls jJ 186 #[.int .u64 16] w λe w'=>e=.returned (.int .i64 4)/\w'=w:=by
 have H:=dh (ad2 w a);go_enter Tryz.func186,Tryz.ntmps186;go_wp2_with fail
 refine Calls.mono H ?_;rintro e w' ⟨rfl,rfl⟩;go_wp2_with fail
 go_ret
 exact⟨rfl,rfl⟩
def Ck:List Int:=[48,49,50,51,52,53,54,55,56,57,97,98,99,100,101,102]
def xZ (u:Nat):List Int:=if u<16 then[Ck.getD u 0]else[Ck.getD (u/16) 0,Ck.getD (u%16) 0]
theorem ZR:∀m:Nat,(h:m<16)->((({data:=#[48,49,50,51,52,53,54,55,56,57,97,98,99,100,101,102,103,104,105,106,107,108,109,110,111,112,113,114,115,116,117,118,119,120,121,122]}:ByteArray)[m]'(pW h δ)).toNat:Int)=Ck.getD m 0:=by
 have h:∀m:Fin 16,((({data:=#[48,49,50,51,52,53,54,55,56,57,97,98,99,100,101,102,103,104,105,106,107,108,109,110,111,112,113,114,115,116,117,118,119,120,121,122]}:ByteArray)[m.val]'(pW m.isLt δ)).toNat:Int)=Ck.getD m.val 0:=by decide +kernel
 exact λm hm=>h ⟨m,hm⟩
theorem acr (w):Calls jJ 185 #[.int .i64 16] w λe w'=>e=.returned (.bool jD)/\w'=w:=by
 have hand:bits .and .i64 16 15=0:=δ;go_enter Tryz.func185,Tryz.ntmps185;go_wp2_with fail
 go_ret
 exact⟨rfl,rfl⟩
theorem Xf (u:Nat)(hu:u<256)(w)(Y:xJ w):
  Calls jJ 175 #[.slice jC 0 0,.int .u64 (u:Int),.int .i64 16,.bool jE,.bool jE] w λe w'=>e=.returned (.tuple #[.slice jC 0 0,.string (strOfNums (xZ u))])/\Below w.1.size w w':=by
 have z:Below w.1.size w (w.alloc (.cells Tryz.zeroCells247 247)):=bR.alloc lR _;have B:=heap_alloc_new w (.cells Tryz.zeroCells247 247);have C:Tryz.zeroCells247.size=65:=κ;obtain⟨L,l⟩:=xQ (w.alloc (.cells Tryz.zeroCells247 247));rw[l]at z B;have M:=dh l
 have N:xJ L:=by
  rw[<-l];exact zW Y (bR.alloc lR _)
 have O:=dh (abu L N);clear l;go_enter Tryz.func175,Tryz.ntmps175;go_wp2_with fail
 rw[M.o];refine Calls.mono (acr L) ?_;rintro e w' ⟨rfl,rfl⟩;go_wp2_with fail
 refine Calls.mono O ?_;rintro e w' ⟨rfl,rfl⟩;go_wp2_with fail
 go_loopw [1,13] (λv i wr=>∃cs:Array Value,wr.1[w.1.size]? =jB (.cells cs 247 (0,0))/\cs.size=65/\Below w.1.size w wr/\((v=.int .u64 (u:Int)/\i=.int .i64 65)\/(16<=u/\v=.int .u64 ((u:Int)/16)/\i=.int .i64 64/\cs[64]? =jB (.int .u8 (Ck.getD (u%16) 0))))) (λv _ _=>(intOf v).toNat)
 case atStart=>exact⟨_,B,C,z,.inl ⟨rfl,rfl⟩⟩
 case round=>
  obtain⟨cs,a,hcs,q,⟨rfl,rfl⟩|⟨c,rfl,rfl,d⟩⟩:=hrel
  ·obtain⟨Q,F⟩:∃v,cs[64]? =jB v:=⟨cs[64],by simp[hcs]⟩;have R:wr.cell? ⟨w.1.size,64,jC⟩=jB Q:=by rw[cell_of_row _ _ _ _ _ (0,0) a];exact F
   have S:=frozen_of_row wr w.1.size 64 _ _ a;by_cases c:16<=u
   ·have d16:decide (16<=u)=jD:=by simpa using c
    have hand:bits .and .u64 (u:Int) 15=((u%16:Nat):Int):=by
     have h:=QG (x:=u) (y:=15) ω ω;rw[show((15:Nat):Int)=15 from rfl]at h;rw[h,show(15:Nat)=2^4-1 from rfl,Nat.and_two_pow_sub_one_eq_mod]
    obtain⟨m,hm⟩:=xQ (u%16);have G:m<16:=ω;have X:m<36:=ω;have g:=ZR m G;obtain⟨D,n⟩:=xQ (Ck.getD m 0);have Z:Hd (Ck.getD (u%16) 0=D):=dh (by rw[hm];exact n);rw[n]at g;rw[hm]at hand;clear hm n;go_wp2_with fail
    go_roundw
    case rel=>
     refine⟨_,heap_setCell_same wr w.1.size 64 _ _ (.int .u8 D) a,by simp[hcs],q.setCell (p:=⟨w.1.size,64,jC⟩) lR _,.inr ⟨c,rfl,rfl,?_⟩⟩;rw[Z.o];simp[hcs]
    case measure=>simp[intOf];omega
   ·have d16:decide (16<=u)=jE:=by simpa using c
    have b:u<16:=ω;have H:u<36:=ω;have g:=ZR u b;have s:Hd (xZ u=[Ck.getD u 0]):=dh (by unfold xZ;rw[jd b]);obtain⟨D,n⟩:=xQ (Ck.getD u 0);rw[n]at g s;obtain⟨W1,j⟩:=xQ (wr.setCell ⟨w.1.size,64,jC⟩ (.int .u8 D));have K:W1.1[w.1.size]? =jB (.cells (cs.setIfInBounds 64 (.int .u8 D)) 247 (0,0)):=by rw[<-j];exact heap_setCell_same wr w.1.size 64 _ _ (.int .u8 D) a
    have r:W1.cell? ⟨w.1.size,64,jC⟩=jB (.int .u8 D):=by rw[cell_of_row _ _ _ _ _ (0,0) K];simp[hcs]
    have T:=run_convert_bytes_arg (P:=jJ) W1 197 5 Tryz.underlying197 Tryz.underlying5 w.1.size 64 1 1 [D] rfl (λi hi=>by
     have:i=0:=ω;subst this;exact r) 9 Tryz.underlying9
    have U:Hd (Below w.1.size w W1):=dh (by rw[<-j];exact q.setCell (p:=⟨w.1.size,64,jC⟩) lR _);clear n;go_wp2_with fail
    go_ret2
    exact⟨by rw[s.out];rfl,U.o⟩
  ·obtain⟨v63,I⟩:∃v,cs[63]? =jB v:=⟨cs[63],by simp[hcs]⟩;have R:wr.cell? ⟨w.1.size,63,jC⟩=jB v63:=by rw[cell_of_row _ _ _ _ _ (0,0) a];exact I
   have S:=frozen_of_row wr w.1.size 63 _ _ a;have k:wr.cell? ⟨w.1.size,64,jC⟩=jB (.int .u8 (Ck.getD (u%16) 0)):=by rw[cell_of_row _ _ _ _ _ (0,0) a];exact d
   obtain⟨m,hm⟩:=xQ (u/16);have J:(u:Int)/16=(m:Int):=ω;have b:m<16:=ω;have H:m<36:=ω;have d16:decide (16<=m)=jE:=by simp;omega
   have g:=ZR m b;have s:Hd (xZ u=[Ck.getD m 0,Ck.getD (u%16) 0]):=dh (by unfold xZ;rw[d9 ω,hm]);obtain⟨D,n⟩:=xQ (Ck.getD m 0);obtain⟨E,V⟩:=xQ (Ck.getD (u%16) 0);rw[n]at g s;rw[V]at k s;obtain⟨W1,j⟩:=xQ (wr.setCell ⟨w.1.size,63,jC⟩ (.int .u8 D));have K:W1.1[w.1.size]? =jB (.cells (cs.setIfInBounds 63 (.int .u8 D)) 247 (0,0)):=by rw[<-j];exact heap_setCell_same wr w.1.size 63 _ _ (.int .u8 D) a
   have r:W1.cell? ⟨w.1.size,63,jC⟩=jB (.int .u8 D):=by rw[cell_of_row _ _ _ _ _ (0,0) K];simp[hcs]
   have W:W1.cell? ⟨w.1.size,64,jC⟩=jB (.int .u8 E):=by
    rw[cell_of_row _ _ _ _ _ (0,0) K,Array.getElem?_setIfInBounds_ne δ,d,V]
   have T:=run_convert_bytes_arg (P:=jJ) W1 197 5 Tryz.underlying197 Tryz.underlying5 w.1.size 63 2 2 [D,E] rfl (λi hi=>by
    have:i=0\/i=1:=ω;rcases this with rfl|rfl
    ·exact r
    ·exact W) 9 Tryz.underlying9
   have U:Hd (Below w.1.size w W1):=dh (by rw[<-j];exact q.setCell (p:=⟨w.1.size,63,jC⟩) lR _);rw[J];clear n V hm J d k c;go_wp2_with fail
   go_ret2
   exact⟨by rw[s.out];rfl,U.o⟩
theorem adk (u:Nat)(hu:u<256)(w)(a:xJ w):
  Calls jJ 161 #[.int .u64 (u:Int),.int .i64 16] w λe w'=>e=.returned (.string (strOfNums (xZ u)))/\Below w.1.size w w':=by
 have H:=dh (Xf u hu w a);go_enter Tryz.func161,Tryz.ntmps161;go_wp2_with fail
 refine Calls.mono H ?_;rintro e w' ⟨rfl,hb⟩;go_wp2_with fail
 go_ret
 exact⟨rfl,hb⟩
theorem SE (u:Nat)(hu:u<256)(w)(a:xJ w):
  Calls jJ 140 #[.int .u64 (u:Int),.int .i64 16] w λe w'=>e=.returned (.string (strOfNums (xZ u)))/\Below w.1.size w w':=by
 have H:=dh (adk u hu w a);go_enter Tryz.func140,Tryz.ntmps140;go_wp2_with fail
 refine Calls.mono H ?_;rintro e w' ⟨rfl,hb⟩;go_wp2_with fail
 go_ret
 exact⟨rfl,hb⟩
def zu (n:Nat):List Int:=if n<10 then[48+(n:Int)]else[48+(n/10:Nat),48+(n%10:Nat)]
theorem ajM:∀n:Nat,n<10->({data:=#[48,49,50,51,52,53,54,55,56,57,97,98,99,100,101,102,103,104,105,106,107,108,109,110,111,112,113,114,115,116,117,118,119,120,121,122]}:ByteArray).extract n (n+1)=strOfNums (zu n):=by
 have h:∀n:Fin 10,(({data:=#[48,49,50,51,52,53,54,55,56,57,97,98,99,100,101,102,103,104,105,106,107,108,109,110,111,112,113,114,115,116,117,118,119,120,121,122]}:ByteArray).extract n.val (n.val+1)).data=(strOfNums (zu n.val)).data:=by decide +kernel
 intro n a;exact ByteArray.ext (h ⟨n,a⟩)
def aef:ByteArray:={data:=#[48,48,48,49,48,50,48,51,48,52,48,53,48,54,48,55,48,56,48,57,49,48,49,49,49,50,49,51,49,52,49,53,49,54,49,55,49,56,49,57,50,48,50,49,50,50,50,51,50,52,50,53,50,54,50,55,50,56,50,57,51,48,51,49,51,50,51,51,51,52,51,53,51,54,51,55,51,56,51,57,52,48,52,49,52,50,52,51,52,52,52,53,52,54,52,55,52,56,52,57,53,48,53,49,53,50,53,51,53,52,53,53,53,54,53,55,53,56,53,57,54,48,54,49,54,50,54,51,54,52,54,53,54,54,54,55,54,56,54,57,55,48,55,49,55,50,55,51,55,52,55,53,55,54,55,55,55,56,55,57,56,48,56,49,56,50,56,51,56,52,56,53,56,54,56,55,56,56,56,57,57,48,57,49,57,50,57,51,57,52,57,53,57,54,57,55,57,56,57,57]}
theorem ajg:∀n:Nat,10<=n->n<100->aef.extract (n*2) (n*2+2)=strOfNums (zu n):=by
 have h:∀n:Fin 90,(aef.extract ((n.val+10)*2) ((n.val+10)*2+2)).data=(strOfNums (zu (n.val+10))).data:=by decide +kernel
 intro n a b;have:=h ⟨n-10,ω⟩;dsimp only at this;rw[show n-10+10=n by omega]at this;exact ByteArray.ext this
theorem abS (n:Nat)(d:n<100)(w):Calls jJ 172 #[.int .i64 (n:Int)] w λe w'=>e=.returned (.string (strOfNums (zu n)))/\w'=w:=by
 by_cases b:n<10
 ·have d10:decide (n<10)=jD:=by simpa using b
  go_enter Tryz.func172,Tryz.ntmps172;have a:=ajM n b;go_wp2_with fail
  go_ret
  exact⟨by first|rfl|(rw[a];rfl),rfl⟩
 ·have d10:decide (n<10)=jE:=by simpa using b
  go_enter Tryz.func172,Tryz.ntmps172;have a:=ajg n ω d;have c:=dh a;clear a;go_wp2_with fail
  go_ret
  exact⟨jM (λs=>Ending.returned (.string s)) c.o,rfl⟩
theorem ZK (n:Nat)(a:n<100)(w):Calls jJ 176 #[.int .i64 (n:Int),.int .i64 10] w λe w'=>e=.returned (.string (strOfNums (zu n)))/\w'=w:=by
 have H:=dh (abS n a w);have d0:decide (0<=(n:Int))=jD:=ς;have d1:decide (n<100)=jD:=by simpa using a
 go_enter Tryz.func176,Tryz.ntmps176;go_wp2_with fail
 refine Calls.mono H ?_;rintro e w' ⟨rfl,rfl⟩;go_wp2_with fail
 go_ret
 exact⟨rfl,rfl⟩
theorem Zw (n:Nat)(a:n<100)(w):Calls jJ 162 #[.int .i64 (n:Int)] w λe w'=>e=.returned (.string (strOfNums (zu n)))/\w'=w:=by
 have H:=dh (ZK n a w);go_enter Tryz.func162,Tryz.ntmps162;go_wp2_with fail
 refine Calls.mono H ?_;rintro e w' ⟨rfl,rfl⟩;go_wp2_with fail
 go_ret
 exact⟨rfl,rfl⟩
theorem WJ (n:Nat)(a:n<100)(w):Calls jJ 141 #[.int .i64 (n:Int)] w λe w'=>e=.returned (.string (strOfNums (zu n)))/\w'=w:=by
 have H:=dh (Zw n a w);go_enter Tryz.func141,Tryz.ntmps141;go_wp2_with fail
 refine Calls.mono H ?_;rintro e w' ⟨rfl,rfl⟩;go_wp2_with fail
 go_ret
 exact⟨rfl,rfl⟩
set_option maxHeartbeats 4000000
set_option maxRecDepth 100000
theorem UL (b w)(i:q9 w b 0 (.pointer jC))(a:w.shape? b=jB (200,2))(g:w.frozen? ⟨b,0,jC⟩=jE):
  Calls jJ 160 #[.pointer (jB ⟨b,0,jC⟩)] w λe w'=>e=.returned (.tuple #[])/\w'=w.setCell ⟨b,0,jC⟩ (.pointer (jB ⟨b,0,jC⟩)):=by
 go_enter Tryz.func160,Tryz.ntmps160;obtain⟨j,d,c⟩:=mH.1 (show(Tryz.prog.info? 200).map (·.size)=jB 2 by kernel_rfl);go_wp2
 rw[Lib.run_to_unsafe w ⟨b,0,jC⟩ Tryz.underlying198 Tryz.underlying231 d (by rw[c];decide) a (Nat.zero_lt_succ 1)];simp only[Result.andThen];rw[Oper.upon_value];go_wp2
 rw[run_callFunc_extern Tryz.func171 κ κ κ (e:=Extern.AbiNoEscape.same) κ];rw[Lib.run_noEscape];simp only[Result.andThen];rw[Oper.upon_value];go_wp2
 rw[Lib.run_from_unsafe w ⟨b,0,jC⟩ Tryz.underlying231 Tryz.underlying198 d a κ];simp only[Result.andThen];rw[Oper.upon_value];go_wp2
 go_end0
 exact⟨rfl,rfl⟩
abbrev Bld (B b:Nat)(bs:List Value)(w:jF):Prop:=Lib.IsBuilder 200 5 B b bs w
theorem XH (b w)(c:q9 w b 0 (.pointer (jB ⟨b,0,jC⟩))):
  Calls jJ 160 #[.pointer (jB ⟨b,0,jC⟩)] w λe w'=>e=.returned (.tuple #[])/\w'=w:=by
 go_enter Tryz.func160,Tryz.ntmps160;obtain⟨j,a,_⟩:=mH.1 (show(Tryz.prog.info? 200).map (·.size)=jB 2 by kernel_rfl);go_wp2
 rw[Lib.run_neq_ptr_same w _ Tryz.underlying198 a];go_wp2
 go_end0
 exact⟨rfl,rfl⟩
theorem QE (B b bs w)(h:Bld B b bs w):
  Calls jJ 160 #[.pointer (jB ⟨b,0,jC⟩)] w λe w'=>e=.returned (.tuple #[])/\(Lib.BuilderAt 200 5 B b (.pointer (jB ⟨b,0,jC⟩)) bs w'/\Below B w w'):=by
 rcases h with h|h
 ·refine(UL b w h.cell0 h.shape h.frozen0).mono ?_;rintro e w' ⟨rfl,rfl⟩;exact⟨rfl,h.used _,(Below.refl B w).setCell (p:=⟨b,0,jC⟩) h.1 _⟩
 ·refine(XH b w h.cell0).mono ?_;rintro e w' ⟨rfl,rfl⟩;exact⟨rfl,h,Below.refl B _⟩
theorem infoByte:∃i,Tryz.prog.info? 5=jB i/\i.zero=jB (.int .u8 0)/\i.size=1/\i.bytes=1:=by
 obtain⟨i,b,a⟩:=mH.1 (show(Tryz.prog.info? 5).map (λi=>(i.zero,i.size,i.bytes))=jB (jB (.int .u8 0),1,1) by kernel_rfl);simp only[Prod.mk.injEq]at a;exact⟨i,b,a.1,a.2.1,a.2.2⟩
theorem XE (B b bs)(s:ByteArray)(w)(h:Bld B b bs w)(hlen:η bs+s.size<=140737488355328)(y:B<=w.1.size):
  Calls jJ 139 #[.pointer (jB ⟨b,0,jC⟩),.string s] w λe w'=>e=.returned (.tuple #[.int .i64 s.size,.nilIface])/\(Lib.BuilderAt 200 5 B b (.pointer (jB ⟨b,0,jC⟩)) (bs++Lib.strCells s) w'/\Below B w w'):=by
 obtain⟨i0,hi,m,n,o⟩:=infoByte;have z:=dh (QE B b bs w h);go_enter Tryz.func139,Tryz.ntmps139;go_wp2_with fail
 refine Calls.mono z ?_;rintro e w1 ⟨rfl,C,l⟩;obtain⟨u,v,d,j,q⟩:=C;have E:w1.cell? ⟨b,0,jC⟩=jB (.pointer (jB ⟨b,0,jC⟩)):=by rw[Lib.cell_of_heap d];rfl
 have c1:w1.cell? ⟨b,1,jC⟩=jB v:=by rw[Lib.cell_of_heap d];rfl
 go_wp2_with (at_builtin;refine Lib.wpList_append_own_string _ rfl _ _ 197 9 rfl B 5 i0 Tryz.underlying197 Tryz.underlying9 hi m n o _ _ _ rfl j s rfl ?c3 ?c4 ?c5 ?_)
 case c3=>unfold maxLen;omega
 case c4=>omega
 case c5=>have:=l.size;omega
 intro v' w2 a c _;have r:=rX d
 have i:w2.1[b]? =jB (.cells #[.pointer (jB ⟨b,0,jC⟩),v] 200 (0,0)):=by
  rw[c.block b r (λe=>q e.symm)];exact d
 have d0:w2.cell? ⟨b,0,jC⟩=jB (.pointer (jB ⟨b,0,jC⟩)):=by rw[Lib.cell_of_heap i];rfl
 have d1:w2.cell? ⟨b,1,jC⟩=jB v:=by rw[Lib.cell_of_heap i];rfl
 have f1:=Lib.frozen_of_heap i 1
 obtain⟨x,n',cap,rfl⟩:∃x n' cap,v'=.slice x n' cap:=by
  rcases a.2 with⟨hv,_⟩|⟨g,cap,cur,hv,_⟩
  ·exact⟨_,_,_,hv⟩
  ·exact⟨_,_,_,hv⟩
 go_wp2
 go_ret2
 refine⟨rfl,?_,?_⟩
 ·exact Lib.BuilderAt.put (T:=200) (e:=5) u i (bs':=bs++Lib.strCells s) (by simpa[Lib.strCells_length]using a) δ
 ·exact(l.grown c (by have:=l.size;omega) (λk D=>(j.lt k D).1)).setCell (p:=⟨b,1,jC⟩) u _
theorem XF (B b bs c w)(h:Bld B b bs w)(hlen:η bs+1<=140737488355328)(C:B<=w.1.size):
  Calls jJ 142 #[.pointer (jB ⟨b,0,jC⟩),.int .u8 c] w λe w'=>e=.returned .nilIface/\(Lib.BuilderAt 200 5 B b (.pointer (jB ⟨b,0,jC⟩)) (bs++[.int .u8 c]) w'/\Below B w w'):=by
 obtain⟨i0,hi,q,r,s⟩:=infoByte;have D:=dh (QE B b bs w h);go_enter Tryz.func142,Tryz.ntmps142;go_wp2_with fail
 refine Calls.mono D ?_;rintro e w1 ⟨rfl,E,i⟩;obtain⟨z,v,l,n,x⟩:=E;have G:w1.cell? ⟨b,0,jC⟩=jB (.pointer (jB ⟨b,0,jC⟩)):=by rw[Lib.cell_of_heap l];rfl
 have c1:w1.cell? ⟨b,1,jC⟩=jB v:=by rw[Lib.cell_of_heap l];rfl
 go_wp2_with (at_builtin;refine wpList_append_own _ rfl _ _ 197 rfl B 5 i0 (.int .u8 0) 1 1 Tryz.underlying197 hi q r s rfl δ _ _ _ rfl (n.alloc _) ⟨w1.1.size,0,jC⟩ 1 1 [.int .u8 c] rfl rfl ?c1 ?c2 ?c3 ?c4 ?c5 ?_)
 case c1=>
  intro j u o
  match j,o with
  |0,o=>simp at o;subst o;simp[Addr.add]
 case c2=>intro u hu;simp at hu;subst hu;rfl
 case c3=>unfold maxLen;omega
 case c4=>omega
 case c5=>have:=i.size;simp;omega
 intro v' w2 a d _;have y:=rX l
 have m:w2.1[b]? =jB (.cells #[.pointer (jB ⟨b,0,jC⟩),v] 200 (0,0)):=by
  rw[d.block b (by simp;omega) (λe=>x e.symm),Lib.alloc_old w1 _ b y];exact l
 have d0:w2.cell? ⟨b,0,jC⟩=jB (.pointer (jB ⟨b,0,jC⟩)):=by rw[Lib.cell_of_heap m];rfl
 have d1:w2.cell? ⟨b,1,jC⟩=jB v:=by rw[Lib.cell_of_heap m];rfl
 have f1:=Lib.frozen_of_heap m 1
 obtain⟨g,cap,rfl⟩:∃g cap,v'=.slice (jB ⟨g,0,jC⟩) (η bs+1) cap:=by
  rcases a.2 with⟨_,H⟩|⟨g,cap,cur,hv,_⟩
  ·omega
  ·exact⟨g,cap,hv⟩
 go_wp2
 go_ret
 refine⟨rfl,?_,?_⟩
 ·exact Lib.BuilderAt.put (T:=200) (e:=5) z m (bs':=bs++[.int .u8 c]) (by simpa using a) δ
 ·exact((i.alloc (by have:=i.size;omega) _).grown d (by have:=i.size;simp;omega) (λk F=>(n.lt k F).1)).setCell (p:=⟨b,1,jC⟩) z _
theorem XG (B b l w)(h:Bld B b (Lib.byteCells l) w)(u:l≠[]):
  Calls jJ 143 #[.pointer (jB ⟨b,0,jC⟩)] w λe w'=>e=.returned (.string ⟨l.toArray⟩)/\Below B w w':=by
 obtain⟨p,H,v,c,a,k⟩:∃p,Lib.BuilderAt 200 5 B b p (Lib.byteCells l) w:=by
  rcases h with h|h
  ·exact⟨_,h⟩
  ·exact⟨_,h⟩
 have d:η l≠0:=by simpa using u
 rw[Lib.byteCells_length]at a
 obtain⟨g,cap,cur,rfl,m,y,z,n,hcs,o⟩:∃g cap cur,v=.slice (jB ⟨g,0,jC⟩) (η l) cap/\B<=g/\w.1[g]? =jB (.cells cur 5 (0,0))/\η l<=cap/\cap<=maxLen/\cur.size=cap*1/\cur.toList.take (η l*1)=Lib.byteCells l:=by
  rcases a.2 with⟨_,C⟩|⟨g,cap,cur,hv,r⟩
  ·exact absurd C d
  ·exact⟨g,cap,cur,hv,r⟩
 have c1:w.drew.cell? ⟨b,1,jC⟩=jB (.slice (jB ⟨g,0,jC⟩) (η l) cap):=by
  have:w.drew.1[b]? =jB (.cells #[p,.slice (jB ⟨g,0,jC⟩) (η l) cap] 200 (0,0)):=c;rw[Lib.cell_of_heap this];rfl
 have D:(Builtin.unsafeSliceData_ #[197] 222 #[.slice (jB ⟨g,0,jC⟩) (η l) cap]).run jJ w.drew=.ok (.pointer (jB ⟨g,0,jC⟩)) w.drew:=
  Lib.run_unsafeSliceData_row _ _ _ _ _ _ ω
 have E:(Builtin.unsafeString_ #[222,3] 9 #[.pointer (jB ⟨g,0,jC⟩),.int .i64 (η l)]).run jJ w.drew=.ok (.string ⟨l.toArray⟩) (w.drew.freeze ⟨g,0,jC⟩ (η l)):=by
  refine Lib.run_unsafeString_row w.drew 222 3 9 5 Tryz.underlying222 κ g cur.size (by have q:w.drew.1[g]? =jB (.cells cur 5 (0,0)):=y;simp[jF.shape?,q]) l u ω (by unfold maxLen at n;omega) ?_;intro j x F;have:=a.cells (g:=g) rfl j (.int .u8 x.toNat) (by simp[Lib.byteCells,F]);exact this
 go_enter Tryz.func143,Tryz.ntmps143;have G:w.cell? ⟨b,1,jC⟩=jB (.slice (jB ⟨g,0,jC⟩) (η l) cap):=by rw[Lib.cell_of_heap c];rfl
 go_wp2
 have s:(w.drew.freeze ⟨g,0,jC⟩ (η l)).cell? ⟨b,1,jC⟩=jB (.slice (jB ⟨g,0,jC⟩) (η l) cap):=by
  have hb:(w.drew.freeze ⟨g,0,jC⟩ (η l)).1[b]? =w.drew.1[b]? :=by
   unfold jF.freeze;rw[d9 d];simp only[Array.getElem?_modify];rw[d9 (λe=>k (by rw[<-e];rfl))]
  rw[El hb];exact c1
 refine wp_region_held_drew (S:=λw'=>q9 w' b 1 (.slice (jB ⟨g,0,jC⟩) (η l) cap)) κ G (λhS=>?_);refine qU 0 ?_;refine qU 1 ?_;refine qU 2 ?_;refine qU 3 ?_;refine qU 5 ?_;refine qU 6 ?_;refine qU 7 ?_;refine qU 8 ?_;refine qU 9 ?_;refine rR 4 (λK i=>?_);go_simp;refine i _ _ c1 (λhS=>?_);clear i;refine rR 10 (λK i=>?_);go_simp;refine i _ _ s (λhS=>?_);clear i;refine qU 11 ?_;refine wpAnyH_done κ ?_ _;go_wp2
 go_ret
 exact⟨rfl,Lib.below_freeze (Below.drew (Below.refl B w)) (p:=⟨g,0,jC⟩) m _⟩
theorem KN {s:Int}:∀{a b x y:List Int},s∉a->s∉b->a++s::x=b++s::y->a=b/\x=y
 |[],[],x,y,_,_,h=>by simpa using h
 |[],c::b,x,y,_,hb,h=>by
  simp only[lM,lu,oU]at h;exact absurd (jk.2 (.inl h.1)) hb
 |c::a,[],x,y,e,_,h=>by
  simp only[lM,lu,oU]at h;exact absurd (jk.2 (.inl h.1.symm)) e
 |c::a,d::b,x,y,e,hb,h=>by
  simp only[lu,oU]at h;obtain⟨f,g⟩:=KN (a:=a) (b:=b) (λh=>e (jc _ h)) (λh=>hb (jc _ h)) h.2;exact⟨by rw[h.1,f],g⟩
theorem Uz:∀m n:Nat,m<16->n<16->Ck.getD m 0=Ck.getD n 0->m=n:=by
 have h:∀m n:Fin 16,Ck.getD m.val 0=Ck.getD n.val 0->m=n:=by decide +kernel
 intro m n hm a e;have:=h ⟨m,hm⟩ ⟨n,a⟩ e;exact jM Fin.val this
theorem UA:∀m:Nat,m<16->48<=Ck.getD m 0/\Ck.getD m 0≠59/\Ck.getD m 0<=102:=by
 have h:∀m:Fin 16,48<=Ck.getD m.val 0/\Ck.getD m.val 0≠59/\Ck.getD m.val 0<=102:=by decide +kernel
 exact λm hm=>h ⟨m,hm⟩
theorem hex_inj {v:Nat}(hu:u<256)(hv:v<256)(h:xZ u=xZ v):u=v:=by
 unfold xZ at h;split at h<;>split at h
 ·rename_i b a;injection h with h
  exact Uz u v b a h
 ·injection h with _ h;cases h
 ·injection h with _ h;cases h
 ·injection h with b a
  injection a with a
  have e1:=Uz _ _ ω ω b;have e2:=Uz _ _ ω ω a;omega
theorem MG (hu:u<256):(32:Int)∉xZ u/\(59:Int)∉xZ u/\∀x∈xZ u,0<=x/\x<=255:=by
 have a:∀x∈xZ u,48<=x/\x≠59/\x<=102:=by
  intro x b;unfold xZ at b;split at b
  ·rw[mS]at b;subst b;exact UA u ω
  ·simp only[jk,kC,nA]at b;rcases b with rfl|rfl
   ·exact UA _ ω
   ·exact UA _ ω
 exact⟨λh=>by have:=(a _ h).1;omega,λh=>(a _ h).2.1 rfl,λx b=>by have:=a x b;omega⟩
theorem ahU {v:Nat}(_hu:u<100)(_hv:v<100)(h:zu u=zu v):u=v:=by
 unfold zu at h;split at h<;>split at h
 ·injection h with h;omega
 ·injection h with _ h;cases h
 ·injection h with _ h;cases h
 ·injection h with b a
  injection a with a
  omega
theorem UD (hu:u<100):(32:Int)∉zu u/\(59:Int)∉zu u/\∀x∈zu u,0<=x/\x<=255:=by
 have a:∀x∈zu u,48<=x/\x<=57:=by
  intro x b;unfold zu at b;split at b
  ·rw[mS]at b;subst b;omega
  ·simp only[jk,kC,nA]at b;rcases b with rfl|rfl<;>omega
 exact⟨λh=>by have:=(a _ h).1;omega,λh=>by have:=(a _ h).2;omega,λx b=>by have:=a x b;omega⟩
def vR (l:List Nat):List Int:=l.flatMap (λn=>zu n++[32])
theorem Qb:∀{l m:List Nat},(∀x∈l,x<100)->(∀x∈m,x<100)->vR l=vR m->l=m
 |[],[],_,_,_=>rfl
 |[],y::m,_,_,h=>by
  have:=jM List.length h;simp[vR]at this
 |x::l,[],_,_,h=>by
  have:=jM List.length h;simp[vR]at this
 |x::l,y::m,hl,hm,h=>by
  simp only[vR,l8,lg,lu,lM]at h;obtain⟨b,c⟩:=KN (UD (hl x ς)).1 (UD (hm y ς)).1 h;rw[ahU (hl x ς) (hm y ς) b,Qb (λz a=>hl z (by simp[a])) (λz a=>hm z (by simp[a])) c]
theorem Oj {l:List Nat}(h:∀x∈l,x<100):(59:Int)∉vR l/\∀x∈vR l,0<=x/\x<=255:=by
 constructor
 ·intro c;obtain⟨n,b,a⟩:=pq.1 c;rcases jo.1 a with a|a
  ·exact(UD (h n b)).2.1 a
  ·simp at a
 ·intro x a;obtain⟨n,b,a⟩:=pq.1 a;rcases jo.1 a with a|a
  ·exact(UD (h n b)).2.2 x a
  ·simp at a;omega
def Gi (c:uI):List Int:=xZ c.1++32::(xZ c.2.1++59::(vR (uw c.2.2.1)++59::vR (uw c.2.2.2)))
structure UU (c:uI):Prop where
 need:c.1<256
 ban:c.2.1<256
 next:∀x∈uw c.2.2.1,x<100
 now:∀x∈uw c.2.2.2,x<100
theorem Yz {d:uI}(hc:UU c)(hd:UU d)(h:Gi c=Gi d):c.1=d.1/\c.2.1=d.2.1/\uw c.2.2.1=uw d.2.2.1/\uw c.2.2.2=uw d.2.2.2:=by
 obtain⟨a,h⟩:=KN (MG hc.need).1 (MG hd.need).1 h;obtain⟨b,h⟩:=KN (MG hc.ban).2.1 (MG hd.ban).2.1 h;obtain⟨e,h⟩:=KN (Oj hc.next).1 (Oj hd.next).1 h;exact⟨hex_inj hc.need hd.need a,hex_inj hc.ban hd.ban b,Qb hc.next hd.next e,Qb hc.now hd.now h⟩
set_option maxHeartbeats 4000000
set_option maxRecDepth 100000
def zh (l:List Int):List UInt8:=l.map (λn=>UInt8.ofNat n.toNat)
theorem GK (l):strOfNums l=⟨(zh l).toArray⟩:=rfl
theorem zZ (l m):strOfNums l++strOfNums m=strOfNums (l++m):=by
 apply ByteArray.ext;simp[GK,zh]
theorem WT (u):(strOfNums (xZ u)).size<=2:=by
 rw[strOfNums_size];unfold xZ;grind
def QV (B b:Nat)(l:List Int)(w:jF):Prop:=Bld B b (Lib.byteCells (zh l)) w
theorem aaY (h:Lib.BuilderAt 200 5 B b (.pointer (jB ⟨b,0,jC⟩)) (Lib.byteCells (zh l)++Lib.strCells (strOfNums m)) w):QV B b (l++m) w:=by
 refine .inr ?_
 have e:Lib.byteCells (zh (l++m))=Lib.byteCells (zh l)++Lib.strCells (strOfNums m):=by
  rw[Lib.strCells_eq,GK];simp[zh,Lib.byteCells]
 grind
theorem MQ (h:QV B b l w)(a:B<=w.1.size)(hlen:η l+η m<=1000000):
  Calls jJ 139 #[.pointer (jB ⟨b,0,jC⟩),.string (strOfNums m)] w λe w'=>(∃n:Int,e=.returned (.tuple #[.int .i64 n,.nilIface]))/\QV B b (l++m) w'/\Below B w w':=by
 apply (XE B b _ _ w h (by rw[Lib.byteCells_length,zh,jr,strOfNums_size];omega) a).mono;rintro e w' ⟨rfl,c,d⟩;exact⟨ς,aaY c,d⟩
theorem agf (h:QV B b l w)(a:B<=w.1.size)(hlen:η l<=1000000):
  Calls jJ 142 #[.pointer (jB ⟨b,0,jC⟩),.int .u8 59] w λe w'=>e=.returned .nilIface/\QV B b (l++[59]) w'/\Below B w w':=by
 apply (XF B b _ _ w h (by rw[Lib.byteCells_length,zh,jr];omega) a).mono;rintro e w' ⟨rfl,c,d⟩;exact⟨rfl,aaY c,d⟩
theorem Z5 (h:QV B b l w)(a:l≠[]):
  Calls jJ 143 #[.pointer (jB ⟨b,0,jC⟩)] w λe w'=>e=.returned (.string (strOfNums l))/\Below B w w':=
 XG B b (zh l) w h (by simpa[zh]using a)
theorem E5:∀l:List Nat,η (vR l)<=3*η l
 |[]=>by simp[vR]
 |x::l=>by
  have h:=E5 l;have a:η (zu x)<=2:=by unfold zu;grind
  simp only[vR,l8,lA,jP,lD]at h⊢;omega
theorem R8 (l:List Nat)(k:Nat)(a:k<η l):vR (l.take (k+1))=vR (l.take k)++(zu l[k]++[32]):=by
 unfold vR;rw[rE l k a,List.flatMap_append];simp
theorem aer (need ban:Nat)(hn:need<256)(hb:ban<256)(E1)(e1:Nat)(E2)(e2:Nat)(l1 l2 w)(hT:xJ w)(h1:Sl w w.1.size 1 E1 (η l1) e1 (qO (iE l1)))(h2:Sl w w.1.size 1 E2 (η l2) e2 (qO (iE l2)))(av:∀x∈l1,x<100)(aw:∀x∈l2,x<100)(aN:η l1<=1000)(aO:η l2<=1000):
  Calls jJ 112 #[.agg #[.int .u64 (need:Int),.int .u64 (ban:Int),.slice E1 (η l1) e1,.slice E2 (η l2) e2]] w λe w'=>e=.returned (.string (strOfNums (xZ need++32::(xZ ban++59::(vR l1++59::vR l2)))))/\Below w.1.size w w':=by
 obtain⟨q,p0,q0,z0⟩:=ah4 w (.cells #[.int .u64 need,.int .u64 ban,.slice E1 (η l1) e1,.slice E2 (η l2) e2] 90) (.cells #[.pointer jC,.slice jC 0 0] 200);obtain⟨s,Q⟩:=xQ ((w.alloc (.cells #[.int .u64 need,.int .u64 ban,.slice E1 (η l1) e1,.slice E2 (η l2) e2] 90)).alloc (.cells #[.pointer jC,.slice jC 0 0] 200));rw[Q]at q p0 q0 z0;have ax:=dh Q;have ad:=zW hT q;have K3:Hd (s.cell? ⟨_,3,_⟩=jB (.slice _ _ _)):=dh (by rw[cell_of_row _ _ _ _ _ _ p0];rfl);have k0:s.cell? ⟨w.1.size,0,jC⟩=jB (.int .u64 need):=by rw[cell_of_row _ _ _ _ _ _ p0];rfl
 have k1:s.cell? ⟨w.1.size,1,jC⟩=jB (.int .u64 ban):=by rw[cell_of_row _ _ _ _ _ _ p0];rfl
 have k2:s.cell? ⟨w.1.size,2,jC⟩=jB (.slice E1 (η l1) e1):=by rw[cell_of_row _ _ _ _ _ _ p0];rfl
 have k3:s.cell? ⟨w.1.size,3,jC⟩=jB (.slice E2 (η l2) e2):=by rw[cell_of_row _ _ _ _ _ _ p0];rfl
 have F:w.1.size<s.1.size:=ω;have G:Below s.1.size s _:=Below.drew bR;let⟨wd,R⟩:=xQ s.drew
 rw[R]at G;have ay:=dh R;have az:=zW ad G;obtain⟨T,U⟩:=iw (λw' h=>SE _ hn w' h) (λw' h=>SE _ hb w' h);have sA:=WT need;have sB:=WT ban;let⟨H,af⟩:=xQ (strOfNums (xZ need))
 let⟨V,ag⟩:=xQ (strOfNums (xZ ban))
 rw[af]at T sA;rw[ag]at U sB
 have ah:Hd (H++({data:=#[32]})++V++{data:=#[59]}=strOfNums (xZ need++32::(xZ ban++[59]))):=dh (by
  rw[<-af,<-ag,show({data:=#[32]})=strOfNums [32]from rfl,show({data:=#[59]})=strOfNums [59]from rfl,zZ,zZ,zZ];simp)
 have aA:¬9223372036854775807<H.size+1:=ω;have aB:¬9223372036854775807<H.size+1+V.size:=ω;have aj:¬9223372036854775807<(H++({data:=#[32]})).size+V.size:=by rw[qg];show ¬9223372036854775807<H.size+1+V.size;omega
 have aC:¬9223372036854775807<H.size+1+V.size+1:=ω;have ak:¬9223372036854775807<(H++({data:=#[32]})++V).size+1:=by rw[qg,qg];show ¬9223372036854775807<H.size+1+V.size+1;omega
 clear Q R;go_enter Tryz.func112,Tryz.ntmps112;go_wp2
 rw[ax.o];have aL:QV _ _ [] _:=.inl ⟨lR,_,q0,jF.ownsRow_nil _ _ _ _,by simp[Value.ownBlock]⟩;have v:w.1.size+1<=s.1.size:=ω
 have hpl:η (xZ need++32::(xZ ban++[59]))<=6:=by
  have h1:η (xZ need)<=2:=by unfold xZ;split<;>simp
  have h2:η (xZ ban)<=2:=by unfold xZ;split<;>simp
  simp only[lA,jP,lD];omega
 refine wp_region_held_drew (S:=λw'=>q9 w' _ 0 _/\q9 w' _ 1 _) rfl ⟨k0,k1⟩ (λhS=>?_);apply qU 0;apply qU 1;apply qU 4;apply qU 5;refine rR 2 (λK I=>?_);go_simp;rw[ay.o];apply Calls.mono (T _ az);rintro e w1 ⟨rfl,J⟩;have y:=G.trans (J.mono G.size);clear J;dsimp;refine I _ _ ⟨bC y F k0,bC y F k1⟩ (λhS=>?_);clear I;apply qU 3;refine rR 6 (λK I=>?_);go_simp;apply Calls.mono (U _ (zW ad y));rintro e w2 ⟨rfl,L⟩;have z:=y.trans (L.mono y.size);clear L;dsimp;refine I _ _ ⟨bC z F k0,bC z F k1⟩ (λhS=>?_);clear I;apply qU 7;apply qU 8;refine rR 9 (λK I=>?_);go_simp;rw[ah.o];apply Calls.mono (MQ (l:=[]) (.inl ⟨lR,_,(z.block _ (rX q0)).trans q0,jF.ownsRow_nil _ _ _ _,by simp[Value.ownBlock]⟩) (Nat.le_trans v z.size) (by simp only[lD];omega));rintro e w3 ⟨⟨n3,rfl⟩,B,M⟩;have g:=(z.mono v).trans M;clear M;dsimp;refine I _ _ ⟨bC g ω k0,bC g ω k1⟩ (λhS=>?_);clear I;refine wpAnyH_done rfl ?_ _;clear aA aB aj aC ak T U;have ao:=q.trans ((g.mono ω));have C:=dh hpl;let⟨c,p⟩:=xQ (xZ need++32::(xZ ban++[59]))
 rw[p]at C;have W:=dh p;rw[lM,p]at B;have aP:=bC g ω k2;have aQ:=bC g ω k3;have d:=B;have r:=g;have X:=C;clear k0 k1 k2 k3 p B g ao hpl;go_wp2
 have aD:=dh av;have N:QV (w.1.size+1) (w.1.size+1) (c++vR (l1.take 0)) w3:=by simpa[vR]using d
 clear d;go_loopw [21] (λi wr=>∃k,k<=η l1/\i=.int .i64 k/\QV (w.1.size+1) (w.1.size+1) (c++vR (l1.take k)) wr/\Below (w.1.size+1) s wr) (λi _=>η l1-(intOf i).toNat)
 case atStart=>exact⟨0,ω,rfl,N,r⟩
 case round=>
  clear N r;obtain⟨k,hk,rfl,m,a⟩:=hrel;by_cases n:k<η l1
  ·have Y:=q.trans (a.mono ω);obtain⟨b,o,rfl,_,hc⟩:=(h1.below Y lR).rd.at_ (j:=k) (u:=.int .i64 (l1[k])) (by simp[qO,iE,n]);have hx:=aD _ (mM n);have D:=R8 _ k n;have E:=E5 (l1.take k);have Z:η (zu l1[k])<=2:=by unfold zu;split<;>simp
   generalize l1[k]=x at *;have aE:¬9223372036854775807<(strOfNums (zu x)).size+1:=by rw[strOfNums_size];omega
   have a1:Hd (strOfNums _++({data:=#[32]})=strOfNums (zu x++[32])):=dh (by rw[show({data:=#[32]})=strOfNums [32]from rfl,zZ]);have a6:=dh D;have h0:0<=(k:Int):=ω;have aF:k<(η l1:Int):=ω;have wi:IntKind.i64.wrap (k+1)=k+1:=by rw[wI];omega
   have hlen:η (c++vR (l1.take k))+η (zu x++[32])<=1000000:=by
    have hP:=X.o;rw[jq]at E;simp only[lA,jP,lD]at hP⊢;omega
   have HI:=dh (WJ x hx);clear D E Z hx;go_wp2_with fail
   apply Calls.mono (HI _);rintro e w' ⟨rfl,rfl⟩;go_wp2_with fail
   rw[a1.o];apply Calls.mono (MQ m (Nat.le_trans v a.size) hlen);rintro e aG ⟨⟨n2,rfl⟩,aq,a7⟩;go_wp2
   go_roundw
   case rel=>exact⟨k+1,ω,by go_num,by rwa [a6.o,<-lg],a.trans (a7.mono lR)⟩
   case measure=>simp[intOf];omega
  ·have ar:k=η l1:=ω;subst ar;rw[kH]at m;have au:=bC a ω K3.o
   have aH:η (c++vR l1)<=3006:=by
    have h:=E5 l1;have hP:=C.o;rw[lA];omega
   go_wp2_with fail
   apply Calls.mono (agf m (Nat.le_trans v a.size) ω);rintro e w5 ⟨rfl,d,O⟩;have r:=a.trans (O.mono lR);have aM:=bC r ω K3.o;clear O a m au;have a8:Hd (η (c++vR l1++[59])<=3007):=dh (by rw[lA,jU];omega);clear aH;go_wp2
   have aJ:=dh aw;have P:QV (w.1.size+1) (w.1.size+1) (c++vR l1++[59]++vR (l2.take 0)) w5:=by simpa[vR]using d
   clear d;go_loopw [34] (λi wr=>∃k,k<=η l2/\i=.int .i64 k/\QV (w.1.size+1) (w.1.size+1) (c++vR l1++[59]++vR (l2.take k)) wr/\Below (w.1.size+1) s wr) (λi _=>η l2-(intOf i).toNat)
   case atStart=>exact⟨0,ω,rfl,P,r⟩
   case round=>
    clear P r;obtain⟨k,hk,rfl,m,a⟩:=hrel;by_cases n:k<η l2
    ·have Y:=q.trans (a.mono ω);obtain⟨b,o,rfl,_,hc⟩:=(h2.below Y lR).rd.at_ (j:=k) (u:=.int .i64 (l2[k])) (by simp[qO,iE,n]);have hx:=aJ _ (mM n);have D:=R8 _ k n;have E:=E5 (l2.take k);have Z:η (zu l2[k])<=2:=by unfold zu;split<;>simp
     generalize l2[k]=x at *;have aE:¬9223372036854775807<(strOfNums (zu x)).size+1:=by rw[strOfNums_size];omega
     have a1:Hd (strOfNums _++({data:=#[32]})=strOfNums (zu x++[32])):=dh (by rw[show({data:=#[32]})=strOfNums [32]from rfl,zZ]);have a6:=dh D;have h0:0<=(k:Int):=ω;have aF:k<(η l2:Int):=ω;have wi:IntKind.i64.wrap (k+1)=k+1:=by rw[wI];omega
     have hlen:η (c++vR l1++[59]++vR (l2.take k))+η (zu x++[32])<=1000000:=by
      have hP:=a8.o;rw[jq]at E;simp only[lA,jP,lD]at hP⊢;omega
     have HI:=dh (WJ x hx);clear D E Z hx;go_wp2_with fail
     apply Calls.mono (HI _);rintro e w' ⟨rfl,rfl⟩;go_wp2_with fail
     rw[a1.o];apply Calls.mono (MQ m (Nat.le_trans v a.size) hlen);rintro e aG ⟨⟨n2,rfl⟩,aq,a7⟩;go_wp2
     go_roundw
     case rel=>exact⟨k+1,ω,by go_num,by rwa [a6.o,<-lg],a.trans (a7.mono lR)⟩
     case measure=>simp[intOf];omega
    ·have ar:k=η l2:=ω;go_wp2_with fail
     apply Calls.mono (Z5 m ς);rintro e w7 ⟨rfl,aK⟩;go_wp2
     go_ret
     refine⟨?_,q.trans ((a.mono ω).trans (aK.mono ω))⟩;rw[<-W.o];simp
set_option maxHeartbeats 1000000
theorem QK (A c f w B)(hf:Sl w B 2 A (η f) c (qP f))(I:B<=w.1.size)(hl:η f<=1000000000):
  Calls jJ 48 #[.slice A (η f) c] w (sI w 3 1 (η (uh f)) (qO (uh f)) (uh f=[])):=by
 go_enter Tryz.func48,Tryz.ntmps48;go_wp2_with fail
 refine(CZ A c f w B hf I hl).mono ?_;rintro e w1 ⟨v,rfl,d,hb,_⟩;obtain⟨A1,c1,rfl,l⟩:=qX d;clear d l;by_cases hw:wrong f=0
 ·have z:=dh hw;rw[CR hw];clear hw;have M:=hb.size;go_wp2
  go_loopw [3,8] (λu i wr=>∃k:Nat,k<=η f/\i=.int .i64 k/\wr.ownsRow w.1.size 3 1 u (η (EK 0 (f.take k))) (qO (EK 0 (f.take k)))/\Below w.1.size w wr/\w1.1.size<=wr.1.size/\Hd (u=.slice jC 0 0↔EK 0 (f.take k)=[])) (λ_ i _=>η f-(intOf i).toNat)
  case atStart=>exact⟨0,ω,rfl,by simpa[EK,qO]using jF.ownsRow_nil w1 w.1.size 3 1,hb,ω,by simp[Hd,EK]⟩
  case round=>
   obtain⟨k,N,rfl,hu,a,J,C⟩:=hrel;by_cases m:k<η f
   ·obtain⟨b,o,rfl,_,O,P⟩:=vZ (hf.rd.below a I) m;have p:=adV m;have D:=aah (f.take k) 0;rw[jq,mg N]at D;have y:=dh p;clear p;generalize K:f[k]=x at *;obtain⟨op,n⟩:=x;dsimp only at *;have Q:=dh K;clear K;have E:=a.size;by_cases F:op=9
    ·subst F;go_wp2_with (at_builtin;refine rD rfl (.tmp 17) (.tmp 19) 29 rfl w.1.size 3 1 8 rW _ _ _ (hu.alloc _) rfl wr.1.size #[.int .i64 k] rfl (heap_alloc_new wr _) rfl (by simp[Value.oneCell']) ω ω (by simp;omega) ?_;intro v3 w3 j q L r)
     have G:=q.size;simp only[jF.size_alloc]at G;go_roundw
     case rel=>
      refine⟨k+1,ω,by go_num,?_,?_,ω,?_⟩
      ·rw[y.o,jd rfl,sJ,lA];exact j
      ·exact(a.alloc E _).trans (q.below (by simp;omega) (λg R h=>by have:=(hu.lt g h).1;omega))
      ·show _↔_;rw[y.o,jd rfl];simp[r]
     case measure=>simp[intOf];omega
    ·go_wp2
     go_roundw
     case rel=>
      refine⟨k+1,ω,by go_num,?_,a,ω,?_⟩
      ·rw[y.o,d9 F,kZ];exact hu
      ·show _↔_;rw[y.o,d9 F,kZ];exact C.o
     case measure=>simp[intOf];omega
   ·have H:k=η f:=ω;subst H;rw[tL lR]at hu C;go_wp2
    go_ret
    have s:uh f=EK 0 f:=by rw[uh,jd z.o]
    exact⟨_,rfl,by rw[s];exact hu,a,by rw[s];exact C.o⟩
 ·have hs:η (spans f)=0:=by rw[(vQ f).2 hw];rfl
  rw[hs];have z:=dh hw;clear hs hw;go_wp2
  refine wp_loop_rounds 1 ?_;rw[rounds_succ];go_wp2
  go_ret
  have s:uh f=[]:=by rw[uh,d9 z.o]
  exact⟨_,rfl,by rw[s];exact jF.ownsRow_nil _ _ _ _,hb,by simp[s]⟩
set_option maxHeartbeats 4000000
set_option maxRecDepth 100000
def Qe (now:List Int)(a:Int):Bool:= !(now.any (a== ·))||now.any (a-1== ·)
def J2 (now:List Int)(p:Nat×Nat)(a:Int):Nat×Nat:=(p.1+1,if(decide (p.1<64)&&Qe now a)=jD then p.2|||2^p.1 else p.2)
def xX (now l:List Int):Nat×Nat:=l.foldl (J2 now) (0,0)
def aaG (f:List Nd)(now:List Int):Nat:=if yh f=jD then(xX now (EK 0 f)).2 else 0
theorem Vv {α:Type}{P:List α->Prop}(b:P [])(c:∀l a,P l->P (l++[a]))(l):P l:=by
 have:∀m:List α,P m.reverse:=λm=>by
  induction m with
  |nil=>exact b
  |cons a m d=>rw[List.reverse_cons];exact c _ _ d
 simpa using this l.reverse
theorem BR (now l a):xX now (l++[a])=J2 now (xX now l) a:=by simp[xX]
theorem FZ (now):∀l,(xX now l).1=η l:=by
 refine Vv rfl (λl a b=>?_);rw[BR,J2,b];simp
theorem Zc {a:Int}(hl:η l<64)(h:Qe now a=jD):(xX now (l++[a])).2=(xX now l).2|||2^η l:=by
 rw[BR,J2,FZ];simp[hl,h]
theorem Zd {a:Int}(hl:64<=η l):(xX now (l++[a])).2=(xX now l).2:=by
 rw[BR,J2,FZ];simp;omega
theorem acT {a:Int}(h:Qe now a=jE):(xX now (l++[a])).2=(xX now l).2:=by
 rw[BR,J2,FZ];simp[h]
theorem TF {a:Int}:∀{f:List Nd} {i:Nat},a∈EK i f->∃(j:Nat) (h:j<η f),a=((i+j:Nat):Int)/\f[j].op=9
 |[],i,h=>by simp[EK]at h
 |x::r,i,h=>by
  have key:∀(h:a∈EK (i+1) r),∃(j:Nat) (h:j<η (x::r)),a=((i+j:Nat):Int)/\(x::r)[j].op=9:=λh=>by
   obtain⟨j,c,e,b⟩:=TF h;exact⟨j+1,by simp;omega,by rw[e];congr 1;omega,by simpa using b⟩
  unfold EK at h;split at h
  ·next b=>
   rcases jk.1 h with e|h
   ·exact⟨0,ς,by rw[e];simp,by simpa using b⟩
   ·exact key h
  ·exact key h
theorem X9 (a:j<64):IntKind.u64.wrap (2^j)=((2^j:Nat):Int):=by
 have hp:2^j<=2^63:=lI ω ω;have e2:(2:Int)^j=((2^j:Nat):Int):=ς;rw[IntKind.wrap_u64,e2];generalize 2^j=c at hp⊢;omega
def akh (w:jF)(n:Nat)(en:Ending)(w':jF):Prop:=en=.returned (.int .u64 (n:Int))/\Below w.1.size w w'
theorem acS (A c f need ban v2 M I N now w B)(hf:Sl w B 2 A (η f) c (qP f))(h4:Sl w B 1 M I N (qO now))(hn:I=η now)(O:B<=w.1.size)(hl:η f<=1000000)(aD:I<=1000000):
  Calls jJ 113 #[.slice A (η f) c,.agg #[.int .u64 need,.int .u64 ban,v2,.slice M I N]] w (akh w (aaG f now)):=by
 have m:Below w.1.size w (w.alloc (.cells #[.int .u64 need,.int .u64 ban,v2,.slice M I N] 90)):=bR.alloc lR _;have R:=heap_alloc_new w (.cells #[.int .u64 need,.int .u64 ban,v2,.slice M I N] 90);have au:(w.alloc (.cells #[.int .u64 need,.int .u64 ban,v2,.slice M I N] 90)).1.size=w.1.size+1:=ς;obtain⟨W0,S⟩:=xQ (w.alloc (.cells #[.int .u64 need,.int .u64 ban,v2,.slice M I N] 90));rw[S]at m R au;have a7:=dh S;clear S;have HI:=dh (UQ A c f W0 B (hf.below m O) (Nat.le_trans O m.size) hl);have aE:=hf.cap;have aF:=h4.cap;cases T:yh f
 ·have HM:Hd (aaG f now=0):=dh (by unfold aaG;rw[T];rfl);rw[T]at HI;clear T hf h4 hn;go_enter Tryz.func113,Tryz.ntmps113;go_wp2_with fail
  rw[a7.o];go_wp2_with fail
  refine Calls.mono HI ?_;rintro e w1 ⟨rfl,p⟩;have b:=m.trans (p.mono ω);go_wp2
  go_ret
  exact⟨by rw[HM.o];rfl,b⟩
 ·have D:=zm T;have HM:Hd (aaG f now=(xX now (uh f)).2):=dh (by unfold aaG uh;rw[jd T,jd D]);obtain⟨U,P,a8⟩:=iA (λ(at_:Int) (w':jF) (hb:Below w.1.size w w') (h: -9223372036854775808<=at_/\at_<=9223372036854775807)=>QU A c f at_ w' B (hf.below hb O) (Nat.le_trans O hb.size) ω h) (λ(z:Int) (w':jF) (hb:Below w.1.size w w')=>Lr M I N now z w' B hn (h4.below hb O) (Nat.le_trans O hb.size) ω) (λ(w':jF) (hb:Below w.1.size w w')=>QK A c f w' B (hf.below hb O) (Nat.le_trans O hb.size) ω)
  have av:Hd (∀a∈uh f,∃l:Int,0<=a/\a<η f/\kids f a=(l,a-1)):=dh (by
   intro a ha;unfold uh at ha;rw[jd D]at ha;obtain⟨j,hj,e,h9⟩:=TF ha;have e':a=(j:Int):=by rw[e];congr 1;omega
   refine⟨(spans f)[j-1]?.getD 0-1,ω,ω,?_⟩;rw[e',Jd D hj,h9];rfl)
  have aG:η (uh f)<=η f:=by
   unfold uh;rw[jd D];exact aah f 0
  rw[T]at HI;generalize uh f=us at *;generalize aaG f now=mm at *;clear T D hf h4 hn;go_enter Tryz.func113,Tryz.ntmps113;go_wp2_with fail
  rw[a7.o];go_wp2_with fail
  refine Calls.mono HI ?_;rintro e w1 ⟨rfl,p⟩;have b:=m.trans (p.mono ω);have hU:=dh (a8 w1 b);go_wp2_with fail
  refine Calls.mono hU.out ?_;rintro e w2 ⟨v,rfl,Q,V,ad⟩;obtain⟨AU,cU,rfl,af⟩:=qX Q;have E:=b.trans (V.mono b.size);have ag:=(V.block w.1.size (by have:=p.size;omega)).trans ((p.block w.1.size ω).trans R);clear hU a8 Q ad b HI R p m V;have ah:=E.size;have aH:=rX ag;have aJ:=af.cap;go_wp2_with fail
  go_loopw [5,16] (λu i wr=>∃k:Nat,k<=η us/\i=.int .i64 k/\Below w2.1.size w2 wr/\∃q:Nat,u=.int .u64 q/\q<18446744073709551616/\Hd (q=(xX now (us.take k)).2)) (λ_ i _=>η us-(intOf i).toNat)
  case atStart=>exact⟨0,ω,rfl,bR,0,rfl,ω,rfl⟩
  case round=>
   obtain⟨k,hk,rfl,r,q,rfl,hq,HQ⟩:=hrel;have aw:=r.size;by_cases W:k<η us
   ·have aj:=rE us k W;have X:η (us.take k)=k:=by rw[jq,mg hk]
    obtain⟨bb,o,rfl,aK,aL⟩:=(af.rd.below r lR).at_ (J5 W);obtain⟨aM,aN,aO,ak⟩:=av us[k] (mM W);generalize hx:us[k]=a at *;have Y:=dh aj;have F:=E.trans (r.mono ah);have ao:=dh (U a wr F ⟨ω,ω⟩);rw[ak]at ao;have ax:=(r.block w.1.size ω).trans ag;clear hx aj ak;have wk:IntKind.i64.wrap ((k:Int)+1)=k+1:=by rw[wI];omega
    go_wp2_with fail
    refine Calls.mono ao ?_;rintro e w3 ⟨rfl,Z⟩;have d:=r.trans (Z.mono aw);have G:=F.trans (Z.mono F.size);have ay:=(Z.block w.1.size ω).trans ax;have g3:w3.cell? ⟨w.1.size,3,jC⟩=jB (.slice M I N):=cR ay;by_cases az:k<64
    ·have d64:decide ((k:Int)<64)=jD:=by simp;omega
     have aP:=X9 az;have aQ:2^k<18446744073709551616:=by have:2^k<=2^63:=lI ω ω;omega
     have aR:=YZ (x:=q) (y:=2^k) ω ω;have aq:q|||2^k<18446744073709551616:=nP (n:=64) ω ω
     have HY:Hd (Qe now a=jD->q|||2^k=(xX now (us.take (k+1))).2):=dh (λh=>by
      rw[Y.o,Zc ω h,X,HQ.o])
     have aA:Hd (Qe now a=jE->q=(xX now (us.take (k+1))).2):=dh (λh=>by
      rw[Y.o,acT h,HQ.o])
     generalize 2^k=pk at *;generalize aB:q|||pk=qq at *;have J:=dh (P a w3 G);clear X aB;cases s:now.any (a== ·)
     ·rw[s]at J;have K:=dh s;clear s;go_wp2_with fail
      refine Calls.mono J ?_;rintro e w4 ⟨rfl,H⟩;go_wp2_with fail
      go_roundw
      case rel=>exact⟨k+1,ω,by go_num,d.trans (H.mono d.size),qq,rfl,aq,HY (by unfold Qe;rw[K.o];rfl)⟩
      case measure=>simp[intOf];omega
     ·rw[s]at J;have K:=dh s;clear s;go_wp2_with fail
      refine Calls.mono J ?_;rintro e w4 ⟨rfl,H⟩;have g:=d.trans (H.mono d.size);have ar:=G.trans (H.mono G.size);have g4:=bC H (by show w.1.size<w3.1.size;have:=d.size;omega) g3;have L:=dh (P (a-1) w4 ar);clear g3;cases C:now.any (a-1== ·)
      ·rw[C]at L;have a1:=dh C;clear C;go_wp2_with fail
       refine Calls.mono L ?_;rintro e w5 ⟨rfl,a6⟩;go_wp2_with fail
       go_roundw
       case rel=>exact⟨k+1,ω,by go_num,g.trans (a6.mono g.size),q,rfl,hq,aA (by unfold Qe;rw[K.o,a1.o];rfl)⟩
       case measure=>simp[intOf];omega
      ·rw[C]at L;have a1:=dh C;clear C;go_wp2_with fail
       refine Calls.mono L ?_;rintro e w5 ⟨rfl,a6⟩;go_wp2_with fail
       go_roundw
       case rel=>exact⟨k+1,ω,by go_num,g.trans (a6.mono g.size),qq,rfl,aq,HY (by unfold Qe;rw[K.o,a1.o];rfl)⟩
       case measure=>simp[intOf];omega
    ·have d64:decide ((k:Int)<64)=jE:=by simp;omega
     have HN:Hd (q=(xX now (us.take (k+1))).2):=dh (by rw[Y.o,Zd ω,HQ.o]);clear X;go_wp2_with fail
     go_roundw
     case rel=>exact⟨k+1,ω,by go_num,d,q,rfl,hq,HN.o⟩
     case measure=>simp[intOf];omega
   ·have aC:k=η us:=ω;subst aC;rw[tL lR]at HQ;go_wp2
    go_ret
    exact⟨by rw[HM.o,<-HQ.o];rfl,E.trans (r.mono ah)⟩
