/- A part of the proof. -/
import Derived.Test.YtdmeoldcifddiaaGreatDoorZak
import Derived.Test.YtdmeoldcifddiaaGreatDoorZal
import Derived.Test.YtdmeoldcifddiaaGreatDoorMk
import Derived.OrdersIn
import Derived.RangeFuncCalls
/- Direct simulation: the greatest one; what is merged or pruned by it takes the same words. Plain. -/
namespace Go.Proofs.YtdmeoldcifddiaaGreatDoor
open Go.Value renaming slice -> iX, int -> iY, pointer -> jH
open Go.IntKind renaming i64 -> iZ, u64 -> jA
open Option renaming some -> jB, none -> jC
open Bool renaming true -> jD, false -> jE
open Go renaming World -> jF
open Go.Obj renaming cells -> jG
open Go.Proofs.Tryz renaming prog -> jJ
open List renaming length -> η, replicate -> ρ, range -> ζ, getD -> θ
variable {x y:BM}{K:Act->jF->Prop}{a b:rQ}{c:Code}{Q':Exit->Act->jF->Prop}{t:Int}{r:List (List Bool)}{u:List Bool}{l:List Int}{W:List Nat}{B T ci cn g i k lp n ni nn s:Nat}{p:Nat->Bool}{S:Nat->Prop}{o:Obj}{Ai An:Option Addr}{α:Type}{v':Value}{w:jF}
def yH (x y:BM)(s:Nat):Bool:=decide (y.need&&&x.need=y.need)&&decide (y.ban&&&x.ban=y.ban)&&decide (x.inn&&&y.inn&&&uH s=x.inn&&&uH s)
theorem GJ {x y:Nat}:y&&&x=y↔∀b,y.testBit b=jD->x.testBit b=jD:=by
 constructor
 ·intro h b hb
  grind
 ·intro h;refine l6 (λb=>?_)
  grind
theorem aaN {x y:Nat}:x&&&y&&&uH s=x&&&uH s↔∀b,b<s->x.testBit b=jD->y.testBit b=jD:=by
 constructor
 ·intro h b hs hb;have:=jM (λz=>z.testBit b) h;simp[Fx,hb,decide_eq_true hs]at this;omega
 ·intro h;refine l6 (λb=>?_);simp[Fx]
  grind
theorem zS:yH x y s=jD↔(∀b,y.need.testBit b=jD->x.need.testBit b=jD)/\(∀b,y.ban.testBit b=jD->x.ban.testBit b=jD)/\∀b,b<s->x.inn.testBit b=jD->y.inn.testBit b=jD:=by
 unfold yH;rw[jm,jm,jN,jN,jN,GJ,GJ,aaN,and_assoc]
theorem QH (x:BM)(s):yH x x s=jD:=zS.2 ⟨λ_ h=>h,λ_ h=>h,λ_ _ h=>h⟩
theorem XM {z:BM}(h:yH x y s=jD)(k:yH y z s=jD):yH x z s=jD:=by
 obtain⟨a,b,c⟩:=zS.1 h;obtain⟨d,e,f⟩:=zS.1 k;exact zS.2 γ
theorem adE {S:Nat}(h:yH x y s=jD)(a:zD x S=jD):zD y S=jD:=by
 obtain⟨c,d,_⟩:=zS.1 h;unfold zD at a⊢;rw[jm,jN,jN]at a⊢;refine⟨GJ.2 γ,l6 (λb=>?_)⟩
 grind
structure ajZ (a:rQ)(R:Nat->Nat->Prop):Prop where
 lt:∀i k,R i k->i<η a.nodes/\k<η a.nodes
 one:∀i k,R i k->yH (a.at i) (a.at k) a.sets.toNat=jD
 go:∀i k,R i k->∀t:Nat,(t:Int)∈(a.at i).to->∃u:Nat,(u:Int)∈(a.at k).to/\R t u
def OB (a:rQ)(i k:Nat):Prop:=∃R,ajZ a R/\R i k
theorem zx (a):ajZ a (OB a):=
 ⟨λi k ⟨_,h,b⟩=>h.lt i k b,λi k ⟨_,h,b⟩=>h.one i k b,λi k ⟨R,h,b⟩ t d=>by
  obtain⟨u,hu,c⟩:=h.go i k b t d;exact⟨u,hu,R,h,c⟩⟩
theorem OB.refl (hA:a.Ok)(hi:i<η a.nodes):OB a i i:=by
 refine⟨λi k=>i=k/\i<η a.nodes,⟨λi k h=>⟨h.2,h.1▸h.2⟩,λi k h=>by rw[h.1];exact QH _ _,λi k h t b=>?_⟩,rfl,hi⟩;obtain⟨rfl,h⟩:=h;obtain⟨t',e,c⟩:=hA.to h b
 grind
theorem OB.trans {j:Nat}(h:OB a i k)(g:OB a k j):OB a i j:=by
 have s:=zx a;refine⟨λi j=>∃k,OB a i k/\OB a k j,⟨λi j ⟨k,h,g⟩=>⟨(s.lt i k h).1,(s.lt k j g).2⟩,λi j ⟨k,h,g⟩=>XM (s.one i k h) (s.one k j g),λi j ⟨k,h,g⟩ t b=>?_⟩,k,h,g⟩;obtain⟨u,hu,c⟩:=s.go i k h t b;obtain⟨v,hv,d⟩:=s.go k j g u hu
 grind
theorem Oz {S:Nat->Nat->Prop}(hs:b.sets.toNat=a.sets.toNat)(n:∀i:Nat,(i:Int)∈a.init->i<η a.nodes->∃p:Nat,(p:Int)∈b.init/\S i p)
  (d:∀i p,S i p->p<η b.nodes/\yH (a.at i) (b.at p) a.sets.toNat=jD)(o:∀i p,S i p->∀t:Nat,(t:Int)∈(a.at i).to->t<η a.nodes->∃u:Nat,(u:Int)∈(b.at p).to/\S t u)(h:Acc a W lp):Acc b W lp:=by
 obtain⟨r,e,c⟩:=h;obtain⟨v,q,g⟩:=n _ e (c.lt 0)
 have step:∀k,∀p:{p//S _ p},∃u:{p//S _ p},(u.1:Int)∈(b.at _).to:=λk p=>by
  obtain⟨u,hu,hS⟩:=o _ _ p.2 _ (c.to k) (c.lt _);exact⟨⟨u,hS⟩,hu⟩
 obtain⟨f,s,hf⟩:∃f:∀k,{p//S (r k) p},f 0=⟨_,_⟩/\∀k,((f (k+1)).1:Int)∈(b.at (f k).1).to:=
  ⟨λk=>Nat.rec ⟨_,g⟩ (λk p=>Classical.choose (step k p)) k,rfl,λk=>Classical.choose_spec (step k _)⟩
 refine⟨_,γ,⟨λk=>(d _ _ (f k).2).1,λk=>adE (d _ _ γ).2 (c.gN k),hf,λi hi k=>?_⟩⟩;obtain⟨m,j,l⟩:=c.met i ω k;exact⟨m,j,(zS.1 (d _ _ γ).2).2.2 i ω l⟩
def AO (p:Nat->Bool):Nat->Nat
 |0=>0
 |n+1=>if AO p n<n then AO p n else if p n=jD then n else n+1
theorem yS (p:Nat->Bool):∀n,AO p n<=n/\(∀k,k<AO p n->p k=jE)/\(AO p n<n->p (AO p n)=jD)
 |0=>⟨lR,λk a=>absurd a (pK _),λh=>absurd h (pJ _)⟩
 |n+1=>by
  obtain⟨b,c,d⟩:=yS p n;unfold AO
  grind
theorem ado (_hk:k<n)(hp:p k=jD):AO p n<=k:=by
 obtain⟨_,a,_⟩:=yS p n
 grind
theorem Ic (a:k<=n)(b:∀j,j<k->p j=jE)(c:k<n->p k=jD):AO p n=k:=by
 obtain⟨d,a2,a3⟩:=yS p n
 grind
def vG (r:List (List Bool))(i k:Nat):Bool:=(r.getD i []).getD k jE
noncomputable def iF (a:rQ):List (List Bool):=(ζ (η a.nodes)).map (λi=>(ζ (η a.nodes)).map (λk=> @decide (OB a i k) (Classical.propDecidable _)))
theorem KM (a):η (iF a)=η a.nodes:=by simp[iF]
theorem aa8:vG (iF a) i k=jD↔OB a i k:=by
 constructor
 ·intro h;unfold vG iF at h
  grind
 ·intro h;obtain⟨hi,b⟩:=(zx a).lt i k h;unfold vG iF
  grind
def yK (r:List (List Bool))(i:Nat):Nat:=AO (λk=>vG r i k&&vG r k i) i
def za (r:List (List Bool))(n:Nat):List Bool:=(ζ n).map (λi=>decide (yK r i=i))
def zf (r:List (List Bool))(n i:Nat):Nat:=uR (za r n) (yK r i)
def iy (f:Nat->Nat)(l:List Int):List Int:=l.foldl (λout t=>if((f t.toNat:Nat):Int)∈out then out else out++[((f t.toNat:Nat):Int)]) []
theorem Du (f:Nat->Nat)(l:List Int)(t:Int):iy f (l++[t])=if((f t.toNat:Nat):Int)∈iy f l then iy f l else iy f l++[((f t.toNat:Nat):Int)]:=by
 unfold iy;simp
theorem Mc {P:List α->Prop}(b:P [])(c:∀l x,P l->P (l++[x]))(l):P l:=by
 have key:∀n (l),η l=n->P l:=by
  intro n;induction n with
  |zero=>intro l hl;grind
  |succ n d=>
   intro l hl;have a:l≠[]:=λe=>γ
   rw[<-nZ a]
   grind
 grind
theorem CV (f:Nat->Nat)(x l):x∈iy f l↔∃t∈l,((f t.toNat:Nat):Int)=x:=by
 refine Mc (P:=λl=>x∈iy f l↔∃t∈l,(f t.toNat)=x) (by simp[iy]) (λl y a=>?_) l;rw[Du]
 grind
theorem EY (f:Nat->Nat)(l):η (iy f l)<=η l:=by
 refine Mc (P:=λl=>η (iy f l)<=η l) (by simp[iy]) (λl y a=>?_) l;rw[Du]
 grind
def Qf (a:rQ)(r:List (List Bool)):rQ:=⟨a.sets,iy (zf r (η a.nodes)) a.init,((ζ (η a.nodes)).filter (λi=>(za r (η a.nodes)).getD i jE)).map (λi=>(a.at i).put (iy (zf r (η a.nodes)) (a.at i).to))⟩
noncomputable def xA (a:rQ):rQ:=Qf a (iF a)
theorem Ot (hi:i<n):(za r n).getD i jE=jD↔yK r i=i:=by simp[za,θ,hi]
theorem Lb (hi:i<η a.nodes)(hu:(za r (η a.nodes)).getD i jE=jD):(Qf a r).at (uR (za r (η a.nodes)) i)=(a.at i).put (iy (zf r (η a.nodes)) (a.at i).to):=by
 have h:=F7 hi hu;show(((ζ _).filter _).map _).getD _ _ = _
 grind
theorem Sj (a r):(Qf a r).nodes.length=uR (za r (η a.nodes)) (η a.nodes):=by simp[Qf,uR]
section
variable {a:rQ}{W:List Nat}{lp:Nat}
theorem BK (r i):yK r i<=i:=(yS _ i).1
theorem E9 (hA:a.Ok)(hi:i<η a.nodes):OB a i (yK (iF a) i)/\OB a (yK (iF a) i) i:=by
 obtain⟨c,_,b⟩:=yS (λk=>vG (iF a) i k&&vG (iF a) k i) i;by_cases h:yK (iF a) i<i
 ·have:=b h;rwa [jm,aa8,aa8]at this
 ·have:yK (iF a) i=i:=by have:=BK (iF a) i;omega
  rw[this];exact⟨OB.refl hA hi,OB.refl hA hi⟩
theorem Sr (hA:a.Ok)(hi:i<η a.nodes):yK (iF a) (yK (iF a) i)=yK (iF a) i:=by
 obtain⟨s1,s2⟩:=E9 hA hi;have hl:yK (iF a) i<η a.nodes:=kJ (BK _ _) hi;let⟨t1,t2⟩:=E9 hA hl
 have hle:=BK (iF a) (yK (iF a) i);refine Nat.le_antisymm hle (pE (λb=>?_));have c:=(yS _ i).2.1 _ b
 have d:(vG (iF a) i (yK (iF a) (yK (iF a) i))&&vG (iF a) (yK (iF a) (yK (iF a) i)) i)=jD:=by
  rw[jm,aa8,aa8];exact⟨s1.trans t1,t2.trans s2⟩
 grind
theorem Fa (hA:a.Ok)(hi:i<η a.nodes):(za (iF a) (η a.nodes)).getD (yK (iF a) i) jE=jD:=
 (Ot (kJ (BK _ _) hi)).2 (Sr hA hi)
theorem acR (hA:a.Ok):Acc (xA a) W lp↔Acc a W lp:=by
 have hs:=zx a;constructor
 ·refine Oz (S:=λm j=>∃i,i<η a.nodes/\(za (iF a) (η a.nodes)).getD i jE=jD/\uR (za (iF a) (η a.nodes)) i=m/\OB a i j) rfl ?_ ?_ ?_
  ·intro m hm _;obtain⟨t,d,e⟩:=(CV _ _ _).1 hm;obtain⟨t,rfl,c⟩:=hA.first d
   rw[tN]at e;exact⟨t,d,_,kJ (BK _ _) c,Fa hA c,by unfold zf at e;omega,(E9 hA c).2⟩
  ·rintro m j ⟨i,hi,hu,rfl,b⟩;refine⟨(hs.lt i j b).2,?_⟩;unfold xA;rw[Lb hi hu];exact hs.one i j b
  ·rintro m j ⟨i,hi,hu,rfl,b⟩ t' f _;unfold xA at f;rw[Lb hi hu]at f;obtain⟨t,d,e⟩:=(CV _ _ _).1 f;obtain⟨t,rfl,c⟩:=hA.to hi d;rw[tN]at e;obtain⟨u,l,n⟩:=hs.go i j b t d;exact⟨u,l,_,kJ (BK _ _) c,Fa hA c,by unfold zf at e;omega,(E9 hA c).2.trans n⟩
 ·refine Oz (S:=λj m=>∃i,i<η a.nodes/\(za (iF a) (η a.nodes)).getD i jE=jD/\uR (za (iF a) (η a.nodes)) i=m/\OB a j i) rfl ?_ ?_ ?_
  ·intro j o g;exact⟨zf _ _ j,(CV _ _ _).2 γ,_,kJ (BK _ _) g,Fa hA g,rfl,(E9 hA g).1⟩
  ·rintro j m ⟨i,hi,hu,rfl,b⟩;refine⟨by unfold xA;rw[Sj];exact Ol hi hu,?_⟩;unfold xA;rw[Lb hi hu];exact hs.one j i b
  ·rintro j m ⟨i,hi,hu,rfl,b⟩ t d c;obtain⟨v,hv,k⟩:=hs.go j i b t d;have h:=(hs.lt t v k).2;refine⟨zf _ _ v,?_,_,kJ (BK _ _) h,Fa hA h,rfl,k.trans (E9 hA h).1⟩;unfold xA;rw[Lb hi hu];exact(CV _ _ _).2 γ
end
def wV (l:List Int)(t:Int):Nat:=AO (λi=>decide (l.getD i 0=t)) (η l)
theorem adn (b:t∈l):wV l t<η l/\l.getD (wV l t) 0=t:=by
 obtain⟨i,hi⟩:=mV b;have a:=(gB.1 hi).1;have c:wV l t<=i:=ado a γ;have hl:wV l t<η l:=ω;exact⟨hl,kD ((yS _ _).2.2 hl)⟩
def Es (r:List (List Bool))(l:List Int)(i:Nat):Bool:=
 decide (wV l (l.getD i 0)=i)&&(ζ (η l)).all (λk=> !(decide (l.getD k 0≠l.getD i 0)&&vG r (l.getD i 0).toNat (l.getD k 0).toNat&&(!vG r (l.getD k 0).toNat (l.getD i 0).toNat||decide (wV l (l.getD k 0)<i))))
def uK (r:List (List Bool))(l:List Int):List Int:=((ζ (η l)).filter (Es r l)).map (λi=>l.getD i 0)
theorem Jc (h:t∈uK r l):t∈l:=by
 obtain⟨i,hi,rfl⟩:=jg.1 h
 grind
theorem Lc (r l):η (uK r l)<=η l:=by
 unfold uK
 grind
theorem NA {α:Type}{p q:α->Bool}:∀{l:List α},(∀x∈l,p x=jD->q x=jD)->(∃x∈l,q x=jD/\p x=jE)->l.countP p<l.countP q
 |[],_,h=>γ
 |y::l,h,hex=>by
  have b:=oV (λx a=>h x (jc _ a));rw[lC,lC];obtain⟨x,a,c,d⟩:=hex;rcases jk.1 a with rfl|a
  ·grind
  ·have:=NA (λx a=>h x (jc _ a)) ⟨x,a,c,d⟩
   grind
def yL (r:List (List Bool))(l:List Int)(u v:Int):Bool:=vG r u.toNat v.toNat&&(!vG r v.toNat u.toNat||decide (wV l v<wV l u))
theorem acX (hrefl:∀t∈l,vG r t.toNat t.toNat=jD)(b:∀t u v:Int,vG r t.toNat u.toNat=jD->vG r u.toNat v.toNat=jD->vG r t.toNat v.toNat=jD):
  t∈l->∃u∈uK r l,vG r t.toNat u.toNat=jD:=by
 have c:∀u v w,yL r l u v=jD->yL r l v w=jD->yL r l u w=jD:=by
  intro u v w i d;unfold yL at *
  grind
 have e:∀u∈l,yL r l u u=jE:=by
  intro u hu;unfold yL;simp
 have key:∀n (t:Int),t∈l->l.countP (yL r l t)<=n->∃u∈uK r l,vG r t.toNat u.toNat=jD:=by
  intro n;induction n with
  |zero=>
   intro t a hc;refine⟨t,?_,hrefl t a⟩
   have f:=λv hv=>by
    have:=List.countP_eq_zero.1 (Nat.le_zero.1 hc) v hv;simpa using this
   let⟨i,d⟩:=adn a
   refine jg.2 ⟨_,jL.2 ⟨jl.2 i,?_⟩,d⟩;unfold Es;rw[jm,d,jR];refine⟨decide_eq_true rfl,λk m=>?_⟩;have o:=jl.1 m
   have hv:l.getD k 0∈l:=by
    grind
   have:=f _ hv;unfold yL at this
   grind
  |succ n j=>
   intro t a hc;by_cases hex:∃v∈l,yL r l t v=jD
   ·obtain⟨v,hv,hb⟩:=hex;have p:=NA (λw _ hw=>c t v w hb hw) ⟨v,hv,hb,e v hv⟩;let⟨u,hu,g⟩:=j v hv ω
    refine⟨u,hu,b t v u ?_ g⟩;unfold yL at hb
    grind
   ·exact j t a (by
     have:=List.countP_eq_zero.2 (λv hv h=>hex ⟨v,hv,h⟩);omega)
 exact λa=>key _ t a lR
def JX (a:rQ)(r:List (List Bool)):rQ:=⟨a.sets,uK r a.init,a.nodes.map (λx=>x.put (uK r x.to))⟩
noncomputable def vH (a:rQ):rQ:=JX a (iF a)
theorem IY (a r):(JX a r).nodes.length=η a.nodes:=by simp[JX]
theorem KT (hi:i<η a.nodes):(JX a r).at i=(a.at i).put (uK r (a.at i).to):=by simp[JX,rQ.at,θ,hi]
theorem RL (hA:a.Ok)(hl:∀t∈l,∃k:Nat,t=k/\k<η a.nodes){t:Nat}(b:(t:Int)∈l):∃u:Nat,(u:Int)∈uK (iF a) l/\OB a t u:=by
 obtain⟨u,hu,h⟩:=acX (λt b=>by
  obtain⟨k,rfl,c⟩:=hl t b;rw[tN,aa8];exact OB.refl hA c) (λt u v d e=>aa8.2 ((aa8.1 d).trans (aa8.1 e))) b
 obtain⟨k,rfl,c⟩:=hl u (Jc hu);rw[tN,tN,aa8]at h
 grind
theorem acn (hA:a.Ok):Acc (vH a) W lp↔Acc a W lp:=by
 have hs:=zx a;constructor
 ·refine Oz (S:=λi p=>i=p/\i<η a.nodes) rfl (λi hi d=>⟨i,Jc hi,rfl,by rw[vH,IY]at d;exact d⟩) ?_ ?_
  ·rintro i p ⟨rfl,hi⟩;refine⟨hi,?_⟩;unfold vH;rw[KT hi];exact QH _ _
  ·rintro i p ⟨rfl,hi⟩ t b c;unfold vH at b c;rw[KT hi]at b;rw[IY]at c;exact⟨t,Jc b,rfl,c⟩
 ·refine Oz (S:=λi p=>OB a i p) rfl ?_ ?_ ?_
  ·intro i hi _;exact RL hA (λt b=>hA.first b) hi
  ·intro i p h;have hp:=(hs.lt i p h).2;refine⟨by unfold vH;rw[IY];exact hp,?_⟩;unfold vH;rw[KT hp];exact hs.one i p h
  ·intro i p h t b _;have hp:=(hs.lt i p h).2;obtain⟨u,hu,e⟩:=hs.go i p h t b;obtain⟨v,hv,f⟩:=RL hA (λt b=>hA.to hp b) hu;refine⟨v,?_,e.trans f⟩;unfold vH;rw[KT hp];exact hv
structure Bc (b a:rQ):Prop where
 nodes:η b.nodes<=η a.nodes
 init:η b.init<=η a.init
 rows:∀x∈b.nodes,∃y∈a.nodes,η x.to<=η y.to
theorem Bc.refl (a:rQ):Bc a a:=⟨lR,lR,λx b=>⟨x,b,lR⟩⟩
theorem Bc.trans {c:rQ}(h:Bc c b)(k:Bc b a):Bc c a:=⟨Nat.le_trans h.nodes k.nodes,Nat.le_trans h.init k.init,λx d=>by
 obtain⟨y,hy,e⟩:=h.rows x d;obtain⟨z,f,g⟩:=k.rows y hy
 grind⟩
structure uE (a:rQ):Prop where
 n256:η a.nodes<=256
 sets:0<=a.sets/\a.sets<=16
 ok:a.Ok
 inn:∀x∈a.nodes,x.inn<2^a.sets.toNat
theorem Ls {N:Nat}{s:Int}:∀{l:List BM},zI N s l=0->∀x∈l,vE N s x=0
 |[],_,x,a=>γ
 |y::r,h,x,a=>by
  unfold zI at h;split at h
  ·rename_i hy;rcases jk.1 a with rfl|a
   ·omega
   ·exact Ls h x a
  ·rename_i hy;omega
theorem vY:tO a=0↔uE a:=by
 constructor
 ·intro h;unfold tO at h;by_cases e:256<η a.nodes\/16<a.sets
  ·omega
  ·rw[d9 e]at h;by_cases f:a.sets<0
   ·omega
   ·rw[d9 f]at h;by_cases d:a.init.all (sG (η a.nodes))=jD
    ·rw[jd d]at h;have g:=Ls h
     have c:∀x∈a.nodes,x.to.all (sG (η a.nodes))=jD/\x.inn>>>a.sets.toNat=0:=λx c=>by
      have:=g x c;unfold vE at this
      grind
     refine⟨ω,ω,⟨λi hi=>jR.1 d i hi,λx b t j=>jR.1 γ t j⟩,λx b=>?_⟩;have:=(c x b).2;rw[pF]at this
     simp_all
    ·grind
 ·intro h;exact MP h.n256 h.sets h.ok h.inn
def Cj (a:rQ)(p:Nat->Bool)(F:List Int->List Int):rQ:=⟨a.sets,F a.init,((ζ (η a.nodes)).filter p).map (λi=>(a.at i).put (F (a.at i).to))⟩
def mu (a:rQ):Nat:=η a.nodes+η a.init+(a.nodes.map (λx=>η x.to)).sum
theorem K8 (a:rQ):(ζ (η a.nodes)).map a.at=a.nodes:=by
 refine jw ς (λi c b=>?_);simp[rQ.at,θ,b]
theorem Er {p:Nat->Bool}{f g:Nat->Nat}:∀(l:List Nat),(∀i∈l,f i<=g i)->((l.filter p).map f).sum<=(l.map g).sum
 |[],_=>lR
 |x::l,h=>by
  have a:=Er (p:=p) l (λi hi=>h i (jc _ hi))
  grind
theorem aec {f g:Nat->Nat}:∀(l:List Nat),(∀i∈l,f i<=g i)->(l.map f).sum=(l.map g).sum->∀i∈l,f i=g i
 |[],_,_,i,hi=>γ
 |x::l,h,e,i,hi=>by
  have a:=Er (p:=λ_=>jD) l (λi hi=>h i (jc _ hi));rw[nu.2 ς]at a;have b:=h x (ji ..);simp[List.sum_cons]at e;rcases jk.1 hi with rfl|hi
  ·omega
  ·exact aec l γ ω i hi
theorem filter_all (h:η ((ζ n).filter p)=n):∀i,i<n->p i=jD:=by
 have:=List.filter_sublist.eq_of_length (by rw[h,kL]);intro i hi
 simp_all
section
variable {a:rQ}{p:Nat->Bool}{F:List Int->List Int}
theorem aaP:(Cj a p F).nodes.length<=η a.nodes:=by
 unfold Cj
 grind
theorem Dz (hF:∀l,η (F l)<=η l):Bc (Cj a p F) a:=by
 refine⟨aaP,hF _,λx b=>?_⟩;obtain⟨i,hi,rfl⟩:=jg.1 b;exact⟨_,at_mem γ,hF _⟩
theorem aaO (hF:∀l,η (F l)<=η l):((Cj a p F).nodes.map (λx=>η x.to)).sum<=(a.nodes.map (λx=>η x.to)).sum:=by
 have b:=Er (p:=p) (f:=λi=>η (F (a.at i).to)) (ζ (η a.nodes)) (λi _=>hF _)
 have e1:((Cj a p F).nodes.map (λx=>η x.to))=((ζ (η a.nodes)).filter p).map (λi=>η (F (a.at i).to)):=by
  unfold Cj;rw[nQ];rfl
 have e2:a.nodes.map (λx=>η x.to)=(ζ (η a.nodes)).map (λi=>(a.at i).to.length):=by
  conv=>lhs;rw[<-K8 a]
  simp
 grind
theorem ZF (hF:∀l,η (F l)<=η l):mu (Cj a p F)<=mu a:=by
 have b:=(Dz (a:=a) (p:=p) hF).nodes;have c:=(Dz (a:=a) (p:=p) hF).init;have d:=aaO (a:=a) (p:=p) hF;unfold mu;omega
theorem Qo (hF:∀l,η (F l)<=η l)(h:mu (Cj a p F)=mu a):(∀i,i<η a.nodes->p i=jD)/\η (F a.init)=η a.init/\∀i,i<η a.nodes->η (F (a.at i).to)=(a.at i).to.length:=by
 have f:=(Dz (a:=a) (p:=p) hF).nodes;have g:=(Dz (a:=a) (p:=p) hF).init;have j:=aaO (a:=a) (p:=p) hF;unfold mu at h;have c:(Cj a p F).nodes.length=η a.nodes:=ω;have e:(Cj a p F).init.length=η a.init:=ω;have d:((Cj a p F).nodes.map (λx=>η x.to)).sum=(a.nodes.map (λx=>η x.to)).sum:=ω;have b:=filter_all (by unfold Cj at c;rwa [jr]at c);refine⟨b,e,λi hi=>?_⟩
 have e1:((Cj a p F).nodes.map (λx=>η x.to))=(ζ (η a.nodes)).map (λi=>η (F (a.at i).to)):=by
  unfold Cj;rw[nQ,nu.2 γ];rfl
 have e2:a.nodes.map (λx=>η x.to)=(ζ (η a.nodes)).map (λi=>(a.at i).to.length):=by
  conv=>lhs;rw[<-K8 a]
  simp
 rw[e1,e2]at d;exact aec _ γ d i γ
theorem afT (d:∀i,i<η a.nodes->p i=jD)(b:F a.init=a.init)(c:∀i,i<η a.nodes->F (a.at i).to=(a.at i).to):Cj a p F=a:=by
 unfold Cj;rw[nu.2 γ,b]
 have:(ζ (η a.nodes)).map (λi=>(a.at i).put (F (a.at i).to))=a.nodes:=by
  conv=>rhs;rw[<-K8 a]
  refine j6 (λi hi=>?_);rw[c i γ];rfl
 rw[this]
theorem Xa (h:uE a)(hF:∀l:List Int,(∀t∈l,∃k:Nat,t=k/\k<η a.nodes)->∀t∈F l,sG (Cj a p F).nodes.length t=jD):uE (Cj a p F):=by
 refine⟨Nat.le_trans aaP h.n256,h.sets,⟨λt b=>hF _ (λt b=>h.ok.first b) t b,λx c t b=>?_⟩,λx c=>?_⟩
 ·obtain⟨i,hi,rfl⟩:=jg.1 c;exact hF _ (λt b=>h.ok.to γ b) t b
 ·obtain⟨i,hi,rfl⟩:=jg.1 c;exact h.inn (a.at i) (at_mem γ)
end
section
variable {a:rQ}
theorem Sk (r):Qf a r=Cj a (λi=>(za r (η a.nodes)).getD i jE) (iy (zf r (η a.nodes))):=rfl
theorem Bq (r):JX a r=Cj a (λ_=>jD) (uK r):=by
 unfold JX Cj;rw[nu.2 ς];congr 1
 conv=>lhs;rw[<-K8 a]
 simp
theorem aak:mu (BN a)<=mu a:=ZF (F:=sV (CB a)) (λ_l=>H7)
theorem abA (hA:a.Ok)(h:mu (BN a)=mu a):BN a=a:=Yl hA (Qo (p:=λi=>(CB a).getD i jE) (F:=sV (CB a)) (λ_l=>H7) h).1
theorem afu:mu (xA a)<=mu a:=ZF (F:=iy (zf (iF a) (η a.nodes))) (λl=>EY _ l)
theorem R5 {f:Nat->Nat}(l)(h:∀t∈l,((f t.toNat:Nat):Int)=t):(iy f l).Sublist l:=by
 revert h
 refine Mc (P:=λl=>(∀t∈l,((f t.toNat):Int)=t)->(iy f l).Sublist l) (λ_=>by simp[iy]) (λl y a h=>?_) l;have:=a (λt b=>h t (jX _ b));rw[Du]
 grind
theorem Za (hA:a.Ok)(h:mu (xA a)=mu a):xA a=a:=by
 have hs:=Qo (F:=iy _) (λl=>EY _ l) h
 have b:∀t:Int,(∃k:Nat,t=k/\k<η a.nodes)->((zf (iF a) (η a.nodes) t.toNat:Nat):Int)=t:=by
  rintro t ⟨k,rfl,d⟩;rw[tN];unfold zf;rw[(Ot d).1 γ,I9 γ]
 refine afT hs.1 ?_ (λi hi=>?_)
 ·exact(R5 _ (λt c=>b t (hA.first c))).eq_of_length ω
 ·exact(R5 _ (λt c=>b t (hA.to hi c))).eq_of_length γ
theorem aeI:mu (vH a)<=mu a:=by
 unfold vH;rw[Bq];exact ZF (λl=>Lc _ l)
theorem Jw (r l):(uK r l).Sublist l:=by
 have h:=List.filter_sublist (p:=Es r l) (l:=ζ (η l));have a:=h.map (λi=>l.getD i 0)
 have e:(ζ (η l)).map (λi=>l.getD i 0)=l:=by
  refine jw ς (λi b a=>?_)
  grind
 rwa [e]at a
theorem YP (h:mu (vH a)=mu a):vH a=a:=by
 unfold vH at h⊢;rw[Bq]at h⊢;have hs:=Qo (F:=uK _) (λl=>Lc _ l) h;exact afT ς ((Jw _ _).eq_of_length ω) (λi hi=>(Jw _ _).eq_of_length γ)
theorem uE.trim (h:uE a):uE (BN a):=by
 obtain⟨b,c⟩:=ad8 (vY.2 h) h.inn ⟨h.n256,h.sets⟩ h.ok (CB a);exact vY.1 b
theorem uE.merge (h:uE a):uE (xA a):=by
 refine Xa h (λl hl t c=>?_);obtain⟨x,d,rfl⟩:=(CV _ _ _).1 c;obtain⟨k,rfl,b⟩:=hl x d;rw[tN,<-Sk,Sj];have:=Ol (kJ (BK _ _) b) (Fa h.ok b);exact sU.2 ⟨ω,by unfold zf;omega⟩
theorem uE.prune (h:uE a):uE (vH a):=by
 unfold vH;rw[Bq];refine Xa h (λl hl t b=>?_);obtain⟨k,rfl,c⟩:=hl t (Jc b);rw[<-Bq,IY];exact sU.2 ω
theorem OX (a):Bc (BN a) a:=Dz (F:=sV (CB a)) (λ_l=>H7)
theorem Wt (a):Bc (xA a) a:=Dz (F:=iy (zf (iF a) (η a.nodes))) (λl=>EY _ l)
theorem VW (a):Bc (vH a) a:=by
 unfold vH;rw[Bq];exact Dz (λl=>Lc _ l)
end
noncomputable def vK (a:rQ):rQ:=BN (vH (xA (BN a)))
theorem uE.step {a:rQ}(h:uE a):uE (vK a):=h.trim.merge.prune.trim
theorem Yr (a):Bc (vK a) a:=(OX _).trans ((VW _).trans ((Wt _).trans (OX a)))
theorem aee (h:uE a):Acc (vK a) W lp↔Acc a W lp:=
 ((Vi h.trim.merge.prune.ok).trans ((acn h.trim.merge.ok).trans ((acR h.trim.ok).trans (Vi h.ok))))
theorem wK (h:uE a):mu (vK a)<=mu a/\(mu (vK a)=mu a->vK a=a):=by
 have f:=aak (a:=a);have d:=afu (a:=BN a);have b:=aeI (a:=xA (BN a));have c:=aak (a:=vH (xA (BN a)));refine⟨by unfold vK;omega,λe=>?_⟩;unfold vK at e⊢;have e1:=abA h.ok ω;rw[e1]at e d b c⊢;have e2:=Za h.ok ω;rw[e2]at e b c⊢;have g:=YP (a:=a) ω
 grind
noncomputable def Ui:Nat->rQ->rQ
 |0,a=>a
 |n+1,a=>if vK a=a then a else Ui n (vK a)
noncomputable def NN (a:rQ):rQ:=Ui (mu a) a
theorem Mt:∀(n m:Nat) (a:rQ),uE a->mu a<=n->mu a<=m->Ui n a=Ui m a
 |0,0,a,_,_,_=>rfl
 |0,m+1,a,h,b,_=>by
  have e:=(wK h).2 (by have:=(wK h).1;omega);unfold Ui
  grind
 |n+1,0,a,h,_,hm=>by
  have e:=(wK h).2 (by have:=(wK h).1;omega);unfold Ui
  grind
 |n+1,m+1,a,h,b,hm=>by
  unfold Ui;by_cases e:vK a=a
  ·grind
  ·rw[d9 e,d9 e];have d:=(wK h).1;have f:mu _≠mu a:=λc=>e ((wK h).2 c)
   exact Mt n m _ h.step ω ω
theorem KZ (_h:uE a)(e:vK a=a):NN a=a:=by
 unfold NN;cases hm:mu a with
 |zero=>rfl
 |succ n=>unfold Ui;grind
theorem P9 (h:uE a)(e:vK a≠a):NN a=NN (vK a):=by
 have b:=(wK h).1;unfold NN;rw[Mt _ (mu a+1) a h lR ω]
 conv=>lhs;unfold Ui
 rw[d9 e];exact Mt _ _ _ h.step ω lR
theorem aho (h:uE a){P:rQ->Prop}(g:∀b,uE b->vK b=b->P b)(c:∀b,uE b->vK b≠b->P (NN (vK b))->P (NN b)):P (NN a):=by
 have key:∀n a,mu a<=n->uE a->P (NN a):=by
  intro n;induction n with
  |zero=>
   intro a hm h;have e:=(wK h).2 (by have:=(wK h).1;omega);rw[KZ h e];grind
  |succ n d=>
   intro a hm h;by_cases e:vK a=a
   ·rw[KZ h e];grind
   ·have i:=(wK h).1;have j:mu _≠mu a:=λf=>e ((wK h).2 f)
    exact c a h e (d _ ω h.step)
 exact key _ a lR h
theorem ae8 (h:uE a):uE (NN a)/\vK (NN a)=NN a:=
 aho h (P:=λb=>uE b/\vK b=b) (λb hb e=>⟨hb,e⟩) (λb hb e k=>by rw[P9 hb e];exact k)
theorem Oi (h:uE a){R:rQ->rQ->Prop}(f:∀a,R a a)(hs:∀a b,uE a->R b (vK a)->R b a):R (NN a) a:=by
 have key:∀n a,mu a<=n->uE a->R (NN a) a:=by
  intro n;induction n with
  |zero=>
   intro a hm h;have e:=(wK h).2 (by have:=(wK h).1;omega);rw[KZ h e];grind
  |succ n c=>
   intro a hm h;by_cases e:vK a=a
   ·rw[KZ h e];grind
   ·have g:=(wK h).1;have i:mu _≠mu a:=λd=>e ((wK h).2 d)
    rw[P9 h e];exact hs _ _ h (c _ ω h.step)
 exact key _ a lR h
theorem ahp (h:uE a):Acc (NN a) W lp↔Acc a W lp:=
 Oi h (R:=λb a=>Acc b W lp↔Acc a W lp) (λ_=>Iff.rfl) (λ_a _b c hb=>hb.trans (aee c))
theorem R6 (h:uE a):Bc (NN a) a:=Oi h (R:=Bc) Bc.refl (λa _ _ hb=>hb.trans (Yr a))
theorem ae7 (h:uE a):(NN a).sets=a.sets:=Oi h (R:=λb a=>b.sets=a.sets) (λ_=>rfl) (λ_ _ _ hb=>hb)
open Go.RowKit
theorem ai7 (h:∀x∈a.nodes,x.inn<2^64)(q):(Bv a).getD q 0<2^64:=by
 rw[aaM];unfold rQ.at;rw[gD];cases b:a.nodes[q]? with
 |none=>simp[BM.none]
 |some x=>exact h x (jy b)
theorem afK (a):η (Bv a)=η a.nodes:=by simp[Bv]
structure yg (w:jF)(base:Nat)(vn:Value)(ns:List BM)(xs:List Value):Prop where
 own:w.ownsRow base 53 4 vn (η ns) xs
 at_:∀(k:Nat) (x:BM),ns[k]? =jB x->∃u,xs[k*4]? =jB (iY jA (x.need:Int))/\xs[k*4+1]? =jB (iY jA (x.ban:Int))/\xs[k*4+2]? =jB (iY jA (x.inn:Int))/\xs[k*4+3]? =jB u/\w.ownsRow base 3 1 u (η x.to) (qO x.to)
section
variable {w w1:jF}{base:Nat}{vn:Value}{ns:List BM}{xs:List Value}{S:Nat->Prop}
theorem yg.nil (w base):yg w base (iX jC 0 0) [] []:=⟨jF.ownsRow_nil _ _ _ _,λk x h=>by simp at h⟩
theorem yg.uQ (h:yg w base vn ns xs)(a:qW S w w1)(c:∀g,vn.ownBlock=jB g->¬S g)(d:∀(u:Value) n ys,w.ownsRow base 3 1 u n ys->∀g,u.ownBlock=jB g->¬S g):yg w1 base vn ns xs:=
 ⟨qR h.own a c,λk x e=>by
  obtain⟨u,f,e1,e2,i,b⟩:=h.at_ k x e;exact⟨u,f,e1,e2,i,qR b a (d u _ _ b)⟩⟩
theorem yg.below (h:yg w base vn ns xs)(hb:Below w.1.size w w1):yg w1 base vn ns xs:=
 ⟨own_below h.own hb,λk x a=>by
  obtain⟨u,b,e1,e2,c,d⟩:=h.at_ k x a;exact⟨u,b,e1,e2,c,own_below d hb⟩⟩
theorem yg.push (h:yg w base vn ns xs){u:Value}(hu:w.ownsRow base 3 1 u (η x.to) (qO x.to))
  (b:w1.ownsRow base 53 4 v' (η ns+1) (xs++[iY jA (x.need:Int),iY jA (x.ban:Int),iY jA (x.inn:Int),u]))(l:qW (λk=>vn.ownBlock=jB k) (w.alloc o) w1):yg w1 base v' (ns++[x]) (xs++[iY jA (x.need:Int),iY jA (x.ban:Int),iY jA (x.inn:Int),u]):=by
 have f:=qW.trans ((qW.refl _ w).alloc o) l (λ_ _ e=>e);have a:∀{u:Value} {n:Nat} {ys:List Value},w.ownsRow base 3 1 u n ys->w1.ownsRow base 3 1 u n ys:=λd=>qR d f (λg m e=>own_ne d h.own δ g m e)
 have i:=h.own.1;refine⟨by simpa using b,λk y c=>?_⟩;by_cases hl:k<η ns
 ·rw[gC hl]at c;obtain⟨u',p,e1,e2,q,d⟩:=h.at_ k y c;exact⟨u',by rw[gC ω];exact p,by rw[gC ω];exact e1,by rw[gC ω];exact e2,by rw[gC ω];exact q,a d⟩
 ·have j:k=η ns:=by
   have:=(gB.1 c).1;simp at this;omega
  subst j;rw[gR lR,mZ]at c;obtain rfl:x=y:=by simpa using c
  refine⟨u,?_,?_,?_,?_,a hu⟩<;>(rw[gR ω];simp[i])
end
structure yN (base ob:Nat)(sets:Int)(vi:Value)(I:List Int)(vn:Value)(ns:List BM)(xs:List Value)(w:jF):Prop where
 blk:w.1[ob]? =jB (jG #[iY iZ sets,vi,vn] 32 (0,0))
 init:w.ownsRow base 3 1 vi (η I) (qO I)
 nodes:yg w base vn ns xs
section
variable {base ob:Nat}{sets:Int}{vi:Value}{I:List Int}{vn:Value}{ns:List BM}{xs:List Value}{w w1:jF}
theorem yN.lt (h:yN base ob sets vi I vn ns xs w):ob<w.1.size:=(aI.1 h.blk).1
theorem yN.cells (h:yN base ob sets vi I vn ns xs w):w.cell? ⟨ob,0,jC⟩=jB (iY iZ sets)/\w.cell? ⟨ob,1,jC⟩=jB vi/\w.cell? ⟨ob,2,jC⟩=jB vn:=by
 refine⟨?_,?_,?_⟩<;>(rw[cell_of_row _ _ _ _ _ (0,0) h.blk];rfl)
theorem yN.below (h:yN base ob sets vi I vn ns xs w)(hb:Below w.1.size w w1):yN base ob sets vi I vn ns xs w1:=⟨(hb.block ob h.lt).trans h.blk,own_below h.init hb,h.nodes.below hb⟩
theorem yN.push (h:yN base ob sets vi I vn ns xs w){u:Value}(hu:w.ownsRow base 3 1 u (η x.to) (qO x.to))
  (c:w1.ownsRow base 53 4 v' (η ns+1) (xs++[iY jA (x.need:Int),iY jA (x.ban:Int),iY jA (x.inn:Int),u]))(l:qW (λk=>vn.ownBlock=jB k) (w.alloc o) w1):
  (w1.frozen? ⟨ob,2,jC⟩=jE/\ob<w1.1.size/\w1.cell? ⟨ob,2,jC⟩=jB vn)/\yN base ob sets vi I v' (ns++[x]) (xs++[iY jA (x.need:Int),iY jA (x.ban:Int),iY jA (x.inn:Int),u]) (w1.setCell ⟨ob,2,jC⟩ v'):=by
 have d:=qW.trans ((qW.refl _ w).alloc o) l (λ_ _ e=>e);have a:=d.blk h.blk (λe=>qQ h.nodes.own h.blk δ e);have b:∀{e:TypeId} {size n:Nat} {v:Value} {xs:List Value} {b':Nat},w1.ownsRow b' e size v n xs->e≠32->(w1.setCell ⟨ob,2,jC⟩ v').ownsRow b' e size v n xs:=λf i=>qR f (sD (w:=w1) ob 2 v') (λg j e=>qQ f a i (by rw[j,e]))
 have m:=h.nodes.push hu c l;refine⟨⟨frozen_of_row w1 ob 2 _ _ a,(aI.1 a).1,cR a⟩,?_,b (qR h.init d (λg j e=>own_ne h.init h.nodes.own δ g j e)) δ,b m.own δ,λk y p=>?_⟩
 ·rw[heap_setCell_same w1 ob 2 _ _ v' a];rfl
 ·obtain⟨u',q,e1,e2,r,f⟩:=m.at_ k y p;exact⟨u',q,e1,e2,r,b f δ⟩
theorem yN.keep (h:yN base ob sets vi I vn ns xs w)(a:qW S w w1)(c:¬S ob)(d:∀g,vn.ownBlock=jB g->¬S g)(b:∀(u:Value) n ys,w.ownsRow base 3 1 u n ys->∀g,u.ownBlock=jB g->¬S g):yN base ob sets vi I vn ns xs w1:=
 ⟨a.blk h.blk c,qR h.init a (b vi _ _ h.init),h.nodes.uQ a d b⟩
theorem yN.rd (h:yN base ob sets vi I vn ns xs w):∃Ai ci An cn,vi=iX Ai (η I) ci/\vn=iX An (η ns) cn/\sW w w.1.size ⟨sets,I,ns⟩ Ai (η I) ci An (η ns) cn:=by
 obtain⟨Ai,ci,e1,a⟩:=qX h.init;obtain⟨An,cn,e2,b⟩:=qX h.nodes.own;refine⟨Ai,ci,An,cn,e1,e2,⟨rfl,rfl,a,xs,b,λk x d=>?_⟩⟩;obtain⟨u,e,e1,e2,f,g⟩:=h.nodes.at_ k x d;obtain⟨A,c,rfl,hs⟩:=qX g;exact⟨A,c,e,e1,e2,f,hs⟩
theorem yN.grown {row:Option Nat}(h:yN base ob sets vi I vn ns xs w)(c:w.grownBy w1 row)(d:∀r,row=jB r->B<=r/\∃o:Obj,w.1[r]? =jB o/\o.isCells=jE):yN base ob sets vi I vn ns xs w1:=by
 have a:∀{b':Nat} {e:TypeId} {size n:Nat} {v:Value} {ys:List Value},w.ownsRow b' e size v n ys->w1.ownsRow b' e size v n ys:=λb=>T9 _ _ _ _ _ _ B () w w1 row b c d
 refine⟨(c.block ob h.lt (λe=>?_)).trans h.blk,a h.init,a h.nodes.own,λk x f=>?_⟩
 ·obtain⟨-,o,b,hc⟩:=d ob e.symm;rw[h.blk]at b;cases b;cases hc
 ·obtain⟨u,g,e1,e2,i,b⟩:=h.nodes.at_ k x f;exact⟨u,g,e1,e2,i,a b⟩
end
def FD (w:jF)(l:List Int)(en:Ending)(w':jF):Prop:=∃v,en=.returned v/\w'.ownsRow w.1.size 3 1 v (η l) (qO l)/\Below w.1.size w w'
set_option maxHeartbeats 4000000
set_option maxRecDepth 100000
theorem Zo (u:List Bool)(l:List Int)(at_:List Int)(A:Option Addr)(n c:Nat)(b1 b2 S q N:Nat)(M:List Nat)(Aa:Option Addr)(ca:Nat)(w:jF)(B:Nat)(h1:q9 w b1 0 (jH (jB ⟨S,0,jC⟩)))(O:b1<w.1.size)
  (h2:q9 w b2 0 (iX Aa N ca))(P:b2<w.1.size)(hX:Cr S q N M w)(x:∀i,i<N->yU M i=u.getD i jE)(a:∀i,i<N->u.getD i jE=jD->at_.getD i 0=(uR u i:Int))(g:Sl w B 1 Aa N ca (qO at_))(hs:Sl w B 1 A n c (qO l))(hB:B<=w.1.size)(hl:∀t∈l,sG N t=jD)(ag:η l<=100000000):
  Calls jJ 84 #[iX A n c,jH (jB ⟨b1,0,jC⟩),jH (jB ⟨b2,0,jC⟩)] w (FD w (sV u l)):=by
 have hn:n=η l:=by have:=hs.len;rw[xY]at this;omega
 have H:N=η at_:=by have:=g.len;rw[xY]at this;omega
 have a7:=hs.cap;have I:=hs.max;have Q:=g.cap;have z:=g.max;unfold maxLen at I z;subst hn;obtain⟨HS,R,C,HX,H1,H2,J,T,HL⟩:=dh9 hs g H hX h1 h2 x a hl;clear hs g H hX h1 h2 x a hl;go_enter Tryz.func84,Tryz.ntmps84;go_wp2_with fail
 go_loopw [10,5] (λi o wr=>∃m:Nat,m<=η l/\i=iY iZ (m:Int)/\Hd (wr.ownsRow w.1.size 3 1 o (η (sV u (l.take m))) (qO (sV u (l.take m))))/\Hd (Below w.1.size w wr)) (λi _ _=>η l-(intOf i).toNat)
 case atStart=>exact⟨0,ω,rfl,dh (jF.ownsRow_nil _ _ _ _),dh bR⟩
 case round=>
  obtain⟨m,hm,rfl,G,v⟩:=hrel;have hz:=v.size;by_cases D:m<η l
  ·have wm:IntKind.i64.wrap ((m:Int)+1)=(m:Int)+1:=by rw[wI];omega
   have ah:(0:Int)<=(m:Int):=ω;have aj:(m:Int)<(η l:Int):=ω;obtain⟨b,off,rfl,ak,U⟩:=BJ (HS.below v hB) D;obtain⟨j,hj,d⟩:=rO (HL l[m] (mM D));have p:=dh (Zv (u:=u) D);have K:=HX.below v.o;have HH:=dh (Xy S q N M j wr K d);have c1:=bC v O H1.o;have c2:=bC v P H2.o;have E:=J j d;have a:=T j d;obtain⟨bA,oA,rfl,ao,y⟩:=BJ (k:=j) (R.below v hB) (by rw[<-C.o];exact d);have L:at_.getD j 0=at_[j]'(by rw[<-C.o];exact d):=by rw[gD,gE (by rw[<-C.o];exact d)];rfl
   have aq:(0:Int)<=(j:Int):=ω;have ar:(j:Int)<(N:Int):=ω;rw[hj]at U p;rw[tN]at p;rw[<-L]at y;have hle:η (sV u (l.take m))<=m:=Nat.le_trans H7 (by rw[jq];omega);clear hj K L;go_wp2_with fail
   refine HH.mono ?_;rw[E];cases r:u.getD j jE
   ·rintro e w' ⟨rfl,rfl⟩;have F:Hd (sV u (l.take (m+1))=sV u (l.take m)):=dh (by rw[p.o,r];simp);clear r a E;go_wp2_with fail
    exact⟨⟨m+1,ω,jM (Value.int iZ) ω,dh (by rw[F.o];exact G.o),v⟩,by simp[intOf];omega⟩
   ·rintro e w' ⟨rfl,rfl⟩;have F:Hd (sV u (l.take (m+1))=sV u (l.take m)++[(uR u j:Int)]):=dh (by rw[p.o,r];simp);rw[a r]at y;clear r a E p;generalize sV u (l.take m)=Y at *;obtain⟨Au,cu,rfl, -⟩:=qX G.o;have V:=dh (heap_alloc_new wr (jG #[iY iZ (uR u j:Int)] 3));go_wp2_with (at_builtin;refine rD rfl (.tmp 17) (.tmp 22) 29 rfl w.1.size 3 1 8 rW _ _ _ (G.alloc _) rfl wr.1.size #[iY iZ (uR u j:Int)] rfl V.out rfl (by simp[Value.oneCell']) ω ω (by simp;omega) ?_;intro u' wA s W a8 ad;obtain⟨g',af,rfl,_⟩:=sP s ω;have X:=dh s;have Z:=dh (v.trans ((qW.trans ((qW.refl _ wr).alloc _) W (λ_ _ h=>h)).below hz (λk hk e=>by have:=(G.lt k e).1;omega))))
    exact⟨⟨m+1,ω,jM (Value.int iZ) ω,dh (by rw[F.o,lA,sJ];simpa[qO]using X.o),Z⟩,by simp[intOf];omega⟩
  ·have a1:m=η l:=ω;have a6:=dh (by have:=G.o;rwa [a1,kH]at this);clear G;go_wp2_with fail
   go_ret
   exact⟨_,rfl,a6.o,v.o⟩
def AV (w:jF)(a:rQ)(en:Ending)(w':jF):Prop:=
 ∃Ai ni ci An nn cn,en=.returned (.agg #[iY iZ a.sets,iX Ai ni ci,iX An nn cn])/\sW w' w'.1.size a Ai ni ci An nn cn/\Below w.1.size w w'/\Gw w.1.size w' a Ai ni ci An nn cn
theorem yN.sep {base ob:Nat}{sets:Int}{I:List Int}{ns:List BM}{xs:List Value}(h:yN base ob sets (iX Ai ni ci) I (iX An nn cn) ns xs w):Gw base w ⟨sets,I,ns⟩ Ai ni ci An nn cn:=λS q i hS=>by
 have a:∀{e:TypeId} {size n:Nat} {v:Value} {ys:List Value},w.ownsRow base e size v n ys->e≠32->∀g,v.ownBlock=jB g->¬S g:=λb d g f e=>by
  rcases hS g e (b.lt g f).2 with r|⟨cs,hc⟩
  ·have:=(b.lt g f).1;omega
  ·exact qQ b hc d f
 have l:=qR h.init i (a h.init δ);have j:=h.nodes.uQ i (a h.nodes.own δ) (λu n ys b=>a b δ);obtain⟨A1,c1,e1,s1⟩:=qX l;obtain⟨A2,c2,e2,s2⟩:=qX j.own;cases e1;cases e2;refine⟨rfl,rfl,s1,xs,s2,λk x m=>?_⟩;obtain⟨u,o,e1,e2,p,b⟩:=j.at_ k x m;obtain⟨A,c,rfl,hs⟩:=qX b;exact⟨A,c,o,e1,e2,p,hs⟩
theorem sW.aiJ {w':jF}(h:sW w B a Ai ni ci An nn cn)(d:qW S w w')(e:B<=w.1.size)(hS:∀b,b<B->¬S b):sW w' B a Ai ni ci An nn cn:=by
 obtain⟨xs,f,g⟩:=h.nodes;refine⟨h.eni,h.Ov,h.init.uQ d e hS,xs,f.uQ d e hS,λk x i=>?_⟩;obtain⟨A,c,j,e1,e2,l,t⟩:=g k x i;exact⟨A,c,j,e1,e2,l,t.uQ d e hS⟩
open Go
section
variable {P:Program}{ops:Array Oper}{Q:Exit->Act->jF->Prop}{md:Region.Mode}{S:jF->Prop}{z:Nat}
def K9 (ops:Array Oper):Bool:=ops.toList.all (λo=>match o.op with| .defer _=>jE| _=>jD)
theorem Un (h:K9 ops=jD){o:Oper}(a:ops[i]? =jB o):∀c,o.op≠ .defer c:=by
 intro c hc
 have hm:o∈ops.toList:=by
  rw[<-Array.getElem?_toList]at a;exact jy a
 have:=jR.1 h o hm;rw[hc]at this;cases this
theorem TY {r:Nat}{row:String}{args:Array Value}{R:Value->jF->Prop}(h:Rows P row args w R):RowsIn (Fence.wide.inRound r) n P row args w R:=
 λc cs _=>let⟨v,w',r',s⟩:=h c cs;⟨v,w',r',stepsIn_wide.2 s⟩
theorem ahi {r:Nat}{a:Act}(hd:K9 ops=jD)(hl:¬LetsOut Q)(h:wpOp P ops Q i K a w):wpOpIn (Fence.wide.inRound r) n P ops Q i K a w:=by
 unfold wpOp at h;unfold wpOpIn;cases c:ops[i]? with
 |none=>rw[c]at h;exact h
 |some o=>
  rw[c]at h;simp only at h⊢;split
  ·rename_i hw;rw[jd hw]at h;rcases h with h|h
   ·refine⟨λ_ _=>trivial,?_⟩;rw[Oper.semAt_eq _ _ _ (Un hd c)];unfold Oper.wp at h
    revert h
    generalize (execOp a.eval o).run P w=res;intro h;cases res with
    |ok nx w'=>
     cases nx with
     |value v=>exact h
     |skip=>exact h
     |defer d=>exact h
     |enter f args=>exact⟨λb=>(by cases b),CallsIn.inRound r (callsIn_wide.2 h)⟩
     |row row args=>exact⟨λb=>(by cases b),TY h⟩
     | _=>exact h.elim
    |halt b w'=>
     cases b with
     |panic v=>exact h
     | _=>exact h.elim
   ·exact absurd h.2 hl
  ·rename_i hw;rw[d9 hw]at h;exact⟨λ_ _=>trivial,h⟩
theorem XJ {r n:Nat}(hd:K9 ops=jD)(hl:¬LetsOut Q):∀(fuel:Nat) (listed:Array Bool) (a:Act) (w:jF),wpAny P md ops Q fuel listed a w->wpAnyIn (Fence.wide.inRound r) n P md ops Q fuel listed a w
 |0,_,_,_,h=>h
 |fuel+1,_,_,_,h=>⟨h.1,λi hi=>wpOpIn_mono (λa' w' b=>XJ hd hl fuel _ a' w' b) (ahi hd hl (h.2 i hi))⟩
theorem QZ {r id:Nat}{a:Act}(z)(hm:P.follows .mixedOrders=jD)(hd:K9 ops=jD)(hl:¬LetsOut Q)(hS:S w.drew)(h:S w.drew->tZ P .any ops Q S z ops.size (Array.replicate ops.size jE) a w.drew):(Code.region id ops jD).wpIn (Fence.wide.inRound r) n P Q a w:=
 wpIn_region_any hm (XJ hd hl _ _ _ _ (JD _ _ _ _ (h hS)))
theorem aae {a:Act}(h:c.wp P (Exit.then K (λ_ _ _=>False)) a w):c.wp P (Exit.then K Q') a w:=
 wp_mono h (λe a w b=>by cases e<;>first|exact b|exact b.elim)
theorem abl {F:Fence}{a:Act}(h:c.wpIn F n P (Exit.then (λa w=>Q' .normal a w) (λ_ _ _=>False)) a w):c.wpIn F n P Q' a w:=
 wpIn_mono h (λe a w b=>by cases e<;>first|exact b|exact b.elim)
theorem aeP {I:List α×(Nat->Prop)->jF->Prop}{b:Code->List α×(Nat->Prop)->jF->Prop}{xs:List α}{N N':Nat->Prop}{W W':jF}{a:Act}(c:BL N W N' W')(d:I (xs,N') W'):aeQ I b xs N W .normal a W':=⟨N',c,d⟩
theorem acW:¬LetsOut (Exit.then K (λ_ _ _=>False)):=λ⟨_,_,h⟩=>h
end
set_option maxHeartbeats 8000000
set_option maxRecDepth 100000
open Go.Shelf
attribute [local go_sem] Oper.semAt_some
def BS (u:List Bool)(n k:Nat):List Bool:=(ζ n).map (λi=>decide (i<k)&&u.getD i jE)
theorem Qg (hi:i<n):(BS u n k).getD i jE=(decide (i<k)&&u.getD i jE):=by simp[BS,θ,hi]
theorem Sn (u n k):η (BS u n k)=n:=by simp[BS]
theorem Zf (u n):BS u n 0=ρ n jE:=by
 refine jw (by simp[BS]) (λi a b=>?_);simp[BS]
theorem Wx (h:u.getD k jE=jE):BS u n (k+1)=BS u n k:=by
 unfold BS
 grind
theorem acU (h:u.getD k jE=jD):(BS u n k).set k jD=BS u n (k+1):=by
 refine jw (by simp[BS]) (λi a b=>?_);rw[mq];split
 ·rename_i e;subst e;simp only[BS,lJ,l9,h];simp
 ·rename_i e;simp only[BS,lJ,l9]
  grind
theorem Cu {a b c:Value}{cs:Array Value}(h:w.1[g]? =jB (jG cs T (0,0)))(hc:cs.size=3):
  (((w.setCell ⟨g,0,jC⟩ a).setCell ⟨g,1,jC⟩ b).setCell ⟨g,2,jC⟩ c).1[g]? =jB (jG #[a,b,c] T (0,0)):=by
 have d:=heap_setCell_same w g 0 _ _ a h;have e:=heap_setCell_same _ g 1 _ _ b d;have f:=heap_setCell_same _ g 2 _ _ c e;rw[f];obtain⟨l⟩:=cs
 match l,hc with
 |[x,y,z],_=>rfl
theorem Ct (w g a b c):qW (λk=>k=g) w (((w.setCell ⟨g,0,jC⟩ a).setCell ⟨g,1,jC⟩ b).setCell ⟨g,2,jC⟩ c):=
 qW.setCell (S:=λk=>k=g) (p:=⟨g,2,jC⟩) (qW.setCell (S:=λk=>k=g) (p:=⟨g,1,jC⟩) (qW.setCell (S:=λk=>k=g) (p:=⟨g,0,jC⟩) (qW.refl _ w) (λ_=>rfl) a) (λ_=>rfl) b) (λ_=>rfl) c
def Nl (a:rQ)(u:List Bool)(i:Nat):BM:=(a.at i).put (sV u (a.at i).to)
theorem agb {a b c d e:Value}(h:w.1[g]? =jB (jG #[a,b,c,d,e] T (0,0))):
  w.cell? ⟨g,0,jC⟩=jB a/\w.cell? ⟨g,1,jC⟩=jB b/\w.cell? ⟨g,2,jC⟩=jB c/\w.cell? ⟨g,3,jC⟩=jB d/\w.cell? ⟨g,4,jC⟩=jB e:=by
 refine⟨?_,?_,?_,?_,?_⟩<;>(rw[cell_of_row _ _ _ _ _ _ h];rfl)
theorem agR (m)(hm:5<=m)(a Ai ni ci An nn cn w B)(h:sW w B a Ai ni ci An nn cn)(hB:B<=w.1.size)(hT:TabAt 0 Lib.deBruijn64tab w)(N:0<w.1.size)(er:∀x∈a.nodes,x.need<2^64/\x.ban<2^64)(di:∀x∈a.nodes,x.inn<2^64)(KE)(hr:∀x∈a.nodes,η x.to<=KE)(aP:η a.init<=100000000)(et:KE<=1000000):
  CallsIn Fence.wide m jJ 54 #[.agg #[iY iZ a.sets,iX Ai ni ci,iX An nn cn]] w (AV w (trimF a)):=by
 have eu:1<=m:=ω;obtain⟨bO,x0,y0,z0⟩:=uS w (jG #[iY iZ a.sets,iX Ai ni ci,iX An nn cn] 32) (jG #[iY iZ 0,iX jC 0 0,iX jC 0 0] 32);obtain⟨W0,ck⟩:=xQ ((w.alloc (jG #[iY iZ a.sets,iX Ai ni ci,iX An nn cn] 32)).alloc (jG #[iY iZ 0,iX jC 0 0,iX jC 0 0] 32));rw[ck]at bO x0 y0 z0;have cm:=dh (h.below bO hB);obtain⟨ev,ew,ey,bP,ez,q,HG,eA⟩:=dh8 (aac a Ai ni ci An nn cn W0 B cm ω aP (λx hx=>γ)) ck bO x0 y0 z0 N hT;clear ck bO x0 y0 z0 h hT N;refine callsIn_of_wp_marks Tryz.func54 rfl trivial ?_ rfl;apply wpIn_wide.2;simp[Tryz.ntmps54,oC];go_upto_region 1 with fail
 rw[ew.o];have q0:W0.cell? ⟨_,0,_⟩=jB (.int _ _):=cR bP.o;have q1:W0.cell? ⟨_,1,_⟩=jB (iX _ _ _):=cR bP.o;have q2:W0.cell? ⟨_,2,_⟩=jB (iX _ _ _):=cR bP.o;go_wp2_with fail
 apply ev.mono;rintro e w1 ⟨rfl,O⟩;have ao:=(O.block _ (by have:=q.o;omega)).trans bP.o;have Q:=(O.block _ (by have:=q.o;omega)).trans ez.o;have fP:=O.size;have dj:=dh O;have bQ:=dh (ey.trans (dj.mono (show w.1.size<=W0.1.size by have:=q.o;omega)));clear O q0 q1 q2;by_cases aq:tO a=0
 ·have eB:=dh aq;obtain⟨aQ,⟨fQ,fE⟩,hA, -⟩:=vY.1 aq;have aR:=dh hA;obtain⟨s,cp⟩:∃s:Nat,a.sets=s:=⟨a.sets.toNat,ω⟩;obtain⟨bS,eC⟩:=iw ao Q;have a8:=ao;rw[cp]at a8;have q0:w1.cell? ⟨_,0,_⟩=jB (.int _ _):=cR a8;have q1:w1.cell? ⟨_,1,_⟩=jB (iX _ _ _):=cR a8;have q2:w1.cell? ⟨_,2,_⟩=jB (iX _ _ _):=cR a8;have ad:=dh cm.Ov;have fR:nn<=256:=by rw[ad.o];exact aQ
  have dk:=dh (cm.below dj (show B<=W0.1.size by have:=q.o;omega));have eD:=dh (aeX a s Ai ni ci An nn cn w1 B dk (by have:=q.o;omega) aR ω er aP ω (λx hx=>by have:=hr x hx;omega));have dm:=dh cp;rw[aq];clear ao a8 Q cp aq aQ;go_wp2_with fail
  apply eD.mono;rintro e w3 hp;obtain⟨pi,qi,ri,pe,qe,re,pl,ql,rl,pc,qc,rc,rfl,hpl,cq⟩:=hp.open_;have dp:=dh hpl.eni;have aS:Hd (qe=nn):=dh (by have:=hpl.ene;rw[CU]at this;rw[this,ad.o]);have eE:Hd (ql=nn):=dh (by have:=hpl.enl;rw[this,ad.o];simp[zG]);obtain⟨eF,eG⟩:=iw hpl cq;have eH:=cq.size;clear hp hpl cq q0 q1 q2;obtain⟨W3,aT⟩:=xQ (w3.alloc (jG #[iX pi qi ri,iX pe qe re,iX pl ql rl,iX pc qc rc,iY jA (uH s)] 128));have eI:=dh aT;have aU:Below w3.1.size w3 W3:=by rw[<-aT];exact bR.alloc lR _
  have bZ:W3.1.size=w3.1.size+1:=by rw[<-aT];simp
  have dr:W3.1[w3.1.size]? =jB (jG #[iX pi qi ri,iX pe qe re,iX pl ql rl,iX pc qc rc,iY jA (uH s)] 128 (0,0)):=by rw[<-aT];exact heap_alloc_new _ _
  have c0:=dh (eG.trans (aU.mono eH));have dt:=dh ((c0.block _ (by have:=q.o;omega)).trans bS.o);obtain⟨du,dv⟩:=iw dr (eF.below aU lR);have q1:W3.cell? ⟨_,1,_⟩=jB (iX _ _ _):=cR dt.o;have q2:W3.cell? ⟨_,2,_⟩=jB (iX _ _ _):=cR dt.o;obtain⟨k,hk⟩:=xR ((nn+63)/64);obtain⟨eJ,cr⟩:=iw (agd _ k W3 ω hk) hk;clear aT aU dr hk;go_upto_region 4 with fail
  rw[eI.o];go_wp2_with fail
  apply eJ.mono;rintro e w' ⟨rfl,rfl⟩;obtain⟨W4,aH⟩:=xQ (((W3.alloc (jG (madeCells #[iY jA 0] k) 45)).alloc (jG #[iY iZ nn,iX (jB ⟨w3.1.size+1,0,jC⟩) k k] 177)).alloc (jG #[jH (jB ⟨w3.1.size+1+1,0,jC⟩)] 130));have fS:=dh aH;have aD:Below W3.1.size W3 W4:=by rw[<-aH];exact((bR.alloc lR _).alloc ς _).alloc (by simp;omega) _
  have fT:W4.1.size=w3.1.size+4:=by rw[<-aH];simp;omega
  have dx:Cr (w3.1.size+1+1) (w3.1.size+1) nn (ρ k 0) W4:=by
   rw[<-aH];have dy:(W3.alloc (jG (madeCells #[iY jA 0] k) 45)).1.size=w3.1.size+1+1:=by simp;omega
   have h1:=BP (w:=W3) (e:=45) (v:=iY jA 0) (n:=k) (mR _) (by have:=cr.o;unfold maxLen;omega);rw[bZ]at h1;refine⟨?_,?_,by rw[mJ];exact cr.o,λx hx=>by rw[List.eq_of_mem_replicate hx];decide,ω⟩
   ·rw[Below.heap_alloc _ _ _ (by rw[jF.size_alloc,dy];omega),vL dy.symm,mJ]
   ·have e:OM (ρ k 0)=ρ k (iY jA 0):=by simp[OM]
    rw[mJ,e];exact((h1.alloc _).alloc _)
  have c4:W4.cell? ⟨w3.1.size+1+1+1,0,jC⟩=jB (jH (jB ⟨w3.1.size+1+1,0,jC⟩)):=by
   rw[<-aH];have:=(Boxed.new ((W3.alloc (jG (madeCells #[iY jA 0] k) 45)).alloc (jG #[iY iZ nn,iX (jB ⟨w3.1.size+1,0,jC⟩) k k] 177)) 130 (jH (jB ⟨w3.1.size+1+1,0,jC⟩))).cell;rw[jF.size_alloc,jF.size_alloc,bZ]at this;exact this
  obtain⟨eK,c9,ca⟩:=iA dx c4 (c0.trans (aD.mono (show w1.1.size<=W3.1.size by omega)));have aV:=(aD.block _ ω).trans du.o;obtain⟨dz,aW⟩:=iw aV (dv.below aD ω)
  have eL:qe*KE<=1000000000:=by
   have:qe*KE<=256*KE:=mF _ (by have:=aS.o;omega);omega
  have fF:qi<=100000000:=by
   rw[dp.o];exact Nat.le_trans (jO _ _) aP
  have eM:Hd (∀W',Below W4.1.size W4 W'->Calls jJ 81 #[.agg #[iX pi qi ri,iX pe qe re,iX pl ql rl],iX pi qi ri] W' (sI W' 4 1 qe ((yE qe (wL a) (Dr a)).map .bool) False)):=
   dh (λW' hb=>PL pi pe pl qi ri qe re ql rl ⟨Dr a,wL a,_⟩ (Dr a) pi qi ri W' W'.1.size ((aW.below hb ω).g.up (by have:=hb.size;omega)) (((aW.below hb ω).g.hi).up (by have:=hb.size;omega)) dp lR (by have:=aS.o;omega) ω (λr cu=>by have:=open_row hr r cu;omega))
  have eN:Hd (∀W',Below W4.1.size W4 W'->Calls jJ 82 #[.agg #[iX pi qi ri,iX pe qe re,iX pl ql rl,iX pc qc rc,iY jA (uH s:Int)]] W' (sI W' 4 1 qe (qV (Le (wL a) (Bv a) s)) False)):=
   dh (λW' hb=>WA (Dr a) (wL a) _ (Bv a) s pi qi ri pe qe re pl ql rl pc qc rc W'.1.size W' ((aW.below hb ω).up (by have:=hb.size;omega)) lR (ahh aR.o) (by have:=aS.o;omega) KE (open_row hr) eL et (by rw[afK,CU]) (ai7 di) (by have:=dm.o;omega) ω (by have:=eE.o;omega))
  go_upto_region 5 with fail
  obtain⟨p0,p1,p2,p3,p4⟩:=agb aV;clear aH aD dx c4 aV;apply aae;refine wp_region_held_drew (S:=λw'=>q9 w' _ 0 _/\q9 w' _ 1 _/\q9 w' _ 2 _/\q9 w' _ 3 _/\q9 w' _ 4 _) rfl ⟨p0,p1,p2,p3,p4⟩ (λhS=>?_);apply qU 0;apply qU 1;apply qU 2;apply qU 3;apply qU 4;apply qU 6;refine rR 5 (λK F=>?_);go_simp;apply (eM _ (Below.drew bR)).mono;rintro e w5 ⟨v5,rfl,cw,cb, -⟩;have cx:Below W4.1.size _ _:=rF cb;obtain⟨A5,c5,rfl, -⟩:=qX cw;obtain⟨aX,dA⟩:=iw cx cw;have dB:=(cx.block _ ω).trans dz.o;obtain⟨k0,k1,k2,k3,k4⟩:=agb dB;clear cx cb cw;dsimp;refine F _ _ ⟨k0,k1,k2,k3,k4⟩ (λhS=>?_);clear F;refine rR 7 (λK F=>?_);go_simp;apply (eN _ aX.o).mono;rintro e G ⟨v6,rfl,cy,cC, -⟩;obtain⟨A6,c6,rfl, -⟩:=qX cy;obtain⟨cD,dC⟩:=iw cC cy;have eO:=(cC.block _ (by have:=aX.size;omega)).trans dB;obtain⟨l0,l1,l2,l3,l4⟩:=agb eO;clear cC cy;dsimp;refine F _ _ ⟨l0,l1,l2,l3,l4⟩ (λhS=>?_);clear F;apply qU 8;apply qU 9;refine wpAnyH_done rfl ?_ _;go_upto_region 6 with fail
  have aY:=dh (aX.trans (cD.mono aX.size));have eP:=aY.size;have aZ:G.1[w.1.size]? =jB _:=((ca.trans (aY.mono (show w1.1.size<=W4.1.size by omega))).block w.1.size (by have:=q.o;omega)).trans bS.o;have q0:G.cell? ⟨_,0,_⟩=jB (.int _ _):=cR aZ;have q1:G.cell? ⟨_,1,_⟩=jB (iX _ _ _):=cR aZ;have q2:G.cell? ⟨_,2,_⟩=jB (iX _ _ _):=cR aZ;have eQ:=run_make_row' (P:=jJ) 29 3 (iY iZ 0) 8 Tryz.underlying29 Lh rfl iZ iZ nn ω ω;obtain⟨W7,b4⟩:=xQ ((G.alloc (jG (madeCells #[iY iZ 0] nn) 3)).alloc (jG #[iX (jB ⟨G.1.size,0,jC⟩) nn nn] 29));have aE:Below G.1.size G W7:=by rw[<-b4];exact(bR.alloc lR _).alloc ς _
  have fV:W7.1.size=G.1.size+2:=by rw[<-b4];simp
  have b9:W7.ownsRow G.1.size 3 1 (iX (jB ⟨G.1.size,0,jC⟩) nn nn) nn (qO (ρ nn 0)):=by
   have h1:=BP (w:=G) (e:=3) (v:=iY iZ 0) (n:=nn) lR (by unfold maxLen;omega);have h2:=h1.alloc (jG #[iX (jB ⟨G.1.size,0,jC⟩) nn nn] 29);rw[b4]at h2;have e:qO (ρ nn 0)=ρ nn (iY iZ 0):=by simp[qO]
   rw[e];exact h2
  have cd:W7.cell? ⟨G.1.size+1,0,jC⟩=jB (iX (jB ⟨G.1.size,0,jC⟩) nn nn):=by
   rw[<-b4];have:=(Boxed.new (G.alloc (jG (madeCells #[iY iZ 0] nn) 3)) 29 (iX (jB ⟨G.1.size,0,jC⟩) nn nn)).cell;rw[jF.size_alloc]at this;exact this
  have dD:=(aE.block _ (by have:=q.o;omega)).trans aZ;obtain⟨eR,cE,cg,aF⟩:=iB dD b9 cd (aY.trans (aE.mono eP));obtain⟨dE,dF,dG⟩:=iA (eK.below aF.o) (own_below (own_below dA cD.o) aE) (own_below dC aE)
  have HU:Hd (∀i,i<nn->(CB a).getD i jE=((yE qe (wL a) (Dr a)).getD i jE&&(Le (wL a) (Bv a) s).getD i jE)):=dh (λi hi=>by
   have dH:i<η a.nodes:=by rw[<-ad.o];exact hi
   have eS:qe=η a.nodes:=by rw[aS.o,ad.o]
   rw[lG,aai dH,jm];unfold ajl;have e1:=FP (n:=η a.nodes) (E:=wL a) (from_:=Dr a) (i:=(i:Int)) (sU.2 ⟨ω,ω⟩);rw[tN]at e1;have e2:a.sets.toNat=s:=by have:=dm.o;omega
   rw[eS,e1,afF (by rw[CU];exact dH),e2])
  clear q0 q1 dD b9 cd aZ;have cF:Hd (trimF a=zX a _):=dh (by unfold trimF;rw[jd eB.o];rfl);generalize CB a=u at *;go_upto_region 8 with fail
  clear q2 eQ b4;have q2:W7.cell? ⟨_,2,_⟩=jB (iX _ _ _):=cR eR.o;go_wp2
  go_loopw [39,8] (λi o wr=>∃(k:Nat) (Wd:List _) (aA:List _),k<=nn/\i=iY iZ k/\o=iY iZ (uR u k)/\Hd (Cr (w3.1.size+1+1) (w3.1.size+1) nn Wd wr)/\Hd (FB nn Wd (BS u nn k))/\Hd (wr.ownsRow G.1.size 3 1 (iX (jB ⟨G.1.size,0,jC⟩) nn nn) nn (qO aA))/\Hd (∀i,i<k->u.getD i jE=jD->aA.getD i 0=((uR u i:Nat):Int))/\Hd (qW (λj=>j=w3.1.size+1\/j=G.1.size) W7 wr)) (λi _ _=>nn-(intOf i).toNat)
  case atStart=>exact⟨0,_,_,ω,rfl,rfl,dE,dh (by rw[Zf,cr.o];exact FB.start _),cE,dh (λi hi=>absurd hi ω),dh (qW.refl _ _)⟩
  case round=>
   obtain⟨j,Wd,aA,hj,rfl,rfl,bT,bc,bd,bh,R⟩:=hrel;have bU:=R.size;by_cases cG:j<nn
   ·have wj:IntKind.i64.wrap (j+1)=j+1:=by rw[wI];omega
    have hle:uR u j<=j:=Um j;have wn:IntKind.i64.wrap ((uR u j)+1)=(uR u j)+1:=by rw[wI];omega
    have fW:0<=(j:Int):=ω;have fX:j<(nn:Int):=ω;have fY:j<(qe:Int):=by have:=aS.o;omega
    have O:=bD R ω (λe=>ω) (bC aF ω c9.o);have bj:=bD R ω (λe=>ω) cg.o;have h5:=qR dF R (λg N e=>by have h1:=dA.lt g N;have h2:W4.1.size<=g:=h1.1;have:=cD.size;omega);have h6:=qR dG R (λg N e=>by have h1:=dC.lt g N;have:=aX.size;omega);obtain⟨A',c',hf,bm⟩:=qX h5;cases hf;obtain⟨A',c',hf,bn⟩:=qX h6;cases hf;have fZ:=bm.cap;have eT:=bm.max;have ga:=bn.cap;have eU:=bn.max;unfold maxLen at eT eU;have dI:=bm.len;have dJ:=bn.len
    have e5:((yE qe (wL a) (Dr a)).map Value.bool)[j]? =jB (.bool ((yE qe (wL a) (Dr a)).getD j jE)):=by
     rw[kR,gD,gE (by simp at dI;omega)];rfl
    have e6:(qV (Le (wL a) (Bv a) s))[j]? =jB (.bool ((Le (wL a) (Bv a) s).getD j jE)):=by
     rw[qV,kR,gD,gE (by rw[yV]at dJ;omega)];rfl
    obtain⟨b5,o5,rfl,fG,d5⟩:=bm.rd.at_ e5;obtain⟨b6,o6,rfl,fH,d6⟩:=bn.rd.at_ e6;have hu:=HU j cG;generalize (yE _ _ _).getD j _ =r5 at *;generalize (Le _ _ s).getD j _ =r6 at *;have bp:=dh hu;clear e5 e6 bm bn h5 h6 dI dJ hu;cases r5
    ·have bq:u.getD j jE=jE:=by rw[bp.o];rfl
     have HN:=dh (show uR u _ =uR u j by rw[E8,bq];simp);have br:=dh (Wx (n:=nn) bq);go_wp2
     go_roundw
     case rel=>exact⟨j+1,_,_,ω,jM _ rfl,by rw[HN.o],bT,dh (by rw[br.o];exact bc.o),bd,dh (λi hi af=>by
      by_cases e:i=j
      ·subst e;rw[bp.o]at af;cases af
      ·exact bh i ω af),R⟩
     case measure=>simp[intOf];omega
    ·cases r6
     ·have bq:u.getD j jE=jE:=by rw[bp.o];rfl
      have HN:=dh (show uR u _ =uR u j by rw[E8,bq];simp);have br:=dh (Wx (n:=nn) bq);go_wp2
      go_roundw
      case rel=>exact⟨j+1,_,_,ω,jM _ rfl,by rw[HN.o],bT,dh (by rw[br.o];exact bc.o),bd,dh (λi hi af=>by
       by_cases e:i=j
       ·subst e;rw[bp.o]at af;cases af
       ·exact bh i ω af),R⟩
      case measure=>simp[intOf];omega
     ·have bu:u.getD j jE=jD:=by rw[bp.o];rfl
      have HN:=dh (show uR u _ =uR u j+1 by rw[E8,bu];simp);obtain⟨br,dK⟩:=iw (acU (n:=nn) bu) (af9 _ _ _ _ j _ bT cG);clear bu;go_wp2_with fail
      apply dK.mono;rintro e wp ⟨rfl,dL,bV⟩;have fI:G.1.size≠w3.1.size+1:=ω;have bw:=qR bd bV (λg N e=>by simp[Value.ownBlock]at N;omega);have gg:η aA=nn:=by have:=bd.1;rw[xY]at this;omega
      have kU:wp.cell? ⟨G.1.size,j,jC⟩=jB (iY iZ (aA.getD j 0)):=by
       rw[bw.cellAt j ω];simp[qO,θ,show j<η aA by omega]
      have fU:=bw.frozenAt j;have zU:=(bw.lt G.1.size rfl).2;have fJ:=bD bV ω (λe=>ω) bj;obtain⟨eV,eW,eX⟩:=iA dL bw bV;clear dL bV bw O bj d5 d6;go_wp2
      go_roundw
      case rel=>exact⟨j+1,_,_,ω,jM _ rfl,by rw[HN.o];exact jM _ rfl,dh (eV.uQ (sD _ j _) (λe=>ω) (λe=>ω)),dh (by rw[<-br.o];exact bc.put cG),dh (by have:=(eW.stored j (iY iZ (uR u j))).1;rw[qO,lX];exact this),dh (λi hi af=>by
       by_cases e:i=j
       ·subst e;rw[gD,l7 ω];rfl
       ·rw[gD,kG ω,<-gD];exact bh i ω af),dh ((R.then_ (eX.wide (λx e=>.inl e))).then_ ((sD (w:=wp) G.1.size j (iY iZ ((uR u j:Nat):Int))).wide (λx e=>.inr e)))⟩
      case measure=>simp[intOf];omega
   ·have cH:j=nn:=ω;have cI:=dh (by have:=bc.o;rwa [cH]at this);have eY:=dh (by have:=bh.o;rwa [cH]at this);clear bc bh q2 cH;obtain⟨V,hV⟩:=xQ (wr.alloc (jG #[.func (.func 84) #[] #[jH (jB ⟨w3.1.size+1+1+1,0,jC⟩),jH (jB ⟨G.1.size+1,0,jC⟩)]] 134));have aJ:Below wr.1.size wr V:=by rw[<-hV];exact bR.alloc lR _
    have dM:V.1.size=wr.1.size+1:=by rw[<-hV];simp
    have dN:V.cell? ⟨wr.1.size,0,jC⟩=jB (.func (.func 84) #[] #[jH (jB ⟨w3.1.size+1+1+1,0,jC⟩),jH (jB ⟨G.1.size+1,0,jC⟩)]):=by rw[<-hV];exact(Boxed.new wr _ _).cell
    have ar:=dh dN;have T:=dh (((ca.trans (aF.mono (show w1.1.size<=W4.1.size by omega))).trans (R.below (show w1.1.size<=W7.1.size by omega) (λx hx e=>by have e:x=w3.1.size+1\/x=G.1.size:=e;omega))).trans (aJ.mono (show w1.1.size<=wr.1.size by omega)));have cJ:=dh (dk.below T (by have:=q.o;omega));have eZ:=dh ((T.block w.1.size (by have:=q.o;omega)).trans bS.o);have fa:=dh ((T.block (w.1.size+1) (by have:=q.o;omega)).trans eC.o);have O:=bC aJ ω (bD R ω (λe=>by have e:w3.1.size+1+1+1=w3.1.size+1\/w3.1.size+1+1+1=G.1.size:=e;omega) (bC aF ω c9.o));have bj:=bC aJ ω (bD R ω (λe=>by have e:G.1.size+1=w3.1.size+1\/G.1.size+1=G.1.size:=e;omega) cg.o);have cK:=bT.below aJ;have bz:=own_below bd aJ;obtain⟨A',c',hf,dO⟩:=qX bz;cases hf;obtain⟨dP,dQ⟩:=iw cK O
    have cL:Hd (∀(W':jF) (l:List Int) (A:Option Addr) (n c:Nat),Below V.1.size V W'->Sl W' W'.1.size 1 A n c (qO l)->(∀t∈l,sG nn t=jD)->η l<=100000000->Calls jJ 84 #[iX A n c,jH (jB ⟨w3.1.size+1+1+1,0,jC⟩),jH (jB ⟨G.1.size+1,0,jC⟩)] W' (FD W' (sV u l))):=
     dh (λW' l A n c hb hs hl fc=>Zo u l aA A n c (w3.1.size+1+1+1) (G.1.size+1) (w3.1.size+1+1) (w3.1.size+1) nn Wd (jB ⟨G.1.size,0,jC⟩) nn W' W'.1.size
      (bC hb ω O) (by have:=hb.size;omega) (bC hb ω bj) (by have:=hb.size;omega)
      (cK.below hb) (λi hi=>by rw[cI.bit i,Qg hi];simp[hi]) eY ((dO.below hb lR).up hb.size) hs lR hl fc)
    go_upto_region 17 with fail
    have d:=dh dM;clear hV aJ O bj cK bz dO dM
    obtain⟨x0,x1,x2⟩:V.cell? ⟨w.1.size,0,jC⟩=jB (iY iZ a.sets)/\V.cell? ⟨w.1.size,1,jC⟩=jB (iX Ai ni ci)/\V.cell? ⟨w.1.size,2,jC⟩=jB (iX An nn cn):=by
     refine⟨?_,?_,?_⟩<;>(rw[cell_of_row _ _ _ _ _ (0,0) eZ.o];rfl)
    go_cut [11]from 12 (λp wF=>∃ob vi,p=jH (jB ⟨ob,0,jC⟩)/\V.1.size<=ob/\Hd (yN V.1.size ob a.sets vi (sV u a.init) (iX jC 0 0) [] [] wF)/\Hd (Below V.1.size V wF))
    case first=>
     refine aae ?_;refine wp_region_held_drew (S:=λw'=>q9 w' w.1.size 0 (iY iZ a.sets)/\q9 w' w.1.size 1 (iX Ai ni ci)/\q9 w' wr.1.size 0 (.func (.func 84) #[] #[jH (jB ⟨w3.1.size+1+1+1,0,jC⟩),jH (jB ⟨G.1.size+1,0,jC⟩)])) κ ⟨x0,x1,ar.o⟩ (λhS=>?_);refine qU 0 ?_;refine qU 1 ?_;refine qU 2 ?_;refine qU 3 ?_;refine qU 4 ?_;refine wpAnyH_ready (rs:=[5,7]) κ ς ?_;refine(rJ (i:=5) rfl (λK F=>?_) (rJ (i:=7) rfl (λK F=>?_) AllReadyH.nil))
     ·skip
      go_simp;apply (cL _ _ _ _ _ (Below.drew bR) ((cJ.below (Below.drew bR) ω).init.up (by have:=q.o;have:=d.o;first|omega|(rw[jF.size_drew];omega))) (λt ht=>by rw[ad.o];exact aR.1 t ht) aP).mono;rintro e M ⟨v8,rfl,a7,U⟩;have C:Below V.1.size V _:=rF U;obtain⟨A8,c8,rfl, -⟩:=qX a7;dsimp;refine F _ _ ⟨bC C (by have:=q.o;have:=d.o;omega) x0,bC C (by have:=q.o;have:=d.o;omega) x1,bC C (by have:=d.o;omega) ar.o⟩ (λhS=>?_);clear F;refine qU 6 ?_;refine rR 7 (λK F=>?_);obtain⟨wA,au⟩:=xQ (M.alloc (jG #[iY iZ 0,iX jC 0 0,iX jC 0 0] 32));have J:Below V.1.size V wA:=by rw[<-au];exact C.alloc C.size _
      have fe:wA.1.size=M.1.size+1:=by rw[<-au];simp
      have W:wA.1[M.1.size]? =jB (jG #[iY iZ 0,iX jC 0 0,iX jC 0 0] 32):=by rw[<-au];exact heap_alloc_new _ _
      have dR:=own_below a7 (by rw[<-au];exact bR.alloc lR _:Below _ _ wA);go_simp;refine F _ _ ⟨bC J (by have:=q.o;have:=d.o;omega) x0,bC J (by have:=q.o;have:=d.o;omega) x1,bC J (by have:=d.o;omega) ar.o⟩ (λhS=>?_);clear F;refine rR 8 (λK F=>?_);have y0:wA.cell? ⟨_,0,_⟩=jB (.int _ 0):=cR W;have y1:wA.cell? ⟨_,1,_⟩=jB (iX _ 0 0):=cR W;have y2:wA.cell? ⟨_,2,_⟩=jB (iX _ 0 0):=cR W;have f0:=frozen_of_row _ _ 0 _ _ W;have f1:=frozen_of_row _ _ 1 _ _ W;have f2:=frozen_of_row _ _ 2 _ _ W;have yl:=(aI.1 W).1;have cM:=by first|exact lR|exact C.size
      have z:=Cu (a:=iY iZ a.sets) (b:=iX A8 (η (sV u a.init)) c8) (c:=iX jC 0 0) W rfl;have H:=Ct wA (M.1.size) (iY iZ a.sets) (iX A8 (η (sV u a.init)) c8) (iX jC 0 0);have aB:=qR dR H (λg N e=>qQ dR W δ (by rw[N,e]));obtain⟨wF,bA⟩:=xQ (((wA.setCell ⟨M.1.size,0,jC⟩ (iY iZ a.sets)).setCell ⟨M.1.size,1,jC⟩ (iX A8 (η (sV u a.init)) c8)).setCell ⟨M.1.size,2,jC⟩ (iX jC 0 0));rw[bA]at z H aB;have ag:=J.trans (H.below J.size (λx hx e=>by have e:x=M.1.size:=e;omega));have av:Hd (yN V.1.size (M.1.size) a.sets (iX A8 (η (sV u a.init)) c8) (sV u a.init) (iX jC 0 0) [] [] wF):=dh ⟨z,rC aB (by first|exact lR|omega),yg.nil _ _⟩;obtain⟨aC,cN⟩:=iw ag cM;clear z H aB;go_simp;try rw[bA]
      refine F _ _ ⟨bC ag (by have:=q.o;have:=d.o;omega) x0,bC ag (by have:=q.o;have:=d.o;omega) x1,bC ag (by have:=d.o;omega) ar.o⟩ (λhS=>?_);clear F;refine wpAnyH_done κ ?_ _;go_wp2_with fail
      go_meet
      case rel=>exact⟨_,_,rfl,cN.o,av,aC⟩
     ·skip
      obtain⟨wA,au⟩:=xQ (V.drew.alloc (jG #[iY iZ 0,iX jC 0 0,iX jC 0 0] 32));have J:Below V.1.size V wA:=by rw[<-au];exact(Below.drew bR).alloc lR _
      have fe:wA.1.size=V.1.size+1:=by rw[<-au];simp
      have W:wA.1[V.1.size]? =jB (jG #[iY iZ 0,iX jC 0 0,iX jC 0 0] 32):=by rw[<-au];exact heap_alloc_new _ _
      go_simp;refine F _ _ ⟨bC J (by have:=q.o;have:=d.o;omega) x0,bC J (by have:=q.o;have:=d.o;omega) x1,bC J (by have:=d.o;omega) ar.o⟩ (λhS=>?_);clear F;refine rR 5 (λK F=>?_);go_simp;apply (cL _ _ _ _ _ J ((cJ.below J (by have:=q.o;have:=d.o;omega)).init.up (by have:=q.o;have:=d.o;omega)) (λt ht=>by rw[ad.o];exact aR.1 t ht) aP).mono;rintro e M ⟨v8,rfl,a7,U⟩;have C:=J.trans (U.mono J.size);obtain⟨A8,c8,rfl, -⟩:=qX a7;have ah:=(U.block _ ω).trans W;dsimp;refine F _ _ ⟨bC C (by have:=q.o;have:=d.o;omega) x0,bC C (by have:=q.o;have:=d.o;omega) x1,bC C (by have:=d.o;omega) ar.o⟩ (λhS=>?_);clear F;refine qU 6 ?_;refine rR 8 (λK F=>?_);have y0:M.cell? ⟨_,0,_⟩=jB (.int _ 0):=cR ah;have y1:M.cell? ⟨_,1,_⟩=jB (iX _ 0 0):=cR ah;have y2:M.cell? ⟨_,2,_⟩=jB (iX _ 0 0):=cR ah;have f0:=frozen_of_row _ _ 0 _ _ ah;have f1:=frozen_of_row _ _ 1 _ _ ah;have f2:=frozen_of_row _ _ 2 _ _ ah;have yl:=(aI.1 ah).1;have cM:V.1.size<=V.1.size:=ω;have z:=Cu (a:=iY iZ a.sets) (b:=iX A8 (η (sV u a.init)) c8) (c:=iX jC 0 0) ah rfl;have H:=Ct M (V.1.size) (iY iZ a.sets) (iX A8 (η (sV u a.init)) c8) (iX jC 0 0);have aB:=qR a7 H (λg N e=>qQ a7 ah δ (by rw[N,e]));obtain⟨wF,bA⟩:=xQ (((M.setCell ⟨V.1.size,0,jC⟩ (iY iZ a.sets)).setCell ⟨V.1.size,1,jC⟩ (iX A8 (η (sV u a.init)) c8)).setCell ⟨V.1.size,2,jC⟩ (iX jC 0 0));rw[bA]at z H aB;have ag:=C.trans (H.below C.size (λx hx e=>ω));have av:Hd (yN V.1.size _ _ _ _ _ _ _ _):=dh ⟨z,rC aB (by first|exact lR|omega),yg.nil _ _⟩;obtain⟨aC,cN⟩:=iw ag cM;clear z H aB;go_simp;try rw[bA]
      refine F _ _ ⟨bC ag (by have:=q.o;have:=d.o;omega) x0,bC ag (by have:=q.o;have:=d.o;omega) x1,bC ag (by have:=d.o;omega) ar.o⟩ (λhS=>?_);clear F;refine wpAnyH_done rfl ?_ _;go_wp2
      go_meet
      case rel=>exact⟨_,_,rfl,cN.o,av,aC⟩
    case rest=>
     obtain⟨ob,vi,rfl,gh,av,aC⟩:=hcut;have ff:=aC.size;have gi:=bC aC (by have:=d.o;omega) dQ.o;have dS:=dh (Xx (jB ⟨w3.1.size+1+1,0,jC⟩) wc);clear x0 x1 x2 dN;go_wp2_with fail
     apply dS.mono;rintro e w' ⟨rfl,rfl⟩;go_wp2
     obtain⟨W9,bB⟩:=xQ (wc.alloc (jG #[jH (jB ⟨w3.1.size+1+1,0,jC⟩)] 130));have cO:Below wc.1.size wc W9:=by rw[<-bB];exact bR.alloc lR _
     have gj:W9.1.size=wc.1.size+1:=by rw[<-bB];simp
     have fg:W9.cell? ⟨wc.1.size,0,jC⟩=jB (jH (jB ⟨w3.1.size+1+1,0,jC⟩)):=by rw[<-bB];exact(Boxed.new _ _ _).cell
     have bE:=dh (av.below cO);have fK:=bE.lt;have aG:=dh (aC.trans (cO.mono ff));have dT:=dh (T.trans (aG.mono (show w1.1.size<=V.1.size by have:=d.o;omega)));have dU:=dh (bQ.trans (dT.mono (show w.1.size<=w1.1.size by have:=q.o;omega)));have dV:=dP.below aG.o;have fh:TabAt 0 _ _:=λx hx=>bC dU HG (eA x hx)
     rw[bB];clear bB cO;apply (wpIn_wide (n:=m)).1;have gk:=HG.o
     have dW:Hd (∀(pre) (x),pre++[x]<+:Ef Wd->η pre<=16384):=dh (λpre x hp=>by
      have h1:=hp.length_le
      have h2:η (Ef Wd)<=64*η Wd:=by
       have:=jO (yU Wd) (ζ (64*η Wd));rwa [kL]at this
      have h3:=dV.2.2.1;rw[lA]at h1;omega)
     have cP:∀x,(λx=>x=ob) x->x<W9.1.size:=λx e=>ω
     refine EI rfl eu (gf:=125) (lb:=#[jH (jB ⟨wc.1.size,0,jC⟩)]) rfl trivial (enters_of Tryz.func125 κ rfl)
      (ajW (m-1) ω wc.1.size (w3.1.size+1+1) (w3.1.size+1) nn Wd (λx=>x=ob) W9 cP (by have:=d.o;have:=q.o;omega) (λe=>by have e:0=ob:=e;have:=d.o;have:=q.o;omega) fg ω dV (λe=>by have e:w3.1.size+1=ob:=e;have:=d.o;omega) fh) cP (λ_=>rfl)
      (λ(s':List Nat×(Nat->Prop)) X=>(∃vn xs,yN V.1.size ob a.sets vi (sV u a.init) vn (s'.1.map (Nl a u)) xs X/\(∀g,vn.ownBlock=jB g->s'.2 g))/\(BL (λx=>x=ob) W9 s'.2 X/\s'.2 ob))
      (λc s' X=>False)
      (OwnFrom.and (λs' X Y row hx fi cu=>by obtain⟨vn,xs,h1,h2⟩:=hx;exact⟨vn,xs,h1.grown fi cu,h2⟩) (OwnFrom.and (Ec lR (λs':List Nat×(Nat->Prop)=>s'.2)) (ownFrom_pure _ _)))
      (λc _ _ _ _ h _ _=>h)
      ⟨⟨_,_,bE.o,λg N=>by simp[Value.ownBlock]at N⟩,BL.refl cP,rfl⟩
      (λ(x:Nat) a' _=>a'={tmps:=#[.agg #[iY iZ a.sets,iX Ai ni ci,iX An nn cn],jH (jB ⟨w.1.size,0,jC⟩),jH (jB ⟨w.1.size+1,0,jC⟩),jH (jB ⟨w3.1.size,0,jC⟩),jH (jB ⟨w3.1.size+1+1+1,0,jC⟩),iX A5 qe c5,iX A6 qe c6,jH (jB ⟨G.1.size+1,0,jC⟩),iY iZ ((uR u j:Nat):Int),u9,jH (jB ⟨wr.1.size,0,jC⟩),jH (jB ⟨ob,0,jC⟩),iY iZ (x:Int),u13,u14,u15,u16,u17,u18,u19,u20,u21,u22,u23,u24,u25,u26,u27,u28,u29,u30,u31,u32,u33,u34,u35,u36,u37,u38,u39,u40,u41,u42,u43,u44,u45,u46,u47,u48,u49,u50,u51,u52,u53,u54,u55,u56,u57,u58,u59,u60,u61,u62,u63,u64,u65,u66,u67,u68,u69,jH (jB ⟨w3.1.size+1+1,0,jC⟩),.func (.func 125) #[] #[jH (jB ⟨wc.1.size,0,jC⟩)],iY iZ (x:Int),u73,u74,u75,u76,u77,u78,u79,u80,u81,u82,u83,u84,u85,u86,u87,u88,u89,u90,u91,u92,u93,u94],defers:=[]})
      (λ_ _ _ _ _ _ fj _ _=>fj) ?assign ?body ?done ?stop
     case assign=>
      intro l2 pre x N1 X K hi _ F;gi_wp2
      exact F _ _ (qW.refl _ _) hi rfl
     case body=>
      rintro l2 pre x N1 a2 X gl _ _ dX ⟨⟨vn,xs,I,aK⟩,L,aw⟩ rfl hlen;dsimp only at I aK L aw
      have cQ:x∈Ef Wd:=by
       obtain⟨t,ht⟩:=hlen;rw[<-ht];simp
      rw[cI.nums]at cQ;obtain⟨ao,cS⟩:=jL.1 cQ;rw[Sn]at ao;have cT:=jl.1 ao;rw[Qg cT,decide_eq_true cT,lH]at cS;have ax:∀y,(λy=>y=ob) y->V.1.size<=y:=λy e=>by have e:y=ob:=e;omega
      have ay:=dh (aG.trans (Mi L (show V.1.size<=W9.1.size by omega) ax));have dY:=ay.size;have dZ:=dh (((T.trans (ay.mono (show w1.1.size<=V.1.size by have:=d.o;omega))).block w.1.size (by have:=q.o;omega)).trans bS.o);have q2:X.cell? ⟨w.1.size,2,jC⟩=jB (iX An nn cn):=cR dZ.o;have bW:=cJ.below ay (show B<=V.1.size by have:=q.o;have:=d.o;omega);have gm:=(lU bW.nodes).1.cap;have fk:=(lU bW.nodes).1.max;unfold maxLen at fk;obtain⟨bx,ox,nd,At,ct,fl,gp,bF,d0,d1,d2,d3,e0⟩:=wh bW cT;have ch:a.at x=nd:=by unfold rQ.at;rw[gD,bF];rfl
      have cj:=jy bF;obtain⟨aj,e3,cU,fm,fo,e4⟩:=dh6 I L aK dX e0 ch;have gq:(0:Int)<=(x:Int):=ω;have a8:(x:Int)<(nn:Int):=ω;subst fl;have gu:=dh cS;clear I L aK dX e0 bW cQ ao bF ch cS ax;obtain⟨Av,cv,rfl, -⟩:=qX aj.nodes.own;obtain⟨np,bX⟩:=xQ (η (pre.map (Nl a u)));have e7:=dh bX
      have fp:np<=16384:=by
       have h1:=dW pre x hlen;rw[<-bX,jr];omega
      rw[bX]at aj cU;clear bX;clear hlen;obtain⟨XA,bG⟩:=xQ (X.alloc (jG #[iY jA (nd.need:Int),iY jA (nd.ban:Int),iY jA (nd.inn:Int),iX At (η nd.to) ct] 53));have az:Below X.1.size X XA:=by rw[<-bG];exact bR.alloc lR _
      have fL:XA.1.size=X.1.size+1:=by rw[<-bG];simp
      have e8:XA.1[X.1.size]? =jB (jG #[iY jA (nd.need:Int),iY jA (nd.ban:Int),iY jA (nd.inn:Int),iX At (η nd.to) ct] 53 (0,0)):=by rw[<-bG];exact heap_alloc_new X _
      obtain⟨fq,e9,ea,cV,fr⟩:=iC bG az (ay.trans (az.mono dY)) (aj.below az) e8;have eb:=dh ((fo.below az (by have:=q.o;have:=d.o;omega)).up (show B<=XA.1.size by have:=q.o;have:=d.o;omega));have bH:=dh (λg (N:(Value.slice Av np cv).ownBlock=jB g)=>(aj.nodes.own.lt g N));clear bG az e8;gi_wp2
      rw[fq.o];clear d0 d1 d2 d3 q2;obtain⟨s0,s1,s2,s3⟩:=DK fr.o;obtain⟨r0,r1,r2⟩:=cV.cells;have rc:=bC ea (by have:=d.o;omega) ar.o;clear r0 r1;refine abl ?_;refine QZ (S:=λw'=>q9 w' ob 2 (iX Av np cv)/\q9 w' X.1.size 0 (iY jA (nd.need:Int))/\q9 w' X.1.size 1 (iY jA (nd.ban:Int))/\q9 w' X.1.size 2 (iY jA (nd.inn:Int))/\q9 w' X.1.size 3 (iX At (η nd.to) ct)/\q9 w' wr.1.size 0 (.func (.func 84) #[] #[jH (jB ⟨w3.1.size+1+1+1,0,jC⟩),jH (jB ⟨G.1.size+1,0,jC⟩)])) 16 κ κ acW ⟨r2,s0,s1,s2,s3,rc⟩ (λhS=>?_);refine tF 0 [] ?_;refine tF 1 [] ?_;refine tF 2 [] ?_;refine tF 3 [] ?_;refine tF 4 [] ?_;refine tF 5 [] ?_;refine tF 6 [] ?_;refine tF 7 [] ?_;refine tF 8 [] ?_;refine tF 9 [] ?_;refine tF 10 [] ?_;refine rZ (i:=11) rfl κ (λK F=>?_);go_simp;refine(cL _ nd.to At _ ct (Below.drew ea.o) (eb.below (B':=XA.1.size) (Below.drew bR) lR) (λt ht=>by rw[ad.o];exact aR.2 nd cj t ht) (by have:=hr nd cj;omega)).mono ?_;rintro e M ⟨v8,rfl,a7,U⟩;have C:Below XA.1.size XA M:=rF U;obtain⟨A8,c8,rfl, -⟩:=qX a7;obtain⟨ft,cW⟩:=iw a7 C;have ec:=cV.below C;have bI:=dh ec;clear a7 U ec;dsimp only;refine F _ _ ⟨bC C (show ob<XA.1.size from cV.lt) r2,bC C ω s0,bC C ω s1,bC C ω s2,bC C ω s3,bC C (by have:=d.o;omega) rc⟩ (λhS=>?_);clear F;refine tF 12 [] ?_;refine rZ (i:=13) rfl κ (λK F=>?_);go_simp;have tb:=heap_alloc_new M (jG #[iY jA (nd.need:Int),iY jA (nd.ban:Int),iY jA (nd.inn:Int),iX A8 (η (sV u nd.to)) c8] 53);obtain⟨wY,bJ⟩:=xQ (M.alloc (jG #[iY jA (nd.need:Int),iY jA (nd.ban:Int),iY jA (nd.inn:Int),iX A8 (η (sV u nd.to)) c8] 53));have a1:Below M.1.size M wY:=by rw[<-bJ];exact bR.alloc lR _
      have cX:=bI.below a1;have gv:=cW.size;have t0:=bC a1 bI.lt hS.1;have t1:=bC a1 ω hS.2.1;have t2:=bC a1 ω hS.2.2.1;have t3:=bC a1 ω hS.2.2.2.1;have t4:=bC a1 ω hS.2.2.2.2.1;have t5:=bC a1 (by have:=d.o;omega) hS.2.2.2.2.2;rw[bJ]at tb⊢;have ef:=dh bJ;have gw:wY.1.size=M.1.size+1:=by rw[<-bJ];simp
      clear bJ;refine F _ _ ⟨t0,t1,t2,t3,t4,t5⟩ (λhS=>?_);clear F;refine rZ (i:=14) rfl κ (λK F=>?_);refine su rfl (.tmp 79) (.tmp 91) 30 rfl V.1.size 53 4 48 Dh _ _ _ cX.nodes.own rfl M.1.size #[iY jA (nd.need:Int),iY jA (nd.ban:Int),iY jA (nd.inn:Int),iX A8 (η (sV u nd.to)) c8] rfl tb rfl (by simp[Value.oneCell']) (by have:=e7.o;omega) ω ω ?_;intro uZ wZ ak bK bL _;obtain⟨gZ,cZ,rfl⟩:=ownsRow_succ ak;rw[<-ef.o]at bK bL;have cY:=bI.push (x:=nd.put (sV u nd.to)) (rC ft (by show _<=XA.1.size;omega)) ak bK;obtain⟨⟨fz,lz,cz⟩,bM⟩:=cY;have a6:=bK;rw[ef.o]at a6;have t1:=bD a6 ω (λe=>by have:=bH _ e;have h9:X.1.size<X.1.size:=this.2;omega) hS.2.1;have t2:=bD a6 ω (λe=>by have:=bH _ e;have h9:X.1.size<X.1.size:=this.2;omega) hS.2.2.1;have t3:=bD a6 ω (λe=>by have:=bH _ e;have h9:X.1.size<X.1.size:=this.2;omega) hS.2.2.2.1;have t4:=bD a6 ω (λe=>by have:=bH _ e;have h9:X.1.size<X.1.size:=this.2;omega) hS.2.2.2.2.1;have t5:=bD a6 (by have:=d.o;omega) (λe=>by have:=bH _ e;have h9:V.1.size<=wr.1.size:=this.1;have:=d.o;omega) hS.2.2.2.2.2;obtain⟨fu,fv,eg,fM⟩:=iB bM bK bL ak;clear bM bK a6 bL ak;refine F _ _ ⟨cz,t1,t2,t3,t4,t5⟩ (λhS=>?_);clear F;refine tF 15 [] ?_;refine rM (i:=16) rfl κ κ (λK F=>?_);go_simp;refine F _ _ ?_;clear F;refine tX κ ?_;clear hS t0 t1 t2 t3 t4 t5;gi_wp2
      have fw:Nl a u x=nd.put (sV u nd.to):=by unfold Nl;rw[e4.o]
      have hO:=fu.o;simp only[jr]at hO;have da:=((((xG e9.o:qW N1 X XA).then_ (xG cW.o)).then_ ((qW.refl N1 M).alloc _)).then_ (fv.wide (λy e=>cU y e))).then_ ((sD (w:=wZ) ob 2 (iX (jB ⟨gZ,0,jC⟩) (η pre+1) cZ)).wide (λy e=>by have e:y=ob:=e;rw[e];exact aw));have eh:=hO.nodes.own.lt gZ (by simp[Value.ownBlock])
      have ei:gZ<X.1.size->N1 gZ:=λhl=>by
       rcases eg.o with h9|h9
       ·exact cU gZ (by rw[<-h9];simp[Value.ownBlock])
       ·have h8:=cW.size;simp[Value.ownBlock]at h9;omega
      have ej:BL N1 X (λy=>N1 y\/y=gZ) (wZ.setCell ⟨ob,2,jC⟩ (iX (jB ⟨gZ,0,jC⟩) (η pre+1) cZ)):=⟨da,λy hy e=>e.elim id (λe=>by subst e;exact ei hy),λy e=>e.elim (λe=>jh (fm y e) da.size) (λe=>by rw[e];exact eh.2)⟩;have ek:∀g,(Value.slice (jB ⟨gZ,0,jC⟩) (η pre+1) cZ).ownBlock=jB g->(N1 g\/g=gZ):=λg N=>.inr (by simp[Value.ownBlock]at N;exact N.symm)
      have fx:(pre++[x]).map (Nl a u)=pre.map (Nl a u)++[nd.put (sV u nd.to)]:=by rw[jT,kE,l5,fw]
      rw[<-fx]at hO;have hI:∃vn,(∃xs,yN V.1.size ob a.sets vi (sV u a.init) vn ((pre++[x]).map (Nl a u)) xs (wZ.setCell ⟨ob,2,jC⟩ (iX (jB ⟨gZ,0,jC⟩) (η pre+1) cZ)))/\∀g,vn.ownBlock=jB g->(N1 g\/g=gZ):=⟨_,⟨_,hO⟩,ek⟩;have fy:=e3.trans ej;clear hO ek da eh ei;refine aeP (N':=λy=>N1 y\/y=gZ) ej ?_;exact⟨hI,fy,.inl aw⟩
     case done=>
      rintro D N1 X hD gx ⟨⟨vn,xs,I,aK⟩,L,aw⟩ db;dsimp only at I aK L aw;have ax:∀y,(λy=>y=ob) y->V.1.size<=y:=λy e=>by have e:y=ob:=e;omega
      have ay:=dh (aG.trans (Mi L (show V.1.size<=W9.1.size by omega) ax));have dY:=ay.size;have fA:=(aI.1 db).1
      have eo:(Ef Wd).map (Nl a u)=(zX a u).nodes:=by
       have e:Ef Wd=(ζ (η a.nodes)).filter (λi=>u.getD i jE):=by
        rw[cI.nums];unfold ajk;rw[Sn,ad.o];refine o7 (λi hi=>?_);have hi:=jl.1 hi;rw[Qg hi,decide_eq_true hi,lH]
       rw[e];rfl
      rw[eo]at I;obtain⟨aL,aM,aN,aO,bY,dc, -⟩:=I.rd;obtain⟨n1,dd⟩:=xQ (η (sV u a.init));obtain⟨n2,de⟩:=xQ (zX a u).nodes.length;rw[dd]at bY;rw[de]at dc;obtain⟨gy,gA,gF⟩:=iA dd de bY;rw[bY,dc]at I;obtain⟨ep,fB⟩:=iw I db;obtain⟨r0,r1,r2⟩:=I.cells;have hy:=(ay.block (w.1.size+1) (by have:=q.o;have:=d.o;omega)).trans fa.o;have y0:X.cell? ⟨w.1.size+1,0,jC⟩=jB (iY iZ 0):=cR hy;have y1:X.cell? ⟨w.1.size+1,1,jC⟩=jB (iX jC 0 0):=cR hy;have y2:X.cell? ⟨w.1.size+1,2,jC⟩=jB (iX jC 0 0):=cR hy;have f0:=frozen_of_row X _ 0 _ _ hy;have f1:=frozen_of_row X _ 1 _ _ hy;have f2:=frozen_of_row X _ 2 _ _ hy;have yl:=(aI.1 hy).1;have HY:=dh hy;clear eo dd de bY dc I db hy L aK ax;go_wp2
      obtain⟨Y,hY⟩:=xQ (((X.setCell ⟨w.1.size+1,0,jC⟩ (iY iZ a.sets)).setCell ⟨w.1.size+1,1,jC⟩ (iX aL n1 aM)).setCell ⟨w.1.size+1,2,jC⟩ (iX aN n2 aO));have z:=Cu (a:=iY iZ a.sets) (b:=iX aL n1 aM) (c:=iX aN n2 aO) HY rfl;have H:=Ct X (w.1.size+1) (iY iZ a.sets) (iX aL n1 aM) (iX aN n2 aO);rw[hY]at z H⊢;clear hY y0 y1 y2 f0 f1 f2 r0 r1 r2;have gG:w.1.size+1<D:=by have:=q.o;have:=d.o;omega
      have df:=(H.block D fA (λe=>ω)).trans fB.o;have cX:=ep.keep H (λe=>by have:=q.o;have:=d.o;omega) (λg N e=>by exact qQ ep.nodes.own HY δ (by rw[N,e])) (λu' n ys ho g N e=>by exact qQ ho HY δ (by rw[N,e]));have a1:=(bQ.trans ((T.trans (ay.mono (show w1.1.size<=V.1.size by have:=d.o;omega))).mono (show w.1.size<=w1.1.size by have:=q.o;omega))).trans (H.below (show w.1.size<=X.1.size by omega) (λy hy e=>ω));obtain⟨Z,hZ⟩:=xQ (Y.putObj D (.deferred jC))
      have bM:yN V.1.size ob a.sets (iX aL n1 aM) (sV u a.init) (iX aN n2 aO) (zX a u).nodes xs Z:=by
       rw[<-hZ];exact cX.grown (grownBy_putObj' Y D _) (λr e=>by cases e;exact⟨mR _,_,df,rfl⟩)
      have fC:Below w.1.size w Z:=by rw[<-hZ];exact a1.trans (belowK_b lR Y D _ _ ω df rfl rfl)
      have bU:Z.1[w.1.size+1]? =jB (jG #[iY iZ a.sets,iX aL n1 aM,iX aN n2 aO] 32 (0,0)):=by rw[<-hZ];exact(jF.putObj_heap_other ω).trans z
      have g0:Z.cell? ⟨_,0,_⟩=jB (.int _ _):=cR bU;have g1:Z.cell? ⟨_,1,_⟩=jB (iX _ _ _):=cR bU;have g2:Z.cell? ⟨_,2,_⟩=jB (iX _ _ _):=cR bU;refine⟨ς,.inl ⟨_,_,rfl,run_takeDeferred df,?_⟩⟩;rw[hZ]
      have bN:AV w (trimF a) (.returned (.agg #[iY iZ a.sets,iX aL n1 aM,iX aN n2 aO])) Z:=by
       rw[cF.o];obtain⟨_,_,_,_,e1,e2,fD⟩:=bM.rd;cases e1;cases e2;exact⟨_,_,_,_,_,_,rfl,fD,fC,bM.sep.mono (by have:=T.size;have:=bQ.size;omega)⟩
      refine⟨_,?_,bN⟩;simp[results,Tryz.results54,go_sem,g0,g1,g2]
     case stop=>exact λ_ _ _ _ _ _ _ _ h=>h.elim
 ·have gH:((tO a)==0)=jE:=by rw[kF];exact aq
  have fN:((tO a)!=0)=jD:=by rw[bne_iff_ne];exact aq
  have fO:=decide_eq_false aq;have cF:Hd (trimF a=rQ.zero):=dh (by unfold trimF;simp_all);have y0:w1.cell? ⟨_,0,_⟩=jB (.int _ 0):=cR Q;have y1:w1.cell? ⟨_,1,_⟩=jB (iX _ 0 0):=cR Q;have y2:w1.cell? ⟨_,2,_⟩=jB (iX _ 0 0):=cR Q;have f0:=frozen_of_row _ _ 0 _ _ Q;have f1:=frozen_of_row _ _ 1 _ _ Q;have f2:=frozen_of_row _ _ 2 _ _ Q;have yl:=(aI.1 Q).1;have HY:=dh Q;clear aq ao Q;go_wp2
  have z:=Cu (a:=iY iZ 0) (b:=iX jC 0 0) (c:=iX jC 0 0) HY rfl;have H:=Ct w1 (w.1.size+1) (iY iZ 0) (iX jC 0 0) (iX jC 0 0);obtain⟨Y,hY⟩:=xQ (((w1.setCell ⟨w.1.size+1,0,jC⟩ (iY iZ 0)).setCell ⟨w.1.size+1,1,jC⟩ (iX jC 0 0)).setCell ⟨w.1.size+1,2,jC⟩ (iX jC 0 0));rw[hY]at z H⊢;have a1:=bQ.trans (H.below (show w.1.size<=w1.1.size by omega) (λy hy e=>ω));have g0:Y.cell? ⟨_,0,_⟩=jB (.int _ 0):=cR z;have g1:Y.cell? ⟨_,1,_⟩=jB (iX _ 0 0):=cR z;have g2:Y.cell? ⟨_,2,_⟩=jB (iX _ 0 0):=cR z
  have bN:AV w (trimF a) (.returned (.agg #[iY iZ 0,iX jC 0 0,iX jC 0 0])) Y:=by
   rw[cF.o];exact⟨_,0,0,_,0,0,rfl,xI Y _,a1,FL Y⟩
  refine⟨_,?_,bN⟩;simp[results,Tryz.results54,go_sem,g0,g1,g2]
theorem Ru (a Ai ni ci An nn cn w B)(h:sW w B a Ai ni ci An nn cn)(i:B<=w.1.size)(j:TabAt 0 Lib.deBruijn64tab w)(k:0<w.1.size)(c:∀x∈a.nodes,x.need<2^64/\x.ban<2^64)(b:∀x∈a.nodes,x.inn<2^64)(KE)(l:∀x∈a.nodes,η x.to<=KE)(d:η a.init<=100000000)(e:KE<=1000000):
  Calls jJ 54 #[.agg #[iY iZ a.sets,iX Ai ni ci,iX An nn cn]] w (AV w (trimF a)):=
 (callsIn_wide (n:=5)).1 (agR 5 lR a Ai ni ci An nn cn w B h i j k c b KE l d e)
