/- A part of the proof. -/
import Derived.Test.YtdmeoldcifddiaaGreatDoorZab
import Derived.Test.YtdmeoldcifddiaaGreatDoorProg
import Derived.OwnWalk
import Derived.Laws.StructEq
import Derived.Outline
/- Graphs: what ways reach, by a list of open nodes. Plain. -/
namespace Go.Proofs.YtdmeoldcifddiaaGreatDoor
open Go.Value renaming slice -> iX, int -> iY
open Go.IntKind renaming i64 -> iZ
open Option renaming some -> jB, none -> jC
open Bool renaming true -> jD, false -> jE
open Go renaming World -> jF
open Go.Proofs.Tryz renaming prog -> jJ
open List renaming length -> η, replicate -> ρ, range -> ζ, getD -> θ, mem_append -> ν
variable {m op:Int}{E:List (List Nd)}{asks:List (Nat->Bool)}{l next now y z:List Bool}{s:List Bool×List Int}{from_:List Int}{parts:List Nat}{f:List Nd}{B N ban c g i j k n need q:Nat}{F ask p:Nat->Bool}{R:Nat->Nat->Prop}{P:Nat->Prop}{x:Nd}{a a' b b' r t:Tr}{α:Type}{v:Value}{w w' w1 w2 wr:jF}
structure iq where
 init:List Int
 edges:List (List Nd)
 labels:List Int
def sG (n:Nat)(i:Int):Bool:=decide (0<=i)&&decide (i<(n:Int))
theorem sU {i:Int}:sG n i=jD↔0<=i/\i<(n:Int):=by simp[sG]
theorem rO {i:Int}(h:sG n i=jD):∃k:Nat,i=k/\k<n:=by
 have:=sU.1 h;exact⟨i.toNat,ω,ω⟩
def vis (n:Nat)(s:List Bool×List Int)(i:Int):List Bool×List Int:=
 if sG n i=jD/\s.1.getD i.toNat jD=jE then(s.1.set i.toNat jD,s.2++[i])else s
def tgts (l:List Nd):List Int:=l.map (·.op)
def O9 (n:Nat)(E:List (List Nd))(s:List Bool×List Int)(k:Nat):List Bool×List Int:=
 match s.2[k]? with
 |some i=>(tgts (E.getD i.toNat [])).foldl (vis n) s
 |none=>s
def Cc (n:Nat)(E:List (List Nd))(from_:List Int):Nat->List Bool×List Int
 |0=>from_.foldl (vis n) (ρ n jE,[])
 |k+1=>O9 n E (Cc n E from_ k) k
structure X0 (n:Nat)(s:List Bool×List Int):Prop where
 len:η s.1=n
 cnt:η s.2=s.1.count jD
 rng:∀i∈s.2,sG n i=jD
theorem count_set (a:k<η l)(h:l.getD k jD=jE):(l.set k jD).count jD=l.count jD+1:=by
 induction l generalizing k with
 |nil=>simp at a
 |cons x l b=>
  cases k with
  |zero=>
   simp[θ]at h;subst h;simp
  |succ k=>
   simp[θ]at h a;have:=b (k:=k) a (by simpa[θ]using h);simp[List.count_cons,this];omega
theorem Ye (h:X0 n s)(i):X0 n (vis n s i):=by
 unfold vis;split
 ·rename_i hc;obtain⟨k,rfl,b⟩:=rO hc.1;refine⟨by simp[h.len],?_,?_⟩
  ·simp only[lA,jP,lD,tN];rw[count_set (by rw[h.len];exact b) (by simpa using hc.2),h.cnt]
  ·intro j a;simp only[ν,mS]at a;rcases a with a|rfl
   ·exact h.rng j a
   ·exact hc.1
 ·exact h
theorem Gc:∀(l:List Int) {s:List Bool×List Int},X0 n s->X0 n (l.foldl (vis n) s)
 |[],_,h=>h
 |i::l,_,h=>Gc l (Ye h i)
theorem L9 (n):X0 n (ρ n jE,[]):=⟨ς,by simp[List.count_replicate],ς⟩
theorem Et (n E from_):∀k,X0 n (Cc n E from_ k)
 |0=>Gc _ (L9 n)
 |k+1=>by
  rw[Cc,O9];split
  ·exact Gc _ (Et n E from_ k)
  ·exact Et n E from_ k
theorem X0.le (h:X0 n s):η s.2<=n:=by
 rw[h.cnt,<-h.len];exact List.count_le_length
theorem X0.lt (h:X0 n s)(b:k<n)(hf:s.1.getD k jD=jE):η s.2<n:=by
 have c:=h.le;have a:=Ye h (k:Int)
 have d:(vis n s (k:Int)).2.length=η s.2+1:=by
  rw[vis,jd ⟨sU.2 ⟨ω,ω⟩,by simpa using hf⟩];simp
 have:=a.le;omega
theorem MJ {n:Nat}:∀(l:List Int) (s:List Bool×List Int),∃r,(l.foldl (vis n) s).2=s.2++r
 |[],s=>⟨[],ς⟩
 |i::l,s=>by
  obtain⟨r,a⟩:=MJ l (vis n s i);unfold vis at a;simp only[jZ];unfold vis;split at a
  ·rename_i h;rw[jd h];exact⟨i::r,by rw[a];simp⟩
  ·rename_i h;rw[d9 h];exact⟨r,a⟩
theorem Vu (k):∃r,(Cc n E from_ (k+1)).2=(Cc n E from_ k).2++r:=by
 rw[Cc,O9];split
 ·exact MJ _ _
 ·exact⟨[],ς⟩
theorem Pg {i:Int}(h:(Cc n E from_ k).2[k]? =jB i):Cc n E from_ (k+1)=(tgts (E.getD i.toNat [])).foldl (vis n) (Cc n E from_ k):=by
 rw[Cc,O9,h]
theorem Pf {n:Nat}{E:List (List Nd)}{from_:List Int}{k:Nat}(h:(Cc n E from_ k).2.length<=k):∀d,Cc n E from_ (k+d)=Cc n E from_ k
 |0=>rfl
 |d+1=>by
  have a:=Pf h d;rw[<-mD,Cc,a,O9,jQ ω]
def yE (n:Nat)(E:List (List Nd))(from_:List Int):List Bool:=(Cc n E from_ n).1
theorem PN (a:k<=(Cc n E from_ k).2.length)(h:(Cc n E from_ k).2.length<=k):yE n E from_ =(Cc n E from_ k).1:=by
 have:=(Et n E from_ k).le;rw[yE,show n=k+(n-k) by omega];have e:=Pf (E:=E) (from_:=from_) (n:=k+(n-k)) (k:=k) (by rw[show k+(n-k)=n by omega];exact h) (n-k);rw[e]
theorem YK (n:Nat)(E:List (List Nd))(from_:List Int):η (yE n E from_)=n:=(Et n E from_ n).len
inductive gP (n:Nat)(E:List (List Nd))(from_:List Int):Int->Prop
 |start {i:Int}:i∈from_->sG n i=jD->gP n E from_ i
 |step {i j:Int}:gP n E from_ i->j∈tgts (E.getD i.toNat [])->sG n j=jD->gP n E from_ j
theorem gP.node {i:Int}(h:gP n E from_ i):sG n i=jD:=by
 cases h<;>assumption
def Te (n:Nat)(s:List Bool×List Int):Prop:=∀i:Int,sG n i=jD->(i∈s.2↔s.1.getD i.toNat jE=jD)
theorem agK (hl:η s.1=n)(h:Te n s)(i):Te n (vis n s i)/\(∀j,j∈(vis n s i).2↔j∈s.2\/(j=i/\sG n i=jD)):=by
 unfold vis;split
 ·rename_i hc;obtain⟨k,rfl,d⟩:=rO hc.1;refine⟨λj a=>?_,λj=>by simp[hc.1]⟩;obtain⟨m,rfl,hm⟩:=rO a;simp only[ν,mS,tN];by_cases e:(m:Int)=k
  ·have:m=k:=ω;subst this;simp[θ,hl,hm]
  ·have b:k≠m:=λh=>e ω
   have:=h (m:Int) a;rw[this];simp only[tN,θ,kG b];simp[e]
 ·rename_i hc;refine⟨h,λj=>⟨.inl,?_⟩⟩;rintro(a|⟨rfl,a⟩)
  ·exact a
  ·obtain⟨k,rfl,d⟩:=rO a;refine(h _ a).2 ?_;have c:¬s.1.getD k jD=jE:=λe=>hc ⟨a,by simpa using e⟩
   simp only[tN];simp only[θ,gE (show k<η s.1 by omega),jS]at c⊢;simpa using c
theorem DF {n:Nat}:∀(l:List Int) {s:List Bool×List Int},X0 n s->Te n s->Te n (l.foldl (vis n) s)/\(∀j,j∈(l.foldl (vis n) s).2↔j∈s.2\/(j∈l/\sG n j=jD))
 |[],s,_,h=>⟨h,ς⟩
 |i::l,s,b,h=>by
  obtain⟨c,d⟩:=agK b.len h i;obtain⟨e,f⟩:=DF l (Ye b i) c;refine⟨e,λj=>?_⟩;rw[jZ,f,d];simp only[jk];constructor
  ·rintro((h|⟨rfl,h⟩)|⟨h,a⟩)
   ·exact .inl h
   ·exact .inr ⟨.inl rfl,h⟩
   ·exact .inr ⟨.inr h,a⟩
  ·rintro(h|⟨rfl|h,a⟩)
   ·exact .inl (.inl h)
   ·exact .inl (.inr ⟨rfl,a⟩)
   ·exact .inr ⟨h,a⟩
theorem TR (n):Te n (ρ n jE,[]):=λi hi=>by
 obtain⟨k,rfl,a⟩:=rO hi;simp[θ,a]
theorem GL (n E from_):∀k,Te n (Cc n E from_ k)
 |0=>(DF _ (L9 n) (TR n)).1
 |k+1=>by
  rw[Cc,O9];split
  ·exact(DF _ (Et n E from_ k) (GL n E from_ k)).1
  ·exact GL n E from_ k
theorem N9:∀(k:Nat) (i:Int),i∈(Cc n E from_ k).2->gP n E from_ i
 |0,i,h=>by
  rw[Cc,(DF _ (L9 n) (TR n)).2]at h;rcases h with h|⟨h,a⟩
  ·simp at h
  ·exact .start h a
 |k+1,i,h=>by
  rw[Cc,O9]at h;split at h
  ·rename_i x b;rw[(DF _ (Et n E from_ k) (GL n E from_ k)).2]at h;rcases h with h|⟨h,a⟩
   ·exact N9 k i h
   ·exact .step (N9 k x (jy b)) h a
  ·exact N9 k i h
theorem TK {n:Nat}{E:List (List Nd)}{from_:List Int}{k:Nat}:∀d,∃r,(Cc n E from_ (k+d)).2=(Cc n E from_ k).2++r
 |0=>⟨[],ς⟩
 |d+1=>by
  obtain⟨r,b⟩:=TK (k:=k) d;obtain⟨r',a⟩:=Vu (n:=n) (E:=E) (from_:=from_) (k+d);exact⟨r++r',by rw[<-mD,a,b,lg]⟩
theorem FP {i:Int}(hi:sG n i=jD):(yE n E from_).getD i.toNat jE=jD↔gP n E from_ i:=by
 rw[yE,<-GL n E from_ n i hi];refine⟨N9 n i,λh=>?_⟩;clear hi;induction h with
 |start h d=>
  obtain⟨r,a⟩:=TK (n:=n) (E:=E) (from_:=from_) (k:=0) n;rw[ng]at a;rw[a,ν];exact .inl (((DF _ (L9 n) (TR n)).2 _).2 (.inr ⟨h,d⟩))
 | @step i j _ f g l=>
  obtain⟨k,b⟩:=mV l
  have m:k<n:=by
   have:=(gB.1 b).1;have:=(Et n E from_ n).le;omega
  have c:(Cc n E from_ k).2[k]? =jB i:=by
   by_cases hs:k<(Cc n E from_ k).2.length
   ·obtain⟨r,a⟩:=TK (n:=n) (E:=E) (from_:=from_) (k:=k) (n-k);rw[show k+(n-k)=n by omega]at a;rw[a,gC hs]at b;exact b
   ·have e:=Pf (n:=n) (E:=E) (from_:=from_) (k:=k) ω (n-k);rw[show k+(n-k)=n by omega]at e;rw[e]at b;exact b
  obtain⟨r,a⟩:=TK (n:=n) (E:=E) (from_:=from_) (k:=k+1) (n-(k+1));rw[show k+1+(n-(k+1))=n by omega]at a;rw[a,ν];left;rw[Pg c,(DF _ (Et n E from_ k) (GL n E from_ k)).2];exact .inr ⟨f,g⟩
def wJ (n a:Nat)(R:List (List Nd))(e:Nd):List (List Nd):=
 if sG n e.op=jD then R.set e.op.toNat (R.getD e.op.toNat []++[⟨a,e.n⟩])else R
def vN (n:Nat)(E:List (List Nd)):Nat->List (List Nd)
 |0=>ρ n []
 |a+1=>(E.getD a []).foldl (wJ n a) (vN n E a)
def yI (E:List (List Nd)):List (List Nd):=vN (η E) E (η E)
theorem Rt {a:Nat}(R e):η (wJ n a R e)=η R:=by unfold wJ;split<;>simp
theorem Rq {a:Nat}:∀(l:List Nd) (R:List (List Nd)),η (l.foldl (wJ n a) R)=η R
 |[],_=>rfl
 |e::l,R=>by rw[jZ,Rq l,Rt]
theorem JH {n:Nat}{E:List (List Nd)}:∀a,η (vN n E a)=n
 |0=>by simp[vN]
 |a+1=>by rw[vN,Rq,JH a]
theorem Rs (E):η (yI E)=η E:=JH _
theorem Ez {l:List α}{x d:α}(h:k<η l):(l.set k x).getD k d=x:=by simp[θ,h]
theorem Ll {l:List α}{m:Nat}{x d:α}(h:k≠m):(l.set k x).getD m d=l.getD m d:=by simp[θ,kG h]
theorem abz {a:Nat}{R:List (List Nd)}(f:η R=n)(e){t:Nat}(g:t<n)(x):
  x∈(wJ n a R e).getD t []↔x∈R.getD t []\/(e.op=t/\x=⟨a,e.n⟩):=by
 unfold wJ;split
 ·rename_i h;obtain⟨k,c,d⟩:=rO h;rw[c,tN];by_cases e1:k=t
  ·subst e1;rw[Ez ω];simp
  ·rw[Ll e1];constructor
   ·exact .inl
   ·rintro(h|⟨h,_⟩)
    ·exact h
    ·exact absurd ω e1
 ·rename_i h;constructor
  ·exact .inl
  ·rintro(b|⟨b,_⟩)
   ·exact b
   ·exact absurd (sU.2 ⟨ω,ω⟩) h
theorem Rp {a:Nat}{t:Nat}(b:t<n)(x):∀(l:List Nd) {R:List (List Nd)},η R=n->
  (x∈(l.foldl (wJ n a) R).getD t []↔x∈R.getD t []\/∃e∈l,e.op=t/\x=⟨a,e.n⟩)
 |[],R,_=>ς
 |e::l,R,c=>by
  rw[jZ,Rp b x l (by rw[Rt,c]),abz c e b];simp only[jk,exists_eq_or_imp,or_assoc]
theorem JG {n:Nat}{E:List (List Nd)}{t:Nat}(b:t<n)(x):∀k,(x∈(vN n E k).getD t []↔∃a,a<k/\∃e∈E.getD a [],e.op=t/\x=⟨a,e.n⟩)
 |0=>by simp[vN,θ,b]
 |k+1=>by
  rw[vN,Rp b x _ (JH k),JG b x k];constructor
  ·rintro(⟨a,c,h⟩|h)
   ·exact⟨a,ω,h⟩
   ·exact⟨k,ω,h⟩
  ·rintro⟨a,c,h⟩;by_cases e:a=k
   ·subst e;exact .inr h
   ·exact .inl ⟨a,ω,h⟩
theorem Vg {t:Nat}(d:t<η E){j:Int}:j∈tgts ((yI E).getD t [])↔∃a:Nat,j=a/\a<η E/\(t:Int)∈tgts (E.getD a []):=by
 simp only[tgts,jg];constructor
 ·rintro⟨x,f,rfl⟩;obtain⟨a,b,e,he,c,rfl⟩:=(JG d x _).1 f;exact⟨a,rfl,b,e,he,c⟩
 ·rintro⟨a,rfl,b,e,he,c⟩;exact⟨⟨a,e.n⟩,(JG d _ _).2 ⟨a,b,e,he,c,rfl⟩,rfl⟩
def xC (n:Nat)(goal:List Bool):List Int:=((ζ (min (η goal) n)).filter (λi=>goal.getD i jE)).map (λ(i:Nat)=>(i:Int))
structure DOk (n:Nat)(T:List (List Nd))(goals:List Int)(s:List Int×List Int):Prop where
 len:η s.1=n
 rng:∀i∈s.2,sG n i=jD
 cnt:η s.2=s.1.countP (λx=>decide (0<=x))
 lo:∀i:Nat, -1<=s.1.getD i 0
 at_:∀(j:Nat) i,s.2[j]? =jB i->0<=s.1.getD i.toNat 0/\s.1.getD i.toNat 0<=(j:Int)
 mem:∀i:Nat,i<n->0<=s.1.getD i 0->(i:Int)∈s.2
 zero:∀i:Nat,i<n->(s.1.getD i 0=0↔(i:Int)∈goals)
 pre:∀i:Nat,i<n->1<=s.1.getD i 0->∃a∈s.2,s.1.getD a.toNat 0=s.1.getD i 0-1/\(i:Int)∈tgts (T.getD a.toNat [])
theorem countP_set {l:List Int}{d:Int}(a:k<η l)(h:l.getD k 0<0)(hd:0<=d):(l.set k d).countP (λx=>decide (0<=x))=l.countP (λx=>decide (0<=x))+1:=by
 induction l generalizing k with
 |nil=>simp at a
 |cons x l b=>
  cases k with
  |zero=>
   simp[θ]at h;rw[lW,lC,lC,jd (by simpa using hd),d9 (by simp;omega)]
  |succ k=>
   simp[θ]at h a;have:=b (k:=k) a (by simpa[θ]using h);rw[lQ,lC,lC,this];omega
section
variable {n:Nat}{T:List (List Nd)}{goals:List Int}
theorem DOk.le {s:List Int×List Int}(h:DOk n T goals s):η s.2<=n:=by
 rw[h.cnt,<-h.len];exact nV
theorem DOk.hi {s:List Int×List Int}(h:DOk n T goals s)(i)(hi:i<n):s.1.getD i 0<(n:Int):=by
 by_cases b:0<=s.1.getD i 0
 ·obtain⟨j,a⟩:=mV (h.mem i hi b);have c:=h.at_ j i a;have:=(gB.1 a).1;have:=h.le;rw[tN]at c;omega
 ·omega
end
theorem Gb {goal:List Bool}(hi:i<n):(i:Int)∈xC n goal↔goal.getD i jE=jD:=by
 simp only[xC,jg,jL,jl];constructor
 ·rintro⟨k,⟨c,a⟩,d⟩;have:k=i:=ω;subst this;exact a
 ·intro h
  have e:i<η goal:=by
   by_cases b:i<η goal
   ·exact b
   ·simp[θ,jQ (by omega:η goal<=i)]at h
  exact⟨i,⟨ω,h⟩,rfl⟩
def hasB (s:List Bool)(i:Int):Bool:=sG (η s) i&&s.getD i.toNat jE
theorem WU {s:List Bool}(h:k<η s):hasB s (k:Int)=s.getD k jE:=by
 rw[hasB,sU.2 ⟨ω,ω⟩,lH,tN]
theorem WV {s:List Bool}{i:Int}:hasB s i=jD↔∃k:Nat,i=k/\k<η s/\s.getD k jE=jD:=by
 rw[hasB,jm];constructor
 ·rintro⟨b,c⟩;obtain⟨k,rfl,a⟩:=rO b;exact⟨k,rfl,a,by simpa using c⟩
 ·rintro⟨k,rfl,a,h⟩;exact⟨sU.2 ⟨ω,ω⟩,by simpa using h⟩
def uL (E:List (List Nd))(z:List Bool):List (List Nd):=(ζ (η E)).map λi=>if z.getD i jE=jD then(E.getD i []).filter (λe=>hasB z e.op)else[]
def Ei (z:List Bool)(ask:Nat->Bool):List Bool:=(ζ (η z)).map λi=>z.getD i jE&&ask i
def xg (E:List (List Nd))(z:List Bool)(ask:Nat->Bool):List Bool:=
 (ζ (η z)).map λi=>((uL E z).getD i []).any (λe=>(UK (η z) (uL E z) (Ei z ask)).getD e.op.toNat jE)
where UK (n:Nat) (E:List (List Nd)) (goal:List Bool):List Bool:=yE n (yI E) (xC n goal)
theorem Gy (E z):η (uL E z)=η E:=by simp[uL]
theorem Bo (E z)(ask:Nat->Bool):η (xg E z ask)=η z:=by simp[xg]
theorem JE (hi:i<η E){e:Nd}:e∈(uL E z).getD i []↔z.getD i jE=jD/\e∈E.getD i []/\hasB z e.op=jD:=by
 have:(uL E z).getD i []=if z.getD i jE=jD then(E.getD i []).filter (λe=>hasB z e.op)else[]:=by simp[uL,θ,hi]
 rw[this];split
 ·rename_i h;rw[jL];exact⟨λ⟨a,b⟩=>⟨h,a,b⟩,λ⟨_,a,b⟩=>⟨a,b⟩⟩
 ·rename_i h;simp only[kC,false_iff];exact λc=>h c.1
def Ed (E:List (List Nd))(z:List Bool)(i j:Nat):Prop:=i<η E/\j<η z/\z.getD i jE=jD/\z.getD j jE=jD/\(j:Int)∈tgts (E.getD i [])
inductive tT (R:Nat->Nat->Prop):Nat->Nat->Prop
 |refl (a:Nat):tT R a a
 |step {a b c:Nat}:R a b->tT R b c->tT R a c
theorem tT.mono {S:Nat->Nat->Prop}(h:∀a b,R a b->S a b){a b:Nat}(l:tT R a b):tT S a b:=by
 induction l with
 |refl a=>exact .refl a
 |step r _ c=>exact .step (h _ _ r) c
theorem tT.snoc {a b:Nat}(l:tT R a b)(r:R b c):tT R a c:=by
 induction l with
 |refl a=>exact .step r (.refl _)
 |step r' _ d=>exact .step r' (d r)
theorem tT.trans {a b:Nat}(l:tT R a b)(m:tT R b c):tT R a c:=by
 induction l with
 |refl a=>exact m
 |step r _ d=>exact .step r (d m)
theorem MK (_hz:η z=η E)(hi:i<η E):(j:Int)∈tgts ((uL E z).getD i [])↔Ed E z i j:=by
 simp only[tgts,jg];constructor
 ·rintro⟨e,he,a⟩;obtain⟨h,b,c⟩:=(JE hi).1 he;obtain⟨k,m,d,f⟩:=WV.1 c;have:k=j:=ω;subst this;exact⟨hi,d,h,f,by simp only[tgts,jg];exact⟨e,b,a⟩⟩
 ·rintro⟨_,b,c,l,g⟩;simp only[tgts,jg]at g;obtain⟨e,he,a⟩:=g;exact⟨e,(JE hi).2 ⟨c,he,by rw[a,WU b];exact l⟩,a⟩
theorem PO {gs:List Int}(f:n=η E)(hi:i<n):gP n (yI E) gs (i:Int)↔∃k:Nat,k<n/\(k:Int)∈gs/\tT (λa b=>a<n/\b<n/\(b:Int)∈tgts (E.getD a [])) i k:=by
 subst f;constructor
 ·intro h;generalize g:(i:Int)=x at h;induction h generalizing i with
  |start d j=>subst g;exact⟨i,hi,d,.refl _⟩
  | @step a b o hb f e=>
   subst g;obtain⟨m,rfl,hm⟩:=rO o.node;rw[tN,Vg hm]at hb;obtain⟨a',e1,_,p⟩:=hb;have:i=a':=ω;subst this;obtain⟨k,d,j,q⟩:=e hm rfl;exact⟨k,d,j,.step ⟨hi,hm,p⟩ q⟩
 ·rintro⟨k,s,l,hl⟩;induction hl with
  |refl a=>exact .start l (sU.2 ⟨ω,ω⟩)
  | @step a b c r _ e=>
   refine .step (e r.2.1 s l) ?_ (sU.2 ⟨ω,ω⟩);rw[tN,Vg r.2.1];exact⟨a,rfl,r.1,r.2.2⟩
theorem adf (z)(ask:Nat->Bool):η (Ei z ask)=η z:=by simp[Ei]
theorem WX (a:k<η z):(Ei z ask).getD k jE=(z.getD k jE&&ask k):=by simp[Ei,θ,a]
theorem Df (l:η z=η E)(hi:i<η z):
  (xg E z ask).getD i jE=jD↔∃j k:Nat,Ed E z i j/\tT (Ed E z) j k/\k<η z/\z.getD k jE=jD/\ask k=jD:=by
 have hs:(xg E z ask).getD i jE=((uL E z).getD i []).any (λe=>(yE (η z) (yI (uL E z)) (xC (η z) (Ei z ask))).getD e.op.toNat jE):=by
  simp[xg,xg.UK,θ,hi]
 have hw:η z=η (uL E z):=by rw[Gy,l]
 have s:∀a b,(a<η z/\b<η z/\(b:Int)∈tgts ((uL E z).getD a []))↔Ed E z a b:=λa b=>by
  constructor
  ·rintro⟨t,_,n⟩;exact(MK l ω).1 n
  ·intro h;exact⟨by have:=h.1;omega,h.2.1,(MK l h.1).2 h⟩
 rw[hs,kT];constructor
 ·rintro⟨e,he,u⟩;obtain⟨t,v,n⟩:=(JE ω).1 he;obtain⟨j,f,g,o⟩:=WV.1 n;have w:sG (η z) e.op=jD:=by rw[f];exact sU.2 ⟨ω,ω⟩
  rw[FP w,f,PO hw g]at u;obtain⟨k,c,x,hl⟩:=u;have d:=(Gb c).1 x;rw[WX c,jm]at d;exact⟨j,k,⟨ω,g,t,o,by simp only[tgts,jg];exact⟨e,v,f⟩⟩,hl.mono (λa b r=>(s a b).1 r),c,d.1,d.2⟩
 ·rintro⟨j,k,m,hl,c,p,q⟩;have hm:=(MK l m.1).2 m;simp only[tgts,jg]at hm;obtain⟨e,he,f⟩:=hm;refine⟨e,he,?_⟩;rw[FP (by rw[f];exact sU.2 ⟨ω,by have:=m.2.1;omega⟩),f,PO hw m.2.1];exact⟨k,c,(Gb c).2 (by rw[WX c,p,q];rfl),hl.mono (λa b r=>(s a b).2 r)⟩
def BF (y z:List Bool):Prop:=∀i:Nat,y.getD i jE=jD->z.getD i jE=jD
theorem getD_lt (h:z.getD i jE=jD):i<η z:=by
 by_cases hc:i<η z
 ·exact hc
 ·simp[θ,jQ (by omega:η z<=i)]at h
theorem aed (hl:η y=η z)(c:BF y z)(d:BF z y):y=z:=by
 refine jw hl (λi a b=>?_);have e1:=c i;have e2:=d i;simp only[θ,gE a,gE b,jS]at e1 e2;exact lG.2 ⟨e1,e2⟩
theorem aaR (hs:BF y z){a b:Nat}(h:Ed E y a b):Ed E z a b:=⟨h.1,getD_lt (hs _ h.2.2.2.1),hs _ h.2.2.1,hs _ h.2.2.2.1,h.2.2.2.2⟩
theorem abN {q:Nat->Bool}(hy:η y=η E)(g:η z=η E)(hs:BF y z)(hp:∀i,p i=jD->q i=jD):BF (xg E y p) (xg E z q):=by
 intro i hi;have f:=getD_lt hi;rw[Bo]at f;obtain⟨j,k,a,b,c,d,e⟩:=(Df hy f).1 hi;exact(Df g ω).2 ⟨j,k,aaR hs a,b.mono (λ_ _ r=>aaR hs r),ω,hs _ d,hp _ e⟩
theorem Vr (c:η z=η E):BF (xg E z p) z:=by
 intro i hi;have b:=getD_lt hi;rw[Bo]at b;obtain⟨j,k,a,_⟩:=(Df c b).1 hi;exact a.2.2.1
theorem BF.refl (z):BF z z:=λ_ h=>h
theorem BF.trans {x:List Bool}(h:BF x y)(k:BF y z):BF x z:=λi a=>k i (h i a)
def wS (E:List (List Nd))(asks:List (Nat->Bool))(z:List Bool):List Bool:=asks.foldl (xg E) z
theorem JU (E:List (List Nd)):∀(asks:List (Nat->Bool)) (z:List Bool),η (wS E asks z)=η z
 |[],_=>rfl
 |p::l,z=>by
  show η (wS E l (xg E z p))= _;rw[JU E l,Bo]
theorem JR:∀(asks:List (Nat->Bool)) {z:List Bool},η z=η E->BF (wS E asks z) z
 |[],_,_=>BF.refl _
 |p::l,z,a=>(JR l (z:=xg E z p) (by rw[Bo];exact a)).trans (Vr a)
def XY (E:List (List Nd))(asks:List (Nat->Bool))(z:List Bool):Prop:=∀p∈asks,BF z (xg E z p)
theorem Pz (hy:η y=η E):∀(asks:List (Nat->Bool)) {z:List Bool},η z=η E->XY E asks y->BF y z->BF y (wS E asks z)
 |[],_,_,_,h=>h
 |p::l,z,b,hf,h=>Pz hy l (z:=xg E z p) (by rw[Bo];exact b) (λq c=>hf q (jc _ c))
  ((hf p (ji ..)).trans (abN hy b h (λ_ a=>a)))
theorem PD {E:List (List Nd)}:∀(asks:List (Nat->Bool)) {z:List Bool},η z=η E->BF z (wS E asks z)->XY E asks z
 |[],_,_,_=>λ_ h=>by cases h
 |p::l,z,a,h=>by
  have d:BF (wS E l (xg E z p)) (xg E z p):=JR l (by rw[Bo];exact a);have c:=h.trans d;have e:=aed (Bo _ _ _) (Vr a) c;intro q b;rcases jk.1 b with rfl|b
  ·exact c
  ·refine PD l a ?_ q b
   have:wS E (p::l) z=wS E l z:=by
    show wS E l (xg E z p)= _;rw[e]
   rw[<-this];exact h
def X4 (E:List (List Nd))(asks:List (Nat->Bool))(z:List Bool):Prop:=η z=η E/\XY E asks z/\∀y:List Bool,η y=η E->XY E asks y->BF y z
def GInv (E:List (List Nd))(asks:List (Nat->Bool))(z:List Bool):Prop:=η z=η E/\∀y:List Bool,η y=η E->XY E asks y->BF y z
theorem GInv.start (E)(asks:List (Nat->Bool)):GInv E asks (ρ (η E) jD):=
 ⟨ς,λy hy _ i hi=>by
                  have:=getD_lt hi;simp only[θ];rw[nK,jd ω];rfl⟩
theorem GInv.round (h:GInv E asks z):GInv E asks (wS E asks z):=
 ⟨by rw[JU];exact h.1,λy hy hf=>Pz hy asks h.1 hf (h.2 y hy hf)⟩
theorem GInv.done (h:GInv E asks z)(hs:BF z (wS E asks z)):X4 E asks z:=⟨h.1,PD asks h.1 hs,h.2⟩
def Cm (z:List Bool):Nat:=z.countP (λb=>b)
theorem ahX (z):Cm z<=η z:=nV
def Chn (E:List (List Nd))(l:List Int):Prop:=∀(i:Nat) x y,l[i]? =jB x->l[i+1]? =jB y->y∈tgts (E.getD x.toNat [])
theorem Chn.take {l:List Int}(h:Chn E l)(k):Chn E (l.take k):=λi x y a hy=>by
 rw[nX]at a hy;split at a
 ·split at hy
  ·exact h i x y a hy
  ·cases hy
 ·cases a
theorem Chn.drop {l:List Int}(h:Chn E l)(k):Chn E (l.drop k):=λi x y a hy=>by
 rw[List.getElem?_drop]at a hy;exact h (k+i) x y a (by rw[<-hy];rfl)
def DY (E:List (List Nd))(i j:Nat):Prop:=i<η E/\j<η E/\(j:Int)∈tgts (E.getD i [])
def Runs (E:List (List Nd))(asks:List (Nat->Bool))(i:Nat):Prop:=
 ∃r:Nat->Nat,r 0=i/\(∀k,DY E (r k) (r (k+1)))/\∀p∈asks,∀k,∃m,k<=m/\p (r m)=jD
def Core (E:List (List Nd))(asks:List (Nat->Bool))(v:Nat):Prop:=
 (∃j,DY E v j/\tT (DY E) j v)/\∀p∈asks,∃u,tT (DY E) v u/\tT (DY E) u v/\p u=jD
theorem agu {Q:Nat->Nat->Prop}(h:∀v,v<N->∃k,∀m,k<=m->Q v m):∃K,∀v,v<N->∀m,K<=m->Q v m:=by
 induction N with
 |zero=>simp
 |succ N a=>
  obtain⟨K,b⟩:=a (λv hv=>h v ω);obtain⟨k,c⟩:=h N ω;refine⟨max K k,λv hv m hm=>?_⟩
  grind
theorem often {r:Nat->Nat}(c:∀k,r k<N)(a:∀k,∃m,k<=m/\P m):∃v,v<N/\∀k,∃m,k<=m/\P m/\r m=v:=by
 apply mG;intro d
 have b:∀v,v<N->∃k,∀m,k<=m->¬(P m/\r m=v):=by
  intro v hv
  simp_all
 let⟨K,e⟩:=agu b
 let⟨m,hm,hp⟩:=a K
 grind
theorem VH {E:List (List Nd)}{r:Nat->Nat}(h:∀k,DY E (r k) (r (k+1))):∀d k,tT (DY E) (r k) (r (k+d))
 |0,_k=>.refl _
 |d+1,k=>(VH h d k).snoc (h (k+d))
theorem Runs.core (h:Runs E asks i):∃v,tT (DY E) i v/\Core E asks v:=by
 obtain⟨r,q,f,g⟩:=h;have d:=λk=>(f k).1
 have j:∀k m,k<=m->tT _ (r k) _:=λk m s=>by
  have:=VH f (m-k) k;rwa [show k+(m-k)=m by omega]at this
 let⟨v,hv,c⟩:=often (P:=λ_=>True) d (λk=>⟨k,lR,ς⟩)
 let⟨m0,_,_,l⟩:=c 0
 refine⟨v,γ,?_,λp hp=>?_⟩
 ·obtain⟨t,n,_,e1⟩:=c (m0+1)
  grind
 ·obtain⟨u,hu,e⟩:=often d (g p hp);obtain⟨a,w,o,e1⟩:=e m0;obtain⟨b,hb,_,e2⟩:=c a
  grind
inductive LM (R:Nat->Nat->Prop):Nat->List Nat->Nat->Prop
 |nil (a:Nat):LM R a [] a
 |cons {a b c:Nat} {l:List Nat}:R a b->LM R b l c->LM R a (a::l) c
theorem LM.app {a b:Nat}{l m:List Nat}(h:LM R a l b)(k:LM R b m c):LM R a (l++m) c:=by
 induction h with
 |nil a=>grind
 |cons r _ d=>exact .cons r (d k)
theorem tT.ahr {a b:Nat}(h:tT R a b):∃l,LM R a l b:=by
 induction h with
 |refl a=>exact⟨_,.nil a⟩
 |step r _ c=>obtain⟨l,hl⟩:=c;exact⟨_,.cons r hl⟩
theorem LM.head {a b:Nat}{l:List Nat}(h:LM R a l b):(l++[b])[0]? =jB a:=by
 cases h<;>rfl
theorem LM.at_ {a b:Nat}{l:List Nat}(h:LM R a l b):∀(k:Nat) x y,l[k]? =jB x->(l++[b])[k+1]? =jB y->R x y:=by
 induction h with
 |nil a=>intro k x y c;simp
 |cons r hw d=>
  intro k x y c hy;cases k with
  |zero=>
   have e:=hw.head
   grind
  |succ k=>
   grind
theorem SH {E:List (List Nd)}{v:Nat}{L0:List Nat}(d:LM (DY E) v (v::L0) v):∀(asks:List (Nat->Bool)),(∀p∈asks,∃u,tT (DY E) v u/\tT (DY E) u v/\p u=jD)->
  ∃L,LM (DY E) v (v::L) v/\∀p∈asks,∃u∈v::L,p u=jD
 |[],_=>⟨L0,d,λp hp=>γ⟩
 |p::ps,h=>by
  obtain⟨L,f,g⟩:=SH d ps γ;obtain⟨u,a,b,c⟩:=h p ς;obtain⟨l1,w1⟩:=a.ahr;obtain⟨l2,w2⟩:=b.ahr;refine⟨L++(l1++l2),f.app (w1.app w2),λq e=>?_⟩;rcases jk.1 e with rfl|e
  ·have hu:=jy w2.head
   grind
  ·grind
theorem Core.runs {v:Nat}(h:Core E asks v)(hl:tT (DY E) i v):Runs E asks i:=by
 obtain⟨⟨j,q,c⟩,r⟩:=h;obtain⟨w,w0⟩:=c.ahr;obtain⟨L0,n,hm⟩:=SH (.cons q w0) _ r;obtain⟨L,d⟩:=xR (v::L0);have o:0<η L:=γ;rw[<-d]at n hm;let⟨S,hS⟩:=hl.ahr
 have f:L.getD 0 0=v:=γ;have a:=hS.at_;have b:=n.at_
 have g:∀t,t<η L->DY E (L.getD t 0) (L.getD ((t+1)%η L) 0):=by
  intro t l;by_cases e:t+1<η L
  ·rw[j5 e]
   grind
  ·have e2:t+1=η L:=ω;rw[e2,Nat.mod_self,f];apply b t _ _ γ;rw[e2,gR lR];simp
 refine⟨λk=>if k<η S then S.getD k 0 else L.getD ((k-η S)%η L) 0,?_,λk=>?_,λp hp k=>?_⟩
 ·have x:=hS.head;by_cases e:0<η S
  ·grind
  ·simp_all
 ·dsimp;by_cases e:k<η S
  ·apply a k _ _ γ;by_cases e2:k+1<η S
   ·grind
   ·have y:k+1=η S:=ω
    simp_all
  ·rw[d9 e,d9 ω,show k+1-η S=(k-η S)+1 by omega];have z:=g ((k-η S)%η L) (qI _ o)
   simp_all
 ·obtain⟨u,hu,s⟩:=hm p hp;obtain⟨t,l⟩:=mV hu;have m:=(gB.1 l).1;have A:=Nat.le_mul_of_pos_left k o;refine⟨η S+(η L*k+t),ω,?_⟩;dsimp;rw[d9 ω,show η S+(η L*k+t)-η S=η L*k+t by omega,Nat.mul_add_mod,j5 m];simp[θ,l];omega
theorem aeu:Runs E asks i↔∃v,tT (DY E) i v/\Core E asks v:=
 ⟨Runs.core,λ⟨_,a,b⟩=>b.runs a⟩
theorem Runs.shift {r:Nat->Nat}(c:∀k,DY E (r k) (r (k+1)))(d:∀p∈asks,∀k,∃m,k<=m/\p (r m)=jD)(k):Runs E asks (r k):=
 ⟨λm=>r (k+m),rfl,λm=>c (k+m),λp hp n=>by
  obtain⟨m,a,b⟩:=d p hp (k+n);exact⟨m-k,ω,γ⟩⟩
noncomputable def Aj (n:Nat)(P:Nat->Prop):List Bool:=(ζ n).map λi=> @decide (P i) (Classical.propDecidable _)
theorem Ze (n)(P:Nat->Prop):η (Aj n P)=n:=by simp[Aj]
theorem Ja (hi:i<n):(Aj n P).getD i jE=jD↔P i:=by
 have:(Aj n P).getD i jE= @decide (P i) (Classical.propDecidable _):=by simp[Aj,θ,hi]
 grind
theorem bottom {N:Nat}{R:Nat->Nat->Prop}(k:∀a b,R a b->b<N):∀(n i:Nat),(Aj N (tT R i)).countP (λb=>b)<=n->i<N->∃v,v<N/\tT R i v/\∀u,tT R v u->tT R u v
 |n,i,s,hi=>by
  by_cases hb:∀u,tT R i u->tT R u i
  ·exact⟨i,hi,.refl _,hb⟩
  ·obtain⟨u,hu⟩:=Classical.not_forall.1 hb;have d:=mG λh=>hu (λm=>absurd m h)
   have g:¬tT R u i:=λh=>hu (λ_=>h)
   have j:=by
    have:∀{a b},tT R a b->a<N->b<N:=by
     intro a b h;induction h with
     |refl a=>omega
     |step r _ o=>grind
    exact this d hi
   have p:(Aj N (tT R u)).countP (λb=>b)<(Aj N (tT R i)).countP (λb=>b):=by
    unfold Aj;rw[List.countP_map,List.countP_map]
    have f:∀x,@decide _ (Classical.propDecidable _)=jD-> @decide (tT R i x) (Classical.propDecidable _)=jD:=λx h=>
     (@decide_eq_true_iff _ (Classical.propDecidable _)).2 (d.trans ((@decide_eq_true_iff _ (Classical.propDecidable _)).1 h))
    have key:∀l:List Nat,i∈l->l.countP ((λb=>b)∘λx=> @decide (tT R u x) (Classical.propDecidable _))<l.countP ((λb=>b)∘λx=> @decide (tT R i x) (Classical.propDecidable _)):=by
     intro l;induction l with
     |nil=>intro h;grind
     |cons x l o=>
      intro h;have hle:∀l:List _,l.countP ((λb=>b)∘λx=> @decide _ (Classical.propDecidable _))<=l.countP ((λb=>b)∘λx=> @decide _ (Classical.propDecidable _)):=λl=>oV (λx _ q=>f x q)
      rw[lC,lC];by_cases e:x=i
      ·subst e;have t:((λb=>b)∘λy=> @decide _ (Classical.propDecidable _)) x=jE:= @decide_eq_false _ (Classical.propDecidable _) g;have w:((λb=>b)∘λy=> @decide (tT R x y) (Classical.propDecidable _)) x=jD:= @decide_eq_true _ (Classical.propDecidable _) (.refl x)
       grind
      ·grind
    grind
   let⟨v,a,b,c⟩:=bottom k (n-1) u ω j
   exact⟨v,a,d.trans b,c⟩
termination_by n=>n
decreasing_by omega
theorem afR (h:X4 E asks z)(s:asks≠[]):z.getD i jE=jD↔Runs E asks i:=by
 obtain⟨t,hf,G⟩:=h;have n:∀{y} {a b},η y=η E->Ed E y a b->DY E a b:=λhy h=>⟨h.1,by have:=h.2.1;omega,h.2.2.2.2⟩
 constructor
 ·intro hi;have o:=getD_lt hi;let⟨v,hv,u,hb⟩:=bottom (N:=η E) (R:=Ed E z) (λa b h=>by have:=h.2.1;omega) _ i lR ω
  have w:=by
   have:∀{a b},tT (Ed E z) a b->z.getD a jE=jD->z.getD b jE=jD:=by
    intro a b h;induction h with
    |refl a=>simp
    |step r _ x=>exact λ_=>x r.2.2.2.1
   exact this u hi
  have c:∀{a b},tT (Ed E z) a b->tT (DY E) a b:=λh=>h.mono (λa b r=>n t r)
  have f:∀p∈asks,∃j k,Ed E z v j/\tT (Ed E z) j k/\p k=jD:=λp hp=>by
   obtain⟨j,k,a,b,_,_,e⟩:=(Df t ω).1 (hf p hp v w)
   grind
  refine Core.runs (v:=v) ⟨?_,λp hp=>?_⟩ γ
  ·obtain⟨p,hp⟩:=List.exists_mem_of_ne_nil _ s;obtain⟨j,k,a,b,_⟩:=f p hp;exact⟨j,n t a,c (hb j (.step a (.refl _)))⟩
  ·obtain⟨j,k,a,b,e⟩:=f p hp;exact⟨k,c (.step a b),c (hb k (.step a b)),e⟩
 ·intro D;have o:i<η E:=by obtain⟨r,rfl,l,_⟩:=D;exact(l 0).1
  have q:=Ze (η E) (Runs E asks);refine G _ q ?_ i ((Ja o).2 D);intro p hp k H;have A:k<η E:=γ;obtain⟨r,rfl,l,F⟩:=(Ja A).1 H;have g:=λm=>(Ja (l m).1).2 (Runs.shift l F m)
  have B:∀m,Ed E _ _ _:=λm=>⟨(l m).1,γ,g m,g _,(l m).2.2⟩
  let⟨m,hm,C⟩:=F p hp 1
  have hl:∀d,tT (Ed E (Aj (η E) (Runs E asks))) (r 1) (r (1+d)):=by
   intro d;induction d with
   |zero=>exact .refl _
   |succ d x=>exact x.snoc γ
  refine(Df q ω).2 ⟨_,_,B 0,by have:=hl (m-1);grind,γ,g m,C⟩
structure BM where
 need:Nat
 ban:Nat
 inn:Nat
 to:List Int
def BM.none:BM:=⟨0,0,0,[]⟩
structure rQ where
 sets:Int
 init:List Int
 nodes:List BM
def zD (x:BM)(S:Nat):Bool:=decide (x.need&&&S=x.need)&&decide (x.ban&&&S=0)
def rQ.Ok (a:rQ):Prop:=(∀i∈a.init,sG (η a.nodes) i=jD)/\∀x∈a.nodes,∀t∈x.to,sG (η a.nodes) t=jD
def rQ.at (a:rQ)(q:Nat):BM:=a.nodes.getD q BM.none
def Gj (a:rQ)(W:List Nat)(lp q k:Nat):List Nd:=
 if zD (a.at q) (W.getD k 0)=jD then((a.at q).to.filter (λt=>zD (a.at t.toNat) (W.getD (nx lp (η W) k) 0))).map (λt=>⟨t*(η W:Int)+((nx lp (η W) k:Nat):Int),0⟩)else[]
def vX (a:rQ)(W:List Nat)(lp:Nat):List (List Nd):=(ζ (η a.nodes*η W)).map (λm=>Gj a W lp (m/η W) (m%η W))
def DT (a:rQ)(n:Nat):List (Nat->Bool):=(λ_=>jD)::(ζ a.sets.toNat).map (λi m=>(a.at (m/n)).inn.testBit i)
def O0 (a:rQ)(W:List Nat)(z:List Bool):Prop:=∃q:Nat,(q:Int)∈a.init/\zD (a.at q) (W.getD 0 0)=jD/\z.getD (q*η W) jE=jD
section
variable {a:rQ}{W:List Nat}{lp:Nat}
theorem CS (a W lp):η (vX a W lp)=η a.nodes*η W:=by simp[vX]
theorem Aq (a:q<N)(b:k<n):q*n+k<N*n:=by
 have:(q+1)*n<=N*n:=mF _ a;rw[oN]at this;omega
theorem F9 (a:k<n):(q*n+k)/n=q/\(q*n+k)%n=k:=by
 constructor
 ·rw[qF,Nat.mul_add_div ω,Nat.div_eq_of_lt a,nG]
 ·rw[qF,Nat.mul_add_mod,j5 a]
theorem aeO (c:q<η a.nodes)(b:k<η W):(vX a W lp).getD (q*η W+k) []=Gj a W lp q k:=by
 have h:=Aq c b;obtain⟨d,e⟩:=F9 (q:=q) b;simp[vX,θ,h,d,e]
theorem Uy (hA:a.Ok)(h:lp<η W)(g:q<η a.nodes)(o:k<η W)(r:η z=η a.nodes*η W):
  Ed (vX a W lp) z (q*η W+k) j↔∃q':Nat,q'<η a.nodes/\j=q'*η W+nx lp (η W) k/\z.getD (q*η W+k) jE=jD/\z.getD j jE=jD/\(q':Int)∈(a.at q).to/\
   zD (a.at q) (W.getD k 0)=jD/\zD (a.at q') (W.getD (nx lp (η W) k) 0)=jD:=by
 have i:=Aq g o;have l:nx lp (η W) k<η W:=yQ h;unfold Ed;rw[CS,aeO g o,r];constructor
 ·rintro⟨_,_,m,n,b⟩;unfold Gj at b;split at b
  ·next s=>
   simp only[tgts,jg]at b;obtain⟨e,⟨t,u,rfl⟩,p⟩:=b;obtain⟨d,f⟩:=jL.1 u
   have v:a.at q∈a.nodes:=by
    unfold rQ.at;rw[gD,gE g];exact mM g
   obtain⟨q',rfl,c⟩:=rO (hA.2 _ v t d);dsimp only at p;rw[tN]at f;refine⟨q',c,?_,m,n,d,s,f⟩;have:((q'*η W+nx lp (η W) k:Nat):Int)=(j:Int):=by rw[<-p];simp
   omega
  ·simp[tgts]at b
 ·rintro⟨q',c,rfl,m,n,b,w,x⟩;refine⟨i,Aq c l,m,n,?_⟩;unfold Gj;rw[jd w];simp only[tgts,jg];refine⟨⟨(q':Int)*(η W:Int)+((nx lp (η W) k:Nat):Int),0⟩,⟨(q':Int),jL.2 ⟨b,by rw[tN];exact x⟩,rfl⟩,ς⟩
end
def vE (N:Nat)(s:Int)(x:BM):Int:=if x.to.all (sG N)=jD then(if x.inn>>>s.toNat=0 then 0 else 3)else 10
def zI (N:Nat)(s:Int):List BM->Int
 |[]=>0
 |x::r=>if vE N s x=0 then zI N s r else vE N s x
def tO (a:rQ):Int:=if 256<η a.nodes\/16<a.sets then 11 else if a.sets<0 then 10 else if a.init.all (sG (η a.nodes))=jD then zI (η a.nodes) a.sets a.nodes else 10
theorem Ji {N:Nat}{s:Int}:∀{l:List BM},(∀x∈l,vE N s x=0)->zI N s l=0
 |[],_=>rfl
 |x::r,h=>by
  unfold zI;rw[jd (h x ς)];exact Ji (λy hy=>h y (by simp[hy]))
theorem MO {s:Int}:∀{l:List BM} {i:Nat} (hi:i<η l),(∀x∈l.take i,vE N s x=0)->vE N s l[i]≠0->zI N s l=vE N s l[i]
 |x::r,0,_,_,a=>by
  unfold zI;rw[d9 (by simpa using a)];rfl
 |x::r,i+1,hi,h,a=>by
  unfold zI;rw[jd (h x ς)];simp only[List.getElem_cons_succ]at a⊢;exact MO (by simpa using hi) (λy hy=>h y (by simp[hy])) a
theorem MP {a:rQ}(f:η a.nodes<=256)(g:0<=a.sets/\a.sets<=16)(b:a.Ok)(d:∀x∈a.nodes,x.inn<2^a.sets.toNat):tO a=0:=by
 unfold tO;rw[d9 ω,d9 ω,jd (jR.2 (λi hi=>b.1 i hi))];refine Ji (λx c=>?_);unfold vE;rw[jd (jR.2 (λt e=>b.2 x c t e)),jd (by rw[pF];exact Nat.div_eq_of_lt (d x c))]
theorem Fw {l:List α}{P:α->Prop}(hi:i<η l)(h:∀x∈l.take i,P x)(a:P l[i]):∀x∈l.take (i+1),P x:=by
 intro x hm;rw[rE l i hi]at hm;rcases jo.1 hm with hm|hm
 ·exact h x hm
 ·rw[mS]at hm;subst hm;exact a
def plc (lp L:Nat):Nat->Nat
 |0=>0
 |k+1=>nx lp L (plc lp L k)
theorem Uc {lp L:Nat}(a:lp<L):∀k,plc lp L k<L
 |0=>kJ (mR _) a
 |_k+1=>yQ a
structure XT (a:rQ)(W:List Nat)(lp:Nat)(r:Nat->Nat):Prop where
 lt:∀k,r k<η a.nodes
 gN:∀k,zD (a.at (r k)) (W.getD (plc lp (η W) k) 0)=jD
 to:∀k,((r (k+1):Nat):Int)∈(a.at (r k)).to
 met:∀i,i<a.sets.toNat->∀k,∃m,k<=m/\(a.at (r m)).inn.testBit i=jD
def Acc (a:rQ)(W:List Nat)(lp:Nat):Prop:=∃r,(((r 0:Nat):Int)∈a.init)/\XT a W lp r
def aiw (a:rQ)(dq:Nat->Nat):List (Nat->Bool):=(λ_=>jD)::(ζ a.sets.toNat).map (λi m=>(a.at (dq m)).inn.testBit i)
theorem Ta {a:rQ}{dq:Nat->Nat}{P:(Nat->Bool)->Prop}:(∀p∈aiw a dq,P p)↔P (λ_=>jD)/\∀i,i<a.sets.toNat->P (λm=>(a.at (dq m)).inn.testBit i):=by
 constructor
 ·intro h;exact⟨h _ (ji ..),λi hi=>h _ (jc _ (jg.2 ⟨i,jl.2 hi,rfl⟩))⟩
 ·rintro⟨b,c⟩ p hp;rcases jk.1 hp with rfl|hp
  ·exact b
  ·obtain⟨i,hi,rfl⟩:=jg.1 hp;exact c i (jl.1 hi)
section
variable {a:rQ}{W:List Nat}{lp:Nat}{E:List (List Nd)}{ix:Nat->Nat->Nat}{dq:Nat->Nat}
theorem abZ (b:lp<η W)(c:∀q k,q<η a.nodes->k<η W->dq (ix q k)=q)
  (d:∀q k j,q<η a.nodes->k<η W->(DY E (ix q k) j↔∃q':Nat,q'<η a.nodes/\j=ix q' (nx lp (η W) k)/\(q':Int)∈(a.at q).to/\zD (a.at q) (W.getD k 0)=jD/\zD (a.at q') (W.getD (nx lp (η W) k) 0)=jD))
  (l:q<η a.nodes):Runs E (aiw a dq) (ix q 0)↔∃r,r 0=q/\XT a W lp r:=by
 constructor
 ·rintro⟨π,o,p,s⟩;rw[Ta]at s
  have key:∀k,dq (π k)<η a.nodes/\π k=ix (dq (π k)) (plc lp (η W) k):=by
   intro k;induction k with
   |zero=>
    have f:=c q 0 l ω;rw[o,f];exact⟨l,rfl⟩
   |succ k t=>
    have hs:=p k;rw[t.2,d _ _ _ t.1 (Uc b k)]at hs;obtain⟨q',e,n,_⟩:=hs;have f:=c q' _ e (yQ b (i:=plc lp (η W) k));rw[n,f];exact⟨e,rfl⟩
  have g:∀k,((dq (π (k+1)):Nat):Int)∈(a.at (dq (π k))).to/\zD (a.at (dq (π k))) (W.getD (plc lp (η W) k) 0)=jD:=by
   intro k;have hs:=p k;obtain⟨u,a2⟩:=key k;rw[a2,d _ _ _ u (Uc b k)]at hs;obtain⟨q',e,n,c1,c2,_⟩:=hs;have f:=c q' _ e (yQ b (i:=plc lp (η W) k));rw[n,f];exact⟨c1,c2⟩
  refine⟨λk=>dq (π k),by dsimp only;rw[o,c q 0 l ω],λk=>(key k).1,λk=>(g k).2,λk=>(g k).1,λi hi k=>?_⟩;obtain⟨m,c1,c2⟩:=s.2 i hi k;exact⟨m,c1,c2⟩
 ·rintro⟨r,rfl,h⟩;refine⟨λk=>ix (r k) (plc lp (η W) k),rfl,λk=>?_,?_⟩
  ·rw[d _ _ _ (h.lt k) (Uc b k)];exact⟨r (k+1),h.lt (k+1),rfl,h.to k,h.gN k,h.gN (k+1)⟩
  ·rw[Ta];refine⟨λk=>⟨k,lR,rfl⟩,λi hi k=>?_⟩;obtain⟨m,c1,c2⟩:=h.met i hi k;exact⟨m,c1,by dsimp only;rw[c _ _ (h.lt m) (Uc b m)];exact c2⟩
theorem aia {E:List (List Nd)}:DY E i j↔Ed E (ρ (η E) jD) i j:=by
 have d:∀k,k<η E->(ρ (η E) jD).getD k jE=jD:=λk e=>by simp[θ,e]
 constructor
 ·rintro⟨a,b,c⟩;exact⟨a,by simpa using b,d i a,d j b,c⟩
 ·rintro⟨a,b,_,_,c⟩;exact⟨a,by simpa using b,c⟩
theorem agm (hA:a.Ok)(b:lp<η W)(h:q<η a.nodes)(i:k<η W):
  DY (vX a W lp) (q*η W+k) j↔∃q':Nat,q'<η a.nodes/\j=q'*η W+nx lp (η W) k/\(q':Int)∈(a.at q).to/\zD (a.at q) (W.getD k 0)=jD/\zD (a.at q') (W.getD (nx lp (η W) k) 0)=jD:=by
 have l:∀m,m<η a.nodes*η W->(ρ (η (vX a W lp)) jD).getD m jE=jD:=λm hm=>by rw[CS];simp[θ,hm]
 rw[aia,Uy hA b h i (by rw[mJ,CS])];constructor
 ·rintro⟨q',c,d,_,_,e,f,g⟩;exact⟨q',c,d,e,f,g⟩
 ·rintro⟨q',c,d,e,f,g⟩;exact⟨q',c,d,l _ (Aq h i),by rw[d];exact l _ (Aq c (yQ b)),e,f,g⟩
theorem Ry (hA:a.Ok)(c:lp<η W)(l:X4 (vX a W lp) (DT a (η W)) z):O0 a W z↔Acc a W lp:=by
 have b:∀q,q<η a.nodes->(z.getD (q*η W) jE=jD↔∃r,r 0=q/\XT a W lp r):=by
  intro q g;rw[afR l (by simp[DT])];exact abZ (ix:=λq k=>q*η W+k) (dq:=λm=>m/η W) c (λq k _ h=>(F9 h).1) (λq k j g h=>agm hA c g h) g
 unfold O0 Acc;constructor
 ·rintro⟨q,f,o,n⟩;obtain⟨q',e,i⟩:=rO (hA.1 _ f);have:q=q':=ω;subst this;obtain⟨r,rfl,d⟩:=(b q i).1 n;exact⟨r,f,d⟩
 ·rintro⟨r,f,d⟩;exact⟨r 0,f,d.gN 0,(b (r 0) (d.lt 0)).2 ⟨r,rfl,d⟩⟩
noncomputable def QI (a:rQ)(W:List Nat)(lp:Nat):Bool:= @decide (Acc a W lp) (Classical.propDecidable _)
theorem Il:QI a W lp=jD↔Acc a W lp:= @decide_eq_true_iff _ (Classical.propDecidable _)
end
open Go.RowKit
def qV (l:List Bool):List Value:=l.map .bool
theorem yV (l:List Bool):η (qV l)=η l:=by simp[qV]
theorem Kc (l:List Bool):∀u∈qV l,u.oneCell'=jD:=by
 intro u hu;obtain⟨b,_,rfl⟩:=jg.1 hu;rfl
theorem tV (h:i<η l):(qV l)[i]? =jB (.bool (l.getD i jE)):=by simp[qV,θ,h]
theorem abT:uq jJ 64 4 1 1:=
 uq.mk (z:=.bool jE) Tryz.underlying64 κ δ δ
theorem wN:(Tryz.prog.info? 4).map (λi=>(i.zero,i.size,i.bytes))=jB (jB (.bool jE),1,1):=κ
def OT (l:List Int):List Value:=l.map (iY .u64)
def upto (n:Nat)(F:Nat->Bool)(k:Nat):List Bool:=(ζ n).map λj=>if j<k then F j else jE
theorem abo (n:Nat)(F:Nat->Bool):upto n F 0=ρ n jE:=by
 apply jw<;>simp[upto]
theorem adY (n:Nat)(F:Nat->Bool):upto n F n=(ζ n).map F:=
 j6 (λi hi=>by rw[jd (jl.1 hi)])
theorem Yg (h:F k=jE):upto n F (k+1)=upto n F k:=by
 refine j6 (λi _=>?_);by_cases e:i=k
 ·subst e;simp[h]
 ·by_cases a:i<k
  ·rw[jd a,jd ω]
  ·rw[d9 a,d9 ω]
structure Fill (w wr:jF)(g n:Nat)(F:Nat->Bool)(k:Nat):Prop where
 own:wr.ownsRow w.1.size 4 1 (iX (jB ⟨g,0,jC⟩) n n) n (qV (upto n F k))
 xq:Below w.1.size w wr
theorem Fill.lt (h:Fill w wr g n F k):w.1.size<=g/\g<wr.1.size:=h.own.lt g (by simp[Value.ownBlock])
theorem Fill.drew (h:Fill w wr g n F k):Fill w wr.drew g n F k:=⟨h.own,⟨h.xq.os,h.xq.tape,h.xq.output,h.xq.size,h.xq.block⟩⟩
theorem abr {l:List Int}(h:i<η l):(OT l)[i]? =jB (iY .u64 (l.getD i 0)):=by simp[OT,θ,h]
theorem Bp:uq jJ 66 64 1 24:=
 uq.mk (z:=iX jC 0 0) Tryz.underlying66 κ δ δ
theorem Sl.drew {size:Nat}{A:Option Addr}{xs:List Value}(h:Sl w B size A n c xs):Sl w.drew B size A n c xs:={h with rd:=h.rd}
def zw (w w':jF)(v:Value)(R:List (List Bool)):Prop:=
 ∃vs:List Value,w'.ownsRow w.1.size 64 1 v (η R) vs/\(∀(j:Nat) (r:List Bool),R[j]? =jB r->∃u,vs[j]? =jB u/\w'.ownsRow w.1.size 4 1 u (η r) (qV r))/\Below w.1.size w w'
def XW (w:jF)(R:List (List Bool))(en:Ending)(w':jF):Prop:=∃v,en=.returned v/\zw w w' v R
theorem zw.base {w0:jF}{R:List (List Bool)}(h:zw w0 w' v R)(hb:Below w.1.size w w0):zw w w' v R:=by
 obtain⟨vs,a,b,c⟩:=h;exact⟨vs,rC a hb.size,λj r d=>by obtain⟨u,hu,e⟩:=b j r d;exact⟨u,hu,rC e hb.size⟩,hb.trans (c.mono hb.size)⟩
theorem zw.nil (w:jF):zw w w (iX jC 0 0) []:=⟨[],jF.ownsRow_nil w _ _ _,ς,bR⟩
theorem zw.below {R:List (List Bool)}(h:zw w w1 v R)(hb:Below w1.1.size w1 w2):zw w w2 v R:=by
 obtain⟨vs,b,c,a⟩:=h;exact⟨vs,own_below b hb,λj r d=>by obtain⟨u,hu,e⟩:=c j r d;exact⟨u,hu,own_below e hb⟩,a.trans (hb.mono a.size)⟩
theorem zw.row {R:List (List Bool)}(h:zw w w1 v R){r:List Bool}(d:R[j]? =jB r):
  ∃b o A c n cap,v=iX (jB ⟨b,o,jC⟩) n cap/\n=η R/\w1.cell? ⟨b,o+j,jC⟩=jB (iX A (η r) c)/\Sl w1 w1.1.size 1 A (η r) c (qV r):=by
 obtain⟨vs,e,f,k⟩:=h;obtain⟨u,hu,g⟩:=f j r d;obtain⟨A,c,rfl,hs⟩:=qX g;obtain⟨A0,i,rfl,a⟩:=qX e;obtain⟨b,o,rfl,_,hc⟩:=a.rd.at_ hu;exact⟨b,o,A,c,_,i,rfl,rfl,hc,hs⟩
theorem zw.push {v' u:Value}{R:List (List Bool)}{r:List Bool}(h:zw w w1 v R)(hu:w1.ownsRow w.1.size 4 1 u (η r) (qV r)){vs:List Value}
  (hv:w1.ownsRow w.1.size 64 1 v (η R) vs)(c:w2.ownsRow w.1.size 64 1 v' (η R+1) (vs++[u]))(o:qW (λk=>v.ownBlock=jB k) w1 w2)
  (e:∀(j:Nat) (r:List Bool),R[j]? =jB r->∃u,vs[j]? =jB u/\w1.ownsRow w.1.size 4 1 u (η r) (qV r)):zw w w2 v' (R++[r]):=by
 have hb:=h.choose_spec.2.2;have hlen:η vs=η R:=by rw[hv.1];simp
 have a:∀u' (n:Nat) xs,w1.ownsRow w.1.size 4 1 u' n xs->w2.ownsRow w.1.size 4 1 u' n xs:=λu' n xs d=>
  qR d o (λg p f=>own_ne d hv δ g p f)
 refine⟨vs++[u],by simpa using c,λj r' b=>?_,hb.trans (o.below hb.size (λg p h=>by have:=(hv.lt g h).1;omega))⟩;by_cases i:j<η R
 ·rw[gC i]at b;obtain⟨u',l,d⟩:=e j r' b;exact⟨u',by rw[gC ω];exact l,a _ _ _ d⟩
 ·have m:j=η R:=by
   have:=(gB.1 b).1;simp at this;omega
  subst m;rw[gR lR]at b;simp at b;subst b;exact⟨u,by rw[gR ω,hlen];simp,a _ _ _ hu⟩
theorem rF (h:Below B w.drew w'):Below B w w':=⟨h.os,h.tape,h.output,h.size,h.block⟩
theorem zw.form {R:List (List Bool)}(h:zw w w1 v R)(a:0<η R):∃g cap,v=iX (jB ⟨g,0,jC⟩) (η R) cap:=by
 obtain⟨vs,b,_⟩:=h;obtain⟨g,cap,hv,_⟩:=sP b a;exact⟨g,cap,hv⟩
theorem zw.cellAt {cap:Nat}{R:List (List Bool)}(h:zw w w1 (iX (jB ⟨g,0,jC⟩) n cap) R){r:List Bool}(d:R[j]? =jB r):
  ∃A c,w1.cell? ⟨g,j,jC⟩=jB (iX A (η r) c)/\Sl w1 w1.1.size 1 A (η r) c (qV r):=by
 obtain⟨vs,e,f,k⟩:=h;obtain⟨u,hu,i⟩:=f j r d;have a:=e.cells (g:=g) rfl j u hu
 have b:(⟨g,0,jC⟩:Addr).add j=⟨g,j,jC⟩:=by
  unfold Addr.add;split
  ·rename_i h;subst h;rfl
  ·simp
 rw[b]at a;obtain⟨A,c,rfl,hs⟩:=qX i;exact⟨A,c,a,hs⟩
structure Way where
 need:Nat
 ban:Nat
 now:List Bool
 next:List Bool
 todo:List Nat
abbrev uI:=Nat×Nat×List Bool×List Bool
def Way.Jh (w:Way):uI:=(w.need,w.ban,w.next,w.now)
def Way.with_ (w:Way)(l:List Nat):Way:={w with todo:=l++w.todo}
def Way.owing (w:Way)(j:Nat):Way:={w with next:=w.next.set j jD}
def Way.made (w:Way)(j:Nat)(t:List Nat):Way:={w with now:=w.now.set j jD,todo:=t}
def CG (w:Way):List Way:=if w.need&&&w.ban=0 then[w]else[]
def opAt (f:List Nd)(j:Nat):Int:=(f.getD j ⟨0,0⟩).op
def Jv (f:List Nd)(j:Nat):Nat:=(f.getD j ⟨0,0⟩).n.toNat
def leftOf (f:List Nd)(j:Nat):Nat:=(kids f j).1.toNat
def ru (f:List Nd)(j:Nat):Nat:=(kids f j).2.toNat
def sZ (f:List Nd)(j:Nat)(w:Way):List Way:=
 if opAt f j=1 then[w]
 else if opAt f j=3 then CG {w with need:=w.need|||2^Jv f j}
 else if opAt f j=4 then CG {w with ban:=w.ban|||2^Jv f (j-1)}
 else if opAt f j=5 then[w.with_ [leftOf f j,ru f j]]
 else if opAt f j=6 then[w.with_ [leftOf f j],w.with_ [ru f j]]
 else if opAt f j=8 then[w.owing (leftOf f j)]
 else if opAt f j=9 then[w.with_ [ru f j],(w.with_ [leftOf f j]).owing j]
 else if opAt f j=10 then[w.with_ [leftOf f j,ru f j],(w.with_ [ru f j]).owing j]
 else[]
def xP (now:List Bool)(l:List Nat):List Nat:=l.dropWhile (λj=>now.getD j jE)
def leaves (f:List Nd):Nat->Way->List Way
 |0,_=>[]
 |n+1,w=>
  match xP w.now w.todo with
  |[]=>[w]
  |j::t=>(sZ f j (w.made j t)).flatMap (leaves f n)
def uO (out:List uI)(c:uI):List uI:=if c∈out then out else out++[c]
def rA (l:List uI)(out:List uI):List uI:=l.foldl uO out
def uJ (n:Nat)(parts:List Nat):Way:=⟨0,0,ρ n jE,ρ n jE,parts⟩
def rV (f:List Nd)(parts:List Nat):List uI:=rA ((leaves f (η f+1) (uJ (η f) parts)).map Way.Jh) []
def cntF (l:List Bool):Nat:=l.countP (! ·)
theorem af4 (a:j<η l)(h:l.getD j jE=jE):cntF (l.set j jD)+1=cntF l:=by
 unfold cntF;have e:l[j]=jE:=by simpa[θ,a]using h
 rw[List.countP_set a];have hp:0<l.countP (! ·):=List.countP_pos_iff.2 ⟨l[j],mM a,by rw[e];rfl⟩;rw[e];simp;omega
theorem Md {l:List Nat}{t:List Nat}(h:xP now l=j::t):now.getD j jE=jE/\j∈l/\∀x∈t,x∈l:=by
 have hs:∀x∈xP now l,x∈l:=λx a=>(List.dropWhile_suffix _).subset a
 refine⟨?_,hs j (by rw[h];simp),λx a=>hs x (by rw[h];simp[a])⟩;have:=List.head?_dropWhile_not (λj=>now.getD j jE) l;unfold xP at h;rw[h]at this;simpa using this
theorem Pj {l:List Nat}(h:xP now l=[]):∀x∈l,now.getD x jE=jD:=by
 induction l with
 |nil=>intro x a;cases a
 |cons y r b=>
  unfold xP at h b;rw[pG]at h;split at h
  ·rename_i e;intro x a;rcases jk.1 a with rfl|a
   ·exact e
   ·exact b h x a
  ·cases h
structure LQ (f:List Nd)(w:Way):Prop where
 now:η w.now=η f
 next:η w.next=η f
 todo:∀j∈w.todo,j<η f
def Iq (f:List Nd):Prop:=∀j,j<η f->(opAt f j=5\/opAt f j=6\/opAt f j=9\/opAt f j=10->leftOf f j<j/\ru f j<j)/\(opAt f j=8->leftOf f j<j)
theorem KH (g:Iq f)(k:j<η f){w:Way}(h:LQ f w):∀x∈sZ f j w,LQ f x/\x.now=w.now:=by
 obtain⟨c,n⟩:=g j k;intro x a
 have fin:∀v:Way,LQ f v->v.now=w.now->x∈CG v->LQ f x/\x.now=w.now:=by
  intro v hv m a;unfold CG at a;split at a
  ·rw[mS]at a;subst a;exact⟨hv,m⟩
  ·cases a
 have b:∀(v:Way) (l:List Nat),LQ f v->(∀y∈l,y<η f)->LQ f (v.with_ l):=λv l hv hl=>
  ⟨hv.now,hv.next,λy hy=>by rcases jo.1 hy with hy|hy;exact hl y hy;exact hv.todo y hy⟩
 have d:∀(v:Way) (i:Nat),LQ f v->LQ f (v.owing i):=λv i hv=>⟨hv.now,by simp[Way.owing,hv.next],hv.todo⟩
 unfold sZ at a;split at a
 ·rw[mS]at a;subst a;exact⟨h,rfl⟩
 split at a
 ·exact fin {w with need:=w.need|||2^Jv f j} ⟨h.now,h.next,h.todo⟩ rfl a
 split at a
 ·exact fin {w with ban:=w.ban|||2^Jv f (j-1)} ⟨h.now,h.next,h.todo⟩ rfl a
 split at a
 ·rename_i e;have:=c (.inl e);rw[mS]at a;subst a;exact⟨b _ _ h (λy hy=>by simp at hy;omega),rfl⟩
 split at a
 ·rename_i e;have:=c (.inr (.inl e));simp only[jk,kC,nA]at a;rcases a with rfl|rfl
  ·exact⟨b _ _ h (λy hy=>by simp at hy;omega),rfl⟩
  ·exact⟨b _ _ h (λy hy=>by simp at hy;omega),rfl⟩
 split at a
 ·rename_i e;rw[mS]at a;subst a;exact⟨d _ _ h,rfl⟩
 split at a
 ·rename_i e;have:=c (.inr (.inr (.inl e)));simp only[jk,kC,nA]at a;rcases a with rfl|rfl
  ·exact⟨b _ _ h (λy hy=>by simp at hy;omega),rfl⟩
  ·exact⟨d _ _ (b _ _ h (λy hy=>by simp at hy;omega)),rfl⟩
 split at a
 ·rename_i e;have:=c (.inr (.inr (.inr e)));simp only[jk,kC,nA]at a;rcases a with rfl|rfl
  ·exact⟨b _ _ h (λy hy=>by simp at hy;omega),rfl⟩
  ·exact⟨d _ _ (b _ _ h (λy hy=>by simp at hy;omega)),rfl⟩
 ·cases a
theorem F3 {w:Way}(h:LQ f w){t:List Nat}(hs:xP w.now w.todo=j::t):LQ f (w.made j t)/\cntF (w.made j t).now+1=cntF w.now/\j<η f:=by
 obtain⟨b,c,d⟩:=Md hs;have a:=h.todo j c;exact⟨⟨by simp[Way.made,h.now],h.next,λy hy=>h.todo y (d y hy)⟩,af4 (by rw[h.now];exact a) b,a⟩
theorem Tw (c:Iq f)(P:Way->Way->Prop)(leaf:∀w,LQ f w->xP w.now w.todo=[]->P w w)
  (step:∀w j t x y,LQ f w->xP w.now w.todo=j::t->x∈sZ f j (w.made j t)->LQ f x->P x y->P w y):
  ∀n w,LQ f w->∀y∈leaves f n w,P w y:=by
 intro n;induction n with
 |zero=>intro w _ y hy;cases hy
 |succ n d=>
  intro w hw y hy;unfold leaves at hy;cases hs:xP w.now w.todo with
  |nil=>rw[hs]at hy;rw[mS]at hy;subst hy;exact leaf _ hw hs
  |cons j t=>
   rw[hs]at hy;obtain⟨x,b,hy⟩:=pq.1 hy;obtain⟨hm,_,e⟩:=F3 hw hs;have a:=(KH c e hm x b).1;exact step w j t x y hw hs b a (d x a y hy)
def Ni (f:List Nd):Int:=(f.getLast?.map (·.op)).getD 0
def vJ (op:Int)(l:List Nd):List Nd:=l++[⟨op,0⟩]
def Jq (f:List Nd):Option (Int×Bool):=
 match f with
 |[x]=>if x.op=3 then jB (x.n,jE)else jC
 |[x,y]=>if x.op=3/\y.op=4 then jB (x.n,jD)else jC
 | _=>jC
def FU (f g:List Nd):Bool:=
 match Jq f,Jq g with
 |some (n,a),jB (k,b)=>n==k&&a !=b
 | _,_=>jE
def wU (f:List Nd):List Nd×List Nd:=
 if(kids f ((η f:Int)-1)).1<0 then([],[])
 else if(kids f ((η f:Int)-1)).2<0 then(f.take ((kids f ((η f:Int)-1)).1+1).toNat,[])
 else(f.take ((kids f ((η f:Int)-1)).1+1).toNat,(f.take ((kids f ((η f:Int)-1)).2+1).toNat).drop ((kids f ((η f:Int)-1)).1+1).toNat)
def NP (f:List Nd)(op:Int)(g:List Nd):Bool:=Ni f==op&&(decide ((wU f).1=g)||decide ((wU f).2=g))
def yG (op:Int):Int:=if op=6 then 1 else 2
def y8 (op:Int):Int:=if op=6 then 2 else 1
def zH (op:Int):Int:=if op=6 then 5 else 6
def NG (op:Int)(a b:List Nd):List Nd:=
 if Ni a=yG op\/Ni b=yG op then[⟨yG op,0⟩]else if Ni a=y8 op then b else if Ni b=y8 op\/a=b then a
 else if FU a b=jD then[⟨yG op,0⟩]else if NP b (zH op) a=jD then a else if NP a (zH op) b=jD then b
 else if Ni a=8/\Ni b=8 then vJ 8 (vJ op (a.dropLast++b.dropLast))else vJ op (a++b)
def Ii (f:List Nd):Bool:=Ni f==1||Ni f==2
def BD (op:Int):Int:=if op=10 then 1 else 2
def Nu (op:Int)(a b:List Nd):List Nd:=
 if Ii b=jD\/Ni a=BD op\/a=b then b else if Ni b=op/\(wU b).1=a then b else vJ op (a++b)
def Gt (op:Int)(a b:List Nd):List Nd:=
 if op=5\/op=6 then NG op a b else if op=9\/op=10 then Nu op a b else vJ op (a++b)
def La (a:List Nd):List Nd:=if Ii a=jD then a else vJ 8 a
def zi (st:List (List Nd))(x:Nd):List (List Nd):=
 if x.op=1\/x.op=2 then st++[[⟨x.op,0⟩]]else if x.op=3 then st++[[x]]
 else if x.op=4 then st.set (η st-1) (vJ 4 (st.getD (η st-1) []))
 else if x.op=8 then st.set (η st-1) (La (st.getD (η st-1) []))
 else st.take (η st-2)++[Gt x.op (st.getD (η st-2) []) (st.getD (η st-1) [])]
def uD (f:List Nd):List Nd:=if yh f=jD then(f.foldl zi []).headD []else[]
def Tr.sub:Tr->Tr
 | .un _ a=>a
 |t=>t
def Xv (op:Int)(a b:Tr):Tr:=
 if a.root.op=yG op\/b.root.op=yG op then .leaf ⟨yG op,0⟩else if a.root.op=y8 op then b else if b.root.op=y8 op\/a.flat=b.flat then a
 else if FU a.flat b.flat=jD then .leaf ⟨yG op,0⟩else if NP b.flat (zH op) a.flat=jD then a else if NP a.flat (zH op) b.flat=jD then b
 else if a.root.op=8/\b.root.op=8 then .un ⟨8,0⟩ (.bin ⟨op,0⟩ a.sub b.sub)else .bin ⟨op,0⟩ a b
def lastT (op:Int)(a b:Tr):Tr:=
 if Ii b.flat=jD\/a.root.op=BD op\/a.flat=b.flat then b else if b.root.op=op/\(wU b.flat).1=a.flat then b else .bin ⟨op,0⟩ a b
def ad3 (op:Int)(a b:Tr):Tr:=if op=5\/op=6 then Xv op a b else lastT op a b
def Gl (a:Tr):Tr:=if Ii a.flat=jD then a else .un ⟨8,0⟩ a
def u7:Tr->Tr
 | .leaf x=>if x.op=3 then .leaf x else .leaf ⟨x.op,0⟩
 | .un x a=>if x.op=4 then .un ⟨4,0⟩ (u7 a)else Gl (u7 a)
 | .bin x a b=>ad3 x.op (u7 a) (u7 b)
theorem Hg (t:Tr):Ni t.flat=t.root.op:=by
 have:=t.H6 0;exact this
theorem acd (h:t.ok)(c:takes t.root.op=0):t=.leaf t.root:=by
 match t,h,c with
 | .leaf x,_,_=>rfl
 | .un x a,h,c=>exact absurd (h.1.symm.trans c) δ
 | .bin x a b,h,c=>exact absurd (h.1.symm.trans c) δ
theorem Og (h:t.ok)(c:takes t.root.op=1):t=.un t.root t.sub/\t.sub.ok:=by
 match t,h,c with
 | .leaf x,h,c=>exact absurd (h.1.symm.trans c) δ
 | .un x a,h,_=>exact⟨rfl,h.2⟩
 | .bin x a b,h,c=>exact absurd (h.1.symm.trans c) δ
theorem VP (h:t.ok)(c:takes t.root.op=2):∃a b,t=.bin t.root a b/\a.ok/\b.ok:=by
 match t,h,c with
 | .leaf x,h,c=>exact absurd (h.1.symm.trans c) δ
 | .un x a,h,c=>exact absurd (h.1.symm.trans c) δ
 | .bin x a b,h,_=>exact⟨a,b,rfl,h.2.1,h.2.2⟩
theorem DI {s:Tr}(hs:s.ok)(a:t.ok)(h:s.flat=t.flat):s=t:=by
 rw[<-xO hs,<-xO a,h]
theorem P6 (h:(Tr.bin x a b).ok):wU (Tr.bin x a b).flat=(a.flat,b.flat):=by
 have hw:=Tr.Bd h;have hl:=(Tr.bin x a b).rU;have c:=Cb h;simp[Tr.size]at hl;have o:=a.size_pos;have g:a.size+b.size<(Tr.bin x a b).flat.length:=ω;have d:=Jd hw g;have e:((Tr.bin x a b).flat.length-1)=((a.size+b.size:Nat):Int):=ω;obtain⟨j,p⟩:∃j,j+1=a.size+b.size:=⟨a.size+b.size-1,ω⟩;have hs:=(at_root c.2.1 (k:=j) ω).2
 have i:(Tr.bin x a b).flat[a.size+b.size]'g=x:=by
  have:=c.2.2.1;rw[ng]at this;exact(gB.1 this).2
 rw[i]at d;have l:=h.1
 have f:kids (Tr.bin x a b).flat ((Tr.bin x a b).flat.length-1)=((a.size:Int)-1,(((a.size+b.size:Nat):Int)-1)):=by
  rw[e,d];rw[l];simp only[show ¬((2:Int)=1) by decide,nI,pz];rw[show a.size+b.size-1=j by omega,hs];simp
 have m:=a.rU;have n:=b.rU;unfold wU;rw[f];rw[d9 ω,d9 ω];have e1:((a.size:Int)-1+1).toNat=η a.flat:=ω;have e2:(((a.size+b.size:Nat):Int)-1+1).toNat=η a.flat+η b.flat:=ω;rw[e1,e2,Tr.flat];congr 1
 ·simp
 ·grind
theorem Sy {g:List Nd}(h:t.ok)(c:takes op=2)(a:NP t.flat op g=jD):∃x l r,t=.bin x l r/\x.op=op/\(l.flat=g\/r.flat=g):=by
 simp[NP,Hg]at a;obtain⟨d,b⟩:=a;obtain⟨l,r,e,_,_⟩:=VP h γ;rw[e]at h b;rw[P6 h]at b
 grind
theorem V5 (g:a.ok)(hb:b.ok)(h:FU a.flat b.flat=jD):
  ∃n,(∃x y z,x.op=3/\x.n=n/\y.op=3/\y.n=n/\z.op=4/\((a=.leaf x/\b=.un z (.leaf y))\/(b=.leaf x/\a=.un z (.leaf y)))):=by
 have key:∀(t:Tr) n s,t.ok->Jq t.flat=jB (n,s)->∃x z,x.op=3/\x.n=n/\z.op=4/\t=if s then .un z (.leaf x)else .leaf x:=by
  intro t n s r h
  match t,r with
  | .leaf x,_=>
   simp only[Tr.flat,Jq]at h;split at h
   ·rename_i f;cases h;exact⟨x,⟨4,0⟩,f,rfl,rfl,rfl⟩
   ·cases h
  | .un z a,⟨u,g⟩=>
   match a,g with
   | .leaf x,_=>
    simp only[Tr.flat,List.singleton_append,Jq]at h;split at h
    ·rename_i f;cases h;exact⟨x,z,f.1,rfl,f.2,rfl⟩
    ·cases h
   | .un y c,_=>
    exfalso;have hl:=(Tr.un z (.un y c)).rU;have:=c.size_pos;simp only[Tr.size]at hl;unfold Jq at h;split at h
    ·rename_i e;rw[e]at hl;simp at hl<;>omega
    ·rename_i e;have:c.size=0:=by rw[e]at hl;simp at hl<;>omega
     omega
    ·cases h
   | .bin y c d,_=>
    exfalso;have hl:=(Tr.un z (.bin y c d)).rU;have:=c.size_pos;simp only[Tr.size]at hl;unfold Jq at h;split at h
    ·rename_i e;rw[e]at hl;simp at hl<;>omega
    ·rename_i e;rw[e]at hl;simp at hl<;>omega
    ·cases h
  | .bin z c d,⟨u,_,_⟩=>
   exfalso;have hl:=(Tr.bin z c d).rU;have:=c.size_pos;have:=d.size_pos;simp only[Tr.size]at hl;unfold Jq at h;split at h
   ·rename_i e;rw[e]at hl;simp at hl<;>omega
   ·rename_i e;rw[e]at hl;simp at hl<;>omega
   ·cases h
 unfold FU at h;split at h
 ·rename_i n s k v w A;simp[ne_eq]at h;obtain⟨rfl,i⟩:=h;obtain⟨x,z,m,o,B,j⟩:=key a n s g w;obtain⟨y,z',p,q,C,l⟩:=key b n _ hb A;cases s<;>cases v<;>simp at i j l
  ·exact⟨n,x,y,_,m,o,p,q,C,.inl ⟨j,l⟩⟩
  ·exact⟨n,y,x,z,p,q,m,o,B,.inr ⟨l,j⟩⟩
 ·grind
inductive Bt (op:Int)(a b:Tr):Tr->Prop
 |nul:(a.root.op=yG op\/b.root.op=yG op)->Bt op a b (.leaf ⟨yG op,0⟩)
 |right:a.root.op=y8 op->Bt op a b b
 |left:(b.root.op=y8 op\/a=b)->Bt op a b a
 |opp (x y z:Nd):x.op=3->y.op=3->y.n=x.n->z.op=4->((a=.leaf x/\b=.un z (.leaf y))\/(b=.leaf x/\a=.un z (.leaf y)))->Bt op a b (.leaf ⟨yG op,0⟩)
 |inb (x:Nd) (l r:Tr):b=.bin x l r->x.op=zH op->(l=a\/r=a)->Bt op a b a
 |ina (x:Nd) (l r:Tr):a=.bin x l r->x.op=zH op->(l=b\/r=b)->Bt op a b b
 |uW (x y:Nd) (c d:Tr):a=.un x c->b=.un y d->x.op=8->y.op=8->Bt op a b (.un ⟨8,0⟩ (.bin ⟨op,0⟩ c d))
 |keep:Bt op a b (.bin ⟨op,0⟩ a b)
theorem Qs (op):takes (zH op)=2:=by unfold zH;split<;>rfl
theorem Xu (c:a.ok)(hb:b.ok):Bt op a b (Xv op a b):=by
 unfold Xv;split
 ·rename_i h;exact .nul h
 split
 ·rename_i h;exact .right h
 split
 ·rename_i h;exact .left (h.imp id (λh=>DI c hb h))
 split
 ·rename_i h;obtain⟨n,x,y,z,g,m,i,o,j,k⟩:=V5 c hb h;exact .opp x y z g i ω j k
 split
 ·rename_i h;obtain⟨x,l,r,e,f,d⟩:=Sy hb (Qs _) h;subst e;exact .inb x l r rfl f (d.imp (λh=>DI hb.2.1 c h) (λh=>DI hb.2.2 c h))
 split
 ·rename_i h;obtain⟨x,l,r,e,f,d⟩:=Sy c (Qs _) h;subst e;exact .ina x l r rfl f (d.imp (λh=>DI c.2.1 hb h) (λh=>DI c.2.2 hb h))
 split
 ·rename_i h;have e1:=(Og c (by rw[h.1];rfl)).1;have e2:=(Og hb (by rw[h.2];rfl)).1;exact .uW _ _ _ _ e1 e2 h.1 h.2
 ·exact .keep
inductive Lt (op:Int)(a b:Tr):Tr->Prop
 |bare:(b.root.op=1\/b.root.op=2)->Lt op a b b
 |easy:a.root.op=BD op->Lt op a b b
 |same:a=b->Lt op a b b
 |inn (x:Nd) (r:Tr):b=.bin x a r->x.op=op->Lt op a b b
 |keep:Lt op a b (.bin ⟨op,0⟩ a b)
theorem WC (d:a.ok)(hb:b.ok)(f:op=9\/op=10):Lt op a b (lastT op a b):=by
 unfold lastT;split
 ·rename_i h;rcases h with h|h|h
  ·simp[Ii,Hg]at h;exact .bare h
  ·exact .easy h
  ·exact .same (DI d hb h)
 split
 ·rename_i h;obtain⟨g,c⟩:=h;have i:takes op=2:=by rcases f with rfl|rfl<;>rfl
  obtain⟨l,r,e,hl,_⟩:=VP hb γ;rw[e]at hb c;rw[P6 hb]at c;obtain rfl:=DI hl d c;exact .inn _ r e g
 ·exact .keep
def FE (t:Tr):Prop:=t.ok/\t.nnf/\t.clean
theorem aaQ (h:FE (.un x a)):FE a:=by
 obtain⟨⟨e,b⟩,c,f,d⟩:=h;refine⟨b,?_,d⟩;rcases c with⟨_,h⟩|⟨_,p,rfl,_⟩
 ·omega
 ·trivial
theorem Ux (d:op=5\/op=6\/op=9\/op=10)(c:FE a)(hb:FE b):FE (.bin ⟨op,0⟩ a b):=by
 refine⟨⟨?_,c.1,hb.1⟩,⟨d,c.2.1,hb.2.1⟩,rfl,c.2.2,hb.2.2⟩;rcases d with rfl|rfl|rfl|rfl<;>rfl
theorem SF (b:FE a):FE (.un ⟨8,0⟩ a):=⟨⟨rfl,b.1⟩,.inl ⟨rfl,b.2.1⟩,rfl,b.2.2⟩
theorem J6 (h:op=1\/op=2):FE (.leaf ⟨op,0⟩):=by
 rcases h with rfl|rfl<;>exact⟨⟨rfl,λh=>by simp at h⟩,trivial,.inr rfl⟩
theorem BQ (op):yG op=1\/yG op=2:=by unfold yG;omega
theorem aiZ (op):yG op≠3/\yG op≠8:=by unfold yG;omega
def From (l r:List Nd):Prop:=(∀x∈r,x.op=3->x∈l)/\(∀x∈r,x.op=8->∃y∈l,y.op=8)
theorem From.refl (l):From l l:=⟨λ_ h _=>h,λx h a=>⟨x,h,a⟩⟩
theorem From.trans {l m r:List Nd}(h:From l m)(k:From m r):From l r:=
 ⟨λx a c=>h.1 x (k.1 x a c) c,λx a d=>by obtain⟨y,hy,b⟩:=k.2 x a d;exact h.2 y hy b⟩
theorem From.sub {l r:List Nd}(h:∀x∈r,x.op=3\/x.op=8->x∈l):From l r:=
 ⟨λx a c=>h x a (.inl c),λx a b=>⟨x,h x a (.inr b),b⟩⟩
theorem aaW (h:Bt op a b r)(g:op=5\/op=6)(f:FE a)(hb:FE b):FE r:=by
 have e:op=5\/op=6\/op=9\/op=10:=ω;cases h with
 |nul _=>exact J6 (BQ _)
 |right _=>omega
 |left _=>omega
 |opp=>exact J6 (BQ _)
 |inb=>omega
 |ina=>omega
 |uW x y c d e1 e2=>subst e1;subst e2;exact SF (Ux e (aaQ f) (aaQ hb))
 |keep=>exact Ux e f hb
theorem ah0 (h:Bt op a b r):r.size<=a.size+b.size+1/\(r.size=a.size+b.size+1->r=.bin ⟨op,0⟩ a b):=by
 have:=a.size_pos;cases h with
 |nul _=>simp only[Tr.size];omega
 |right _=>omega
 |left _=>omega
 |opp=>simp only[Tr.size];omega
 |inb=>omega
 |ina=>omega
 |uW x y c d e1 e2=>subst e1;subst e2;simp only[Tr.size];omega
 |keep=>exact⟨lR,λ_=>rfl⟩
theorem ah1 (h:Bt op a b r)(g:op=5\/op=6):From (a.flat++b.flat) r.flat:=by
 have i:=aiZ op;cases h with
 |nul _=>exact From.sub (λx e h=>by simp[Tr.flat]at e;grind)
 |right _=>exact From.sub (λx e _=>kM _ e)
 |left _=>exact From.sub (λx e _=>jX _ e)
 |opp=>exact From.sub (λx e h=>by simp[Tr.flat]at e;grind)
 |inb=>exact From.sub (λx e _=>jX _ e)
 |ina=>exact From.sub (λx e _=>kM _ e)
 |uW x y c d e1 e2 e hy=>
  subst e1;subst e2;refine⟨λz f j=>?_,λz f k=>⟨x,by simp[Tr.flat],e⟩⟩;simp only[Tr.flat,ν,mS]at f⊢
  grind
 |keep=>
  refine From.sub (λx e h=>?_);simp[Tr.flat,ν]at e⊢
  grind
section
variable {bits:Int->Nat->Bool}{n lp:Nat}
theorem Ac (h:op=1\/op=2)(hi:i<n):sat bits n lp (.leaf ⟨op,m⟩) i=decide (op=1):=by
 rcases h with rfl|rfl
 ·rw[sat_true hi];rfl
 ·rw[EO hi];rfl
theorem zC (h:t.ok)(b:t.root.op=op)(a:op=1\/op=2):∃m,t=.leaf ⟨op,m⟩:=by
 have e:=acd h (by rw[b];rcases a with rfl|rfl<;>rfl);generalize t.root=x at *;obtain⟨o,m⟩:=x
 grind
theorem KO (c:op=5\/op=6)(hi:i<n):sat bits n lp (.bin ⟨op,m⟩ a b) i=if op=6 then(sat bits n lp a i||sat bits n lp b i)else(sat bits n lp a i&&sat bits n lp b i):=by
 rcases c with rfl|rfl
 ·rw[sat_and hi];rfl
 ·rw[aen hi];rfl
theorem ajh (h:Bt op a b r)(f:op=5\/op=6)(q:a.ok)(hb:b.ok)(g:lp<n)(hi:i<n):sat bits n lp r i=sat bits n lp (.bin ⟨op,0⟩ a b) i:=by
 rw[KO f hi];have hy:y8 op=1\/y8 op=2:=by unfold y8;split<;>simp
 cases h with
 |nul h=>
  rw[Ac (BQ _) hi];rcases h with h|h
  ·obtain⟨m,rfl⟩:=zC q h (BQ _);rw[Ac (BQ _) hi];rcases f with rfl|rfl<;>simp[yG]
  ·obtain⟨m,rfl⟩:=zC hb h (BQ _);rw[Ac (BQ _) hi];rcases f with rfl|rfl<;>simp[yG]
 |right h=>
  obtain⟨m,rfl⟩:=zC q h hy;rw[Ac hy hi];rcases f with rfl|rfl<;>simp[y8]
 |left h=>
  rcases h with h|rfl
  ·obtain⟨m,rfl⟩:=zC hb h hy;rw[Ac hy hi];rcases f with rfl|rfl<;>simp[y8]
  ·simp
 |opp x y z j k s t h=>
  obtain⟨xo,o⟩:=x;obtain⟨u,v⟩:=y;obtain⟨w,A⟩:=z;subst j;subst k;subst s;subst t;rw[Ac (BQ _) hi];rcases h with⟨rfl,rfl⟩|⟨rfl,rfl⟩<;>rw[TP hi,Pp hi]<;>rcases f with rfl|rfl<;>simp[yG]
 |inb x l r e p h=>
  obtain⟨xo,o⟩:=x;subst p;subst e;rw[KO (by unfold zH;split<;>simp) hi];rcases f with rfl|rfl<;>rcases h with rfl|rfl<;>simp[zH]<;>cases sat _ n _ l i<;>simp
 |ina x l r e p h=>
  obtain⟨xo,o⟩:=x;subst p;subst e;rw[KO (by unfold zH;split<;>simp) hi];rcases f with rfl|rfl<;>rcases h with rfl|rfl<;>simp[zH]<;>cases sat _ n _ l i<;>simp
 |uW x y c d e1 e2 j k=>
  obtain⟨xo,o⟩:=x;obtain⟨u,v⟩:=y;subst j;subst k;subst e1;subst e2;rw[GV hi,KO f (yQ g),GV hi,GV hi]
 |keep=>rw[KO f hi]
theorem aaH (h:Lt op a b r)(d:op=9\/op=10)(c:FE a)(hb:FE b):FE r:=by
 cases h with
 |keep=>exact Ux ω c hb
 | _=>omega
theorem lt_size (h:Lt op a b r):r.size<=a.size+b.size+1/\(r.size=a.size+b.size+1->r=.bin ⟨op,0⟩ a b):=by
 cases h with
 |keep=>exact⟨lR,λ_=>rfl⟩
 | _=>omega
theorem ahF (h:Lt op a b r)(d:op=9\/op=10):From (a.flat++b.flat) r.flat:=by
 cases h with
 |keep=>
  refine From.sub (λx c h=>?_);simp[Tr.flat,ν]at c⊢
  grind
 | _=>exact From.sub (λx c _=>kM _ c)
theorem VG (e:op=9\/op=10)(c:lp<n)(d:a.ok)(hb:b.ok)(hi:i<n):
  sat bits n lp (.bin ⟨op,m⟩ a b) i=if op=10 then(sat bits n lp b i&&(sat bits n lp a i||sat bits n lp (.bin ⟨op,m⟩ a b) (nx lp n i)))else(sat bits n lp b i||(sat bits n lp a i&&sat bits n lp (.bin ⟨op,m⟩ a b) (nx lp n i))):=by
 rcases e with rfl|rfl
 ·exact EN c d hi
 ·exact KP c d hb hi
theorem ai0 (h:Lt op a b r)(k:op=9\/op=10)(f:a.ok)(hb:b.ok)(d:lp<n)(hi:i<n):sat bits n lp r i=sat bits n lp (.bin ⟨op,0⟩ a b) i:=by
 cases h with
 |bare h=>
  obtain⟨c,hc,h⟩:∃c,b.root.op=c/\(c=1\/c=2):=⟨_,rfl,h⟩;obtain⟨m,rfl⟩:=zC hb hc h;rcases k with rfl|rfl
  ·rcases h with rfl|rfl
   ·rw[EN d f hi,sat_true hi];rfl
   ·rw[EO hi];by_cases hs:sat bits n lp (.bin ⟨9,0⟩ a (.leaf ⟨2,m⟩)) i=jD
    ·have:=Ch d f (u:=λ_=>jE) (λj g h=>by rw[EO g]at h;simp at h) hi hs
     grind
    ·grind
  ·rcases h with rfl|rfl
   ·rw[sat_true hi];exact(FM d f hb (u:=λ_=>jD) (λj g _=>by rw[sat_true g];simp) hi rfl).symm
   ·rw[KP d f hb hi,EO hi];rfl
 |easy h=>
  have he:BD op=1\/BD op=2:=by unfold BD;split<;>simp
  obtain⟨m,rfl⟩:=zC f h he;rw[VG k d f hb hi,Ac he hi];rcases k with rfl|rfl<;>simp[BD]
 |same h=>
  subst h;rw[VG k d f f hi];rcases k with rfl|rfl<;>simp<;>cases sat _ n _ a i<;>simp
 |inn x r e l=>
  obtain⟨xo,t⟩:=x;subst l;subst e;have o:=hb.2.2;rcases k with rfl|rfl
  ·rw[lG];constructor
   ·intro h;rw[EN d f hi,h];rfl
   ·intro h;refine Ch d f (λj g h=>?_) hi h;rw[kX,jm]at h;rcases h with h|⟨p,q⟩
    ·omega
    ·rw[EN d f g,p,q];simp
  ·rw[lG];constructor
   ·intro h;refine FM d f hb (λj g h=>?_) hi h;show(sat _ n _ _ j&&(_||_))=jD;rw[h];show(jD&&(sat _ n _ a j||sat _ n _ _ _))=jD;have s:=h;rw[KP d f o g]at s
    grind
   ·intro h;rw[KP d f hb hi]at h
    grind
 |keep=>rfl
theorem aeo {y:Nd}(f:y.op=x.op)(g:x.op≠3)(h:val bits n lp a=val bits n lp a')(j:val bits n lp b=val bits n lp b'):val bits n lp (.bin x a b)=val bits n lp (.bin y a' b'):=by
 show qY _ n _ x _ _ =qY _ n _ y _ _;rw[h,j];obtain⟨xo,c⟩:=x;obtain⟨d,e⟩:=y;subst f;have hp:∀u v,tJ (bits c) ⟨d,c⟩ n lp u v=tJ (bits e) ⟨d,e⟩ n lp u v:=by intro u v;funext i;simp[tJ,g]
 simp[qY,hp]
theorem RO {y:Nd}(e:y.op=x.op)(f:x.op≠3)(g:val bits n lp a=val bits n lp a'):val bits n lp (.un x a)=val bits n lp (.un y a'):=by
 show qY _ n _ x _ _ =qY _ n _ y _ _;rw[g];obtain⟨xo,b⟩:=x;obtain⟨c,d⟩:=y;subst e;have hp:∀u v,tJ (bits b) ⟨c,b⟩ n lp u v=tJ (bits d) ⟨c,d⟩ n lp u v:=by intro u v;funext i;simp[tJ,f]
 simp[qY,hp]
theorem Qc (c:FE a):FE (Gl a)/\((Gl a).size<=a.size+1)/\((Gl a).size=a.size+1->Gl a=.un ⟨8,0⟩ a)/\(∀l,From l a.flat->(∃y∈l,y.op=8)->From l (Gl a).flat):=by
 unfold Gl;split
 ·grind
 ·refine⟨SF c,lR,λ_=>rfl,λl h d=>?_⟩;refine⟨λx b e=>?_,λx b _=>d⟩;simp[Tr.flat,ν]at b;rcases b with b|rfl
  ·exact h.1 x b e
  ·grind
theorem acP (c:a.ok)(b:lp<n)(hi:i<n):sat bits n lp (Gl a) i=sat bits n lp (.un ⟨8,0⟩ a) i:=by
 unfold Gl;split
 ·rename_i h;simp[Ii,Hg]at h;obtain⟨m,e⟩:=zC c rfl h;rw[GV hi,e,Ac h hi,Ac h (yQ b)]
 ·rfl
structure Once (t r:Tr):Prop where
 fine:FE r
 size:r.size<=t.size
 same:r.size=t.size->t.clean->r=t
 from_:From t.flat r.flat
theorem Vf (x)(j:x.op=op)(_:op=5\/op=6\/op=9\/op=10)(d:Once a a')(hb:Once b b')(hf:FE r)(hs:r.size<=a'.size+b'.size+1)(he:r.size=a'.size+b'.size+1->r=.bin ⟨op,0⟩ a' b')(f:From (a'.flat++b'.flat) r.flat):Once (.bin x a b) r:=by
 have k:=d.size;have l:=hb.size;refine⟨hf,by simp[Tr.size];omega,λh hc=>?_,?_⟩
 ·simp[Tr.size]at h;rw[he ω,d.same ω hc.2.1,hb.same ω hc.2.2];have:=hc.1;obtain⟨xo,m⟩:=x
  grind
 ·refine From.trans ?_ f;refine⟨λz c g=>?_,λz c i=>?_⟩
  ·simp only[Tr.flat,ν]at c⊢;rcases c with c|c
   ·exact .inl (d.from_.1 z c g)
   ·exact .inr (.inl (hb.from_.1 z c g))
  ·simp only[Tr.flat,ν]at c⊢;rcases c with c|c
   ·obtain⟨y,hy,e⟩:=d.from_.2 z c i;grind
   ·obtain⟨y,hy,e⟩:=hb.from_.2 z c i;grind
theorem uV:∀(t:Tr),t.ok->t.nnf->Once t (u7 t)
 | .leaf x,⟨h,k⟩,_=>by
  unfold u7;split
  ·rename_i e;exact⟨⟨⟨h,k⟩,trivial,.inl e⟩,lR,λ_ _=>rfl,From.refl _⟩
  ·rename_i e;have l:x.op=1\/x.op=2:=by rcases vV h with h|h|h<;>simp_all
   refine⟨J6 l,lR,λ_ hc=>?_,From.sub (λz f h=>?_)⟩
   ·rcases hc with hc|hc
    ·omega
    ·obtain⟨xo,o⟩:=x;grind
   ·simp[Tr.flat]at f;grind
 | .un x a,⟨h,i⟩,s=>by
  rcases s with⟨e,d⟩|⟨e,p,rfl,hp⟩
  ·have g:=uV a i d;have j:=Qc g.fine;rw[u7,d9 (by rw[e];decide)];refine⟨j.1,by have:=g.size;simp only[Tr.size];omega,λh hc=>?_,?_⟩
   ·simp[Tr.size]at h;have:=g.size;have:=j.2.1;rw[j.2.2.1 ω,g.same ω hc.2];have:=hc.1;obtain⟨xo,o⟩:=x
    grind
   ·refine j.2.2.2 _ ?_ ⟨x,by simp[Tr.flat],e⟩;refine⟨λz f k=>?_,λz f u=>⟨x,by simp[Tr.flat],e⟩⟩;simp only[Tr.flat,ν];exact .inl (g.from_.1 z f k)
  ·have hl:u7 (.leaf p)=.leaf p:=by rw[u7,jd hp]
   rw[u7,jd e,hl];refine⟨⟨⟨rfl,i⟩,.inr ⟨rfl,p,rfl,hp⟩,rfl,.inl hp⟩,lR,λ_ hc=>?_,From.sub (λz f h=>?_)⟩
   ·have:=hc.1;obtain⟨xo,o⟩:=x
    grind
   ·simp[Tr.flat]at f⊢
    grind
 | .bin x a b,⟨h,i,hb⟩,⟨q,d,m⟩=>by
  have i1:=uV a i d;have i2:=uV b hb m;rw[u7,ad3];split
  ·rename_i r;have c:=Xu (op:=x.op) i1.fine.1 i2.fine.1;have hs:=ah0 c;exact Vf x rfl q i1 i2 (aaW c r i1.fine i2.fine) hs.1 hs.2 (ah1 c r)
  ·have n:x.op=9\/x.op=10:=ω;have c:=WC i1.fine.1 i2.fine.1 n;have hs:=lt_size c;exact Vf x rfl q i1 i2 (aaH c n i1.fine i2.fine) hs.1 hs.2 (ahF c n)
theorem I6 (c:lp<n):∀(t:Tr),t.ok->t.nnf->val bits n lp (u7 t)=val bits n lp t
 | .leaf x,⟨h,v⟩,_=>by
  unfold u7;split
  ·rfl
  ·have d:x.op=1\/x.op=2:=by rcases vV h with h|h|h<;>simp_all
   obtain⟨xo,w⟩:=x;rcases d with d|d
   ·subst d;rfl
   ·subst d;rfl
 | .un x a,⟨h,j⟩,q=>by
  rcases q with⟨e,f⟩|⟨e,p,rfl,hp⟩
  ·have r:=I6 c a j f;have io:=uV a j f;rw[u7,d9 (by rw[e];decide)]
   have s:val _ n _ _ =val bits n _ (.un _ _):=
    TQ (Qc io.fine).1.1 ⟨rfl,io.fine.1⟩ (λi hi=>acP io.fine.1 c hi)
   rw[s];exact RO (by rw[e]) δ r
  ·have hl:u7 (.leaf p)=.leaf p:=by rw[u7,jd hp]
   rw[u7,jd e,hl];exact RO (by rw[e]) δ rfl
 | .bin x a b,⟨h,j,hb⟩,⟨y,f,k⟩=>by
  have v1:=I6 c a j f;have v2:=I6 c b hb k;have i1:=uV a j f;have i2:=uV b hb k;have l:(Tr.bin ⟨x.op,0⟩ _ _).ok:=⟨h,i1.fine.1,i2.fine.1⟩;have u:val _ n _ (.bin ⟨x.op,0⟩ _ _)=val _ n _ (.bin x a b):=aeo rfl (by dsimp only;omega) v1 v2;rw[<-u,u7,ad3];split
  ·rename_i o;have g:=Xu (op:=x.op) i1.fine.1 i2.fine.1;exact TQ (aaW g o i1.fine i2.fine).1 l (λi hi=>ajh g o i1.fine.1 i2.fine.1 c hi)
  ·have m:x.op=9\/x.op=10:=ω;have g:=WC i1.fine.1 i2.fine.1 m;exact TQ (aaH g m i1.fine i2.fine).1 l (λi hi=>ai0 g m i1.fine.1 i2.fine.1 c hi)
end
theorem Z4 (c:a.ok)(hb:b.ok):(Xv op a b).flat=NG op a.flat b.flat:=by
 unfold Xv NG;simp[Hg];split
 ·rfl
 split
 ·rfl
 split
 ·rfl
 split
 ·rfl
 split
 ·rfl
 split
 ·rfl
 split
 ·rename_i h;have e1:=(Og c (by rw[h.1];rfl)).1;have e2:=(Og hb (by rw[h.2];rfl)).1;have f1:a.flat.dropLast=a.sub.flat:=by rw[e1,Tr.flat];simp[Tr.sub]
  have f2:b.flat.dropLast=b.sub.flat:=by rw[e2,Tr.flat];simp[Tr.sub]
  rw[f1,f2];simp[Tr.flat,vJ]
 ·simp[Tr.flat,vJ]
theorem Zu:(lastT op a b).flat=Nu op a.flat b.flat:=by
 unfold lastT Nu;simp[Hg];split
 ·rfl
 split
 ·rfl
 ·simp[Tr.flat,vJ]
theorem abv (d:op=5\/op=6\/op=9\/op=10)(c:a.ok)(hb:b.ok):(ad3 op a b).flat=Gt op a.flat b.flat:=by
 unfold ad3 Gt;split
 ·exact Z4 c hb
 ·rw[jd ω];exact Zu
theorem Y8:(Gl a).flat=La a.flat:=by
 unfold Gl La;split
 ·rfl
 ·rfl
theorem VD (l)(a b:α):(l++[a]).set (η (l++[a])-1) b=l++[b]:=by
 simp
theorem MI (l)(a d:α):(l++[a]).getD (η (l++[a])-1) d=a:=by
 simp
theorem zF:∀(t:Tr) (st:List (List Nd)),t.ok->t.nnf->t.flat.foldl zi st=st++[(u7 t).flat]
 | .leaf x,st,⟨h,_⟩,_=>by
  have g:=vV h;simp only[Tr.flat,jZ,nO,zi];rw[u7];by_cases e:x.op=3
  ·rw[d9 ω,jd e,jd e];rfl
  ·rw[jd ω,d9 e];rfl
 | .un x a,st,⟨h,d⟩,i=>by
  rcases i with⟨e,c⟩|⟨e,p,rfl,hp⟩
  ·rw[Tr.flat,jK,zF a st d c];simp only[jZ,nO,zi];rw[d9 ω,d9 ω,d9 ω,jd e,VD,MI,u7,d9 ω,Y8]
  ·rw[Tr.flat,jK,zF (.leaf p) st d trivial];simp only[jZ,nO,zi];rw[d9 ω,d9 ω,jd e,VD,MI,u7,u7,jd e];rfl
 | .bin x a b,st,⟨h,d,hb⟩,⟨j,c,f⟩=>by
  rw[Tr.flat,jK,zF a st d c,jK,zF b _ hb f];simp only[jZ,nO,zi];rw[d9 ω,d9 ω,d9 ω,d9 ω,MI,u7,abv j (uV a d c).fine.1 (uV b hb f).fine.1];have e:η (st++[(u7 a).flat]++[(u7 b).flat])-2=η st:=ς;rw[e];simp[θ]
theorem Fg (h:yh f=jD):∃t:Tr,t.ok/\t.nnf/\f=t.flat:=by
 obtain⟨t,a,rfl⟩:=parse (zm h);exact⟨t,a,(Lf a).1 h,rfl⟩
theorem Dt (h:t.ok)(a:t.nnf):uD t.flat=(u7 t).flat:=by
 rw[uD,jd ((Lf h).2 a),zF t [] h a];rfl
theorem FV (h:yh f=jE):uD f=[]:=by rw[uD,h];rfl
def Left (l:List Nd):Prop:=l=[]\/∃t:Tr,FE t/\l=t.flat
theorem Y2 (f):Left (uD f):=by
 by_cases h:yh f=jD
 ·obtain⟨t,a,b,rfl⟩:=Fg h;rw[Dt a b];exact .inr ⟨_,(uV t a b).fine,rfl⟩
 ·exact .inl (FV γ)
theorem left_step {l:List Nd}(h:Left l):η (uD l)<=η l/\(η (uD l)=η l->uD l=l):=by
 rcases h with rfl|⟨t,⟨a,b,d⟩,rfl⟩
 ·exact⟨lR,λ_=>rfl⟩
 ·rw[Dt a b,Tr.rU,Tr.rU];have c:=uV t a b;exact⟨c.size,λh=>by rw[c.same h d]⟩
def iter:Nat->List Nd->List Nd
 |0,f=>f
 |j+1,f=>uD (iter j f)
def UR (f g:List Nd):Prop:=(∃j,g=iter (j+1) f)/\uD g=g
theorem Fe (f j):Left (iter (j+1) f):=Y2 _
theorem Sw (f):∀j,iter (j+1) f=iter j (uD f)
 |0=>rfl
 |j+1=>by
  have a:=Sw f j;show uD _ =uD _
  grind
structure Kept (f g:List Nd):Prop where
 isn:yh g=jD
 len:η g<=η f
 from_:From f g
 tree:∀(bits:Int->Nat->Bool) (n lp:Nat),lp<n->val bits n lp (sF g)=val bits n lp (sF f)
theorem Kept.refl (h:yh f=jD):Kept f f:=⟨h,lR,From.refl _,λ_ _ _ _=>rfl⟩
theorem Kept.trans {g k:List Nd}(a:Kept f g)(b:Kept g k):Kept f k:=
 ⟨b.isn,Nat.le_trans b.len a.len,From.trans a.from_ b.from_,λbits n lp h=>(b.tree bits n lp h).trans (a.tree bits n lp h)⟩
theorem Mr (h:yh f=jD):Kept f (uD f):=by
 obtain⟨t,b,c,rfl⟩:=Fg h;have a:=uV t b c;rw[Dt b c];refine⟨(Lf a.fine.1).2 a.fine.2.1,by rw[Tr.rU,Tr.rU];exact a.size,a.from_,λbits n lp d=>?_⟩;rw[xO a.fine.1,xO b];exact I6 d t b c
theorem Jf {f:List Nd}(h:yh f=jD):∀j,Kept f (iter j f)
 |0=>Kept.refl h
 |j+1=>(Jf h j).trans (Mr (Jf h j).isn)
theorem ahm {g:List Nd}(h:yh f=jD)(a:UR f g):Kept f g/\Kept (uD f) g:=by
 obtain⟨⟨j,rfl⟩,_⟩:=a;refine⟨Jf h _,?_⟩;rw[Sw];exact Jf (Mr h).isn _
section
variable {bits:Int->Nat->Bool}{n lp:Nat}{f:List Nd}
def rz (bits:Int->Nat->Bool)(n lp:Nat)(f:List Nd)(k i:Nat):Bool:=((Ad bits n lp f (spans f) (η f)).getD k []).getD i jE
theorem xU {b:Nat}(a:t.ok)(c:At f (spans f) b t)(g:k+1=b+t.size)(hl:k<η f)(i):rz bits n lp f k i=sat bits n lp t i:=by
 have h:=En (bits:=bits) (n:=n) (lp:=lp) t b k a c g;have e:=KR (d:=η f-(k+1)) h;rw[show k+1+(η f-(k+1))=η f by omega]at e;rw[rz,gD (l:=Ad bits n lp f (spans f) (η f)),e];rfl
structure ajv (bits:Int->Nat->Bool)(n lp:Nat)(f:List Nd)(k:Nat)(x:Nd)(l r:Nat):Prop where
 op:x.op=1\/x.op=2\/x.op=3\/x.op=4\/x.op=5\/x.op=6\/x.op=8\/x.op=9\/x.op=10
 rng:x.op=3->0<=x.n/\x.n<8
 akl:x.op=1\/x.op=2\/x.op=3->kids f k=(-1, -1)
 ac3:x.op=4\/x.op=8->kids f k=((l:Int), -1)/\l<k/\l+1=k
 Ut:x.op=5\/x.op=6\/x.op=9\/x.op=10->kids f k=((l:Int),(r:Int))/\l<k/\r<k/\r+1=k
 lit:x.op=4->∃y,f[l]? =jB y/\y.op=3/\0<=y.n/\y.n<8
 tru:x.op=1->∀i,i<n->rz bits n lp f k i=jD
 fls:x.op=2->∀i,i<n->rz bits n lp f k i=jE
 prop:x.op=3->∀i,i<n->rz bits n lp f k i=bits x.n i
 not_:x.op=4->∀i,i<n->∀y,f[l]? =jB y->rz bits n lp f k i= !bits y.n i
 ags:x.op=5->∀i,i<n->rz bits n lp f k i=(rz bits n lp f l i&&rz bits n lp f r i)
 or_:x.op=6->∀i,i<n->rz bits n lp f k i=(rz bits n lp f l i||rz bits n lp f r i)
 next:x.op=8->∀i,i<n->rz bits n lp f k i=rz bits n lp f l (nx lp n i)
 LZ:x.op=9->∀i,i<n->rz bits n lp f k i=(rz bits n lp f r i||(rz bits n lp f l i&&rz bits n lp f k (nx lp n i)))
 rel:x.op=10->∀i,i<n->rz bits n lp f k i=(rz bits n lp f r i&&(rz bits n lp f l i||rz bits n lp f k (nx lp n i)))
theorem LB {s:List Int}:∀(t:Tr) (b k:Nat),t.ok->t.nnf->At f s b t->b<=k->k<b+t.size->∃b' t',t'.ok/\t'.nnf/\At f s b' t'/\k+1=b'+t'.size
 | .leaf x,b,k,d,g,e,i,l=>⟨b,.leaf x,d,g,e,by simp only[Tr.size]at *;omega⟩
 | .un x a,b,k,d,g,e,i,l=>by
  by_cases h:k<b+a.size
  ·have j:a.nnf:=by
    rcases g with⟨_,h⟩|⟨_,p,rfl,_⟩
    ·exact h
    ·trivial
   exact LB a b k d.2 j e.1 i h
  ·exact⟨b,.un x a,d,g,e,by simp only[Tr.size]at *;omega⟩
 | .bin x a c,b,k,d,g,e,i,l=>by
  by_cases h:k<b+a.size
  ·exact LB a b k d.2.1 g.2.1 e.1 i h
  ·by_cases m:k<b+a.size+c.size
   ·exact LB c (b+a.size) k d.2.2 g.2.2 e.2.1 ω m
   ·exact⟨b,.bin x a c,d,g,e,by simp only[Tr.size]at *;omega⟩
theorem Om (I:yh f=jD)(B:lp<n)(D:f[k]? =jB x):∃l r:Nat,ajv bits n lp f k x l r:=by
 obtain⟨t,C,N,rfl⟩:=Fg I;have hw:=zm I;have E:=(gB.1 D).1;obtain⟨b,t',w,s,d,o⟩:=LB t 0 k C N (Cb C) ω (by rw[t.rU]at E;omega);have z:=(at_root d o).1;rw[D]at z;have G:t.flat[k]=x:=by rw[gE E]at D;exact jY D
 have g:=Jd hw E;rw[G]at g;have q:∀i,rz bits n lp t.flat k i=sat bits n lp t' i:=xU w d o E
 match t',w,s,d,o,z,q with
 | .leaf y,⟨h,J⟩,s,d,o,z,q=>
  have e:x=y:=jY z;subst e;have P:=vV h;rw[h]at g;obtain⟨xo,K⟩:=x;refine⟨0,0,?_⟩;constructor<;>intros<;>(try dsimp only at *)<;>(try omega)<;>(try (exact g))
  ·rename_i e i hi;rw[q];subst e;exact sat_true hi
  ·rename_i e i hi;rw[q];subst e;exact EO hi
  ·rename_i e i hi;rw[q];subst e;exact Pp hi
 | .un y a,⟨h,A⟩,s,d,o,z,q=>
  have e:x=y:=jY z;subst e;simp only[Tr.size]at o;obtain⟨j,F⟩:∃j,j+1=b+a.size:=⟨b+a.size-1,by have:=a.size_pos;omega⟩;have hA:∀i,rz bits n lp t.flat j i=sat bits n lp a i:=xU A d.1 F ω;rw[h]at g;have v:kids t.flat k=((j:Int), -1):=by rw[g,jd rfl,show(k:Int)-1=j by omega]
  obtain⟨xo,K⟩:=x;rcases s with⟨L,_⟩|⟨M,p,rfl,hp⟩
  ·dsimp only at L;subst L;refine⟨j,0,?_⟩;constructor<;>intros<;>(try dsimp only at *)<;>(try omega)<;>(try (exact⟨v,ω,ω⟩))
   ·rename_i i hi;rw[q,hA];exact GV hi
  ·dsimp only at M;subst M;have u:=(at_root d.1 F).1;have J:=A.2 hp;refine⟨j,0,?_⟩;constructor<;>intros<;>(try dsimp only at *)<;>(try omega)<;>(try (exact⟨v,ω,ω⟩))
   ·exact⟨p,u,hp,J⟩
   ·rename_i i hi y hy;have H:t.flat[j]? =jB p:=u;rw[H]at hy;cases hy;rw[q,TP hi];obtain⟨Q,R⟩:=p;dsimp only at hp;subst hp;rw[Pp hi]
 | .bin y a c,⟨h,A,hc⟩,s,d,o,z,q=>
  have e:x=y:=jY z;subst e;simp only[Tr.size]at o;obtain⟨j,F⟩:∃j,j+1=b+a.size:=⟨b+a.size-1,by have:=a.size_pos;omega⟩;obtain⟨m,hm⟩:∃m,m+1=b+a.size+c.size:=⟨b+a.size+c.size-1,by have:=c.size_pos;omega⟩;have O:=c.size_pos;have hA:∀i,rz bits n lp t.flat j i=sat bits n lp a i:=xU A d.1 F ω;have hC:∀i,rz bits n lp t.flat m i=sat bits n lp c i:=xU hc d.2.1 hm ω;rw[h]at g;have hs:=(at_root d.2.1 hm).2
  have v:kids t.flat k=((j:Int),(m:Int)):=by
   rw[g,d9 δ,jd rfl,show k-1=m by omega,hs];simp only[jS];congr 1<;>omega
  have S:=s.1;obtain⟨xo,K⟩:=x;refine⟨j,m,?_⟩;constructor<;>intros<;>(try dsimp only at *)<;>(try omega)<;>(try (exact⟨v,ω,ω,ω⟩))
  ·rename_i e i hi;subst e;rw[q,hA,hC];exact sat_and hi
  ·rename_i e i hi;subst e;rw[q,hA,hC];exact aen hi
  ·rename_i e i hi;subst e;rw[q,q,hA,hC];exact EN B A hi
  ·rename_i e i hi;subst e;rw[q,q,hA,hC];exact KP B A hc hi
end
theorem Pk {l:List Nat}{t:List Nat}(h:xP now l=j::t):∀x∈l,now.getD x jE=jD\/x=j\/x∈t:=by
 induction l with
 |nil=>intro x a;cases a
 |cons y r b=>
  unfold xP at h b;rw[pG]at h;split at h
  ·rename_i e;intro x a;rcases jk.1 a with rfl|a
   ·exact .inl e
   ·exact b h x a
  ·injection h with c d
   intro x a;subst c;subst d;rcases jk.1 a with rfl|a
   ·exact .inr (.inl rfl)
   ·exact .inr (.inr a)
theorem GQ {w:Way}:∀v∈sZ f j w,v.now=w.now/\(∀y∈w.todo,y∈v.todo)/\(∀p,w.need.testBit p=jD->v.need.testBit p=jD)/\(∀p,w.ban.testBit p=jD->v.ban.testBit p=jD)/\
  (∀p,w.next.getD p jE=jD->v.next.getD p jE=jD)/\(w.need&&&w.ban=0->v.need&&&v.ban=0):=by
 have a:∀(l:List Bool) (i p:Nat),l.getD p jE=jD->(l.set i jD).getD p jE=jD:=by
  intro l i p h;rw[gD,mE];by_cases e:i=p
  ·subst e
   have:i<η l:=by
    rw[gD]at h;by_cases hl:i<η l
    ·exact hl
    ·rw[jQ ω]at h;cases h
   simp[this]
  ·rw[d9 e,<-gD];exact h
 intro v hv
 have fin:∀u:Way,v∈CG u->v=u/\u.need&&&u.ban=0:=by
  intro u hu;unfold CG at hu;split at hu
  ·rename_i e;rw[mS]at hu;exact⟨hu,e⟩
  ·cases hu
 unfold sZ at hv;split at hv
 ·rw[mS]at hv;subst hv;exact⟨rfl,λ_ h=>h,λ_ h=>h,λ_ h=>h,λ_ h=>h,id⟩
 split at hv
 ·obtain⟨rfl,e⟩:=fin _ hv;exact⟨rfl,λ_ h=>h,λp h=>by simp[h],λ_ h=>h,λ_ h=>h,λ_=>e⟩
 split at hv
 ·obtain⟨rfl,e⟩:=fin _ hv;exact⟨rfl,λ_ h=>h,λ_ h=>h,λp h=>by simp[h],λ_ h=>h,λ_=>e⟩
 all_goals (try (split at hv))
 all_goals (try (split at hv))
 all_goals (try (split at hv))
 all_goals (try (split at hv))
 all_goals (try (split at hv))
 all_goals simp only[jk,kC,nA]at hv
 all_goals (try (rcases hv with rfl|rfl))
 all_goals (try (subst hv))
 all_goals first
  |exact⟨rfl,λ_ h=>by simp[Way.with_,h],λ_ h=>h,λ_ h=>h,λ_ h=>h,id⟩
  |exact⟨rfl,λ_ h=>by simp[Way.owing,Way.with_,h],λ_ h=>h,λ_ h=>h,λp h=>a _ _ p h,id⟩
  |exact hv.elim
theorem agv (out c d):d∈uO out c↔d∈out\/d=c:=by
 unfold uO;split
 ·rename_i h;exact⟨λa=>.inl a,λa=>a.elim id (λe=>e▸h)⟩
 ·simp
theorem yB:∀(l out:List uI) (d:uI),d∈rA l out↔d∈out\/d∈l
 |[],out,d=>by simp[rA]
 |c::l,out,d=>by
  show d∈rA l (uO out c)↔_;rw[yB l,agv,jk,or_assoc]
theorem Hl:∀(l out:List uI),out.Nodup->(rA l out).Nodup
 |[],_,h=>h
 |c::l,out,h=>by
  refine Hl l _ ?_;unfold uO;split
  ·exact h
  ·rename_i hc;rw[mP];exact⟨h,ς,λa d b hb=>by simp at hb;subst hb;exact λe=>hc (e▸d)⟩
theorem agw (out c):η (uO out c)<=η out+1:=by unfold uO;split<;>simp
theorem Ms:∀(l out:List uI),η (rA l out)<=η out+η l
 |[],out=>by simp[rA]
 |c::l,out=>by
  have:=Ms l (uO out c);have a:=agw out c;show η (rA l (uO out c))<=_;simp only[jP];omega
theorem I7 (l m out):rA (l++m) out=rA m (rA l out):=by simp[rA]
theorem Zr (g:Iq f)(n w)(hw:LQ f w):∀y∈leaves f n w,LQ f y/\(∀x,w.now.getD x jE=jD\/x∈w.todo->y.now.getD x jE=jD)/\(w.need&&&w.ban=0->y.need&&&y.ban=0):=by
 refine Tw g (λw y=>LQ f y/\(∀x,w.now.getD x jE=jD\/x∈w.todo->y.now.getD x jE=jD)/\(w.need&&&w.ban=0->y.need&&&y.ban=0))
  (λw hw hs=>⟨hw,λx c=>c.elim id (Pj hs x),id⟩) (λw j t x y hw hs c _ h=>?_) n w hw
 obtain⟨_,_,i⟩:=F3 hw hs;obtain⟨k,l,_,_,_,m⟩:=GQ x c;have hl:j<η w.now:=by rw[hw.now];exact i
 refine⟨h.1,λz b=>h.2.1 z ?_,λe=>h.2.2 (m e)⟩;rw[k]
 have a:∀y,w.now.getD y jE=jD->(w.made j t).now.getD y jE=jD:=by
  intro y hy;simp only[Way.made];rw[gD,mE];by_cases d:j=y
  ·subst d;simp[hl]
  ·rw[d9 d,<-gD];exact hy
 rcases b with b|b
 ·exact .inl (a z b)
 ·rcases Pk hs z b with h|rfl|h
  ·exact .inl (a z h)
  ·left;simp[Way.made,θ,hl]
  ·exact .inr (l z h)
theorem zN (h:∀x∈parts,x<η f):LQ f (uJ (η f) parts):=⟨by simp[uJ],by simp[uJ],h⟩
theorem Pb (n parts):cntF (uJ n parts).now<n+1:=by
 have:=nV (p:=λb:Bool=> !b) (l:=ρ n jE);simp only[uJ,cntF];rw[mJ]at this;omega
theorem wW (e:Iq f)(h:∀x∈parts,x<η f):(rV f parts).Nodup/\∀c∈rV f parts,c.1&&&c.2.1=0/\(∀x∈parts,c.2.2.2.getD x jE=jD)/\η c.2.2.1=η f/\η c.2.2.2=η f:=by
 refine⟨Hl _ _ List.nodup_nil,λc hc=>?_⟩;rcases(yB _ _ _).1 hc with hc|hc
 ·cases hc
 ·obtain⟨y,hy,rfl⟩:=jg.1 hc;obtain⟨a,b,d⟩:=Zr e _ _ (zN h) y hy;exact⟨d (by simp[uJ]),λx g=>b x (.inr g),a.next,a.now⟩
theorem aa3 (a:j<η f):f[j]? =jB (f.getD j ⟨0,0⟩):=by simp[θ,a]
theorem Wv {u:Way}(h:u.need&&&u.ban=0):u∈CG u:=by unfold CG;rw[jd h];exact mS.2 rfl
theorem vU (d:yh f=jD):Iq f:=by
 intro j g;obtain⟨l,r,h⟩:=Om (bits:=λ_ _=>jE) (n:=1) (lp:=0) d ω (aa3 g);refine⟨λe=>?_,λe=>?_⟩
 ·obtain⟨a,b,c,_⟩:=h.Ut e;unfold leftOf ru;rw[a];simp;omega
 ·obtain⟨a,b,_⟩:=h.ac3 (.inr e);unfold leftOf;rw[a];simp;omega
section
variable {bits:Int->Nat->Bool}{n lp:Nat}{f:List Nd}
structure aj5 (bits:Int->Nat->Bool)(n lp:Nat)(f:List Nd)(j i:Nat):Prop where
 op:opAt f j=1\/opAt f j=2\/opAt f j=3\/opAt f j=4\/opAt f j=5\/opAt f j=6\/opAt f j=8\/opAt f j=9\/opAt f j=10
 tru:opAt f j=1->rz bits n lp f j i=jD
 fls:opAt f j=2->rz bits n lp f j i=jE
 prop:opAt f j=3->rz bits n lp f j i=bits (Jv f j) i
 not_:opAt f j=4->rz bits n lp f j i= !bits (Jv f (j-1)) i
 ags:opAt f j=5->rz bits n lp f j i=(rz bits n lp f (leftOf f j) i&&rz bits n lp f (ru f j) i)
 or_:opAt f j=6->rz bits n lp f j i=(rz bits n lp f (leftOf f j) i||rz bits n lp f (ru f j) i)
 next:opAt f j=8->rz bits n lp f j i=rz bits n lp f (leftOf f j) (nx lp n i)
 LZ:opAt f j=9->rz bits n lp f j i=(rz bits n lp f (ru f j) i||(rz bits n lp f (leftOf f j) i&&rz bits n lp f j (nx lp n i)))
 rel:opAt f j=10->rz bits n lp f j i=(rz bits n lp f (ru f j) i&&(rz bits n lp f (leftOf f j) i||rz bits n lp f j (nx lp n i)))
theorem QF (g:yh f=jD)(d:lp<n)(k:j<η f)(hi:i<n):aj5 bits n lp f j i:=by
 obtain⟨l,r,h⟩:=Om (bits:=bits) (n:=n) g d (aa3 k)
 have e1:opAt f j=4\/opAt f j=8->leftOf f j=l/\l+1=j:=λe=>by
  obtain⟨a,b,c⟩:=h.ac3 e;unfold leftOf;rw[a];exact⟨ς,c⟩
 have e2:opAt f j=5\/opAt f j=6\/opAt f j=9\/opAt f j=10->leftOf f j=l/\ru f j=r:=λe=>by
  obtain⟨a,b,c,_⟩:=h.Ut e;unfold leftOf ru;rw[a];simp
 refine⟨h.op,λe=>h.tru e i hi,λe=>h.fls e i hi,λe=>?_,λe=>?_,λe=>?_,λe=>?_,λe=>?_,λe=>?_,λe=>?_⟩
 ·have:=h.rng e;rw[h.prop e i hi];unfold Jv;congr 1;omega
 ·obtain⟨y,hy,m,o,_⟩:=h.lit e;obtain⟨_,el⟩:=e1 (.inl e);rw[h.not_ e i hi y hy];have:f.getD (j-1) ⟨0,0⟩=y:=by rw[show j-1=l by omega,gD,hy];rfl
  unfold Jv;rw[this];congr 2;omega
 ·obtain⟨a,b⟩:=e2 (.inl e);rw[a,b];exact h.ags e i hi
 ·obtain⟨a,b⟩:=e2 (.inr (.inl e));rw[a,b];exact h.or_ e i hi
 ·obtain⟨a,_⟩:=e1 (.inr e);rw[a];exact h.next e i hi
 ·obtain⟨a,b⟩:=e2 (.inr (.inr (.inl e)));rw[a,b];exact h.LZ e i hi
 ·obtain⟨a,b⟩:=e2 (.inr (.inr (.inr e)));rw[a,b];exact h.rel e i hi
def Reads (bits:Int->Nat->Bool)(need ban i:Nat):Prop:=(∀p:Nat,need.testBit p=jD->bits p i=jD)/\∀p:Nat,ban.testBit p=jD->bits p i=jE
theorem Nc (h:Reads bits need ban i):need&&&ban=0:=by
 apply l6;intro p;rw[lF,nJ];cases a:need.testBit p
 ·rfl
 ·cases b:ban.testBit p
  ·rfl
  ·have:=h.1 p a;rw[h.2 p b]at this;cases this
def Fits (bits:Int->Nat->Bool)(n lp:Nat)(f:List Nd)(i:Nat)(w:Way):Prop:=
 Reads bits w.need w.ban i/\(∀j,w.next.getD j jE=jD->rz bits n lp f j (nx lp n i)=jD)/\∀j∈w.todo,rz bits n lp f j i=jD
theorem Pn {p:Nat}(h:(l.set i jD).getD p jE=jD):p=i\/l.getD p jE=jD:=by
 rw[gD,mE]at h;by_cases e:i=p
 ·exact .inl e.symm
 ·rw[d9 e,<-gD]at h;exact .inr h
def Obl (f:List Nd)(need ban:Nat)(next:List Bool)(N:Nat->Prop)(j:Nat):Prop:=
 opAt f j=1\/(opAt f j=3/\need.testBit (Jv f j)=jD)\/(opAt f j=4/\ban.testBit (Jv f (j-1))=jD)\/(opAt f j=5/\N (leftOf f j)/\N (ru f j))\/(opAt f j=6/\(N (leftOf f j)\/N (ru f j)))\/
  (opAt f j=8/\next.getD (leftOf f j) jE=jD)\/(opAt f j=9/\(N (ru f j)\/(N (leftOf f j)/\next.getD j jE=jD)))\/(opAt f j=10/\((N (leftOf f j)/\N (ru f j))\/(N (ru f j)/\next.getD j jE=jD)))
theorem Obl.mono {a c:Nat}{next':List Bool}{N N':Nat->Prop}(h:Obl f need ban next N j)(g:∀p,need.testBit p=jD->a.testBit p=jD)(i:∀p,ban.testBit p=jD->c.testBit p=jD)
  (d:∀p,next.getD p jE=jD->next'.getD p jE=jD)(b:∀p,N p->N' p):Obl f a c next' N' j:=by
 rcases h with e|⟨e,h⟩|⟨e,h⟩|⟨e,h,k⟩|⟨e,h⟩|⟨e,h⟩|⟨e,h⟩|⟨e,h⟩
 ·exact .inl e
 ·exact .inr (.inl ⟨e,g _ h⟩)
 ·exact .inr (.inr (.inl ⟨e,i _ h⟩))
 ·exact .inr (.inr (.inr (.inl ⟨e,b _ h,b _ k⟩)))
 ·exact .inr (.inr (.inr (.inr (.inl ⟨e,h.imp (b _) (b _)⟩))))
 ·exact .inr (.inr (.inr (.inr (.inr (.inl ⟨e,d _ h⟩)))))
 ·exact .inr (.inr (.inr (.inr (.inr (.inr (.inl ⟨e,h.imp (b _) (λh=>⟨b _ h.1,d _ h.2⟩)⟩))))))
 ·exact .inr (.inr (.inr (.inr (.inr (.inr (.inr ⟨e,h.imp (λh=>⟨b _ h.1,b _ h.2⟩) (λh=>⟨b _ h.1,d _ h.2⟩)⟩))))))
def Closed (f:List Nd)(w:Way):Prop:=∀j,w.now.getD j jE=jD->Obl f w.need w.ban w.next (λp=>w.now.getD p jE=jD\/p∈w.todo) j
theorem set_self (h:i<η l):(l.set i jD).getD i jE=jD:=by simp[θ,h]
theorem abO (a:Iq f)(b:j<η f){w:Way}(hw:LQ f w):∀v∈sZ f j w,Obl f v.need v.ban v.next (λp=>v.now.getD p jE=jD\/p∈v.todo) j:=by
 intro v hv
 have fin:∀u:Way,v∈CG u->v=u:=by
  intro u hu;unfold CG at hu;split at hu
  ·exact mS.1 hu
  ·cases hu
 unfold sZ at hv;split at hv
 ·exact .inl μ
 split at hv
 ·obtain rfl:=fin _ hv;exact .inr (.inl ⟨μ,ς⟩)
 split at hv
 ·obtain rfl:=fin _ hv;exact .inr (.inr (.inl ⟨μ,ς⟩))
 split at hv
 ·rw[mS]at hv;subst hv;exact .inr (.inr (.inr (.inl ⟨μ,.inr (by simp[Way.with_]),.inr (by simp[Way.with_])⟩)))
 split at hv
 ·simp only[jk,kC,nA]at hv;rcases hv with rfl|rfl
  ·exact .inr (.inr (.inr (.inr (.inl ⟨μ,.inl (.inr (by simp[Way.with_]))⟩))))
  ·exact .inr (.inr (.inr (.inr (.inl ⟨μ,.inr (.inr (by simp[Way.with_]))⟩))))
 split at hv
 ·rename_i e;rw[mS]at hv;subst hv;have:=(a j b).2 e;exact .inr (.inr (.inr (.inr (.inr (.inl ⟨e,set_self (by rw[hw.next];omega)⟩)))))
 split at hv
 ·rename_i e;simp only[jk,kC,nA]at hv;rcases hv with rfl|rfl
  ·exact .inr (.inr (.inr (.inr (.inr (.inr (.inl ⟨e,.inl (.inr (by simp[Way.with_]))⟩))))))
  ·exact .inr (.inr (.inr (.inr (.inr (.inr (.inl ⟨e,.inr ⟨.inr (by simp[Way.with_,Way.owing]),set_self (by simp[Way.with_,hw.next];omega)⟩⟩))))))
 split at hv
 ·rename_i e;simp only[jk,kC,nA]at hv;rcases hv with rfl|rfl
  ·exact .inr (.inr (.inr (.inr (.inr (.inr (.inr ⟨e,.inl ⟨.inr (by simp[Way.with_]),.inr (by simp[Way.with_])⟩⟩))))))
  ·exact .inr (.inr (.inr (.inr (.inr (.inr (.inr ⟨e,.inr ⟨.inr (by simp[Way.with_,Way.owing]),set_self (by simp[Way.with_,hw.next];omega)⟩⟩))))))
 ·cases hv
theorem Nq (c:Iq f)(k w)(hw:LQ f w):∀y∈leaves f k w,Closed f w->∀j,y.now.getD j jE=jD->Obl f y.need y.ban y.next (λp=>y.now.getD p jE=jD) j:=by
 refine Tw c (λw y=>Closed f w->∀j,y.now.getD j jE=jD->Obl f y.need y.ban y.next (λp=>y.now.getD p jE=jD) j) (λw hw hs hc j b=>?_) (λw j t x y hw hs d _ h hc=>h ?_) k w hw
 ·exact(hc j b).mono (λ_ h=>h) (λ_ h=>h) (λ_ h=>h) (λp hp=>hp.elim id (Pj hs p))
 ·obtain⟨hm,_,b⟩:=F3 hw hs;obtain⟨e,m,n,o,q,_⟩:=GQ x d;have hl:j<η w.now:=by rw[hw.now];exact b
  intro i hi;rw[e]at hi;rcases Pn (l:=w.now) hi with rfl|hi
  ·exact abO c b hm x d
  ·refine(hc i hi).mono n o q (λp hp=>?_);rw[e]
   have a:∀y,w.now.getD y jE=jD->(w.made j t).now.getD y jE=jD:=by
    intro y hy;simp only[Way.made];rw[gD,mE];by_cases g:j=y
    ·subst g;simp[hl]
    ·rw[d9 g,<-gD];exact hy
   rcases hp with hp|hp
   ·exact .inl (a p hp)
   ·rcases Pk hs p hp with h|rfl|h
    ·exact .inl (a p h)
    ·exact .inl (set_self hl)
    ·exact .inr (m p h)
theorem sound (q:yh f=jD)(m:lp<n)(hi:i<n)(r:Reads bits need ban i)(o:∀j,next.getD j jE=jD->rz bits n lp f j (nx lp n i)=jD)(hl:η now=η f)
  (hc:∀j,now.getD j jE=jD->Obl f need ban next (λp=>now.getD p jE=jD) j):∀j,now.getD j jE=jD->rz bits n lp f j i=jD:=by
 have s:=vU q;intro j;induction j using Nat.strongRecOn with
 | _ j c=>
  intro g
  have d:j<η f:=by
   rw[<-hl];rw[gD]at g;by_cases h:j<η now
   ·exact h
   ·rw[jQ ω]at g;cases g
  have hA:=QF (bits:=bits) q m d hi;obtain⟨l,t⟩:=s j d;rcases hc j g with e|⟨e,h⟩|⟨e,h⟩|⟨e,h,k⟩|⟨e,h⟩|⟨e,h⟩|⟨e,h⟩|⟨e,h⟩
  ·exact hA.tru e
  ·rw[hA.prop e];exact r.1 _ h
  ·rw[hA.not_ e,r.2 _ h];rfl
  ·obtain⟨a,b⟩:=l (.inl e);rw[hA.ags e,c _ a h,c _ b k];rfl
  ·obtain⟨a,b⟩:=l (.inr (.inl e));rw[hA.or_ e];rcases h with h|h
   ·rw[c _ a h];rfl
   ·rw[c _ b h,Bool.or_true]
  ·rw[hA.next e];exact o _ h
  ·obtain⟨a,b⟩:=l (.inr (.inr (.inl e)));rw[hA.LZ e];rcases h with h|⟨h,k⟩
   ·rw[c _ b h];rfl
   ·rw[c _ a h,o _ k];simp
  ·obtain⟨a,b⟩:=l (.inr (.inr (.inr e)));rw[hA.rel e];rcases h with⟨h,k⟩|⟨h,k⟩
   ·rw[c _ a h,c _ b k];rfl
   ·rw[c _ b h,o _ k];simp
def aiD (bits:Int->Nat->Bool)(n lp:Nat)(f:List Nd)(i:Nat)(c:uI):Prop:=
 Reads bits c.1 c.2.1 i/\∀j,c.2.2.1.getD j jE=jD->rz bits n lp f j (nx lp n i)=jD
theorem Lp (h:yh f=jD)(b:lp<n)(hi:i<n)(hp:∀x∈parts,x<η f){c:uI}(hc:c∈rV f parts)(hf:aiD bits n lp f i c):
  (∀j,c.2.2.2.getD j jE=jD->rz bits n lp f j i=jD)/\∀x∈parts,rz bits n lp f x i=jD:=by
 have k:=vU h;have a:=(wW k hp).2 c hc;rcases(yB _ _ _).1 hc with hc|hc
 ·cases hc
 ·obtain⟨y,hy,rfl⟩:=jg.1 hc
  have d:Closed f (uJ (η f) parts):=λj e=>by
   simp only[uJ,gD,nK]at e;split at e<;>cases e
  have g:=Nq k _ _ (zN hp) y hy d;have hs:=sound h b hi hf.1 hf.2 a.2.2.2 g;exact⟨hs,λx l=>hs x (a.2.1 x l)⟩
end
def branches (f:List Nd)(j:Nat):Bool:=decide (opAt f j=6)||decide (opAt f j=9)||decide (opAt f j=10)
def Rf (f:List Nd)(now:List Bool):Nat:=(ζ (η f)).countP (λj=>branches f j&& !now.getD j jE)
theorem UE {l:List α}{p q:α->Bool}(h:∀x∈l,p x=jD->q x=jD):l.countP p<=l.countP q:=oV h
theorem af8 {w:Way}(hw:LQ f w){t:List Nat}(hs:xP w.now w.todo=j::t):Rf f (w.made j t).now+(if branches f j=jD then 1 else 0)<=Rf f w.now:=by
 obtain⟨c,d,_⟩:=Md hs;have g:=hw.todo j d
 have h:ζ (η f)=ζ j++(j::(List.range' (j+1) (η f-j-1))):=by
  rw[o9,o9,show η f=j+((η f-j-1)+1) by omega,<-List.range'_append_1];simp[List.range'_succ]
 have a:∀y,y≠j->(w.made j t).now.getD y jE=w.now.getD y jE:=by
  intro y hy;simp only[Way.made];rw[gD,mE,d9 (λe=>hy e.symm),<-gD]
 have b:(w.made j t).now.getD j jE=jD:=set_self (by rw[hw.now];exact g);unfold Rf;rw[h,pO,pO,lC,lC]
 have e1:(ζ j).countP (λy=>branches f y&& !(w.made j t).now.getD y jE)=(ζ j).countP (λy=>branches f y&& !w.now.getD y jE):=
  List.countP_congr (λy hy=>by rw[a y (by have:=jl.1 hy;omega)])
 have e2:(List.range' (j+1) (η f-j-1)).countP (λy=>branches f y&& !(w.made j t).now.getD y jE)=(List.range' (j+1) (η f-j-1)).countP (λy=>branches f y&& !w.now.getD y jE):=
  List.countP_congr (λy hy=>by rw[a y (by have:=(List.mem_range'_1.1 hy).1;omega)])
 rw[e1,e2,b,c];simp;omega
theorem RF (f j w):η (sZ f j w)<=(if branches f j=jD then 2 else 1):=by
 have fin:∀u:Way,η (CG u)<=1:=λu=>by unfold CG;split<;>simp
 unfold sZ branches;by_cases e1:opAt f j=1
 ·rw[jd e1];split<;>simp
 rw[d9 e1];by_cases d:opAt f j=3
 ·rw[jd d];have:=fin {w with need:=w.need|||2^Jv f j};split<;>omega
 rw[d9 d];by_cases e:opAt f j=4
 ·rw[jd e];have:=fin {w with ban:=w.ban|||2^Jv f (j-1)};split<;>omega
 rw[d9 e];by_cases g:opAt f j=5
 ·rw[jd g];split<;>simp
 rw[d9 g];by_cases b:opAt f j=6
 ·rw[jd b,jd (by simp[b])];simp
 rw[d9 b];by_cases h:opAt f j=8
 ·rw[jd h];split<;>simp
 rw[d9 h];by_cases c:opAt f j=9
 ·rw[jd c,jd (by simp[c])];simp
 rw[d9 c];by_cases a:opAt f j=10
 ·rw[jd a,jd (by simp[a])];simp
 rw[d9 a];split<;>simp
theorem Zp (l:Iq f):∀(n:Nat) (w:Way),LQ f w->η (leaves f n w)<=2^Rf f w.now:=by
 intro n;induction n with
 |zero=>intro w _;simp[leaves]
 |succ n m=>
  intro w hw;unfold leaves;cases hs:xP w.now w.todo with
  |nil=>simp;exact Nat.one_le_two_pow
  |cons j t=>
   obtain⟨hm,_,o⟩:=F3 hw hs;have hb:=af8 hw hs;have hl:=RF f j (w.made j t)
   have c:=λx p=>by
    obtain⟨k,g⟩:=KH l o hm x p;have:=m x k;rw[g]at this;exact this
   have d:∀L:List Way,(∀x∈L,η (leaves f n x)<=2^Rf f (w.made j t).now)->η (L.flatMap (leaves f n))<=η L*2^Rf f (w.made j t).now:=by
    intro L;induction L with
    |nil=>intro _;simp
    |cons x r i=>
     intro h;have a:=h x ς;have b:=i (λy hy=>h y (by simp[hy]));rw[l8,lA,jP,oN];omega
   have k:=d _ c;show η ((sZ f j (w.made j t)).flatMap (leaves f n))<=_;by_cases e:branches f j=jD
   ·rw[jd e]at hb hl;have g:η (sZ f j (w.made j t))*2^Rf f (w.made j t).now<=2*2^Rf f (w.made j t).now:=mF _ hl;have s:2*2^Rf f (w.made j t).now=2^(Rf f (w.made j t).now+1):=by rw[Nat.pow_succ];omega
    have q:2^(Rf f (w.made j t).now+1)<=2^Rf f w.now:=lI ω hb;omega
   ·rw[d9 e]at hb hl;have g:η (sZ f j (w.made j t))*2^Rf f (w.made j t).now<=1*2^Rf f (w.made j t).now:=mF _ hl;have q:2^Rf f (w.made j t).now<=2^Rf f w.now:=lI ω ω;omega
def uw (l:List Bool):List Nat:=(ζ (η l)).filter (λi=>l.getD i jE)
theorem KX:i∈uw l↔l.getD i jE=jD:=by
 unfold uw;rw[jL,jl];refine⟨λh=>h.2,λh=>⟨?_,h⟩⟩;by_cases hl:i<η l
 ·exact hl
 ·rw[gD,jQ ω]at h;cases h
theorem KY (l):η (uw l)<=η l:=by
 have:=jO (λi=>l.getD i jE) (ζ (η l));simpa[uw]using this
set_option maxHeartbeats 1000000
theorem rW:uq jJ 29 3 1 8:=
 uq.mk (z:=iY iZ 0) Tryz.underlying29 κ δ δ
theorem CJ (A n c xs w B)(hs:Sl w B 1 A n c xs)(m:∀u∈xs,u.oneCell'=jD)(o:B<=w.1.size)(r:n<=1000000000):
  Calls jJ 98 #[iX A n c] w (sI w 3 1 n xs (A=jC)):=by
 have i:=λw a (l c)=>Lib.run_eql_slice_nil w 29 3 a l c 0 0 Tryz.underlying29
 rcases A with _|p
 ·have hc:=hs.nil rfl;have hm:n=0:=by have:=hs.cap;omega
  subst hm;have q:=jv (by rw[hs.len]);subst q;go_wp2
  go_ret
  exact⟨_,rfl,jF.ownsRow_nil _ _ _ _,bR,ς⟩
 ·have b:∀w:jF,(w.alloc _).ownsRow _ 3 1 _ 0 _:=
   λw=>jF.ownsRow_made w #[] 0 lR ω ς
  go_enter Tryz.func98,Tryz.ntmps98;go_wp2_with (at_builtin;refine yA rfl (.tmp 5) (.tmp 6) 29 rfl w.1.size 3 1 8 rW _ _ _ (b w) rfl B (jB p) n c xs rfl (hs.below ((Below.refl w.1.size w).alloc lR _) o) m ω ω ς ?_;intro v1 w1 d e j g)
  go_ret
  refine⟨_,rfl,ξ,?_,ξ⟩;exact((Below.refl _ w).alloc lR _).trans (e.below ς (λk s=>by simp[Value.ownBlock];omega))
theorem FK:uq jJ 22 44 2 16:=
 uq.mk (z:=.agg #[iY iZ 0,iY iZ 0]) Tryz.underlying22 κ δ δ
theorem Hr (x y:Nd)(w:jF):(binOp .neq 44 (.agg #[iY iZ x.op,iY iZ x.n]) (.agg #[iY iZ y.op,iY iZ y.n])).run jJ w=.ok (.bool (decide (x≠y))) w:=by
 have hS:Tryz.prog.underlying 44=jB (.struct (Tryz.prog.fieldsOf 44)):=κ;have hp:Tryz.prog.stoodInHeld 44=jE:=κ;rw[run_neq_struct,show 10000=9999+1 from rfl,run_equalIn_agg w _ _ _ _ hS hp];simp only[Program.fieldsOf,Tryz.underlying44];obtain⟨a,b⟩:=x;obtain⟨c,d⟩:=y;go_simp
 grind
theorem KI:uq jJ 23 45 1 8:=
 uq.mk (z:=iY .u64 0) Tryz.underlying23 κ δ δ
theorem OH {P:Program}{ops:Array Oper}{rest:List Oper}{o:Oper}{a:Act}{Q:Exit->Act->jF->Prop}(l:o.guard=jC)(s x t)(E:o.op=.call {callee:=.builtin .append,args:=#[s,x],argTypes:=#[t,t]})(base e size bytes)(T:uq P t e size bytes)(v n xs)(f:w.ownsRow base e size v n xs)(hs:a.eval s=v)(B A m c news)(F:a.eval x=iX A m c)(p:Sl w B size A m c news)(I:∀u∈news,u.oneCell'=jD)(R:n+m<=9223372036854775807)(q:(n+m)*bytes<=140737488355328)(g:base<=w.1.size)(h:∀v' w',w'.ownsRow base e size v' (n+m) (xs++news)->qW (λk=>v.ownBlock=jB k) w w'->(v'.ownBlock=v.ownBlock\/v'.ownBlock=jB w.1.size)->(v'=iX jC 0 0↔v=iX jC 0 0/\m=0)->wpList P ops Q rest (a.put o.dst v') w'):
  wpList P ops Q (o::rest) a w:=by
 obtain⟨G,r,i,z,hi,J,y,C,D⟩:=T;rcases A with _|K
 ·have hc:=p.nil rfl;have hm:m=0:=by have:=p.cap;omega
  subst hc;subst hm;have d:=jv (by rw[p.len];simp);subst d
  exact wpList_append_own_none l s x t E _ e i _ G hi v n _ hs f F
   (h v w γ (qW.refl _ _) ς ς)
 ·have d:∀j u,news[j]? =jB u->w.cell? (K.add j)=jB u:=by
   intro j u hu;obtain⟨b,off,hA,_,hc⟩:=p.rd.at_ hu;cases hA
   have H:(⟨b,off,jC⟩:Addr).add j=⟨b,off+j,jC⟩:=by
    unfold Addr.add;simp
   grind
  exact wpList_append_own_at w l s x t E _ e i z _ _ G hi J y C D r v n _ hs f _ m c _ F p.len d I (by unfold maxLen;omega) q g
   (λv' w' L M N O=>h _ _ L (qW.uy M) O N)
theorem ZV (A n c xs w B)(hs:Sl w B 1 A n c xs)(m:∀u∈xs,u.oneCell'=jD)(o:B<=w.1.size)(r:n<=17592186044416):
  Calls jJ 167 #[iX A n c] w (sI w 45 1 n xs (A=jC)):=by
 have i:=λw a (l c)=>Lib.run_eql_slice_nil w 23 45 a l c 0 0 Tryz.underlying23
 rcases A with _|p
 ·have hc:=hs.nil rfl;have hm:n=0:=by have:=hs.cap;omega
  subst hm;have q:=jv (by rw[hs.len]);subst q;go_wp2
  go_ret
  exact⟨_,rfl,jF.ownsRow_nil _ _ _ _,bR,ς⟩
 ·have b:∀w:jF,(w.alloc (.cells _ 45)).ownsRow _ _ 1 _ 0 _:=
   λw=>jF.ownsRow_made w #[] 0 lR ω ς
  go_enter Tryz.func167,Tryz.ntmps167;go_wp2_with (at_builtin;refine OH rfl (.tmp 5) (.tmp 6) 23 rfl w.1.size 45 1 8 KI _ _ _ (b w) rfl B (jB p) n c xs rfl (hs.below ((Below.refl w.1.size w).alloc lR _) o) m ω ω ς ?_;intro v1 w1 d e j g)
  go_ret
  refine⟨_,rfl,ξ,?_,ξ⟩;exact((Below.refl _ w).alloc lR _).trans (e.below ς (λk s=>by simp[Value.ownBlock];omega))
theorem Lm (A1 A2 n1 c1 n2 c2 xs ys w s B2)(t:Sl w s 1 A1 n1 c1 (qO xs))(hy:Sl w B2 1 A2 n2 c2 (qO ys))(c:n1=η xs)(d:n2=η ys)(hl:n1<=1000000000):
  Calls jJ 91 #[iX A1 n1 c1,iX A2 n2 c2] w (Said w (decide (xs=ys))):=by
 by_cases a:n1=n2
 ·subst a;obtain⟨e,g⟩:=iw c d;clear c d;have hd:(n1 !=(n1:Int))=jE:=ς;go_enter Tryz.func91,Tryz.ntmps91;go_wp2
  go_loopw [13] (λi wr=>∃k m,k<=n1/\i=iY iZ k/\wr=w.drewN m/\Hd (xs.take k=ys.take k)) (λi _=>n1-(intOf i).toNat)
  case atStart=>exact⟨0,0,ω,rfl,rfl,rfl⟩
  case round=>
   obtain⟨k,m,D,rfl,rfl,p⟩:=hrel;by_cases u:k<n1
   ·have j:k<η xs:=by rwa [<-e.o]
    have l:k<η ys:=by rwa [<-g.o]
    obtain⟨b,o,rfl,_,hc⟩:=JV t.rd j;obtain⟨b',E,rfl,_,v⟩:=JV hy.rd l;have hs:=λh=>FJ p.out j l h
    generalize q:xs[k]=x at *;generalize r:ys[k]=y at *;obtain⟨z,B,C⟩:=iA q r hs;clear q r hs;have F:0<=(k:Int):=ω;have G:k<(n1:Int):=ω;go_wp2
    go_quiet (fail)
    go_wp2
    ·go_ret
     refine⟨rH ?_,?_⟩
     ·have a:x≠y:=by first|assumption|(rename_i h;simpa using h)
      symm;rw[mQ]
      rintro rfl;exact a (z.symm.trans B.o)
     ·exact⟨_,by rw[jF.drewN_drewN]⟩
    ·have he:x=y:=by first|assumption|(rename_i h;simpa using h)
     go_roundw
     case rel=>exact⟨_,_,ω,by go_num,rfl,C he⟩
     case measure=>simp[intOf];omega
   ·have n:k=n1:=ω;subst n;go_wp2
    go_ret
    refine⟨rH ?_,_,rfl⟩;have:=p.out;rw[tL (by rwa [<-e.o]),tL (by rwa [<-g.o])]at this;simp[this]
 ·obtain⟨H,e,g⟩:=iA a c d;go_wp2
  go_ret
  refine⟨rH ?_,0,rfl⟩
  symm;rw[mQ]
  intro h
  grind
theorem Xj (A1 A2 n1 c1 n2 c2 xs ys w u B2)(v:Sl w u 2 A1 n1 c1 (qP xs))(hy:Sl w B2 2 A2 n2 c2 (qP ys))(a:n1=η xs)(c:n2=η ys)(hl:n1<=1000000000):
  Calls jJ 47 #[iX A1 n1 c1,iX A2 n2 c2] w (Said w (decide (xs=ys))):=by
 have q:=Hr;by_cases g:n1=n2
 ·subst g;obtain⟨d,e⟩:=iw a c;clear a c;have hd:(n1 !=(n1:Int))=jE:=ς;go_enter Tryz.func47,Tryz.ntmps47;go_wp2
  go_loopw [13] (λi wr=>∃k m,k<=n1/\i=iY iZ k/\wr=w.drewN m/\Hd (xs.take k=ys.take k)) (λi _=>n1-(intOf i).toNat)
  case atStart=>exact⟨0,0,ω,rfl,rfl,rfl⟩
  case round=>
   obtain⟨k,m,G,rfl,rfl,r⟩:=hrel;by_cases z:k<n1
   ·have j:k<η xs:=by rwa [<-d.o]
    have l:k<η ys:=by rwa [<-e.o]
    obtain⟨b,o,rfl,_,hc,hd⟩:=vZ v.rd j;obtain⟨b',H,rfl,_,B,C⟩:=vZ hy.rd l;have hs:=λh=>FJ r.out j l h
    generalize s:xs[k]=x at *;generalize t:ys[k]=y at *;obtain⟨D,E,F⟩:=iA s t hs;clear s t hs;have I:0<=(k:Int):=ω;have J:k<(n1:Int):=ω;go_wp2
    by_cases he:x=y
    ·have n:=dh he;go_quiet (fail)
     go_wp2
     go_roundw
     case rel=>exact⟨_,_,ω,by go_num,rfl,F n.o⟩
     case measure=>simp[intOf];omega
    ·have n:=dh he;go_quiet (fail)
     go_wp2
     go_ret
     refine⟨rH ?_,?_⟩
     ·symm;rw[mQ]
      rintro rfl;exact n (D.symm.trans E.o)
     ·exact⟨_,by rw[jF.drewN_drewN]⟩
   ·have p:k=n1:=ω;subst p;go_wp2
    go_ret
    refine⟨rH ?_,_,rfl⟩;have:=r.out;rw[tL (by rwa [<-d.o]),tL (by rwa [<-e.o])]at this;simp[this]
 ·obtain⟨K,d,e⟩:=iA g a c;go_wp2
  go_ret
  refine⟨rH ?_,0,rfl⟩
  symm;rw[mQ]
  intro h
  grind
theorem Xq (A n c xs w B)(hs:Sl w B 2 A n c xs)(m:∀u∈xs,u.oneCell'=jD)(o:B<=w.1.size)(r:n<=1000000000):
  Calls jJ 45 #[iX A n c] w (sI w 44 2 n xs (A=jC)):=by
 have i:=λw a (l c)=>Lib.run_eql_slice_nil w 22 44 a l c 0 0 Tryz.underlying22
 rcases A with _|p
 ·have hc:=hs.nil rfl;have hm:n=0:=by have:=hs.cap;omega
  subst hm;have q:=jv (by rw[hs.len]);subst q;go_wp2
  go_ret
  exact⟨_,rfl,jF.ownsRow_nil _ _ _ _,bR,ς⟩
 ·have b:∀w:jF,(w.alloc (.cells _ 44)).ownsRow _ _ 2 _ 0 _:=
   λw=>jF.ownsRow_made w #[] 0 lR ω ς
  go_enter Tryz.func45,Tryz.ntmps45;go_wp2_with (at_builtin;refine yA rfl (.tmp 5) (.tmp 6) 22 rfl w.1.size 44 2 16 FK _ _ _ (b w) rfl B (jB p) n c xs rfl (hs.below ((Below.refl w.1.size w).alloc lR _) o) m ω ω ς ?_;intro v1 w1 d e j g)
  go_ret
  refine⟨_,rfl,ξ,?_,ξ⟩;exact((Below.refl _ w).alloc lR _).trans (e.below ς (λk s=>by simp[Value.ownBlock];omega))
set_option maxHeartbeats 800000
def iE (l:List Nat):List Int:=l.map (λ(i:Nat)=>(i:Int))
theorem Ah (l):η (iE l)=η l:=by simp[iE]
theorem Hu (l r):iE (l++r)=iE l++iE r:=by simp[iE]
def gY (l:List Bool)(k:Nat):List Nat:=(ζ k).filter (λi=>l.getD i jE)
theorem ahl (l):gY l (η l)=uw l:=rfl
theorem aiQ (l k):η (gY l k)<=k:=by
 have:=jO (λi=>l.getD i jE) (ζ k);simpa[gY]using this
theorem ahk {l:List Bool}{k:Nat}(h:l.getD k jE=jD):gY l (k+1)=gY l k++[k]:=by
 unfold gY;rw[mh,ku,List.filter_cons_of_pos (by simpa using h),lN]
theorem aiP {l:List Bool}{k:Nat}(h:l.getD k jE=jE):gY l (k+1)=gY l k:=by
 unfold gY;rw[mh,ku,List.filter_cons_of_neg (by rw[h];decide),lN,kZ]
theorem Ka (A n c xs w B)(hs:Sl w B 1 A n c xs)(m:∀u∈xs,u.oneCell'=jD)(o:B<=w.1.size)(r:n<=1000000000):
  Calls jJ 129 #[iX A n c] w (sI w 4 1 n xs (A=jC)):=by
 have i:=λ(w:jF) (a:Option Addr) (l c:Nat)=>Lib.run_eql_slice_nil (P:=jJ) w 64 4 a l c 0 0 Tryz.underlying64
 rcases A with _|p
 ·have hc:=hs.nil rfl;have hm:n=0:=by have:=hs.cap;omega
  subst hc;subst hm;have q:=jv (by rw[hs.len]);subst q;go_enter Tryz.func129,Tryz.ntmps129;go_wp2
  go_ret
  exact⟨_,rfl,jF.ownsRow_nil _ _ _ _,bR,ς⟩
 ·have e:∀w:jF,(w.alloc (.cells #[] 4)).ownsRow w.1.size 4 1 (iX (jB ⟨w.1.size,0,jC⟩) 0 0) 0 []:=
   λw=>jF.ownsRow_made w #[] 0 lR (by unfold maxLen;omega) ς
  go_enter Tryz.func129,Tryz.ntmps129;go_wp2_with (at_builtin;refine yA rfl (.tmp 5) (.tmp 6) 64 rfl w.1.size 4 1 1 abT _ _ _ (e w) rfl B (jB p) n c xs rfl (hs.below ((Below.refl w.1.size w).alloc lR _) o) m ω ω ς ?_;intro v1 w1 b g j d)
  go_ret
  refine⟨v1,rfl,by simpa using b,?_,by simp[d]⟩;exact((Below.refl w.1.size w).alloc lR _).trans (g.below ς (λk s=>by simp[Value.ownBlock];omega))
theorem PW (A c l w B)(hs:Sl w B 1 A (η l) c (qV l))(z:B<=w.1.size)(hl:η l<=1000000):
  Calls jJ 111 #[iX A (η l) c] w (sI w 3 1 (η (uw l)) (qO (iE (uw l))) (uw l=[])):=by
 go_enter Tryz.func111,Tryz.ntmps111;go_wp2
 go_loopw [3,8] (λu i wr=>∃k:Nat,k<=η l/\i=iY iZ k/\wr.ownsRow w.1.size 3 1 u (η (gY l k)) (qO (iE (gY l k)))/\Below w.1.size w wr/\Hd (u=iX jC 0 0↔gY l k=[])) (λ_ i _=>η l-(intOf i).toNat)
 case atStart=>exact⟨0,ω,rfl,by simpa[gY,iE,qO]using jF.ownsRow_nil w w.1.size 3 1,bR,by simp[Hd,gY]⟩
 case round=>
  obtain⟨k,C,rfl,hu,a,m⟩:=hrel;by_cases n:k<η l
  ·obtain⟨b,o,rfl,_,hc⟩:=(hs.rd.below a z).at_ (tV n);have hle:=aiQ l k;have p:=a.size;have hy:= @ahk l k;have s:= @aiP l k;generalize l.getD k jE=y at *;obtain⟨v,e⟩:=iw hy s;clear hy s;cases y
   ·go_wp2
    go_roundw
    case rel=>
     refine⟨k+1,ω,by go_num,?_,a,?_⟩
     ·rw[e rfl];exact hu
     ·show _↔_;rw[e rfl];exact m.o
    case measure=>simp[intOf];omega
   ·go_wp2_with (at_builtin;refine rD rfl (.tmp 14) (.tmp 16) 29 rfl w.1.size 3 1 8 rW _ _ _ (hu.alloc _) rfl wr.1.size #[iY iZ k] rfl (heap_alloc_new wr _) rfl (by simp[Value.oneCell']) ω ω (by simp;omega) ?_;intro v3 w3 d q x j)
    go_roundw
    case rel=>
     refine⟨k+1,ω,by go_num,?_,?_,?_⟩
     ·rw[v rfl,Hu,sJ,lA];exact d
     ·exact(a.alloc p _).trans (q.below (by simp;omega) (λg D h=>by have:=(hu.lt g h).1;omega))
     ·show _↔_;rw[v rfl];simp[j]
    case measure=>simp[intOf];omega
  ·have r:k=η l:=ω;subst r;rw[ahl]at hu m;go_wp2
   go_ret
   exact⟨_,rfl,hu,a,m.o⟩
def aaV (b:Bool):Int:=if b then 1 else 0
def Cg (l:List Bool):ByteArray:=strOfNums (l.map aaV)
theorem Vq {m:List Bool}(h:Cg l=Cg m):l=m:=by
 have a:(Cg l).data.toList=(Cg m).data.toList:=by rw[h]
 rw[Cg,Cg,strOfNums_data,strOfNums_data,nQ,nQ]at a;refine(List.map_inj_right (λx y e=>?_)).1 a;cases x<;>cases y<;>first|rfl|(exfalso;revert e;decide)
def C8 (l:List Bool):List Value:=l.map (λb=>iY .u8 (aaV b))
theorem X8 {b:Bool}:C8 (l.set k b)=(C8 l).set k (iY .u8 (aaV b)):=by rw[C8,C8,lX]
theorem ai9:(Tryz.prog.info? 5).map (λi=>(i.zero,i.size,i.bytes))=jB (jB (iY .u8 0),1,1):=κ
theorem Zh (n):(madeCells (Value.int .u8 0).cells (n*1)).toList=C8 (ρ n jE):=by
 rw[mU,show(Value.int .u8 0).cells=#[iY .u8 0]from rfl,toList_madeCells_one,C8,nH];rfl
theorem adW (h:F k=jD):upto n F (k+1)=(upto n F k).set k jD:=by
 apply jw
 ·simp[upto]
 ·intro i a b;simp only[upto,lJ,l9,mq];by_cases e:k=i
  ·subst e;simp[h]
  ·rw[d9 e];by_cases a:i<k
   ·rw[jd a,jd ω]
   ·rw[d9 a,d9 ω]
theorem abp (l):upto (η l) (λi=>l.getD i jE) (η l)=l:=by
 rw[adY];apply jw
 ·simp
 ·intro i b a;simp[θ,a]
def Txt (w:jF)(s:ByteArray)(en:Ending)(w':jF):Prop:=en=.returned (.string s)/\Below w.1.size w w'
theorem SN (A c l w B)(hs:Sl w B 1 A (η l) c (qV l))(K:B<=w.1.size)(hl:η l<=1000000):
  Calls jJ 110 #[iX A (η l) c] w (Txt w (Cg l)):=by
 obtain⟨i0,hi,m,n,q⟩:=info_parts ai9;obtain⟨L,x,z,C⟩:=iB hi m n q;clear hi m n q;obtain⟨F,hF⟩:∃F:Nat->Bool,(λi=>l.getD i jE)=F:=⟨_,rfl⟩;go_enter Tryz.func110,Tryz.ntmps110;go_wp2_with (at_make;refine wpList_make_full _ rfl _ _ 197 rfl w.1.size 5 i0 (iY .u8 0) 1 Tryz.underlying197 L x z iZ iZ _ _ (η l) rfl rfl rfl rfl (by rw[C.o];omega) (by unfold maxLen;omega) lR ?_;intro w0 d j)
 have r:=(qW.uy j).below lR (λg _ h=>by cases h);rw[Zh,<-abo (η l) F]at d;go_loopw [11] (λi I=>∃k:Nat,k<=η l/\i=iY iZ k/\I.ownsRow w.1.size 5 1 (iX (jB ⟨w.1.size,0,jC⟩) (η l) (η l)) (η l) (C8 (upto (η l) F k))/\Below w.1.size w I) (λi _=>η l-(intOf i).toNat)
 case atStart=>exact⟨0,ω,rfl,d,r⟩
 case round=>
  obtain⟨k,R,rfl,a,e⟩:=hrel;clear d r j;by_cases D:k<η l
  ·obtain⟨b,o,rfl,_,hc⟩:=(hs.rd.below e K).at_ (tV D);have s:F k=l.getD k jE:=by rw[<-hF]
   have M:=dh a;have u:=a.cellAt k (by simp;omega);have N:=a.frozenAt k;have v:=a.stored k (iY .u8 1);have E:=a.lt _ rfl;rw[gE (by simp[C8,upto];omega)]at u;generalize (C8 (upto (η l) F k))[k]'(by simp[C8,upto];omega)=u0 at u;clear a;have G:=dh v;clear v;generalize l.getD k jE=y at *;obtain⟨J,O⟩:=iw s hF;clear s hF;cases y
   ·go_wp2
    go_roundw
    case rel=>exact⟨k+1,ω,by go_num,by rw[Yg J.o];exact M.o,e⟩
    case measure=>simp[intOf];omega
   ·go_wp2
    go_roundw
    case rel=>
     refine⟨k+1,ω,by go_num,?_,e.setCell (p:=⟨w.1.size,k,jC⟩) E.1 _⟩;rw[adW J.o,X8];exact G.1
    case measure=>simp[intOf];omega
  ·have H:k=η l:=ω;subst H;have e1:upto (η l) F (η l)=l:=by rw[<-hF];exact abp l
   rw[e1]at a
   have Q:=run_convert_bytes_arg (P:=jJ) wr 197 5 Tryz.underlying197 Tryz.underlying5 w.1.size 0 (η l) (η l) (l.map aaV) ς (λi hi=>by
    have:=a.cellAt i (by simp;omega);rw[ng];simp[C8,hi]at this⊢;exact this) 9 Tryz.underlying9
   clear a e1 hF;go_wp2
   go_ret
   exact⟨rfl,e⟩
