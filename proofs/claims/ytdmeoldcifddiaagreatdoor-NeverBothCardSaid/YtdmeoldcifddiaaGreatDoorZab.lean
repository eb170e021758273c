/- A part of the proof. -/
import Derived.Test.YtdmeoldcifddiaaGreatDoorShort
import Derived.OrdersHeld
import Derived.StillTail
import Derived.Deep.RegionHeld3
import Derived.WalkKit
import Derived.WalkSpells
import Derived.WalkLawsBesides
import Derived.Lib.Hide
import Derived.Deep.QuietTactic
import Derived.BigQuiet
import Derived.Maps.AppendAt
import Derived.Deep.Draws
import Derived.Laws.AppendOwnNone
/- Texts of one kind, in one file. -/
namespace Go.Proofs.YtdmeoldcifddiaaGreatDoor
open Go
open Go.Value renaming slice -> iX, int -> iY
open Go.IntKind renaming i64 -> iZ
open Option renaming some -> jB, none -> jC
open Bool renaming true -> jD, false -> jE
open Go renaming World -> jF
open List renaming length -> η, range -> ζ, getD -> θ, mem_append -> ν
variable {a:Act}{listed:Array Bool}{after:Array Edge}{b m x:Int}{bits:Int->Nat->Bool}{L:List (List Bool)}{B base base' c d fuel g i id j k lp n:Nat}{f u:Nat->Bool}{op:Op}{o oi:Oper}{gd:Option (Nat×Bool)}{A:Option Addr}{pos:String}{α:Type}{e ty:TypeId}{v:Value}{w:jF}
section
variable {P:Program}{ops:Array Oper}{Q:Exit->Act->jF->Prop}{md:Region.Mode}{S:jF->Prop}{z:Nat}
def xV (P:Program)(md:Region.Mode)(ops:Array Oper)(Q:Exit->Act->jF->Prop)(S:jF->Prop)(z:Nat):Nat->Array Bool->Act->jF->Prop
 |0,listed,a,w=>Region.ready md ops listed=[]/\Q .normal a w
 |fuel+1,listed,a,w=>(Region.ready md ops listed=[]->Q .normal a w)/\
  ∀i∈Region.ready md ops listed,wpOp P ops Q i (λa' w'=>(i≠z->S w')/\xV P md ops Q S z fuel (listed.setIfInBounds i jD) a' w') a w
theorem OI:∀(fuel:Nat) (listed:Array Bool) (a:Act) (w:jF),xV P md ops Q S z fuel listed a w->wpAny P md ops Q fuel listed a w
 |0,_,_,_,h=>h
 |fuel+1,_,_,_,h=>⟨h.1,λi hi=>wpOp_mono (λa' w' b=>OI fuel _ a' w' b.2) (h.2 i hi)⟩
theorem Tm (hi:ops[i]? =jB oi)(m:∀(j:Nat) (o:Oper) cs b,ops[j]? =jB o->o.op≠ .select cs b)
  (G:∀c a w,Q (.panic c) (a.put oi.dst v) w->Q (.panic c) a w)(I:∃oz,ops[z]? =jB oz/\∃e∈oz.after,Region.binds md e=jD/\e.on=i):
  ∀(fuel:Nat) (listed:Array Bool) (a:Act) (w:jF),
   (∀j q,ops[j]? =jB q->j≠i->listed.getD j jD=jE->(∀e∈q.after,Region.binds md e=jD->e.on≠i)->oi.apart ops q=jD)->
   i∈Region.ready md ops listed->YieldsIf P ops S oi v a->S w->
   xV P md ops Q S z fuel (listed.setIfInBounds i jD) (a.put oi.dst v) w->xV P md ops Q S z (fuel+1) listed a w:=by
 intro fuel;induction fuel with
 |zero=>
  intro listed a w _ r hy hS H;refine⟨λh=>(by rw[h]at r;cases r),λj A=>?_⟩;by_cases d:j=i
  ·subst d;exact hy.wpOp hi hS ⟨λ_=>hS,H⟩
  ·have:=ready_mono A d;rw[H.1]at this;cases this
 |succ fuel J=>
  intro listed a w f r hy hS H;refine⟨λh=>(by rw[h]at r;cases r),λj A=>?_⟩;by_cases d:j=i
  ·subst d;exact hy.wpOp hi hS ⟨λ_=>hS,H⟩
  ·have K:=H.2 j (ready_mono A d);obtain⟨n,q,g,s⟩:=mem_ready.1 A
   have p:∀e∈q.after,Region.binds md e=jD->e.on≠i:=λe he hb heq=>by
    have g1:=s e he hb;have g0:=(mem_ready.1 r).1;rw[heq]at g1;rcases oG i listed.size with C|C
    ·simp[C]at g0 g1;rw[g0]at g1;cases g1
    ·simp[oh C]at g1
   have t:j≠z:=by
    rintro rfl;obtain⟨oz,u,e,he,hb,D⟩:=I;rw[g]at u;cases u;exact p e he hb D
   have L:=wpOp_putIf g (f j q g d n p) (λcs b=>m i oi cs b hi) (λcs b=>m j q cs b g) G hy K
   have l:∀k ok,ops[k]? =jB ok->k≠i->(listed.setIfInBounds j jD).getD k jD=jE->
     (∀e∈ok.after,Region.binds md e=jD->e.on≠i)->oi.apart ops ok=jD:=λk ok M E x F=>by
    refine f k ok M E ?_ F;by_cases y:j=k
    ·subst y;exact n
    ·rw[getD_set_ne jD y]at x;exact x
   refine wpOp_mono (λa' w' B=>⟨λ_=>B.2.1 t,J (listed.setIfInBounds j jD) a' w' l (ready_mono r (Ne.symm d)) B.1 (B.2.1 t) ?_⟩) L;rw[nC _ _ d];exact B.2.2
theorem U5 (hi:ops[i]? =jB oi)
  (hs:Region.noSelect ops=jD)(hf:Region.free md ops listed i=jD)(d:(Region.ready md ops listed).contains i=jD)(hw:Region.waitsFor md ops z i=jD)
  (b:∀c a w,Q (.panic c) (a.put oi.dst v) w->Q (.panic c) a w)(hy:YieldsIf P ops S oi v a)(hS:S w)
  (h:xV P md ops Q S z fuel (listed.setIfInBounds i jD) (a.put oi.dst v) w):xV P md ops Q S z (fuel+1) listed a w:=
 Tm hi (Region.noSelect_spec hs) b (Region.waitsFor_spec hw) fuel listed a w (Region.free_spec hi hf) γ hy hS h
theorem Ya (d:ops[i]? =jB o)(e:Region.ready md ops listed=[i])(f:i≠z)
  (h:∀b:Act->jF->Prop,Shut (∀a w,S w->(S w->xV P md ops Q S z fuel (listed.setIfInBounds i jD) a w)->b a w)->if Region.wanted o (yielded ops a.tmps)=jD then Oper.wp P o a w b Q else b (a.put o.dst undef) w):
  xV P md ops Q S z (fuel+1) listed a w:=by
 refine⟨λk=>γ,λj c=>?_⟩;rw[e,mS]at c;subst c;exact wpOp_step d (λb g=>h _ (λa w hS l=>g a w γ))
theorem Yb (f:ops[z]? =jB o)(g:Region.ready md ops listed=[z])(c:Region.ready md ops (listed.setIfInBounds z jD)=[])
  (h:∀b:Act->jF->Prop,Shut (∀a w,Q .normal a w->b a w)->if Region.wanted o (yielded ops a.tmps)=jD then Oper.wp P o a w b Q else b (a.put o.dst undef) w):
  xV P md ops Q S z (fuel+1) listed a w:=by
 refine⟨λk=>γ,λj d=>?_⟩;rw[g,mS]at d;subst d;refine wpOp_step f (λb i=>h _ (λa w e=>i a w ⟨λh=>absurd rfl h,?_⟩));cases fuel with
 |zero=>exact⟨c,e⟩
 |succ n=>exact⟨λ_=>e,γ⟩
theorem sM (z)(hm:P.follows .mixedOrders=jD)(hS:S w.drew)(h:S w.drew->xV P .any ops Q S z ops.size (Array.replicate ops.size jE) a w.drew):(Code.region id ops jD).wp P Q a w:=
 wp_region_any hm (OI _ _ _ _ (h hS))
end
section
variable {P:Program}{ops:Array Oper}{Q:Exit->Act->jF->Prop}{md:Region.Mode}{S:jF->Prop}
theorem Yc (c:ops[i]? =jB o)(d:Region.ready md ops listed=[i])
  (h:∀b:Act->jF->Prop,Shut (∀a w,S w->(S w->wpAnyH P md ops Q S fuel (listed.setIfInBounds i jD) a w)->b a w)->if Region.wanted o (yielded ops a.tmps)=jD then Oper.wp P o a w b Q else b (a.put o.dst undef) w):
  wpAnyH P md ops Q S (fuel+1) listed a w:=
 wpAnyH_ready d ς (AllReadyH.cons c h (λ_ h=>γ))
theorem U6 {d:Option Tmp}(c:ops[i]? =jB ⟨d,op,ty,pos,after,gd⟩)(e:Region.ready md ops listed=[i])
  (h:∀b:Act->jF->Prop,Shut (∀a w,S w->(S w->wpAnyH P md ops Q S fuel (listed.setIfInBounds i jD) a w)->b a w)->if Region.wanted ⟨d,op,ty,pos,after,gd⟩ (yielded ops a.tmps)=jD then Oper.wp P ⟨d,op,ty,pos,after,gd⟩ a w b Q else b (a.put d undef) w):
  wpAnyH P md ops Q S (fuel+1) listed a w:=Yc c e h
theorem Cz {d:Option Tmp}(hi:ops[i]? =jB ⟨d,op,ty,pos,after,gd⟩)
  (hs:Region.noSelect ops=jD)(hf:Region.free md ops listed i=jD)(b:(Region.ready md ops listed).contains i=jD)
  (e:∀c a w,Q (.panic c) (a.put d v) w->Q (.panic c) a w)(hy:YieldsIf P ops S ⟨d,op,ty,pos,after,gd⟩ v a)(hS:S w)
  (h:wpAnyH P md ops Q S fuel (listed.setIfInBounds i jD) (a.put d v) w):wpAnyH P md ops Q S (fuel+1) listed a w:=wpAnyH_take hi hs hf b e hy hS h
variable {z:Nat}
theorem qZ {d:Option Tmp}(e:ops[i]? =jB ⟨d,op,ty,pos,after,gd⟩)(f:Region.ready md ops listed=[i])(b:i≠z)
  (h:∀c:Act->jF->Prop,Shut (∀a w,S w->(S w->xV P md ops Q S z fuel (listed.setIfInBounds i jD) a w)->c a w)->if Region.wanted ⟨d,op,ty,pos,after,gd⟩ (yielded ops a.tmps)=jD then Oper.wp P ⟨d,op,ty,pos,after,gd⟩ a w c Q else c (a.put d undef) w):
  xV P md ops Q S z (fuel+1) listed a w:=Ya e f b h
theorem Ky {d:Option Tmp}(hi:ops[i]? =jB ⟨d,op,ty,pos,after,gd⟩)
  (hs:Region.noSelect ops=jD)(hf:Region.free md ops listed i=jD)(b:(Region.ready md ops listed).contains i=jD)(hw:Region.waitsFor md ops z i=jD)
  (e:∀c a w,Q (.panic c) (a.put d v) w->Q (.panic c) a w)(hy:YieldsIf P ops S ⟨d,op,ty,pos,after,gd⟩ v a)(hS:S w)
  (h:xV P md ops Q S z fuel (listed.setIfInBounds i jD) (a.put d v) w):xV P md ops Q S z (fuel+1) listed a w:=U5 hi hs hf b hw e hy hS h
theorem sN {d:Option Tmp}(e:ops[z]? =jB ⟨d,op,ty,pos,after,gd⟩)(f:Region.ready md ops listed=[z])(b:Region.ready md ops (listed.setIfInBounds z jD)=[])
  (h:∀c:Act->jF->Prop,Shut (∀a w,Q .normal a w->c a w)->if Region.wanted ⟨d,op,ty,pos,after,gd⟩ (yielded ops a.tmps)=jD then Oper.wp P ⟨d,op,ty,pos,after,gd⟩ a w c Q else c (a.put d undef) w):
  xV P md ops Q S z (fuel+1) listed a w:=Yb e f b h
theorem rJ {d:Option Tmp}{rs:List Nat}(c:ops[i]? =jB ⟨d,op,ty,pos,after,gd⟩)
  (h:∀b:Act->jF->Prop,Shut (∀a w,S w->(S w->wpAnyH P md ops Q S fuel (listed.setIfInBounds i jD) a w)->b a w)->if Region.wanted ⟨d,op,ty,pos,after,gd⟩ (yielded ops a.tmps)=jD then Oper.wp P ⟨d,op,ty,pos,after,gd⟩ a w b Q else b (a.put d undef) w)
  (hs:AllReadyH P md ops Q S fuel listed a w rs):AllReadyH P md ops Q S fuel listed a w (i::rs):=AllReadyH.cons c h hs
end
section
variable {P:Program}{ops:Array Oper}{Q:Exit->Act->jF->Prop}{md:Region.Mode}{S:jF->Prop}{z:Nat}
def tZ (P:Program)(md:Region.Mode)(ops:Array Oper)(Q:Exit->Act->jF->Prop)(S:jF->Prop)(z:Nat):Nat->Array Bool->Act->jF->Prop
 |0,listed,a,w=>Region.ready md ops listed=[]/\Q .normal a w
 |fuel+1,listed,a,w=>(Region.ready md ops listed=[]->Q .normal a w)/\
  ∀i∈Region.ready md ops listed,wpOp P ops Q i (λa' w'=>((i≠z/\listed.getD z jD=jE)->S w')/\tZ P md ops Q S z fuel (listed.setIfInBounds i jD) a' w') a w
theorem JD:∀(fuel:Nat) (listed:Array Bool) (a:Act) (w:jF),tZ P md ops Q S z fuel listed a w->wpAny P md ops Q fuel listed a w
 |0,_,_,_,h=>h
 |fuel+1,_,_,_,h=>⟨h.1,λi hi=>wpOp_mono (λa' w' b=>JD fuel _ a' w' b.2) (h.2 i hi)⟩
inductive gQ (md:Region.Mode)(ops:Array Oper)(listed:Array Bool):Nat->Nat->Prop
 |one {z i:Nat} {oz:Oper} {e:Edge}:ops[z]? =jB oz->e∈oz.after->Region.binds md e=jD->e.on=i->gQ md ops listed z i
 |more {z k i:Nat} {oz:Oper} {e:Edge}:ops[z]? =jB oz->e∈oz.after->Region.binds md e=jD->e.on=k->listed.getD k jD=jE->gQ md ops listed k i->gQ md ops listed z i
def abn (md:Region.Mode)(ops:Array Oper)(listed:Array Bool):Nat->List Nat->Nat->Bool
 |z,[],i=>Region.waitsFor md ops z i
 |z,k::l,i=>Region.waitsFor md ops z k&&(!(listed.getD k jD)&&abn md ops listed k l i)
theorem U8 {listed:Array Bool}:∀(l:List Nat) {z i:Nat},abn md ops listed z l i=jD->gQ md ops listed z i
 |[],z,i,h=>by
  obtain⟨oz,a,e,he,hb,b⟩:=Region.waitsFor_spec h;exact .one a he hb b
 |k::l,z,i,h=>by
  rw[abn,jm,jm]at h;obtain⟨oz,a,e,he,hb,b⟩:=Region.waitsFor_spec h.1;exact .more a he hb b γ (U8 l h.2.2)
theorem aeE (h:j∈Region.ready md ops listed):listed.getD j jD=jE:=(mem_ready.1 h).1
theorem RU {a:Oper}{e:Edge}(h:j∈Region.ready md ops listed)(f:ops[j]? =jB a)(he:e∈a.after)(hb:Region.binds md e=jD)(g:e.on=k)(c:listed.getD k jD=jE):False:=by
 obtain⟨_,i,d,b⟩:=mem_ready.1 h
 grind
theorem gQ.ne {z:Nat}(h:gQ md ops listed z i)(hi:i∈Region.ready md ops listed)(d:j∈Region.ready md ops listed):j≠z:=by
 rintro rfl;cases h with
 |one b he hb a=>exact RU d b he hb a (aeE hi)
 |more b he hb a c _=>exact RU d b he hb a c
theorem gQ.step {listed:Array Bool}{z i j:Nat}(h:gQ md ops listed z i)(hi:i∈Region.ready md ops listed)(d:j∈Region.ready md ops listed):gQ md ops (listed.setIfInBounds j jD) z i:=by
 induction h with
 |one b he hb a=>exact .one b he hb a
 | @more z k i oz e b he hb a c hd f=>exact .more b he hb a (by rw[getD_set_ne jD (hd.ne hi d)];exact c) (f hi)
theorem Tj (hi:ops[i]? =jB oi)(l:∀(j:Nat) (o:Oper) cs b,ops[j]? =jB o->o.op≠ .select cs b)
  (K:∀c a w,Q (.panic c) (a.put oi.dst v) w->Q (.panic c) a w):
  ∀(fuel:Nat) (listed:Array Bool) (a:Act) (w:jF),
   (∀j n,ops[j]? =jB n->j≠i->listed.getD j jD=jE->(∀e∈n.after,Region.binds md e=jD->e.on≠i)->oi.apart ops n=jD)->
   i∈Region.ready md ops listed->gQ md ops listed z i->YieldsIf P ops S oi v a->listed.getD z jD=jE->S w->
   tZ P md ops Q S z fuel (listed.setIfInBounds i jD) (a.put oi.dst v) w->tZ P md ops Q S z (fuel+1) listed a w:=by
 intro fuel;induction fuel with
 |zero=>
  intro listed a w _ p _ hy q hS H;refine⟨λh=>γ,λj s=>?_⟩;by_cases d:j=i
  ·subst d;exact hy.wpOp hi hS γ
  ·have:=ready_mono s d;rw[H.1]at this
   grind
 |succ fuel L=>
  intro listed a w f p g hy q hS H;refine⟨λh=>γ,λj s=>?_⟩;by_cases d:j=i
  ·subst d;exact hy.wpOp hi hS γ
  ·have M:=H.2 j (ready_mono s d);let⟨m,n,r,t⟩:=mem_ready.1 s
   have u:∀e∈n.after,Region.binds _ e=jD->e.on≠i:=λe he hb heq=>by
    have g1:=t e he hb;have g0:=(mem_ready.1 p).1;rw[heq]at g1;rcases oG i listed.size with E|E
    ·simp[E]at g0 g1;rw[g0]at g1;cases g1
    ·simp[oh E]at g1
   have x:=g.ne p s;have F:=g.ne p p;have N:=wpOp_putIf r (f j n r d m u) (λcs b=>l i oi cs b hi) (λcs b=>l j n cs b r) K hy M
   have D:∀k ok,ops[k]? =jB ok->k≠i->(listed.setIfInBounds j jD).getD k jD=jE->
     (∀e∈ok.after,Region.binds md e=jD->e.on≠i)->oi.apart ops ok=jD:=λk ok O G y I=>by
    refine f k ok O G ?_ I;by_cases A:j=k
    ·subst A;exact m
    ·rw[getD_set_ne jD A]at y;exact y
   have B:(listed.setIfInBounds i jD).getD z jD=jE:=by rw[getD_set_ne jD F];exact q
   have C:(listed.setIfInBounds j jD).getD z jD=jE:=by rw[getD_set_ne jD x];exact q
   refine wpOp_mono (λa' w' J=>⟨λ_=>J.2.1 ⟨x,B⟩,L (listed.setIfInBounds j jD) a' _ ω (ready_mono p ω) (g.step p s) J.1 C γ ?_⟩) N;rw[nC _ _ d]
   grind
theorem Ku {d:Option Tmp}(hi:ops[i]? =jB ⟨d,op,ty,pos,after,gd⟩)(hs:Region.noSelect ops=jD)(hf:Region.free md ops listed i=jD)(f:(Region.ready md ops listed).contains i=jD)(l)(hw:abn md ops listed z l i=jD)(b:listed.getD z jD=jE)(e:∀c a w,Q (.panic c) (a.put d v) w->Q (.panic c) a w)(hy:YieldsIf P ops S ⟨d,op,ty,pos,after,gd⟩ v a)(hS:S w)(h:tZ P md ops Q S z fuel (listed.setIfInBounds i jD) (a.put d v) w):tZ P md ops Q S z (fuel+1) listed a w:=
 Tj hi (Region.noSelect_spec hs) e fuel listed a w (Region.free_spec hi hf) γ (U8 l hw) hy b hS h
theorem rZ {d:Option Tmp}(e:ops[i]? =jB ⟨d,op,ty,pos,after,gd⟩)(f:Region.ready md ops listed=[i])
  (h:∀b:Act->jF->Prop,Shut (∀a w,S w->(S w->tZ P md ops Q S z fuel (listed.setIfInBounds i jD) a w)->b a w)->if Region.wanted ⟨d,op,ty,pos,after,gd⟩ (yielded ops a.tmps)=jD then Oper.wp P ⟨d,op,ty,pos,after,gd⟩ a w b Q else b (a.put d undef) w):
  tZ P md ops Q S z (fuel+1) listed a w:=by
 refine⟨λk=>γ,λj c=>?_⟩;rw[f,mS]at c;subst c;exact wpOp_step e (λb g=>h _ (λa w hS l=>g a w γ))
theorem rM {d:Option Tmp}(e:ops[i]? =jB ⟨d,op,ty,pos,after,gd⟩)(f:Region.ready md ops listed=[i])(l:(i !=z&& !(listed.getD z jD))=jE)
  (h:∀b:Act->jF->Prop,Shut (∀a w,tZ P md ops Q S z fuel (listed.setIfInBounds i jD) a w->b a w)->if Region.wanted ⟨d,op,ty,pos,after,gd⟩ (yielded ops a.tmps)=jD then Oper.wp P ⟨d,op,ty,pos,after,gd⟩ a w b Q else b (a.put d undef) w):
  tZ P md ops Q S z (fuel+1) listed a w:=by
 refine⟨λm=>γ,λj c=>?_⟩;rw[f,mS]at c;subst c;refine wpOp_step e (λb g=>h _ (λa w k=>g a w ⟨λ⟨n,o⟩=>?_,k⟩))
 grind
theorem tX (b:Region.ready md ops listed=[])(h:Q .normal a w):tZ P md ops Q S z fuel listed a w:=by
 cases fuel with
 |zero=>exact⟨b,h⟩
 |succ n=>exact⟨λ_=>h,γ⟩
theorem vP (z)(hm:P.follows .mixedOrders=jD)(hS:S w.drew)(h:S w.drew->tZ P .any ops Q S z ops.size (Array.replicate ops.size jE) a w.drew):(Code.region id ops jD).wp P Q a w:=
 wp_region_any hm (JD _ _ _ _ (h hS))
end
open Go.RowKit
theorem BI {k:IntKind}{a:Int}(h:a=b):Ending.returned (.int k a)=.returned (.int k b):=by rw[h]
theorem rH {a b:Bool}(h:a=b):Ending.returned (.bool a)=.returned (.bool b):=by rw[h]
theorem ag8 {k:IntKind}{a:Int}(h:a=b):Ending.returned (.tuple #[v,.int k a])=.returned (.tuple #[v,.int k b]):=by rw[h]
def Rd (w:jF)(B:Nat)(A:Option Addr)(xs:List Value):Prop:=
 xs=[]\/∃b off,A=jB ⟨b,off,jC⟩/\b<B/\∀j u,xs[j]? =jB u->w.cell? ⟨b,off+j,jC⟩=jB u
structure qW (S:Nat->Prop)(w w':jF):Prop where
 os:w'.os=w.os
 tape:w'.tape=w.tape
 output:w'.output=w.output
 size:w.1.size<=w'.1.size
 block:∀k,k<w.1.size->¬S k->w'.1[k]? =w.1[k]?
section
variable {S S':Nat->Prop}{w w' w1 w2:jF}{B B':Nat}{A:Option Addr}{xs:List Value}
theorem qW.refl (S:Nat->Prop)(w):qW S w w:=⟨rfl,rfl,rfl,lR,λ_ _ _=>rfl⟩
theorem qW.trans (h:qW S w w1)(k:qW S' w1 w2)(hs:∀i,i<w.1.size->S' i->S i):qW S w w2:=
 ⟨k.os.trans h.os,k.tape.trans h.tape,k.output.trans h.output,Nat.le_trans h.size k.size,
  λi hi b=>(k.block i (jh hi h.size) (λa=>b (hs i hi a))).trans (h.block i hi b)⟩
theorem qW.mono (h:qW S w w')(hs:∀i,i<w.1.size->S i->S' i):qW S' w w':=
 ⟨h.os,h.tape,h.output,h.size,λi hi a=>h.block i hi (λb=>a (hs i hi b))⟩
theorem qW.drewN (h:qW S w w')(n):qW S w (w'.drewN n):=⟨h.os,h.tape,h.output,h.size,h.block⟩
theorem qW.OQ (h:qW S w.drew w'):qW S w w':=⟨h.os,h.tape,h.output,h.size,h.block⟩
theorem qW.alloc (h:qW S w w')(o):qW S w (w'.alloc o):=
 ⟨h.os,h.tape,h.output,Nat.le_trans h.size ς,λi hi a=>(Below.heap_alloc w' o i (jh hi h.size)).trans (h.block i hi a)⟩
theorem qW.setCell (h:qW S w w'){p:Addr}(hp:p.block<w.1.size->S p.block)(u):qW S w (w'.setCell p u):=
 ⟨h.os,h.tape,h.output,by simpa[jF.setCell]using h.size,λi hi a=>(Below.heap_setCell w' p u i (λe=>a (e▸hp (e▸hi)))).trans (h.block i hi a)⟩
theorem qW.uy {row:Option Nat}(h:w.grownBy w' row):qW (λk=>row=jB k) w w':=
 ⟨h.os,h.tape,h.output,h.size,λi hi a=>h.block i hi (λe=>a e.symm)⟩
theorem qW.of_below (h:Below B w w'):qW (λk=>B<=k) w w':=⟨h.os,h.tape,h.output,h.size,λi _ a=>h.block i ω⟩
theorem qW.below (h:qW S w w')(b:B<=w.1.size)(hs:∀k,k<B->¬S k):Below B w w':=
 ⟨h.os,h.tape,h.output,h.size,λk a=>h.block k ω (hs k a)⟩
theorem qW.blk (h:qW S w w'){o:Obj}(b:w.1[g]? =jB o)(c:¬S g):w'.1[g]? =jB o:=
 (h.block g (a b) c).trans b
where a {w:jF} {g:Nat} {o:Obj} (h:w.1[g]? =jB o):g<w.1.size:=(aI.1 h).1
theorem qR {size:Nat}(h:w.ownsRow base e size v n xs)(b:qW S w w')(c:∀g,v.ownBlock=jB g->¬S g):w'.ownsRow base e size v n xs:=by
 obtain⟨d,a⟩:=h;refine⟨d,?_⟩;rcases a with a|⟨g,cap,cur,rfl,f,i,r⟩
 ·grind
 ·exact .inr ⟨g,_,_,rfl,f,b.blk i (c g rfl),r⟩
theorem own_below {size:Nat}(h:w.ownsRow base e size v n xs)(a:Below w.1.size w w'):w'.ownsRow base e size v n xs:=
 qR h (qW.of_below a) (λg b=>by have:=(h.lt g b).2;omega)
theorem rC {size:Nat}(h:w.ownsRow base e size v n xs)(hb:base'<=base):w.ownsRow base' e size v n xs:=by
 obtain⟨b,a⟩:=h;refine⟨b,?_⟩;rcases a with a|⟨g,cap,cur,rfl,c,r⟩
 ·grind
 ·exact .inr ⟨g,_,_,rfl,ω,r⟩
theorem Ug {size:Nat}(h:w.ownsRow base e size (iX (jB ⟨g,0,jC⟩) n c) n xs)(i:k<=n):
  w.ownsRow base e size (iX (jB ⟨g,0,jC⟩) k c) k (xs.take (k*size)):=by
 obtain⟨o,j⟩:=h;rcases j with⟨p,_⟩|⟨g',f,cur,hv,l,m,q,a,b,d⟩
 ·grind
 ·cases hv;have hm:k*size<=n*size:=mF _ i;refine⟨γ,.inr ⟨g,c,_,rfl,l,m,ω,a,b,?_⟩⟩
  grind
theorem Eb {size:Nat}{A:Option Addr}(h:w.ownsRow base e size (iX A n c) n xs)(f:k<=n):
  w.ownsRow base e size (iX A k c) k (xs.take (k*size)):=by
 have g:=h;obtain⟨m,i⟩:=g;rcases i with⟨o,j⟩|⟨g',b,cur,hv,p,q,r,d,l,a⟩
 ·grind
 ·cases hv;exact Ug h f
theorem sP {size:Nat}(h:w.ownsRow base e size v n xs)(c:0<n):
  ∃g cap,v=iX (jB ⟨g,0,jC⟩) n cap/\base<=g/\g<w.1.size/\n<=cap/\cap<=maxLen:=by
 rcases h.2 with⟨_,d⟩|⟨g,cap,cur,hv,f,i,b,a,_⟩
 ·omega
 ·grind
theorem CF {size:Nat}(h:w.ownsRow base e size v n xs):
  ∃A cap,v=iX A n cap/\n<=cap/\cap<=maxLen/\Rd w w.1.size A xs:=by
 rcases h.2 with⟨hv,d⟩|⟨g,cap,cur,hv,m,i,b,a,k,c⟩
 ·have l:=jv (by rw[h.1,d];simp);exact⟨_,0,by rw[hv,d],ω,ω,.inl l⟩
 ·refine⟨_,_,hv,b,a,.inr ⟨g,0,rfl,(aI.1 i).1,λj u hu=>?_⟩⟩;have hc:=h.cells (g:=g) (by simp[hv,Value.ownBlock]) j u hu
  have f:(⟨g,0,jC⟩:Addr).add j=⟨g,0+j,jC⟩:=by
   unfold Addr.add;split
   ·rename_i h;subst h;rfl
   ·rfl
  grind
theorem own_ne {d:TypeId}{size a:Nat}{v':Value}{n':Nat}{c:List Value}(h:w.ownsRow base e size v n xs)(l:w.ownsRow base' d a v' n' c)(m:e≠d):
  ∀g,v.ownBlock=jB g->¬(v'.ownBlock=jB g):=by
 intro g f b;rcases h.2 with⟨rfl,_⟩|⟨k,cap,cur,rfl,_,p,_⟩
 ·simp[Value.ownBlock]at f
 rcases l.2 with⟨rfl,_⟩|⟨k',i,j,rfl,_,o,_⟩
 ·simp[Value.ownBlock]at b
 simp[Value.ownBlock]at f b
 grind
theorem qQ {t:TypeId}{size:Nat}{b:Nat}{cs:Array Value}(h:w.ownsRow base e size v n xs)(hb:w.1[b]? =jB (.cells cs t (0,0)))(c:e≠t):v.ownBlock≠jB b:=by
 intro a;rcases h.2 with⟨rfl,_⟩|⟨k,cap,cur,rfl,_,d,_⟩
 ·simp[Value.ownBlock]at a
 simp[Value.ownBlock]at a
 grind
theorem Rd.nil (w B A):Rd w B A []:=.inl rfl
theorem Rd.at_ (h:Rd w B A xs){u:Value}(a:xs[j]? =jB u):∃b off,A=jB ⟨b,off,jC⟩/\b<B/\w.cell? ⟨b,off+j,jC⟩=jB u:=by
 rcases h with h|⟨b,off,hA,hb,hc⟩
 ·grind
 ·grind
theorem Rd.below (h:Rd w B A xs)(hb:Below B' w w')(d:B<=B'):Rd w' B A xs:=by
 rcases h with h|⟨b,off,hA,a,hc⟩
 ·exact .inl h
 ·exact .inr ⟨b,_,hA,a,λj u c=>bC hb ω (hc j u c)⟩
theorem Rd.uQ (h:Rd w B A xs)(a:qW S w w')(c:B<=w.1.size)(hs:∀b,b<B->¬S b):Rd w' B A xs:=
 h.below (a.below c hs) lR
theorem Rd.up (h:Rd w B A xs)(c:B<=B'):Rd w B' A xs:=by
 rcases h with h|⟨b,off,hA,a,hc⟩
 ·exact .inl h
 ·exact .inr ⟨b,_,hA,ω,hc⟩
theorem Rd.take (h:Rd w B A xs)(k):Rd w B A (xs.take k):=by
 rcases h with h|⟨b,off,hA,a,hc⟩
 ·exact .inl γ
 ·refine .inr ⟨b,_,hA,a,λj u c=>hc j u ?_⟩
  grind
theorem Rd.cut (h:Rd w B A xs){cap size:Nat}(d:η xs=n*size)(e:k<=n)(hc:n<=cap):
  Rd w B (if cap=k then A else A.map (·.add (k*size))) (xs.drop (k*size)):=by
 by_cases c:k=n
 ·left
  grind
 ·rcases h with h|⟨b,off,hA,a,hcell⟩
  ·left;grind
  ·rw[d9 ω,hA];refine .inr ⟨b,off+k*size,?_,a,λj u f=>?_⟩
   ·simp only[oQ,Addr.add];simp
   ·grind
end
structure Sl (w:jF)(B size:Nat)(A:Option Addr)(n c:Nat)(xs:List Value):Prop where
 len:η xs=n*size
 cap:n<=c
 max:c<=maxLen
 nil:A=jC->c=0
 rd:Rd w B A xs
section
variable {S:Nat->Prop}{w w':jF}{B B' size n c:Nat}{A:Option Addr}{xs:List Value}
theorem Sl.none_ (w B size):Sl w B size jC 0 0 []:=⟨ς,lR,ω,λ_=>rfl,.inl rfl⟩
theorem Sl.below (h:Sl w B size A n c xs)(hb:Below B' w w')(a:B<=B'):Sl w' B size A n c xs:={h with rd:=h.rd.below hb a}
theorem Sl.up (h:Sl w B size A n c xs)(a:B<=B'):Sl w B' size A n c xs:={h with rd:=h.rd.up a}
theorem Sl.uQ (h:Sl w B size A n c xs)(a:qW S w w')(d:B<=w.1.size)(hs:∀b,b<B->¬S b):Sl w' B size A n c xs:={h with rd:=h.rd.uQ a d hs}
theorem Sl.take (h:Sl w B size A n c xs)(a:k<=n):Sl w B size A k c (xs.take (k*size)):=
 ⟨by rw[jq,h.len];simp_all,Nat.le_trans a h.cap,h.max,h.nil,h.rd.take _⟩
theorem Sl.drop (h:Sl w B size A n c xs)(b:k<=n):Sl w B size (if c=k then A else A.map (·.add (k*size))) (n-k) (c-k) (xs.drop (k*size)):=
 ⟨by rw[List.length_drop,h.len,Nat.sub_mul],by have:=h.cap;omega,by have:=h.max;omega,λa=>by
   split at a
   ·omega
   ·have:=by simpa using a
    have:=h.nil this;omega,h.rd.cut h.len b h.cap⟩
theorem G9 (A n n' c c'):(Value.slice A n c).ownBlock=(Value.slice A n' c').ownBlock:=by cases A<;>rfl
theorem qX (h:w.ownsRow base e size v n xs):∃A c,v=iX A n c/\Sl w w.1.size size A n c xs:=by
 obtain⟨A,c,hv,a,b,d⟩:=CF h;refine⟨A,c,hv,h.1,a,b,λi=>?_,d⟩;rcases h.2 with⟨f,_⟩|⟨g,cap,cur,f,_⟩
 ·grind
 ·grind
end
def uq (P:Program)(t e size bytes:Nat):Prop:=
 P.underlying t=jB (.slice e)/\0<size/\∃i z,P.info? e=jB i/\i.zero=jB z/\i.size=size/\i.bytes=bytes/\z.cells.size=size
theorem uq.mk {P:Program}{t e size bytes:Nat}{z:Value}(a:P.underlying t=jB (.slice e))(hi:(P.info? e).map (λi=>(i.zero,i.size,i.bytes))=jB (jB z,size,bytes))
  (b:z.cells.size=size)(hs:0<size):uq P t e size bytes:=by
 obtain⟨i,c,d,f,g⟩:=info_parts hi;exact⟨a,hs,i,z,c,d,f,g,b⟩
section
variable {P:Program}{ops:Array Oper}{rest:List Oper}{o:Oper}{a:Act}{Q:Exit->Act->jF->Prop}{w:jF}
theorem rD (l:o.guard=jC)(s x t)(B:o.op=.call {callee:=.builtin .append,args:=#[s,x],argTypes:=#[t,t]})(base e size bytes)(T:uq P t e size bytes)(v n xs)(d:w.ownsRow base e size v n xs)(hs:a.eval s=v)(g)(cs:Array Value)(C:a.eval x=iX (jB ⟨g,0,jC⟩) 1 1)(D:w.1[g]? =jB (.cells cs e (0,0)))(hl:cs.size=size)(E:∀u∈cs.toList,u.oneCell'=jD)(F:n+1<=1000000000000)(m:bytes<=128)(b:base<=w.1.size)(h:∀v' w',w'.ownsRow base e size v' (n+1) (xs++cs.toList)->qW (λk=>v.ownBlock=jB k) w w'->(v'.ownBlock=v.ownBlock\/v'.ownBlock=jB w.1.size)->v'≠iX jC 0 0->wpList P ops Q rest (a.put o.dst v') w'):
  wpList P ops Q (o::rest) a w:=by
 obtain⟨G,p,i,z,hi,H,q,r,y⟩:=T
 have c:∀j u,cs.toList[j]? =jB u->w.cell? ((⟨g,0,jC⟩:Addr).add j)=jB u:=by
  intro j u hu
  have f:(⟨g,0,jC⟩:Addr).add j=⟨g,j,jC⟩:=by
   unfold Addr.add;split
   ·rename_i h;subst h;rfl
   ·simp
  rw[f,cell_of_row w g j cs e (0,0) D];simpa using hu
 have A:(n+1)*bytes<=140737488355328:=by
  have:(n+1)*bytes<=1000000000000*128:=oK F m;omega
 exact wpList_append_own_at w l s x t B _ e i z _ _ G hi H q r y p v n _ hs d _ 1 1 _ C γ c E (by unfold maxLen;omega) A b
  (λv' w' I J L K=>h _ _ I (qW.uy J) K (λe=>γ))
theorem su {K:Act->jF->Prop}{E:Prop}(l:o.guard=jC)(s x t)(B:o.op=.call {callee:=.builtin .append,args:=#[s,x],argTypes:=#[t,t]})(base e size bytes)(T:uq P t e size bytes)(v n xs)(d:w.ownsRow base e size v n xs)(hs:a.eval s=v)(g)(cs:Array Value)(C:a.eval x=iX (jB ⟨g,0,jC⟩) 1 1)(D:w.1[g]? =jB (.cells cs e (0,0)))(hl:cs.size=size)(F:∀u∈cs.toList,u.oneCell'=jD)(G:n+1<=1000000000000)(m:bytes<=128)(b:base<=w.1.size)(h:∀v' w',w'.ownsRow base e size v' (n+1) (xs++cs.toList)->qW (λk=>v.ownBlock=jB k) w w'->(v'.ownBlock=v.ownBlock\/v'.ownBlock=jB w.1.size)->v'≠iX jC 0 0->K (a.put o.dst v') w'):
  if Region.wanted o (yielded ops a.tmps)=jD then Oper.wp P o a w K Q else E:=by
 have hw:Region.wanted o (yielded ops a.tmps)=jD:=by simp[Region.wanted,l]
 rw[jd hw];obtain⟨H,p,i,z,hi,I,q,r,y⟩:=T
 have c:∀j u,cs.toList[j]? =jB u->w.cell? ((⟨g,0,jC⟩:Addr).add j)=jB u:=by
  intro j u hu
  have f:(⟨g,0,jC⟩:Addr).add j=⟨g,j,jC⟩:=by
   unfold Addr.add;split
   ·rename_i h;subst h;rfl
   ·simp
  rw[f,cell_of_row w g j cs e (0,0) D];simpa using hu
 have A:(n+1)*bytes<=140737488355328:=by
  have:(n+1)*bytes<=1000000000000*128:=oK G m;omega
 obtain⟨v',w',J,L,M,O,N⟩:=run_append_own_at w _ t o.type e i z _ _ H hi I q r y p v n _ d _ 1 1 _ γ c F (by unfold maxLen;omega) A b;unfold Oper.wp execOp;simp[B,resolve,invoke,builtin,Result.andThen_ok,hs,C,J];exact h _ _ L (qW.uy M) N (λe=>γ)
theorem yA (l:o.guard=jC)(s x t)(G:o.op=.call {callee:=.builtin .append,args:=#[s,x],argTypes:=#[t,t]})(base e size bytes)(T:uq P t e size bytes)(v n xs)(f:w.ownsRow base e size v n xs)(hs:a.eval s=v)(B A m c news)(H:a.eval x=iX A m c)(p:Sl w B size A m c news)(J:∀u∈news,u.oneCell'=jD)(K:n+m<=1000000000000)(r:bytes<=128)(g:base<=w.1.size)(h:∀v' w',w'.ownsRow base e size v' (n+m) (xs++news)->qW (λk=>v.ownBlock=jB k) w w'->(v'.ownBlock=v.ownBlock\/v'.ownBlock=jB w.1.size)->(v'=iX jC 0 0↔v=iX jC 0 0/\m=0)->wpList P ops Q rest (a.put o.dst v') w'):
  wpList P ops Q (o::rest) a w:=by
 obtain⟨I,y,i,z,hi,L,C,D,E⟩:=T
 have F:(n+m)*bytes<=140737488355328:=by
  have:(n+m)*bytes<=1000000000000*128:=oK K r;omega
 rcases A with _|M
 ·have hc:=p.nil rfl;have hm:m=0:=by have:=p.cap;omega
  subst hc;subst hm;have d:=jv (by rw[p.len];simp);subst d
  exact wpList_append_own_none l s x t G _ e i _ I hi v n _ hs f H
   (h v w γ (qW.refl _ _) (.inl rfl) ς)
 ·have d:∀j u,news[j]? =jB u->w.cell? (M.add j)=jB u:=by
   intro j u hu;obtain⟨b,off,hA,_,hc⟩:=p.rd.at_ hu;cases hA
   have q:(⟨b,off,jC⟩:Addr).add j=⟨b,off+j,jC⟩:=by
    unfold Addr.add;split
    ·rename_i h;subst h;rfl
    ·rfl
   rw[q];exact hc
  exact wpList_append_own_at w l s x t G _ e i z _ _ I hi L C D E y v n _ hs f _ m c _ H p.len d J (by unfold maxLen;omega) F g
   (λv' w' N O R S=>h _ _ N (qW.uy O) S R)
end
structure Nd where
 op:Int
 n:Int
 deriving DecidableEq
def takes (op:Int):Int:=
 if op=1\/op=2\/op=3 then 0 else if op=4\/op=8\/op=11\/op=12 then 1
 else if op=5\/op=6\/op=7\/op=9\/op=10 then 2 else -1
theorem zY (a): -1<=takes a/\takes a<=2:=by unfold takes;omega
def bad (x:Nd)(d:Nat):Int:=
 if takes x.op<0 then 3 else if(d:Int)<takes x.op then 4 else if x.op=3/\(x.n<0\/8<=x.n)then 10 else 0
def scan:List Nd->Nat->Int×Nat
 |[],d=>(0,d)
 |x::r,d=>if bad x d=0 then scan r (d-(takes x.op).toNat+1)else(bad x d,d)
def wrong (f:List Nd):Int:=if f=[]then 4 else if(scan f 0).1=0 then(if 1<(scan f 0).2 then 5 else 0)else(scan f 0).1
theorem BO (l r d):scan (l++r) d=if(scan l d).1=0 then scan r (scan l d).2 else scan l d:=by
 induction l generalizing d with
 |nil=>rfl
 |cons x l a=>
  simp[scan]
  grind
theorem rE (f:List α)(k:Nat)(h:k<η f):f.take (k+1)=f.take k++[f[k]]:=by
 simp
theorem Oe {f:List Nd}(a:k<η f)(hs:scan (f.take k) 0=(0,d))(hb:bad f[k] d=0):scan (f.take (k+1)) 0=(0,d-(takes f[k].op).toNat+1):=by
 rw[rE f k a,BO,hs];simp[scan,hb]
theorem GR {f:List Nd}(b:k<η f)(hs:scan (f.take k) 0=(0,d))(hb:bad f[k] d≠0):wrong f=bad f[k] d/\(scan f 0).1=bad f[k] d:=by
 have h:scan f 0=(bad f[k] d,d):=by
  conv=>lhs;rw[<-lK k f,lS b,BO,hs]
  simp[scan,hb]
 have a:f≠[]:=by rintro rfl;simp at b
 simp[wrong,h,hb,a]
theorem IC {f:List Nd}(a:f≠[])(hs:scan f 0=(0,d)):wrong f=if 1<d then 5 else 0:=by simp[wrong,hs,a]
theorem IB:wrong []=4:=rfl
def Jo (s:List Int×List Int)(x:Nd):List Int×List Int:=
 let k:=(takes x.op).toNat
 let b:=if 0<k then s.1.getD (η s.1-k) 0 else(η s.2:Int)
 (s.1.take (η s.1-k)++[b],s.2++[b])
def runs (f:List Nd):List Int×List Int:=f.foldl Jo ([],[])
def spans (f:List Nd):List Int:=if wrong f=0 then(runs f).2 else[]
theorem IK {f:List Nd}(a:k<η f):runs (f.take (k+1))=Jo (runs (f.take k)) f[k]:=by
 unfold runs;rw[rE f k a,jK];rfl
theorem GX (f):(runs f).2.length=η f:=by
 suffices h:∀(l:List _) (s),(l.foldl Jo s).2.length=η s.2+η l by have:=h f ([],[]);simpa[runs]using this
 intro l;induction l with
 |nil=>simp
 |cons x l a=>intro s;rw[jZ,a];simp[Jo];omega
theorem Dj {f:List Nd}(h:scan f 0=(0,d)):(runs f).1.length=d:=by
 suffices a:∀(l) (s) (e),scan l (η s.1)=(0,e)->(l.foldl Jo s).1.length=e from a f _ d h
 intro l;induction l with
 |nil=>intro s e h;simpa[scan]using h
 |cons x l b=>
  intro s e h;apply b;simp[scan]at h;split at h
  ·rw[<-h];congr 1;simp only[Jo,lA,jq,jP,lD];omega
  ·rename_i hb;grind
theorem aes (f):∀b∈(runs f).2,0<=b/\b<η f:=by
 suffices d:∀(l:List _) (s:List Int×List Int) (m),η s.2+η l<=m->(∀b∈s.1,0<=b/\b<m)->(∀b∈s.2,0<=b/\b<m)->∀b∈(l.foldl _ s).2,0<=b/\b<m by
  intro b hb;exact d f ([],[]) (η f) ς ς ς b hb
 intro l;induction l with
 |nil=>intro s m _ _ h;grind
 |cons x l e=>
  intro s m hm g i;simp at hm
  have hb:0<=(if 0<(takes x.op).toNat then s.1.getD (η s.1-(takes x.op).toNat) 0 else η s.2)/\(if 0<(takes x.op).toNat then s.1.getD (η s.1-(takes x.op).toNat) 0 else η s.2)<m:=by
   split
   ·by_cases c:η s.1-(takes x.op).toNat<η s.1
    ·have:s.1.getD (η s.1-(takes x.op).toNat) 0=s.1[η s.1-(takes x.op).toNat]:=by simp[θ,c]
     rw[this];exact g _ (mM _)
    ·have:s.1.getD (η s.1-(takes x.op).toNat) 0=0:=by simp[θ,c]
     omega
   ·omega
  apply e _ m
  ·simp[Jo];omega
  ·intro b a;simp only[Jo,ν,mS]at a
   grind
  ·intro b a;simp only[Jo,ν,mS]at a
   grind
theorem CR {f:List Nd}(h:wrong f=0):η (spans f)=η f:=by simp[spans,h,GX]
theorem vQ (f):spans f=[]↔wrong f≠0:=by
 by_cases h:wrong f=0
 ·have hl:=CR h;have a:f≠[]:=by rintro rfl;simp[IB]at h
  grind
 ·simp[spans,h]
theorem LU {f:List Nd}(a:f≠[]):wrong f=if(scan f 0).1=0 then(if 1<(runs f).1.length then 5 else 0)else(scan f 0).1:=by
 unfold wrong;rw[d9 a];split
 ·rename_i h;rw[Dj (by rw[<-h])]
 ·rfl
theorem Li {f:List Nd}(h:wrong f=0)(c:k<η f):scan (f.take k) 0=(0,(runs (f.take k)).1.length)/\bad f[k] (runs (f.take k)).1.length=0:=by
 have b:f≠[]:=by rintro rfl;simp at c
 have hs:(scan f 0).1=0:=by
  unfold wrong at h;rw[d9 b]at h;split at h
  ·assumption
  ·exact h
 have a:f=f.take k++(f[k]::f.drop (k+1)):=by rw[<-lS c,lK]
 have d:(scan (f.take k) 0).1=0:=by
  rw[a,BO]at hs;split at hs
  ·assumption
  ·exact hs
 have e:scan (f.take k) 0=(0,(scan (f.take k) 0).2):=by rw[<-d]
 have g:=Dj e;refine⟨γ,?_⟩;rw[g];rw[a,BO,jd d]at hs;simp[scan]at hs;split at hs
 ·omega
 ·omega
theorem x9 {x:Nd}(h:bad x d=0):0<=takes x.op/\takes x.op<=(d:Int)/\(x.op=3->0<=x.n/\x.n<8):=by
 unfold bad at h;omega
theorem GY (f):(runs f).1.length<=η f:=by
 suffices a:∀(l:List _) (s),(l.foldl Jo s).1.length<=η s.1+η l by have:=a f ([],[]);simpa[runs]using this
 intro l;induction l with
 |nil=>simp
 |cons x l b=>
  intro s;rw[jZ];have:=b (Jo s x);have c:(Jo s x).1.length<=η s.1+1:=by simp only[Jo,lA,jq,jP,lD];omega
  grind
def kids (f:List Nd)(at_:Int):Int×Int:=
 if wrong f=0/\0<=at_/\at_<η f then
  if takes (f[at_.toNat]?.getD ⟨0,0⟩).op=1 then(at_-1, -1)
  else if takes (f[at_.toNat]?.getD ⟨0,0⟩).op=2 then((spans f)[(at_-1).toNat]?.getD 0-1,at_-1)else(-1, -1)
 else(-1, -1)
theorem afG {f:List Nd}{at_:Int}(h:¬(wrong f=0/\0<=at_/\at_<η f)):kids f at_ =(-1, -1):=by unfold kids;grind
theorem Jd {f:List Nd}(h:wrong f=0)(a:k<η f):
  kids f k=if takes f[k].op=1 then((k:Int)-1, -1)else if takes f[k].op=2 then((spans f)[k-1]?.getD 0-1,(k:Int)-1)else(-1, -1):=by
 unfold kids
 simp_all
def qP (f:List Nd):List Value:=f.flatMap λx=>[iY iZ x.op,iY iZ x.n]
theorem uz (f):η (qP f)=η f*2:=by
 induction f with
 |nil=>rfl
 |cons x r a=>simp[qP]at a⊢;omega
theorem Oq (f k):(qP f)[k*2]? =f[k]?.map λx=>iY iZ x.op:=by
 induction f generalizing k with
 |nil=>rfl
 |cons x r a=>cases k with
  |zero=>rfl
  |succ k=>have:=a k;simp[qP,oN]at this⊢;omega
theorem Ur (f k):(qP f)[k*2+1]? =f[k]?.map λx=>iY iZ x.n:=by
 induction f generalizing k with
 |nil=>rfl
 |cons x r a=>cases k with
  |zero=>rfl
  |succ k=>have:=a k;simp[qP,oN]at this⊢;omega
theorem uY (f g):qP (f++g)=qP f++qP g:=by simp[qP]
theorem FX (f):∀u∈qP f,u.oneCell'=jD:=by
 intro u hu;simp[qP]at hu;obtain⟨x,_,rfl|rfl⟩:=hu<;>rfl
theorem vZ {f:List Nd}(h:Rd w B A (qP f))(a:k<η f):
  ∃b off,A=jB ⟨b,off,jC⟩/\b<B/\w.cell? ⟨b,off+k*2,jC⟩=jB (iY iZ f[k].op)/\w.cell? ⟨b,off+k*2+1,jC⟩=jB (iY iZ f[k].n):=by
 rcases h with h|⟨b,off,hA,hb,hc⟩
 ·have:=Oq f k;grind
 ·exact⟨b,_,hA,hb,hc _ _ (by rw[Oq];grind),by rw[mD];exact hc _ _ (by rw[Ur];grind)⟩
def qO (l:List Int):List Value:=l.map (iY iZ)
theorem xY (l):η (qO l)=η l*1:=by simp[qO]
theorem Ga (l):∀u∈qO l,u.oneCell'=jD:=by
 intro u hu;simp[qO,jg]at hu;obtain⟨x,_,rfl⟩:=hu;rfl
theorem sJ (l m):qO (l++m)=qO l++qO m:=by simp[qO]
theorem WS (l k):qO (l.drop k)=(qO l).drop (k*1):=by simp[qO]
theorem WQ (l k):qO (l.take k)=(qO l).take (k*1):=by simp[qO]
theorem JV {l:List Int}(h:Rd w B A (qO l))(a:k<η l):
  ∃b off,A=jB ⟨b,off,jC⟩/\b<B/\w.cell? ⟨b,off+k,jC⟩=jB (iY iZ l[k]):=by
 exact h.at_ (by simp[qO,a])
def EK:Nat->List Nd->List Int
 | _,[]=>[]
 |i,x::r=>if x.op=9 then(i:Int)::EK (i+1) r else EK (i+1) r
def uh (f:List Nd):List Int:=if wrong f=0 then EK 0 f else[]
theorem Yf (l:List Nd)(x:Nd):∀i,EK i (l++[x])=EK i l++if x.op=9 then[((i+η l:Nat):Int)]else[]:=by
 induction l with
 |nil=>intro i;rfl
 |cons y l a=>
  intro i;simp only[lu,EK,a]
  grind
theorem adV {f:List Nd}(a:k<η f):EK 0 (f.take (k+1))=EK 0 (f.take k)++if f[k].op=9 then[(k:Int)]else[]:=by
 rw[rE f k a,Yf]
 grind
theorem aah (l):∀i,η (EK i l)<=η l:=by
 induction l with
 |nil=>simp[EK]
 |cons x l a=>intro i;simp only[EK];grind
def neg (f:List Nd):List Nd:=if wrong f=0 then f++[⟨4,0⟩]else[]
def sI (w:jF)(e size n:Nat)(xs:List Value)(nil:Prop)(en:Ending)(w':jF):Prop:=
 ∃v,en=.returned v/\w'.ownsRow w.1.size e size v n xs/\Below w.1.size w w'/\(v=iX jC 0 0↔nil)
def Num (w:jF)(k:Int)(en:Ending)(w':jF):Prop:=en=.returned (iY iZ k)/\Below w.1.size w w'
def aj0 (w:jF)(p:Int×Int)(en:Ending)(w':jF):Prop:=en=.returned (.tuple #[iY iZ p.1,iY iZ p.2])/\Below w.1.size w w'
theorem K7 {w':jF}{p:Int×Int}{a:Int}(h:p=(a,b))(hb:Below w.1.size w w'):aj0 w p (.returned (.tuple #[iY iZ a,iY iZ b])) w':=⟨by rw[h],hb⟩
def aju (w:jF)(k:Int)(en:Ending)(w':jF):Prop:=en=.returned (iY .u64 k)/\Below w.1.size w w'
def Said (w:jF)(b:Bool)(en:Ending)(w':jF):Prop:=en=.returned (.bool b)/\∃n,w'=w.drewN n
def AX (w:jF)(b:Bool)(en:Ending)(w':jF):Prop:=en=.returned (.bool b)/\Below w.1.size w w'
def Fnd (w:jF)(b:Bool)(en:Ending)(w':jF):Prop:=∃k:Int,en=.returned (iY iZ k)/\ -1<=k/\k<=9223372036854775807/\Below w.1.size w w'/\decide (0<=k)=b
def Chain (o:List Int):Nat->List Int->Prop
 |i,[]=>i=0
 |i,b::r=>∃k:Nat,b=k/\k<i/\o[i-1]? =jB b/\Chain o k r
theorem Chain.more {o:List Int}(x):∀(r:List Int) (i:Nat),i<=η o->Chain o i r->Chain (o++[x]) i r
 |[],i,_,h=>h
 |b::r,i,hi,⟨k,hb,a,c,hc⟩=>⟨k,hb,a,γ,Chain.more x r k ω hc⟩
def akj (s:List Int)(x:Nd)(i:Nat):Prop:=
 (takes x.op=0/\s[i]? =jB (i:Int))\/
 (takes x.op=1/\1<=i/\∃v:Nat,v<i/\s[i]? =jB (v:Int)/\s[i-1]? =jB (v:Int))\/
 (takes x.op=2/\2<=i/\∃v a:Nat,v<=a/\a+1<i/\s[i]? =jB (v:Int)/\s[i-1]? =jB ((a:Int)+1)/\s[a]? =jB (v:Int))
theorem ZY {st o:List Int}{x:Nd}(hi:η o=i)(hc:Chain o i st.reverse)(hb:bad x (η st)=0):
  Chain (Jo (st,o) x).2 (i+1) (Jo (st,o) x).1.reverse/\akj (Jo (st,o) x).2 x i:=by
 obtain⟨v,hle,_⟩:=x9 hb;have n:=zY x.op;have b:takes x.op=0\/takes x.op=1\/takes x.op=2:=ω;rcases b with b|b|b
 ·have e:Jo (st,o) x=(st++[(i:Int)],o++[(i:Int)]):=by simp[Jo,b,hi]
  rw[e];refine⟨?_,.inl ⟨b,γ⟩⟩;simp[List.reverse_nil];exact⟨i,rfl,ω,γ,Chain.more _ _ _ ω hc⟩
 ·obtain⟨a,c,rfl⟩:∃a c,st=a++[c]:=by
   have f:st≠[]:=by rintro rfl;simp[b]at hle
   exact⟨_,_,(nZ f).symm⟩
  have e:Jo (a++[c],o) x=(a++[c],o++[c]):=by simp[Jo,b]
  rw[e];simp[List.reverse_nil]at hc⊢;obtain⟨k,p,g,w,h⟩:=hc;refine⟨⟨k,p,ω,γ,Chain.more _ _ _ ω h⟩,.inr (.inl ⟨b,ω,k,g,γ,?_⟩)⟩
  grind
 ·obtain⟨a,c,d,rfl⟩:∃a c d,st=a++[c,d]:=by
   refine⟨st.take (η st-2),st[η st-2],st[η st-1],?_⟩
   conv=>lhs;rw[<-lK (η st-2) st]
   rw[lS ω];have:η st-2+1=η st-1:=ω;rw[this,lS _,oM ω]
  have e:Jo (a++[c,d],o) x=(a++[c],o++[c]):=by
   have y:η (a++[c,d])-2=η a:=ς;simp[Jo,b]
  rw[e];simp[List.reverse_nil]at hc⊢;obtain⟨q,r,l,s,t,j,m,u,h⟩:=hc;refine⟨⟨_,j,ω,γ,Chain.more _ _ _ ω h⟩,.inr (.inr ⟨b,ω,t,q-1,ω,ω,γ,?_,?_⟩)⟩
  ·grind
  ·grind
theorem adu {f:List Nd}(hw:wrong f=0):∀k,k<=η f->Chain (runs (f.take k)).2 k (runs (f.take k)).1.reverse:=by
 intro k;induction k with
 |zero=>intro _;rfl
 |succ k b=>
  intro c;have a:k<η f:=ω;rw[IK a];have hl:(runs (f.take k)).2.length=k:=by rw[GX,jq];omega
  exact(ZY hl γ (Li hw _).2).1
theorem last_zero {f:List Nd}(hw:wrong f=0):0<η f/\(spans f)[η f-1]? =jB 0:=by
 have a:f≠[]:=by rintro rfl;simp[IB]at hw
 have d:=nT.2 a;refine⟨d,?_⟩;have hs:spans f=(runs f).2:=by simp[spans,hw]
 have hc:=adu hw (η f) lR;rw[tL lR]at hc
 have i:(runs f).1.length<=1:=by
  rw[LU a]at hw;split at hw
  ·split at hw
   ·omega
   ·omega
  ·rename_i h;exact absurd hw h
 rw[hs]
 match h:(runs f).1.reverse,hc with
 |[],hc=>simp only[Chain]at hc;omega
 |[b],hc=>
  obtain⟨k,hb,_,g,e⟩:=hc;simp only[Chain]at e;subst e;rw[g,hb];rfl
 |b::c::r,_=>
  have:=jM List.length h;simp at this;omega
theorem XD {x:Nd}(h:takes x.op<0):bad x d=3:=by simp[bad,h]
theorem SX {x:Nd}(h:0<=takes x.op)(a:(d:Int)<takes x.op):bad x d=4:=by
 unfold bad;omega
theorem SY {x:Nd}(h:0<=takes x.op)(a:takes x.op<=(d:Int))(b:x.op=3)(c:x.n<0\/8<=x.n):bad x d=10:=by
 unfold bad;omega
theorem Fu {x:Nd}(h:0<=takes x.op)(a:takes x.op<=(d:Int))(b:x.op≠3\/0<=x.n/\x.n<8):bad x d=0:=by
 unfold bad;omega
theorem Db:takes 3=0:=rfl
def Xc (at_:Int)(parts:List Int):Int:=parts.headD at_
theorem agU (s:List Int×List Int)(x)(h:takes x.op<=(η s.1:Int))(_h0:0<=takes x.op):
  Jo s x=(s.1.take (η s.1-(takes x.op).toNat)++[Xc (η s.2) (s.1.drop (η s.1-(takes x.op).toNat))],s.2++[Xc (η s.2) (s.1.drop (η s.1-(takes x.op).toNat))]):=by
 have e:(if 0<(takes x.op).toNat then s.1.getD (η s.1-(takes x.op).toNat) 0 else η s.2)=Xc (η s.2) (s.1.drop (η s.1-(takes x.op).toNat)):=by
  unfold Xc;split
  ·rename_i hp;have a:η s.1-(takes x.op).toNat<η s.1:=ω;rw[lS a];simp[θ,a]
  ·rename_i hp;have:(takes x.op).toNat=0:=ω;rw[this];simp
 simp only[Jo,e]
theorem abD (h:0<=takes x):takes x=0\/takes x=1\/takes x=2:=by have:=zY x;omega
def check (f:List Nd):Int:=if 24<η f then 5 else wrong f
theorem Y9 (f):η (neg f)<=η f+1:=by
 unfold neg
 grind
theorem Me {f:List Nd}(hw:wrong f=0):scan f 0=(0,1):=by
 obtain⟨a,_⟩:=last_zero hw;have b:f≠[]:=by rintro rfl;simp at a
 have d:(scan f 0).1=0:=by
  unfold wrong at hw;rw[d9 b]at hw;split at hw
  ·assumption
  ·exact hw
 have hl:=Dj (by rw[<-d])
 have hle:¬1<(runs f).1.length:=by
  rw[LU b,jd d]at hw;split at hw
  ·omega
  ·assumption
 have c:(runs f).1≠[]:=by
  obtain⟨n,e⟩:∃n,η f=n+1:=⟨η f-1,ω⟩;have:runs f=Jo (runs (f.take n)) (f[n]'ω):=by rw[<-IK ω,<-e,tL lR]
  rw[this];simp[Jo]
 have:=nT.2 c
 grind
theorem afq {f:List Nd}(hw:wrong f=0):wrong (f++[⟨4,0⟩])=0:=by
 have h:scan (f++[⟨4,0⟩]) 0=(0,1):=by
  rw[BO,Me hw];decide
 rw[IC ς h];decide
theorem FJ {xs ys:List α}(h:xs.take k=ys.take k)(a:k<η xs)(hy:k<η ys)(he:xs[k]=ys[k]):xs.take (k+1)=ys.take (k+1):=by
 rw[rE _ k a,rE _ k _,h,he]
inductive Tr where
 |leaf (x:Nd)
 |un (x:Nd)(a:Tr)
 |bin (x:Nd)(a b:Tr)
def Tr.flat:Tr->List Nd
 | .leaf x=>[x]
 | .un x a=>a.flat++[x]
 | .bin x a b=>a.flat++(b.flat++[x])
def Tr.size:Tr->Nat
 | .leaf _=>1
 | .un _ a=>a.size+1
 | .bin _ a b=>a.size+b.size+1
def Tr.ok:Tr->Prop
 | .leaf x=>takes x.op=0/\(x.op=3->0<=x.n/\x.n<8)
 | .un x a=>takes x.op=1/\a.ok
 | .bin x a b=>takes x.op=2/\a.ok/\b.ok
def Tr.CK:Tr->Nat->List Int
 | .leaf _,b=>[(b:Int)]
 | .un _ a,b=>a.CK b++[(b:Int)]
 | .bin _ a c,b=>a.CK b++(c.CK (b+a.size)++[(b:Int)])
theorem Tr.rU:∀t:Tr,η t.flat=t.size
 | .leaf _=>rfl
 | .un _ a=>by simp[Tr.flat,Tr.size,a.rU]
 | .bin _ a b=>by simp[Tr.flat,Tr.size,a.rU,b.rU];omega
theorem Tr.Ca:∀(t:Tr) (b:Nat),η (t.CK b)=t.size
 | .leaf _,_=>rfl
 | .un _ a,b=>by simp[Tr.CK,Tr.size,a.Ca]
 | .bin _ a c,b=>by simp[Tr.CK,Tr.size,a.Ca,c.Ca];omega
theorem Tr.size_pos (t:Tr):0<t.size:=by cases t<;>simp[Tr.size]
theorem ad9:takes 3=0:=rfl
theorem Tr.agk {x:Nd}(h:takes x.op=0)(a:x.op=3->0<=x.n/\x.n<8):bad x d=0:=
 Fu ω ω ω
theorem Tr.XC {x:Nd}(h:1<=takes x.op)(hd:takes x.op<=(d:Int)):bad x d=0:=
 Fu ω hd (.inl (λe=>by rw[e,ad9]at h;omega))
theorem Tr.II:∀(t:Tr) (r:List Nd) (d:Nat),t.ok->scan (t.flat++r) d=scan r (d+1)
 | .leaf x,r,d,⟨h,e⟩=>by
  show scan (x::r) d= _;rw[scan,jd (Tr.agk h e),h];rfl
 | .un x a,r,d,⟨h,c⟩=>by
  rw[Tr.flat,lg,a.II _ _ c];show scan (x::r) _ = _;rw[scan,jd (Tr.XC ω ω),h];rfl
 | .bin x a b,r,d,⟨h,c,hb⟩=>by
  rw[Tr.flat,lg,a.II _ _ c,lg,b.II _ _ hb];show scan (x::r) _ = _;rw[scan,jd (Tr.XC ω ω),h];rfl
theorem Tr.Bd {t:Tr}(h:t.ok):wrong t.flat=0:=by
 have hs:scan t.flat 0=(0,1):=by
  have:=t.II [] 0 h;rw[kZ]at this;rw[this];rfl
 have a:t.flat≠[]:=by
  intro e;have:=t.rU;rw[e]at this;have:=t.size_pos;simp at *;omega
 rw[IC a hs];decide
theorem Tr.IL:∀(t:Tr) (st o:List Int),t.ok->t.flat.foldl Jo (st,o)=(st++[(η o:Int)],o++t.CK (η o))
 | .leaf x,st,o,⟨h,_⟩=>by simp[Tr.flat,Tr.CK,Jo,h]
 | .un x a,st,o,⟨h,c⟩=>by
  rw[Tr.flat,jK,a.IL _ _ c];simp[Jo,h,Tr.CK]
 | .bin x a b,st,o,⟨h,c,hb⟩=>by
  rw[Tr.flat,jK,a.IL _ _ c,jK,b.IL _ _ hb];have e:η (o++a.CK (η o))=η o+a.size:=by rw[lA,a.Ca]
  have d:η (st++[(η o:Int)]++[((η o+a.size:Nat):Int)])-2=η st:=ς;rw[e];simp only[jZ,nO,Jo,h,Tr.CK];simp
theorem Tr.Yt {t:Tr}(h:t.ok):spans t.flat=t.CK 0:=by
 rw[spans,jd (Tr.Bd h),runs,t.IL _ _ h];simp
theorem P7 (l)(h:(scan l 0).1=0):∀k,k<=η l->∃ts:List Tr,(∀t∈ts,t.ok)/\l.take k=ts.flatMap Tr.flat/\scan (l.take k) 0=(0,η ts):=by
 intro k;induction k with
 |zero=>intro _;exact⟨[],ς,ς,rfl⟩
 |succ k n=>
  intro q;obtain⟨ts,f,g,i⟩:=n ω;have d:k<η l:=ω
  have hb:bad l[k] (η ts)=0:=by
   rcases Decidable.em (bad l[k] (η ts)=0)with j|j
   ·exact j
   ·exact absurd ((GR d i j).2.symm.trans h) j
  have hs:=Oe _ i hb;obtain⟨r,hle,o⟩:=x9 hb;have p:=zY l[k].op;have e:takes l[k].op=0\/takes l[k].op=1\/takes l[k].op=2:=ω;rcases e with e|e|e
  ·refine⟨ts++[.leaf l[k]],?_,?_,?_⟩
   ·intro t hm;simp[ν]at hm;rcases hm with hm|rfl
    ·grind
    ·exact⟨e,o⟩
   ·rw[rE l k d,g];simp[Tr.flat]
   ·grind
  ·obtain⟨c,a,rfl⟩:∃c a,ts=c++[a]:=by
    have m:ts≠[]:=by rintro rfl;simp[e]at hle
    exact⟨_,_,(nZ m).symm⟩
   refine⟨c++[.un l[k] a],?_,?_,?_⟩
   ·intro t hm;simp[ν]at hm;rcases hm with hm|rfl
    ·grind
    ·exact⟨e,f a ς⟩
   ·rw[rE l k d,g];simp[Tr.flat]
   ·grind
  ·obtain⟨c,a,b,rfl⟩:∃c a b,ts=c++[a,b]:=by
    refine⟨ts.take (η ts-2),ts[η ts-2],ts[η ts-1],?_⟩
    conv=>lhs;rw[<-lK (η ts-2) ts]
    rw[lS ω];have:η ts-2+1=η ts-1:=ω;rw[this,lS _,oM ω]
   refine⟨c++[.bin l[k] a b],?_,?_,?_⟩
   ·intro t hm;simp[ν]at hm;rcases hm with hm|rfl
    ·grind
    ·exact⟨e,f a ς,f b ς⟩
   ·rw[rE l k d,g];simp[Tr.flat]
   ·grind
theorem parse {f:List Nd}(h:wrong f=0):∃t:Tr,t.ok/\f=t.flat:=by
 have hs:=Me h;obtain⟨ts,c,b,a⟩:=P7 f (by rw[hs]) (η f) lR;rw[tL lR]at b a;rw[hs]at a;have hl:η ts=1:=by simpa using(jM Prod.snd a).symm
 match ts,hl with
 |[t],_=>exact⟨t,c t ς,by simpa using b⟩
def At (f:List Nd)(s:List Int):Nat->Tr->Prop
 |b,.leaf x=>f[b]? =jB x/\s[b]? =jB (b:Int)
 |b,.un x a=>At f s b a/\f[b+a.size]? =jB x/\s[b+a.size]? =jB (b:Int)
 |b,.bin x a c=>At f s b a/\At f s (b+a.size) c/\f[b+a.size+c.size]? =jB x/\s[b+a.size+c.size]? =jB (b:Int)
def Tr.root:Tr->Nd
 | .leaf x=>x
 | .un x _=>x
 | .bin x _ _=>x
theorem at_root {f:List Nd}{s:List Int}{b:Nat}{t:Tr}(h:At f s b t)(d:k+1=b+t.size):f[k]? =jB t.root/\s[k]? =jB (b:Int):=by
 cases t with
 |leaf x=>simp only[Tr.size]at d;(obtain rfl:k=b:=ω);exact h
 |un x a=>simp[Tr.size]at d;(obtain rfl:k=b+a.size:=ω);exact h.2
 |bin x a c=>simp[Tr.size]at d;(obtain rfl:k=b+a.size+c.size:=ω);exact h.2.2
theorem MR (p q)(x:α)(r)(h:n=η p+η q):(p++(q++(x::r)))[n]? =jB x:=by
 grind
theorem Oy:∀(t:Tr) (p r:List Nd) (sp d:List Int) (b:Nat),η p=b->η sp=b->At (p++(t.flat++r)) (sp++(t.CK b++d)) b t
 | .leaf x,p,r,sp,d,b,hp,hs=>by
  refine⟨?_,?_⟩
  ·have:=MR p [] x r (n:=b) (by simp[hp]);assumption
  ·have:=MR sp [] b d (n:=b) (by simp[hs]);assumption
 | .un x a,p,r,sp,d,b,hp,hs=>by
  refine⟨?_,?_,?_⟩
  ·have:=Oy a p ([x]++r) sp ([(b:Int)]++d) b hp hs;simpa[Tr.flat,Tr.CK]using this
  ·have:=MR p a.flat x r (by rw[hp,a.rU]);simpa[Tr.flat]using this
  ·have:=MR _ (a.CK b) b d (by rw[hs,a.Ca]);simpa[Tr.CK]using this
 | .bin x a c,p,r,sp,d,b,hp,hs=>by
  refine⟨?_,?_,?_,?_⟩
  ·have:=Oy a p (c.flat++[x]++r) sp (c.CK (b+a.size)++[(b:Int)]++d) b hp hs;simpa[Tr.flat,Tr.CK]using this
  ·have:=Oy c (p++a.flat) ([x]++r) (sp++a.CK b) ([(b:Int)]++d) (b+a.size) (by rw[lA,hp,a.rU]) (by rw[lA,hs,a.Ca]);simpa[Tr.flat,Tr.CK]using this
  ·have:=MR (p++a.flat) c.flat x r (by rw[lA,hp,a.rU,c.rU]);simpa[Tr.flat]using this
  ·have:=MR (sp++a.CK b) (c.CK (b+a.size)) b d (by rw[lA,hs,a.Ca,c.Ca]);simpa[Tr.CK]using this
theorem Cb {t:Tr}(h:t.ok):At t.flat (spans t.flat) 0 t:=by
 have:=Oy t [] [] [] [] 0 rfl rfl;rw[Tr.Yt h]
 grind
def VU (st:List Tr)(x:Nd):List Tr:=
 if takes x.op=0 then .leaf x::st
 else if takes x.op=1 then(match st with|a::r=>.un x a::r|[]=>[])
 else(match st with|b::a::r=>.bin x a b::r| _=>[])
theorem FQ:∀(t:Tr) (st:List Tr),t.ok->t.flat.foldl VU st=t::st
 | .leaf x,st,⟨h,_⟩=>by simp[Tr.flat,VU,h]
 | .un x a,st,⟨h,c⟩=>by rw[Tr.flat,jK,FQ a _ c];simp[VU,h]
 | .bin x a b,st,⟨h,c,hb⟩=>by
  rw[Tr.flat,jK,FQ a _ c,jK,FQ b _ hb];simp[VU,h]
def sF (f:List Nd):Tr:=(f.foldl VU []).headD (.leaf ⟨0,0⟩)
theorem xO {t:Tr}(h:t.ok):sF t.flat=t:=by rw[sF,FQ t _ h];rfl
theorem yY {f:List Nd}(h:wrong f=0):(sF f).ok/\(sF f).flat=f:=by
 obtain⟨t,a,rfl⟩:=parse h;rw[xO a];grind
def nn:Tr->Bool->Tr
 | .leaf x,y=>if x.op=3 then(if y then .leaf x else .un ⟨4,0⟩ (.leaf x))else .leaf ⟨if(x.op==1)=y then 1 else 2,0⟩
 | .un x a,y=>
  if x.op=4 then nn a (!y)else if x.op=8 then .un ⟨8,0⟩ (nn a y)
  else if(x.op==11)=y then .bin ⟨9,0⟩ (.leaf ⟨1,0⟩) (nn a y)else .bin ⟨10,0⟩ (.leaf ⟨2,0⟩) (nn a y)
 | .bin x a b,y=>
  if x.op=7 then .bin ⟨if y then 6 else 5,0⟩ (nn a (!y)) (nn b y)
  else .bin ⟨if x.op=5 then(if y then 5 else 6)else if x.op=6 then(if y then 6 else 5)else if x.op=9 then(if y then 9 else 10)else(if y then 10 else 9),0⟩ (nn a y) (nn b y)
theorem vV (h:takes x=0):x=1\/x=2\/x=3:=by unfold takes at h;omega
theorem Bh (h:takes x=1):x=4\/x=8\/x=11\/x=12:=by unfold takes at h;omega
theorem zM (h:takes x=2):x=5\/x=6\/x=7\/x=9\/x=10:=by unfold takes at h;omega
def Tr.nnf:Tr->Prop
 | .leaf _=>True
 | .un x a=>(x.op=8/\a.nnf)\/(x.op=4/\∃p,a=.leaf p/\p.op=3)
 | .bin x a b=>(x.op=5\/x.op=6\/x.op=9\/x.op=10)/\a.nnf/\b.nnf
def Tr.clean:Tr->Prop
 | .leaf x=>x.op=3\/x.n=0
 | .un x a=>x.n=0/\a.clean
 | .bin x a b=>x.n=0/\a.clean/\b.clean
theorem Nn:∀(t:Tr) (y:Bool),t.ok->(nn t y).ok/\(nn t y).nnf/\(nn t y).clean
 | .leaf x,y,⟨h,f⟩=>by
  unfold nn;split
  ·rename_i e;cases y
   ·exact⟨⟨rfl,h,f⟩,.inr ⟨rfl,x,rfl,e⟩,rfl,.inl e⟩
   ·exact⟨⟨h,f⟩,trivial,.inl e⟩
  ·split
   ·exact⟨⟨rfl,λh=>ς⟩,trivial,.inr rfl⟩
   ·exact⟨⟨rfl,λh=>ς⟩,trivial,.inr rfl⟩
 | .un x a,y,⟨h,d⟩=>by
  unfold nn;split
  ·exact Nn a _ d
  ·split
   ·have:=Nn a y d;exact⟨⟨rfl,this.1⟩,.inl ⟨rfl,this.2.1⟩,rfl,this.2.2⟩
   ·have:=Nn a y d;split
    ·exact⟨⟨rfl,⟨rfl,λh=>ς⟩,this.1⟩,⟨.inr ς,trivial,this.2.1⟩,rfl,.inr rfl,this.2.2⟩
    ·exact⟨⟨rfl,⟨rfl,λh=>ς⟩,this.1⟩,⟨.inr ς,trivial,this.2.1⟩,rfl,.inr rfl,this.2.2⟩
 | .bin x a b,y,⟨h,d,hb⟩=>by
  have c:=Nn b y hb;unfold nn;split
  ·have ha':=Nn a (!y) d;cases y
   ·exact⟨⟨rfl,ha'.1,c.1⟩,⟨.inl rfl,ha'.2.1,c.2.1⟩,rfl,ha'.2.2,c.2.2⟩
   ·exact⟨⟨rfl,ha'.1,c.1⟩,⟨.inr (.inl rfl),ha'.2.1,c.2.1⟩,rfl,ha'.2.2,c.2.2⟩
  ·have ha':=Nn a y d;rcases zM h with e|e|e|e|e
   all_goals first
    |exact absurd e _
    |(rw[e]
      cases y
      all_goals
       refine⟨⟨rfl,ha'.1,c.1⟩,⟨?_,ha'.2.1,c.2.1⟩,rfl,ha'.2.2,c.2.2⟩;decide)
theorem zy:∀(t:Tr) (y:Bool),(nn t y).size<=2*t.size
 | .leaf x,y=>by unfold nn;split<;>(try split)<;>simp[Tr.size]
 | .un x a,y=>by
  have c:=zy a y;have d:=zy a (!y);unfold nn;split
  ·simp only[Tr.size];omega
  ·split
   ·simp only[Tr.size];omega
   ·split<;>simp[Tr.size]<;>omega
 | .bin x a b,y=>by
  have c:=zy a y;have d:=zy a (!y);have e:=zy b y;unfold nn;split<;>simp[Tr.size]<;>omega
def Wh (p:Int)(x:Nd):Bool:=if x.op=4 then p==3 else !(x.op==7||x.op==11||x.op==12)
def BU:Int->List Nd->Bool
 | _,[]=>jD
 |p,x::r=>Wh p x&&BU x.op r
def Ak (p:Int)(l:List Nd):Int:=(l.getLast?.map (·.op)).getD p
theorem xS:∀(l r:List Nd) (p:Int),BU p (l++r)=(BU p l&&BU (Ak p l) r)
 |[],r,p=>rfl
 |[x],r,p=>by simp[BU,Ak]
 |x::y::l,r,p=>by
  have:=xS (y::l) r x.op;simp[BU]at this⊢;rw[this]
  have e:Ak x.op (y::l)=Ak p (x::y::l):=by
   simp[Ak,List.getLast?_cons]
  grind
def yh (f:List Nd):Bool:=wrong f==0&&BU 0 f
theorem Tr.H6 (t:Tr)(p:Int):Ak p t.flat=t.root.op:=by
 cases t<;>simp[Tr.flat,Tr.root,Ak]
theorem CW:∀(t:Tr) (p:Int),t.ok->(BU p t.flat=jD↔t.nnf)
 | .leaf x,p,⟨h,_⟩=>by
  rcases vV h with e|e|e<;>simp[Tr.flat,BU,Wh,e,Tr.nnf]
 | .un x a,p,⟨h,f⟩=>by
  rw[Tr.flat,xS,Tr.H6];have i:=CW a p f;rcases Bh h with e|e|e|e
  ·simp only[BU,Wh,e,pz,Bool.and_true,jm,i,Tr.nnf,lV];constructor
   ·rintro⟨l,g⟩;refine .inr ⟨trivial,?_⟩;cases a with
    |leaf y=>exact⟨y,rfl,g⟩
    |un y c=>exact absurd f.1 (by rw[show y.op=3 from g];decide)
    |bin y c d=>exact absurd f.1 (by rw[show y.op=3 from g];decide)
   ·rintro(⟨m,_⟩|⟨_,y,rfl,hy⟩)
    ·omega
    ·exact⟨trivial,hy⟩
  ·simp[BU,Wh,e,i,Tr.nnf]
  ·simp[BU,Wh,e,Tr.nnf]
  ·simp[BU,Wh,e,Tr.nnf]
 | .bin x a b,p,⟨h,f,hb⟩=>by
  rw[Tr.flat,xS,xS,Tr.H6];have j:=CW a p f;have k:=CW b a.root.op hb;rcases zM h with e|e|e|e|e<;>simp[BU,Wh,e,j,k,Tr.nnf]
theorem Lf {t:Tr}(h:t.ok):yh t.flat=jD↔t.nnf:=by
 simp[yh,Tr.Bd h,CW t 0 h]
theorem ahJ {f:List Nd}(a:k<η f)(h:BU 0 (f.take k)=jD)(b:Wh (Ak 0 (f.take k)) f[k]=jD):BU 0 (f.take (k+1))=jD:=by
 rw[rE f k a,xS,h];simp[BU,b]
theorem aaL {f:List Nd}(a:k<η f)(b:Wh (Ak 0 (f.take k)) f[k]=jE):yh f=jE:=by
 have:f=f.take k++(f[k]::f.drop (k+1)):=by rw[<-lS a,lK]
 rw[yh]
 conv=>lhs;rhs;rw[this,xS]
 simp[BU,b]
theorem WE {f:List Nd}(a:k<η f)(b:1<=k):Ak 0 (f.take k)=(f[k-1]'ω).op:=by
 obtain⟨j,rfl⟩:∃j,k=j+1:=⟨k-1,ω⟩;unfold Ak;rw[rE f j ω,qo];rfl
theorem ahK {f:List Nd}(hw:wrong f=0)(h:BU 0 (f.take (η f))=jD):yh f=jD:=by
 rw[tL lR]at h;simp[yh,hw,h]
theorem ac6 {f:List Nd}(hw:wrong f≠0):yh f=jE:=by simp[yh,hw]
theorem zm {f:List Nd}(h:yh f=jD):wrong f=0:=by simp[yh]at h;omega
theorem acL {f:List Nd}(hw:wrong f=0)(a:k<η f)(h:1<=takes f[k].op):1<=k:=by
 have:=(x9 (Li hw a).2).2.1;have b:=GY (f.take k)
 grind
def xD (f:List Nd)(y:Bool):List Nd:=if wrong f=0 then(nn (sF f) y).flat else[]
theorem SC (f y):xD f y=[]↔wrong f≠0:=by
 unfold xD;split
 ·rename_i h;simp[h,ne_eq,not_true_eq_false,iff_false];intro e;have a:=(nn (sF f) y).rU;have b:=(nn (sF f) y).size_pos
  grind
 ·rename_i h;grind
theorem ZJ {t:Tr}(h:t.ok)(y):xD t.flat y=(nn t y).flat:=by rw[xD,jd (Tr.Bd h),xO h]
theorem adj (f y):η (xD f y)<=2*η f:=by
 unfold xD;split
 ·rename_i h;obtain⟨b,a⟩:=yY h;have:=zy (sF f) y;have c:=(sF f).rU;rw[a]at c;rw[Tr.rU];omega
 ·simp
theorem ZI {f:List Nd}(h:wrong f=0)(y):wrong (xD f y)=0/\yh (xD f y)=jD:=by
 obtain⟨a,c⟩:=yY h;rw[xD,jd h];have b:=Nn _ y a;exact⟨Tr.Bd b.1,(Lf b.1).2 b.2.1⟩
theorem adi {f:List Nd}(h:wrong f=0)(y):xD (f++[⟨4,0⟩]) y=xD f (!y):=by
 obtain⟨a,b⟩:=yY h;have e:f++[⟨4,0⟩]=(Tr.un ⟨4,0⟩ (sF f)).flat:=by rw[Tr.flat,b]
 rw[e,ZJ (t:=.un _ _) ⟨rfl,a⟩,xD,jd h];rfl
def nx (lp n i:Nat):Nat:=if i+1<n then i+1 else lp
theorem yQ (h:lp<n):nx lp n i<n:=by unfold nx;grind
def run (lp n:Nat)(a b:List Bool):Nat->Nat->Bool
 |0,_=>jE
 |k+1,i=>b.getD i jE||(a.getD i jE&&run lp n a b k (nx lp n i))
def Gs (lp:Nat)(a b:List Bool):List Bool:=(ζ (η a)).map (run lp (η a) a b (η a+1))
def sH (a:List Bool):List Bool:=a.map (!·)
def Jm (n:Nat):List Bool:=List.replicate n jD
def tJ (bit:Nat->Bool)(x:Nd)(n lp:Nat)(a b:List Bool)(i:Nat):Bool:=
 if x.op=1 then jD else if x.op=3 then bit i else if x.op=4 then !a.getD i jE
 else if x.op=8 then a.getD (nx lp n i) jE else if x.op=5 then a.getD i jE&&b.getD i jE
 else if x.op=6 then a.getD i jE||b.getD i jE else if x.op=7 then !a.getD i jE||b.getD i jE else jE
def qY (bits:Int->Nat->Bool)(n lp:Nat)(x:Nd)(a b:List Bool):List Bool:=
 if x.op=9 then Gs lp a b else if x.op=10 then sH (Gs lp (sH a) (sH b))else if x.op=11 then Gs lp (Jm n) a
 else if x.op=12 then sH (Gs lp (Jm n) (sH a))else(ζ n).map (tJ (bits x.n) x n lp a b)
def val (bits:Int->Nat->Bool)(n lp:Nat):Tr->List Bool
 | .leaf x=>qY bits n lp x [] []
 | .un x a=>qY bits n lp x (val bits n lp a) []
 | .bin x a b=>qY bits n lp x (val bits n lp a) (val bits n lp b)
theorem GI (lp a b):η (Gs lp a b)=η a:=by simp[Gs]
theorem Bz (a):η (sH a)=η a:=by simp[sH]
theorem adP (n):η (Jm n)=n:=by simp[Jm]
theorem flip_flip (a):sH (sH a)=a:=by
 rw[sH,sH,nQ]
 conv=>rhs;rw[<-List.map_id a]
 exact j6 (λx _=>ς)
theorem zn {a:List Bool}(h:i<η a):(sH a).getD i jE= !a.getD i jE:=by
 simp[sH,θ,h]
theorem Ea {x:Nd}{a b:List Bool}(h:1<=takes x.op->η a=n):η (qY bits n lp x a b)=n:=by
 unfold qY
 (repeat' split)<;>simp_all [GI,Bz,adP,takes]
theorem xW:∀t:Tr,t.ok->η (val bits n lp t)=n
 | .leaf x,⟨h,_⟩=>Ea ω
 | .un x a,⟨_,c⟩=>Ea (λ_=>xW a c)
 | .bin x a b,⟨_,c,_⟩=>Ea (λ_=>xW a c)
theorem Qr {g:Nat->Bool}(h:∀i,i<n->f i=g i):(ζ n).map f=(ζ n).map g:=
 j6 (λi hi=>h i (jl.1 hi))
theorem Ib {g:Nat->Bool}(h:∀i,i<n->f i= !g i):(ζ n).map f=sH ((ζ n).map g):=by
 rw[sH,nQ];simp_all
theorem Nr (m):val bits n lp (.leaf ⟨1,m⟩)=Jm n:=by
 simp[val,qY,Jm];apply jw<;>simp[tJ]
theorem Ns (m):val bits n lp (.leaf ⟨2,m⟩)=sH (Jm n):=by
 simp[val,qY,Jm,sH];apply jw<;>simp[tJ]
theorem LY {bits:Int->Nat->Bool}{n lp:Nat}(c:lp<n):∀(t:Tr) (y:Bool),t.ok->val bits n lp (nn t y)=if y then val bits n lp t else sH (val bits n lp t)
 | .leaf x,y,⟨h,_⟩=>by
  obtain⟨op,m⟩:=x;rcases vV h with e|e|e
  all_goals dsimp at e;subst e
  ·cases y
   ·simpa[nn,Nr]using Ns 0
   ·rfl
  ·cases y
   ·simp[nn,Nr,Ns,flip_flip]
   ·rfl
  ·cases y
   ·apply Ib;intro i hi;simp[tJ,θ,hi,val,qY]
   ·rfl
 | .un x a,y,⟨h,g⟩=>by
  obtain⟨op,m⟩:=x;have hl:=xW (bits:=bits) (n:=n) (lp:=lp) a g;have i1:=LY (bits:=bits) c a y g;have i2:=LY (bits:=bits) c a (!y) g
  have f:∀m,val bits n lp (.un ⟨4,m⟩ a)=sH (val bits n lp a):=by
   intro m;show qY bits n lp ⟨4,m⟩ (val bits n lp a) []= _;generalize val bits n lp a=v at hl⊢;subst hl;rw[qY];dsimp only;rw[d9 δ,d9 δ,d9 δ,d9 δ];apply jw
   ·simp[sH]
   ·intro j k s;simp at k;simp[sH,tJ,k,θ]
  have w:∀m v,η v=n->qY bits n lp ⟨8,m⟩ (sH v) []=sH (qY bits n lp ⟨8,m⟩ v []):=by
   intro m v hv;rw[qY,qY];dsimp only;rw[d9 δ,d9 δ,d9 δ,d9 δ,d9 δ,d9 δ,d9 δ,d9 δ];apply Ib;intro i hi;simp only[tJ,show ¬((8:Int)=1) by decide,show ¬((8:Int)=3) by decide,show ¬((8:Int)=4) by decide,nI,pz];exact zn (by rw[hv];exact yQ c)
  rcases Bh h with e|e|e|e
  all_goals dsimp at e;subst e
  ·cases y
   ·simpa[nn,f,flip_flip]using i2
   ·simpa[nn,f]using i2
  ·have e1:∀v,qY bits n lp ⟨8,0⟩ v []=qY bits n lp ⟨8,m⟩ v []:=λv=>by simp[qY,tJ]
   cases y
   ·simp[nn,val]at i1⊢
    grind
   ·simp[nn,val]at i1⊢
    grind
  ·cases y
   ·show qY _ n _ _ _ _ =sH (qY _ n _ _ _ _);rw[i1,Ns];simp[qY,flip_flip]
   ·show qY _ n _ _ _ _ =qY bits n _ ⟨11,m⟩ _ [];rw[i1,Nr];rfl
  ·cases y
   ·show qY _ n _ _ _ _ =sH (qY _ n _ _ _ _);rw[i1,Nr];simp[qY,flip_flip]
   ·show qY _ n _ _ _ _ =qY bits n _ ⟨12,m⟩ _ [];rw[i1,Ns];simp[qY,flip_flip]
 | .bin x a b,y,⟨h,g,hb⟩=>by
  obtain⟨op,m⟩:=x;have l:=xW (bits:=bits) (n:=n) (lp:=lp) a g;have o:=xW (bits:=bits) (n:=n) (lp:=lp) b hb;have d:=LY (bits:=bits) c a y g;have a2:=LY (bits:=bits) c a (!y) g;have b1:=LY (bits:=bits) c b y hb;have z:∀m,nn (.bin ⟨_,m⟩ a b) y=nn (.bin ⟨op,0⟩ a b) y:=λm=>by unfold nn;rfl
  have hm:∀m m' u v,takes op=2->qY bits n lp ⟨op,m⟩ u v=qY bits n lp ⟨op,m'⟩ u v:=by
   intro m m' u v A;rcases zM A with e|e|e|e|e<;>subst e<;>simp[qY,tJ]
  have hp:∀(p q) (u v u' v'),p<9->q<9->(∀i,i<n->tJ (bits 0) ⟨p,0⟩ n lp u v i= !tJ (bits 0) ⟨q,0⟩ n lp u' v' i)->qY bits n lp ⟨p,0⟩ u v=sH (qY bits n lp ⟨q,0⟩ u' v'):=by
   intro p q u v u' v' k s B;rw[qY,qY];dsimp only;rw[d9 ω,d9 ω,d9 ω,d9 ω,d9 ω,d9 ω,d9 ω,d9 ω];exact Ib B
  have r:∀i,i<n->(sH _).getD i _ = !(val _ n _ a).getD i _:=λi hi=>zn (by rw[l];exact hi)
  have fb:∀i,i<n->(sH _).getD i _ = !(val _ n _ b).getD i _:=λi hi=>zn (by rw[o];exact hi)
  rw[z m];rw[show val _ n _ (.bin _ a b)=qY _ n _ _ _ _ from hm m 0 _ _ h];rcases zM h with e|e|e|e|e
  all_goals dsimp at e;subst e
  ·cases y
   ·simp[nn,val]at d b1⊢;rw[d,b1];refine hp _ _ _ _ _ _ δ δ (λi hi=>?_);simp only[tJ,r i hi,fb i hi];simp
   ·simp[nn,val]at d b1⊢
    grind
  ·cases y
   ·simp[nn,val]at d b1⊢;rw[d,b1];refine hp _ _ _ _ _ _ δ δ (λi hi=>?_);simp only[tJ,r i hi,fb i hi];simp
   ·simp[nn,val]at d b1⊢
    grind
  ·cases y
   ·simp[nn,val]at a2 b1⊢;rw[a2,b1];refine hp _ _ _ _ _ _ δ δ (λi hi=>?_);simp only[tJ,fb i hi];simp
   ·simp[nn,val]at a2 b1⊢;rw[a2,b1];apply Qr;intro i hi;simp only[tJ,r i hi];simp
  ·cases y
   ·simp[nn,val]at d b1⊢;rw[d,b1];simp[qY,flip_flip]
   ·simp[nn,val]at d b1⊢
    grind
  ·cases y
   ·simp[nn,val]at d b1⊢;rw[d,b1];simp[qY,flip_flip]
   ·simp[nn,val]at d b1⊢
    grind
def FR (s:List Int)(k:Nat)(x:Nd):Int×Int:=
 if takes x.op=1 then((k:Int)-1, -1)else if takes x.op=2 then(s[k-1]?.getD 0-1,(k:Int)-1)else(-1, -1)
def ZE (L:List (List Bool))(l:Int):List Bool:=if 0<=l then L.getD l.toNat []else[]
def Ad (bits:Int->Nat->Bool)(n lp:Nat)(f:List Nd)(s:List Int):Nat->List (List Bool)
 |0=>[]
 |k+1=>Ad bits n lp f s k++[qY bits n lp (f.getD k ⟨0,0⟩) (ZE (Ad bits n lp f s k) (FR s k (f.getD k ⟨0,0⟩)).1) (ZE (Ad bits n lp f s k) (FR s k (f.getD k ⟨0,0⟩)).2)]
section
variable {bits:Int->Nat->Bool}{n lp:Nat}{f:List Nd}{s:List Int}
theorem EP:∀k,η (Ad bits n lp f s k)=k
 |0=>rfl
 |k+1=>by rw[Ad,lA,EP k];rfl
theorem KR {j:Nat}{r:List Bool}:∀{k d:Nat},(Ad bits n lp f s k)[j]? =jB r->(Ad bits n lp f s (k+d))[j]? =jB r
 | _,0,h=>h
 |k,d+1,h=>by
  have a:=KR (d:=d) h;rw[<-mD,Ad,gC (gB.1 a).1];omega
theorem Px {x:Nd}(h:f[k]? =jB x):
  (Ad bits n lp f s (k+1))[k]? =jB (qY bits n lp x (ZE (Ad bits n lp f s k) (FR s k x).1) (ZE (Ad bits n lp f s k) (FR s k x).2)):=by
 have:f.getD k ⟨0,0⟩=x:=by simp[θ,h]
 rw[Ad,this,gR (by rw[EP];exact lR),EP];simp
theorem MH {r:List Bool}(h:L[j]? =jB r):ZE L (j:Int)=r:=by
 simp[ZE,θ,h]
theorem WZ:ZE L (-1)=[]:=rfl
theorem En:∀(t:Tr) (b k:Nat),t.ok->At f s b t->k+1=b+t.size->(Ad bits n lp f s (k+1))[k]? =jB (val bits n lp t)
 | .leaf x,b,k,⟨h,_⟩,g,m=>by
  have o:=(at_root g m).1;rw[Px o];simp[Tr.root,FR,h,WZ,val]
 | .un x a,b,k,⟨h,q⟩,g,m=>by
  have o:=(at_root g m).1;rw[Px o];simp[Tr.size]at m;obtain⟨j,r⟩:∃j,j+1=b+a.size:=⟨b+a.size-1,by have:=a.size_pos;omega⟩;have y:=En a b j q g.1 r;have u:j+1=k:=ω;rw[u]at y;have e:FR s k x=((j:Int), -1):=by unfold FR;rw[jd h,show(k:Int)-1=j by omega]
  simp[Tr.root,e,WZ,MH y,val]
 | .bin x a c,b,k,⟨h,q,hc⟩,g,m=>by
  have o:=(at_root g m).1;rw[Px o];simp[Tr.size]at m;obtain⟨j,r⟩:∃j,j+1=b+a.size:=⟨b+a.size-1,by have:=a.size_pos;omega⟩;obtain⟨i,hi⟩:∃i,i+1=b+a.size+c.size:=⟨b+a.size+c.size-1,ω⟩;have v:=En a b j q g.1 r;have p:=En c (b+a.size) i hc g.2.1 hi;have w:i+1=k:=ω;rw[w]at p;have l:=KR (d:=k-(j+1)) v;rw[show j+1+(k-(j+1))=k by omega]at l;have hs:=(at_root g.2.1 hi).2
  have e:FR s k x=((j:Int),(i:Int)):=by
   unfold FR;rw[d9 ω,jd h,show k-1=i by omega,hs];simp only[jS];congr 1<;>omega
  simp[Tr.root,e,MH l,MH p,val]
theorem ab4 (hw:wrong f=0):(Ad bits n lp f (spans f) (η f))[η f-1]? =jB (val bits n lp (sF f)):=by
 obtain⟨a,b⟩:=yY hw;have hp:=(sF f).size_pos;have hl:=(sF f).rU;rw[b]at hl;have:=En (bits:=bits) (n:=n) (lp:=lp) _ 0 (η f-1) a (by have:=Cb a;rwa [b]at this) ω
 grind
theorem adU (hw:wrong f=0):η (val bits n lp (sF f))=n:=xW _ (yY hw).1
end
theorem Pw (lp n a b):∀k i,run lp n a b k i=jD->run lp n a b (k+1) i=jD
 |0,i,h=>by simp[run]at h
 |k+1,i,h=>by
  rw[run]at h⊢;have c:=Pw lp n a b k (nx lp n i)
  grind
theorem Ih {α:Type}{p q:α->Bool}:∀(l:List α),(∀x∈l,p x=jD->q x=jD)->l.countP q<=l.countP p->∀x∈l,p x=q x
 |[],_,_=>ς
 |y::l,h,hc=>by
  have hm:=oV (λx a=>h x (jc _ a));rw[lC,lC]at hc
  have b:p y=q y:=by
   cases e:p y<;>cases d:q y<;>simp_all;omega
  have c:l.countP q<=l.countP p:=by
   rw[b]at hc;omega
  intro x a;rcases jk.1 a with rfl|a
  ·omega
  ·exact Ih l (λx a=>h x γ) c x a
theorem Mg {lp n:Nat}(c:lp<n)(a b){k:Nat}(h:∀i,i<n->run lp n a b k i=run lp n a b (k+1) i):∀d i,i<n->run lp n a b k i=run lp n a b (k+d) i
 |0,_,_=>rfl
 |d+1,i,hi=>by
  have:run lp n a b (k+1) i=run lp n a b (k+d+1) i:=by
   rw[run,run,Mg c a b h d (nx lp n i) (yQ c)]
  grind
theorem Mh {lp n:Nat}(a b):∀k,(∃j,j<=k/\∀i,i<n->run lp n a b j i=run lp n a b (j+1) i)\/k<=(ζ n).countP (run lp n a b k)
 |0=>.inr ς
 |k+1=>by
  rcases Mh a b k with⟨j,d,h⟩|h
  ·exact .inl ⟨j,ω,h⟩
  ·by_cases hc:(ζ n).countP (run lp n a b (k+1))<=(ζ n).countP (run lp n a b k)
   ·left;refine⟨k,ω,λi hi=>?_⟩;exact Ih _ (λx _ c=>Pw _ n a b k x c) hc i γ
   ·omega
theorem ag4 (c:lp<n)(a b)(m:n<=k)(hi:i<n):run lp n a b k i=run lp n a b (n+1) i:=by
 have d:∃j,j<=n/\∀i,i<n->run lp n a b j i=run lp n a b (j+1) i:=by
  rcases Mh (lp:=lp) (n:=n) a b (n+1)with⟨j,d,h⟩|h
  ·by_cases e:j=n+1
   ·rcases Mh (lp:=lp) (n:=n) a b n with⟨j,d,h⟩|o
    ·exact⟨j,d,h⟩
    ·have f:(ζ n).countP (run lp n a b (n+1))<=η (ζ n):=nV;rw[kL]at f;exact⟨n,lR,λi hi=>Ih (ζ n) (λx _ g=>Pw lp n a b n x g) ω i (jl.2 hi)⟩
   ·exact⟨j,ω,h⟩
  ·have:=nV (p:=run lp n a b (n+1)) (l:=ζ n);rw[kL]at this;omega
 obtain⟨j,d,h⟩:=d;have e1:=Mg c a b h (k-j) i hi;have e2:=Mg c a b h (n+1-j) i hi
 grind
theorem TU (c:lp<n)(a b)(hi:i<n):run lp n a b (n+1) i=(b.getD i jE||(a.getD i jE&&run lp n a b (n+1) (nx lp n i))):=by
 rw[<-ag4 c a b (k:=n+2) ω hi,show n+2=(n+1)+1 from rfl,run]
theorem IQ {lp n:Nat}(c:lp<n)(a b){u:Nat->Bool}(h:∀i,i<n->(b.getD i jE||(a.getD i jE&&u (nx lp n i)))=jD->u i=jD):∀k i,i<n->run lp n a b k i=jD->u i=jD
 |0,_,_,d=>by simp[run]at d
 |k+1,i,hi,d=>by
  rw[run]at d;apply h i hi;have e:=IQ c a b h k (nx lp n i) (yQ c)
  grind
theorem Ig {a b:List Bool}(c:η a=n)(hb:η b=n)(h:∀i,i<n->a.getD i jE=b.getD i jE):a=b:=by
 apply jw ω;intro i d e
 grind
theorem OP {a b:List Bool}(hi:i<η a):(Gs lp a b).getD i jE=run lp (η a) a b (η a+1) i:=by
 simp[Gs,θ,hi]
theorem wG (p:Nat->Bool)(hi:i<n):((ζ n).map p).getD i jE=p i:=γ
section
variable {bits:Int->Nat->Bool}{n lp:Nat}
def sat (bits:Int->Nat->Bool)(n lp:Nat)(t:Tr)(i:Nat):Bool:=(val bits n lp t).getD i jE
theorem TQ {s t:Tr}(hs:s.ok)(a:t.ok)(h:∀i,i<n->sat bits n lp s i=sat bits n lp t i):val bits n lp s=val bits n lp t:=
 Ig (xW s hs) (xW t a) h
theorem sat_true (hi:i<n):sat bits n lp (.leaf ⟨1,m⟩) i=jD:=by simp[sat,Nr,Jm,θ,hi]
theorem EO (hi:i<n):sat bits n lp (.leaf ⟨2,m⟩) i=jE:=by simp[sat,Ns,Jm,sH,θ,hi]
theorem Pp (hi:i<n):sat bits n lp (.leaf ⟨3,m⟩) i=bits m i:=by
 simp only[sat,val,qY];simp only[show ¬((3:Int)=9) by decide,show ¬((3:Int)=10) by decide,show ¬((3:Int)=11) by decide,show ¬((3:Int)=12) by decide,nI];rw[wG _ hi];rfl
theorem TP {a:Tr}(hi:i<n):sat bits n lp (.un ⟨4,m⟩ a) i= !sat bits n lp a i:=by
 simp only[sat,val,qY];simp only[show ¬((4:Int)=9) by decide,show ¬((4:Int)=10) by decide,show ¬((4:Int)=11) by decide,show ¬((4:Int)=12) by decide,nI];rw[wG _ hi];rfl
theorem GV {a:Tr}(hi:i<n):sat bits n lp (.un ⟨8,m⟩ a) i=sat bits n lp a (nx lp n i):=by
 simp only[sat,val,qY];simp only[show ¬((8:Int)=9) by decide,show ¬((8:Int)=10) by decide,show ¬((8:Int)=11) by decide,show ¬((8:Int)=12) by decide,nI];rw[wG _ hi];rfl
theorem sat_and {a b:Tr}(hi:i<n):sat bits n lp (.bin ⟨5,m⟩ a b) i=(sat bits n lp a i&&sat bits n lp b i):=by
 simp only[sat,val,qY];simp only[show ¬((5:Int)=9) by decide,show ¬((5:Int)=10) by decide,show ¬((5:Int)=11) by decide,show ¬((5:Int)=12) by decide,nI];rw[wG _ hi];rfl
theorem aen {a b:Tr}(hi:i<n):sat bits n lp (.bin ⟨6,m⟩ a b) i=(sat bits n lp a i||sat bits n lp b i):=by
 simp only[sat,val,qY];simp only[show ¬((6:Int)=9) by decide,show ¬((6:Int)=10) by decide,show ¬((6:Int)=11) by decide,show ¬((6:Int)=12) by decide,nI];rw[wG _ hi];rfl
theorem Ev {a b:Tr}(c:a.ok)(hi:i<n):sat bits n lp (.bin ⟨9,m⟩ a b) i=run lp n (val bits n lp a) (val bits n lp b) (n+1) i:=by
 have hl:η (val bits n lp a)=n:=xW a c;show(qY _ n _ _ _ _).getD i _ = _;rw[qY,jd rfl,OP ω,hl]
theorem GU {a b:Tr}(c:a.ok)(hi:i<n):sat bits n lp (.bin ⟨10,m⟩ a b) i= !run lp n (sH (val bits n lp a)) (sH (val bits n lp b)) (n+1) i:=by
 have hl:η (sH (val bits n lp a))=n:=by rw[Bz];exact xW a c
 show(qY _ n _ _ _ _).getD i _ = _;rw[qY,d9 (show ¬((10:Int)=9) by decide),jd rfl,zn (by rw[GI];omega),OP ω,hl]
theorem EN {a b:Tr}(c:lp<n)(d:a.ok)(hi:i<n):sat bits n lp (.bin ⟨9,m⟩ a b) i=(sat bits n lp b i||(sat bits n lp a i&&sat bits n lp (.bin ⟨9,m⟩ a b) (nx lp n i))):=by
 rw[Ev d hi,Ev d (yQ c),TU c _ _ hi];rfl
theorem KP {a b:Tr}(c:lp<n)(d:a.ok)(hb:b.ok)(hi:i<n):sat bits n lp (.bin ⟨10,m⟩ a b) i=(sat bits n lp b i&&(sat bits n lp a i||sat bits n lp (.bin ⟨10,m⟩ a b) (nx lp n i))):=by
 rw[GU d hi,GU d (yQ c),TU c _ _ hi,zn (by rw[xW b hb];exact hi),zn (by rw[xW a d];exact hi)];show _ =((val _ n _ b).getD i _&&((val _ n _ a).getD i _||_));simp
theorem Ch {a b:Tr}(c:lp<n)(d:a.ok)(h:∀i,i<n->(sat bits n lp b i||(sat bits n lp a i&&u (nx lp n i)))=jD->u i=jD)(hi:i<n)(hs:sat bits n lp (.bin ⟨9,m⟩ a b) i=jD):u i=jD:=by
 rw[Ev d hi]at hs;exact IQ c _ _ h _ i hi hs
theorem FM {a b:Tr}(c:lp<n)(e:a.ok)(hb:b.ok)(h:∀i,i<n->u i=jD->(sat bits n lp b i&&(sat bits n lp a i||u (nx lp n i)))=jD)(hi:i<n)(hu:u i=jD):sat bits n lp (.bin ⟨10,m⟩ a b) i=jD:=by
 rw[GU e hi];by_cases g:run lp n (sH (val bits n lp a)) (sH (val bits n lp b)) (n+1) i=jD
 ·have:=IQ c _ _ (u:=λj=> !u j) (λj d f=>by
   rw[zn (by rw[xW b hb];exact d),zn (by rw[xW a e];exact d)]at f;have k:=h j d
   revert f k
   show(!sat bits n lp b j||(!sat bits n lp a j&& !u (nx lp n j)))=jD->(u j=jD->(sat bits n lp b j&&(sat bits n lp a j||u (nx lp n j)))=jD)->(!u j)=jD;cases sat bits n lp b j<;>cases sat bits n lp a j<;>cases u j<;>cases u (nx lp n j)<;>simp) _ i hi g
  grind
 ·grind
end
