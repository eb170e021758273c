/- A part of the proof. -/
import Derived.Test.YtdmeoldcifddiaaGreatDoorZab
namespace Go.Proofs.YtdmeoldcifddiaaGreatDoor
open Go
open Option renaming some -> jB
open Bool renaming true -> jD, false -> jE
open Go renaming World -> jF
variable {a:Act}{listed:Array Bool}{after:Array Edge}{rs:List Nat}{fuel i:Nat}{op:Op}{gd:Option (Nat×Bool)}{d:Option Tmp}{pos:String}{ty:TypeId}{v:Value}{w:jF}
section
variable {P:Program}{ops:Array Oper}{Q:Exit->Act->jF->Prop}{md:Region.Mode}{S:jF->Prop}{z:Nat}
def xL (P:Program)(md:Region.Mode)(ops:Array Oper)(Q:Exit->Act->jF->Prop)(S:jF->Prop)(z fuel:Nat)(listed:Array Bool)(a:Act)(w:jF)(rs:List Nat):Prop:=
 ∀i∈rs,wpOp P ops Q i (λa' w'=>((i≠z/\listed.getD z jD=jE)->S w')/\tZ P md ops Q S z fuel (listed.setIfInBounds i jD) a' w') a w
theorem xL.nil:xL P md ops Q S z fuel listed a w []:=λ_ h=>γ
theorem yx (e:ops[i]? =jB ⟨d,op,ty,pos,after,gd⟩)(_hz:(i !=z)=jD)
  (h:∀b:Act->jF->Prop,Shut (∀a w,S w->(S w->tZ P md ops Q S z fuel (listed.setIfInBounds i jD) a w)->b a w)->if Region.wanted ⟨d,op,ty,pos,after,gd⟩ (yielded ops a.tmps)=jD then Oper.wp P ⟨d,op,ty,pos,after,gd⟩ a w b Q else b (a.put d undef) w)
  (hs:xL P md ops Q S z fuel listed a w rs):xL P md ops Q S z fuel listed a w (i::rs):=by
 intro j c;rcases jk.1 c with rfl|c
 ·exact wpOp_step e (λb f=>h _ (λa w hS g=>f a w γ))
 ·exact hs j c
theorem Cy (c:Region.ready md ops listed=rs)(b:rs≠[])(h:xL P md ops Q S z fuel listed a w rs):tZ P md ops Q S z (fuel+1) listed a w:=
 ⟨λd=>absurd (c.symm.trans d) b,λj e=>h j (c▸e)⟩
theorem Jr {oi:Oper}(hi:ops[i]? =jB oi)(g:∀(j:Nat) (o:Oper) cs b,ops[j]? =jB o->o.op≠ .select cs b)
  (E:∀c a w,Q (.panic c) (a.put oi.dst v) w->Q (.panic c) a w)(q:i≠z):
  ∀(fuel:Nat) (listed:Array Bool) (a:Act) (w:jF),
   (∀j m,ops[j]? =jB m->j≠i->listed.getD j jD=jE->(∀e∈m.after,Region.binds md e=jD->e.on≠i)->oi.apart ops m=jD)->
   i∈Region.ready md ops listed->YieldsIf P ops (λ_=>True) oi v a->(listed.getD z jD=jE->S w)->
   tZ P md ops Q S z fuel (listed.setIfInBounds i jD) (a.put oi.dst v) w->tZ P md ops Q S z (fuel+1) listed a w:=by
 intro fuel;induction fuel with
 |zero=>
  intro listed a w _ A hy hS H;refine⟨λh=>γ,λj x=>?_⟩;by_cases d:j=i
  ·subst d;exact hy.wpOp hi ς γ
  ·have:=ready_mono x d;rw[H.1]at this
   grind
 |succ fuel F=>
  intro listed a w f A hy hS H;refine⟨λh=>γ,λj x=>?_⟩;by_cases d:j=i
  ·subst d;exact hy.wpOp hi ς γ
  ·have G:=H.2 j (ready_mono x d);let⟨l,m,n,r⟩:=mem_ready.1 x
   have s:∀e∈m.after,Region.binds _ e=jD->e.on≠i:=λe he hb heq=>by
    have g1:=r e he hb;have g0:=(mem_ready.1 A).1;rw[heq]at g1;rcases oG i listed.size with p|p
    ·simp[p]at g0 g1;rw[g0]at g1;cases g1
    ·simp[oh p]at g1
   have I:=wpOp_putIf n (f j m n d l s) (λcs b=>g i oi cs b hi) (λcs b=>g j m cs b n) E hy G
   have y:∀k ok,ops[k]? =jB ok->k≠i->(listed.setIfInBounds j jD).getD k jD=jE->
     (∀e∈ok.after,Region.binds md e=jD->e.on≠i)->oi.apart ops ok=jD:=λk ok J B t C=>by
    refine f k ok J B ?_ C;by_cases u:j=k
    ·subst u;exact l
    ·rw[getD_set_ne jD u]at t;exact t
   have K:(listed.setIfInBounds j jD).getD z jD=jE->j≠z/\listed.getD z jD=jE:=λh=>by
    by_cases e:j=z
    ·subst e;rcases oG j listed.size with p|p
     ·simp[p]at h
     ·simp at h
    ·exact⟨e,by rwa [getD_set_ne jD e]at h⟩
   refine wpOp_mono (λa' w' D=>⟨λh=>D.2.1 ⟨h.1,by rw[getD_set_ne _ q];grind⟩,F _ _ _ ω (ready_mono A ω) D.1 (λh=>D.2.1 ⟨γ,by rw[getD_set_ne _ q];grind⟩) ?_⟩) I;rw[nC _ _ d]
   grind
theorem Kt (hi:ops[i]? =jB ⟨d,op,ty,pos,after,gd⟩)
  (hs:Region.noSelect ops=jD)(hf:Region.free md ops listed i=jD)(f:(Region.ready md ops listed).contains i=jD)(b:(i !=z)=jD)
  (e:∀c a w,Q (.panic c) (a.put d v) w->Q (.panic c) a w)(hy:YieldsIf P ops (λ_=>True) ⟨d,op,ty,pos,after,gd⟩ v a)(hS:S w)
  (h:tZ P md ops Q S z fuel (listed.setIfInBounds i jD) (a.put d v) w):tZ P md ops Q S z (fuel+1) listed a w:=
 Jr hi (Region.noSelect_spec hs) e γ fuel listed a w (Region.free_spec hi hf) γ hy (λ_=>hS) h
theorem Kw (hi:ops[i]? =jB ⟨d,op,ty,pos,after,gd⟩)
  (hs:Region.noSelect ops=jD)(hf:Region.free md ops listed i=jD)(f:(Region.ready md ops listed).contains i=jD)(b:(i !=z)=jD)(g:listed.getD z jD=jD)
  (e:∀c a w,Q (.panic c) (a.put d v) w->Q (.panic c) a w)(hy:YieldsIf P ops (λ_=>True) ⟨d,op,ty,pos,after,gd⟩ v a)
  (h:tZ P md ops Q S z fuel (listed.setIfInBounds i jD) (a.put d v) w):tZ P md ops Q S z (fuel+1) listed a w:=
 Jr hi (Region.noSelect_spec hs) e γ fuel listed a w (Region.free_spec hi hf) γ hy (λh=>γ) h
end
open Go.RowKit
section
variable {P:Program}{md:Region.Mode}{ops:Array Oper}{Q:Exit->Act->jF->Prop}{S:jF->Prop}{z:Nat}{d:Option Tmp}{op:Op}{ty:TypeId}{pos:String}{after:Array Edge}{gd:Option (Nat×Bool)}{v:Value}{fuel:Nat}{listed:Array Bool}{a a':Act}{w:jF}
theorem qU (i:Nat)(h:wpAnyH P md ops Q S fuel (listed.setIfInBounds i jD) a' w)(hi:ops[i]? =jB ⟨d,op,ty,pos,after,gd⟩:=by rfl)(hS:S w:=by exact hS)
  (hs:Region.noSelect ops=jD:=by kernel_rfl)(hf:Region.free md ops listed i=jD:=by kernel_rfl)(e:(Region.ready md ops listed).contains i=jD:=by kernel_rfl)
  (hw:Region.wanted ⟨d,op,ty,pos,after,gd⟩ (yielded ops a.tmps)=jD:=by kernel_rfl)
  (hv:∀w,S w->(execOp a.eval ⟨d,op,ty,pos,after,gd⟩).run P w=.ok (.value v) w:=by(intro w' b;(try dsimp only at b);go_simp;try (with_reducible rfl)))(f:∀c a w,Q (.panic c) (a.put d v) w->Q (.panic c) a w:=by exact λ_ _ _ h=>h)(g:a.put d v=a':=by((try simp only[Act.put,kQ,lW,lQ]);try exact rfl)):wpAnyH P md ops Q S (fuel+1) listed a w:=
 Cz hi hs hf e f (Or.inl ⟨hw,hv⟩) hS (g▸h)
theorem rT (i:Nat)(h:xV P md ops Q S z fuel (listed.setIfInBounds i jD) a' w)(hi:ops[i]? =jB ⟨d,op,ty,pos,after,gd⟩:=by rfl)(hS:S w:=by exact hS)
  (hs:Region.noSelect ops=jD:=by kernel_rfl)(hf:Region.free md ops listed i=jD:=by kernel_rfl)(e:(Region.ready md ops listed).contains i=jD:=by kernel_rfl)(f:Region.waitsFor md ops z i=jD:=by kernel_rfl)
  (hw:Region.wanted ⟨d,op,ty,pos,after,gd⟩ (yielded ops a.tmps)=jD:=by kernel_rfl)
  (hv:∀w,S w->(execOp a.eval ⟨d,op,ty,pos,after,gd⟩).run P w=.ok (.value v) w:=by(intro w' b;(try dsimp only at b);go_simp;try (with_reducible rfl)))(g:∀c a w,Q (.panic c) (a.put d v) w->Q (.panic c) a w:=by exact λ_ _ _ h=>h)(j:a.put d v=a':=by((try simp only[Act.put,kQ,lW,lQ]);try exact rfl)):xV P md ops Q S z (fuel+1) listed a w:=
 Ky hi hs hf e f g (Or.inl ⟨hw,hv⟩) hS (j▸h)
theorem tF (i:Nat)(l:List Nat)(h:tZ P md ops Q S z fuel (listed.setIfInBounds i jD) a' w)(hi:ops[i]? =jB ⟨d,op,ty,pos,after,gd⟩:=by rfl)(hS:S w:=by exact hS)
  (hs:Region.noSelect ops=jD:=by kernel_rfl)(hf:Region.free md ops listed i=jD:=by kernel_rfl)(e:(Region.ready md ops listed).contains i=jD:=by kernel_rfl)(f:abn md ops listed z l i=jD:=by kernel_rfl)(hl:listed.getD z jD=jE:=by kernel_rfl)
  (hw:Region.wanted ⟨d,op,ty,pos,after,gd⟩ (yielded ops a.tmps)=jD:=by kernel_rfl)
  (hv:∀w,S w->(execOp a.eval ⟨d,op,ty,pos,after,gd⟩).run P w=.ok (.value v) w:=by(intro w' b;(try dsimp only at b);go_simp;try (with_reducible rfl)))(g:∀c a w,Q (.panic c) (a.put d v) w->Q (.panic c) a w:=by exact λ_ _ _ h=>h)(j:a.put d v=a':=by((try simp only[Act.put,kQ,lW,lQ]);try exact rfl)):tZ P md ops Q S z (fuel+1) listed a w:=
 Ku hi hs hf e l f hl g (Or.inl ⟨hw,hv⟩) hS (j▸h)
theorem tkW (i:Nat)(h:tZ P md ops Q S z fuel (listed.setIfInBounds i jD) a' w)(hi:ops[i]? =jB ⟨d,op,ty,pos,after,gd⟩:=by rfl)(hS:S w:=by exact hS)
  (hs:Region.noSelect ops=jD:=by kernel_rfl)(hf:Region.free md ops listed i=jD:=by kernel_rfl)(e:(Region.ready md ops listed).contains i=jD:=by kernel_rfl)(f:(i !=z)=jD:=by kernel_rfl)
  (hw:Region.wanted ⟨d,op,ty,pos,after,gd⟩ (yielded ops a.tmps)=jD:=by kernel_rfl)
  (hv:∀w,(λ_:jF=>True) w->(execOp a.eval ⟨d,op,ty,pos,after,gd⟩).run P w=.ok (.value v) w:=by(intro w' b;(try dsimp only at b);go_simp;try (with_reducible rfl)))(g:∀c a w,Q (.panic c) (a.put d v) w->Q (.panic c) a w:=by exact λ_ _ _ h=>h)(j:a.put d v=a':=by((try simp only[Act.put,kQ,lW,lQ]);try exact rfl)):tZ P md ops Q S z (fuel+1) listed a w:=
 Kt hi hs hf e f g (Or.inl ⟨hw,hv⟩) hS (j▸h)
theorem gU (i:Nat)(h:tZ P md ops Q S z fuel (listed.setIfInBounds i jD) a' w)(hi:ops[i]? =jB ⟨d,op,ty,pos,after,gd⟩:=by rfl)
  (hs:Region.noSelect ops=jD:=by kernel_rfl)(hf:Region.free md ops listed i=jD:=by kernel_rfl)(e:(Region.ready md ops listed).contains i=jD:=by kernel_rfl)(f:(i !=z)=jD:=by kernel_rfl)(hl:listed.getD z jD=jD:=by kernel_rfl)
  (hw:Region.wanted ⟨d,op,ty,pos,after,gd⟩ (yielded ops a.tmps)=jD:=by kernel_rfl)
  (hv:∀w,(λ_:jF=>True) w->(execOp a.eval ⟨d,op,ty,pos,after,gd⟩).run P w=.ok (.value v) w:=by(intro w' b;(try dsimp only at b);go_simp;try (with_reducible rfl)))(g:∀c a w,Q (.panic c) (a.put d v) w->Q (.panic c) a w:=by exact λ_ _ _ h=>h)(j:a.put d v=a':=by((try simp only[Act.put,kQ,lW,lQ]);try exact rfl)):tZ P md ops Q S z (fuel+1) listed a w:=
 Kw hi hs hf e f hl g (Or.inl ⟨hw,hv⟩) (j▸h)
theorem Gh (i:Nat)(h:wpAnyH P md ops Q S fuel (listed.setIfInBounds i jD) a' w)(hi:ops[i]? =jB ⟨d,op,ty,pos,after,gd⟩:=by rfl)(hS:S w:=by exact hS)
  (hs:Region.noSelect ops=jD:=by kernel_rfl)(hf:Region.free md ops listed i=jD:=by kernel_rfl)(b:(Region.ready md ops listed).contains i=jD:=by kernel_rfl)
  (hw:Region.wanted ⟨d,op,ty,pos,after,gd⟩ (yielded ops a.tmps)=jE:=by kernel_rfl)(e:∀c a w,Q (.panic c) (a.put d undef) w->Q (.panic c) a w:=by exact λ_ _ _ h=>h)(f:a.put d undef=a':=by((try simp only[Act.put,kQ,lW,lQ]);try exact rfl)):wpAnyH P md ops Q S (fuel+1) listed a w:=
 Cz hi hs hf b e (Or.inr ⟨hw,rfl⟩) hS (f▸h)
theorem UY (i:Nat)(h:xV P md ops Q S z fuel (listed.setIfInBounds i jD) a' w)(hi:ops[i]? =jB ⟨d,op,ty,pos,after,gd⟩:=by rfl)(hS:S w:=by exact hS)
  (hs:Region.noSelect ops=jD:=by kernel_rfl)(hf:Region.free md ops listed i=jD:=by kernel_rfl)(b:(Region.ready md ops listed).contains i=jD:=by kernel_rfl)(e:Region.waitsFor md ops z i=jD:=by kernel_rfl)
  (hw:Region.wanted ⟨d,op,ty,pos,after,gd⟩ (yielded ops a.tmps)=jE:=by kernel_rfl)(f:∀c a w,Q (.panic c) (a.put d undef) w->Q (.panic c) a w:=by exact λ_ _ _ h=>h)(g:a.put d undef=a':=by((try simp only[Act.put,kQ,lW,lQ]);try exact rfl)):xV P md ops Q S z (fuel+1) listed a w:=
 Ky hi hs hf b e f (Or.inr ⟨hw,rfl⟩) hS (g▸h)
theorem skU (i:Nat)(l:List Nat)(h:tZ P md ops Q S z fuel (listed.setIfInBounds i jD) a' w)(hi:ops[i]? =jB ⟨d,op,ty,pos,after,gd⟩:=by rfl)(hS:S w:=by exact hS)
  (hs:Region.noSelect ops=jD:=by kernel_rfl)(hf:Region.free md ops listed i=jD:=by kernel_rfl)(b:(Region.ready md ops listed).contains i=jD:=by kernel_rfl)(e:abn md ops listed z l i=jD:=by kernel_rfl)(hl:listed.getD z jD=jE:=by kernel_rfl)
  (hw:Region.wanted ⟨d,op,ty,pos,after,gd⟩ (yielded ops a.tmps)=jE:=by kernel_rfl)(f:∀c a w,Q (.panic c) (a.put d undef) w->Q (.panic c) a w:=by exact λ_ _ _ h=>h)(g:a.put d undef=a':=by((try simp only[Act.put,kQ,lW,lQ]);try exact rfl)):tZ P md ops Q S z (fuel+1) listed a w:=
 Ku hi hs hf b l e hl f (Or.inr ⟨hw,rfl⟩) hS (g▸h)
theorem skW (i:Nat)(h:tZ P md ops Q S z fuel (listed.setIfInBounds i jD) a' w)(hi:ops[i]? =jB ⟨d,op,ty,pos,after,gd⟩:=by rfl)(hS:S w:=by exact hS)
  (hs:Region.noSelect ops=jD:=by kernel_rfl)(hf:Region.free md ops listed i=jD:=by kernel_rfl)(b:(Region.ready md ops listed).contains i=jD:=by kernel_rfl)(e:(i !=z)=jD:=by kernel_rfl)
  (hw:Region.wanted ⟨d,op,ty,pos,after,gd⟩ (yielded ops a.tmps)=jE:=by kernel_rfl)(f:∀c a w,Q (.panic c) (a.put d undef) w->Q (.panic c) a w:=by exact λ_ _ _ h=>h)(g:a.put d undef=a':=by((try simp only[Act.put,kQ,lW,lQ]);try exact rfl)):tZ P md ops Q S z (fuel+1) listed a w:=
 Kt hi hs hf b e f (Or.inr ⟨hw,rfl⟩) hS (g▸h)
theorem skB (i:Nat)(h:tZ P md ops Q S z fuel (listed.setIfInBounds i jD) a' w)(hi:ops[i]? =jB ⟨d,op,ty,pos,after,gd⟩:=by rfl)
  (hs:Region.noSelect ops=jD:=by kernel_rfl)(hf:Region.free md ops listed i=jD:=by kernel_rfl)(b:(Region.ready md ops listed).contains i=jD:=by kernel_rfl)(e:(i !=z)=jD:=by kernel_rfl)(hl:listed.getD z jD=jD:=by kernel_rfl)
  (hw:Region.wanted ⟨d,op,ty,pos,after,gd⟩ (yielded ops a.tmps)=jE:=by kernel_rfl)(f:∀c a w,Q (.panic c) (a.put d undef) w->Q (.panic c) a w:=by exact λ_ _ _ h=>h)(g:a.put d undef=a':=by((try simp only[Act.put,kQ,lW,lQ]);try exact rfl)):tZ P md ops Q S z (fuel+1) listed a w:=
 Kw hi hs hf b e hl f (Or.inr ⟨hw,rfl⟩) (g▸h)
theorem rR (i:Nat)
  (h:∀b:Act->jF->Prop,Shut (∀a w,S w->(S w->wpAnyH P md ops Q S fuel (listed.setIfInBounds i jD) a w)->b a w)->if Region.wanted ⟨d,op,ty,pos,after,gd⟩ (yielded ops a.tmps)=jD then Oper.wp P ⟨d,op,ty,pos,after,gd⟩ a w b Q else b (a.put d undef) w)
  (c:ops[i]? =jB ⟨d,op,ty,pos,after,gd⟩:=by rfl)(e:Region.ready md ops listed=[i]:=by kernel_rfl):wpAnyH P md ops Q S (fuel+1) listed a w:=U6 c e h
theorem bD {M:Nat->Prop}{g o:Nat}{w w':jF}{v:Option Value}(b:qW M w w')(h:g<w.1.size)(e:¬M g)(k:w.cell? ⟨g,o,none⟩=v):w'.cell? ⟨g,o,none⟩=v:=(jF.cell?_of_block (w:=w) (a:=⟨g,o,none⟩) (b.block g h e)).trans k
end
