/- Texts of one kind, in one file. -/
import Derived.Test.YtiebpncpdbnelaaGreatDoorMe
import Derived.Test.YtiebpncpdbnelaaGreatDoorMa
namespace Go.Proofs.YtiebpncpdbnelaaGreatDoor
open Go
section
variable {P : Program} {ops : Array Oper} {Q : Exit → Act → World → Prop} {md : Region.Mode} {S : World → Prop} {z : Nat}
def AllReadyU (P : Program) (md : Region.Mode) (ops : Array Oper) (Q : Exit → Act → World → Prop) (S : World → Prop) (z fuel : Nat) (listed : Array Bool) (a : Act) (w : World) (rs : List Nat) : Prop :=
 ∀ i ∈ rs, wpOp P ops Q i (fun a' w' => ((i ≠ z ∧ listed.getD z true = false) → S w') ∧ wpAnyU P md ops Q S z fuel (listed.setIfInBounds i true) a' w') a w
theorem AllReadyU.nil {fuel : Nat} {listed : Array Bool} {a : Act} {w : World} : AllReadyU P md ops Q S z fuel listed a w [] := fun _ h => by cases h
theorem allReadyU_consD {fuel : Nat} {listed : Array Bool} {a : Act} {w : World} {i : Nat} {d : Option Tmp} {op : Op} {ty : TypeId} {pos : String} {after : Array Edge} {gd : Option (Nat × Bool)} {rs : List Nat} (ho : ops[i]? = some ⟨d, op, ty, pos, after, gd⟩) (_hz : (i != z) = true)
  (h : ∀ K' : Act → World → Prop, Shut (∀ a w, S w → (S w → wpAnyU P md ops Q S z fuel (listed.setIfInBounds i true) a w) → K' a w) → if Region.wanted ⟨d, op, ty, pos, after, gd⟩ (yielded ops a.tmps) = true then Oper.wp P ⟨d, op, ty, pos, after, gd⟩ a w K' Q else K' (a.put d undef) w)
  (hs : AllReadyU P md ops Q S z fuel listed a w rs) : AllReadyU P md ops Q S z fuel listed a w (i :: rs) := by
 intro j hj
 rcases List.mem_cons.1 hj with rfl | hj
 ·exact wpOp_step ho (fun K' hK => h K' (fun a w hS hW => hK a w ⟨fun _ => hS, hW hS⟩))
 ·exact hs j hj
theorem wpAnyU_ready {fuel : Nat} {listed : Array Bool} {a : Act} {w : World} {rs : List Nat} (hr : Region.ready md ops listed = rs) (hne : rs ≠ []) (h : AllReadyU P md ops Q S z fuel listed a w rs) : wpAnyU P md ops Q S z (fuel + 1) listed a w :=
 ⟨fun h0 => absurd (hr.symm.trans h0) hne, fun j hj => h j (hr ▸ hj)⟩
theorem wpAnyU_firstW {i : Nat} {oi : Oper} {v : Value} (hi : ops[i]? = some oi) (hsel : ∀ (j : Nat) (o : Oper) cs b, ops[j]? = some o → o.op ≠ .select cs b)
  (hQ : ∀ c a w, Q (.panic c) (a.put oi.dst v) w → Q (.panic c) a w) (hiz : i ≠ z) :
  ∀ (fuel : Nat) (listed : Array Bool) (a : Act) (w : World),
   (∀ j oj, ops[j]? = some oj → j ≠ i → listed.getD j true = false → (∀ e ∈ oj.after, Region.binds md e = true → e.on ≠ i) → oi.apart ops oj = true) →
   i ∈ Region.ready md ops listed → YieldsIf P ops (fun _ => True) oi v a → (listed.getD z true = false → S w) →
   wpAnyU P md ops Q S z fuel (listed.setIfInBounds i true) (a.put oi.dst v) w → wpAnyU P md ops Q S z (fuel + 1) listed a w := by
 intro fuel
 induction fuel with
 | zero =>
  intro listed a w _ hr hy hS H
  refine ⟨fun h => (by rw [h] at hr; cases hr), fun j hj => ?_⟩
  by_cases hji : j = i
  ·subst hji; exact hy.wpOp hi trivial ⟨fun h => hS h.2, H⟩
  ·have := ready_mono hj hji
   rw [H.1] at this
   cases this
 | succ fuel ih =>
  intro listed a w hfree hr hy hS H
  refine ⟨fun h => (by rw [h] at hr; cases hr), fun j hj => ?_⟩
  by_cases hji : j = i
  ·subst hji; exact hy.wpOp hi trivial ⟨fun h => hS h.2, H⟩
  ·have h1 := H.2 j (ready_mono hj hji)
   obtain ⟨hjun, oj, hoj, hall⟩ := mem_ready.1 hj
   have hnot : ∀ e ∈ oj.after, Region.binds md e = true → e.on ≠ i := fun e he hb heq => by
    have g1 := hall e he hb
    have g0 := (mem_ready.1 hr).1
    rw [heq] at g1
    rcases Nat.lt_or_ge i listed.size with h' | h'
    ·simp [h'] at g0 g1; rw [g0] at g1; cases g1
    ·simp [Array.getElem?_eq_none h'] at g1
   have h2 := wpOp_putIf hoj (hfree j oj hoj hji hjun hnot) (fun cs b => hsel i oi cs b hi) (fun cs b => hsel j oj cs b hoj) hQ hy h1
   have hfree' : ∀ k ok, ops[k]? = some ok → k ≠ i → (listed.setIfInBounds j true).getD k true = false →
     (∀ e ∈ ok.after, Region.binds md e = true → e.on ≠ i) → oi.apart ops ok = true := fun k ok hk hki hun hno => by
    refine hfree k ok hk hki ?_ hno
    by_cases hjk : j = k
    ·subst hjk; exact hjun
    ·rw [getD_set_ne true hjk] at hun; exact hun
   have hjz : (listed.setIfInBounds j true).getD z true = false → j ≠ z ∧ listed.getD z true = false := fun h => by
    by_cases e : j = z
    ·subst e
     rcases Nat.lt_or_ge j listed.size with h' | h'
     ·simp [h'] at h
     ·simp at h
    ·exact ⟨e, by rwa [getD_set_ne true e] at h⟩
   refine wpOp_mono (fun a' w' h3 => ⟨fun h => h3.2.1 ⟨h.1, by rw [getD_set_ne true hiz]; exact h.2⟩, ih (listed.setIfInBounds j true) a' w' hfree' (ready_mono hr (Ne.symm hji)) h3.1 (fun h => h3.2.1 ⟨(hjz h).1, by rw [getD_set_ne true hiz]; exact (hjz h).2⟩) ?_⟩) h2
   rw [Array.setIfInBounds_comm _ _ hji]
   exact h3.2.2
theorem wpAnyU_takeW {i : Nat} {d : Option Tmp} {op : Op} {ty : TypeId} {pos : String} {after : Array Edge} {gd : Option (Nat × Bool)} {v : Value} {fuel : Nat} {listed : Array Bool} {a : Act} {w : World} (hi : ops[i]? = some ⟨d, op, ty, pos, after, gd⟩)
  (hs : Region.noSelect ops = true) (hf : Region.free md ops listed i = true) (hr : (Region.ready md ops listed).contains i = true) (hiz : (i != z) = true)
  (hQ : ∀ c a w, Q (.panic c) (a.put d v) w → Q (.panic c) a w) (hy : YieldsIf P ops (fun _ => True) ⟨d, op, ty, pos, after, gd⟩ v a) (hS : S w)
  (h : wpAnyU P md ops Q S z fuel (listed.setIfInBounds i true) (a.put d v) w) : wpAnyU P md ops Q S z (fuel + 1) listed a w :=
 wpAnyU_firstW hi (Region.noSelect_spec hs) hQ (by simpa using hiz) fuel listed a w (Region.free_spec hi hf) (by simpa using hr) hy (fun _ => hS) h
theorem wpAnyU_takeB {i : Nat} {d : Option Tmp} {op : Op} {ty : TypeId} {pos : String} {after : Array Edge} {gd : Option (Nat × Bool)} {v : Value} {fuel : Nat} {listed : Array Bool} {a : Act} {w : World} (hi : ops[i]? = some ⟨d, op, ty, pos, after, gd⟩)
  (hs : Region.noSelect ops = true) (hf : Region.free md ops listed i = true) (hr : (Region.ready md ops listed).contains i = true) (hiz : (i != z) = true) (hz : listed.getD z true = true)
  (hQ : ∀ c a w, Q (.panic c) (a.put d v) w → Q (.panic c) a w) (hy : YieldsIf P ops (fun _ => True) ⟨d, op, ty, pos, after, gd⟩ v a)
  (h : wpAnyU P md ops Q S z fuel (listed.setIfInBounds i true) (a.put d v) w) : wpAnyU P md ops Q S z (fuel + 1) listed a w :=
 wpAnyU_firstW hi (Region.noSelect_spec hs) hQ (by simpa using hiz) fuel listed a w (Region.free_spec hi hf) (by simpa using hr) hy (fun h => by rw [hz] at h; cases h) h
end
end Go.Proofs.YtiebpncpdbnelaaGreatDoor
namespace Go.Proofs.YtiebpncpdbnelaaGreatDoor
open Go Go.RowKit
section
variable {P : Program} {md : Region.Mode} {ops : Array Oper} {Q : Exit → Act → World → Prop} {S : World → Prop} {z : Nat} {d : Option Tmp} {op : Op} {ty : TypeId} {pos : String} {after : Array Edge} {gd : Option (Nat × Bool)} {v : Value} {fuel : Nat} {listed : Array Bool} {a a' : Act} {w : World}
theorem tkH (i : Nat) (h : wpAnyH P md ops Q S fuel (listed.setIfInBounds i true) a' w) (hi : ops[i]? = some ⟨d, op, ty, pos, after, gd⟩ := by rfl) (hS : S w := by exact hS)
  (hs : Region.noSelect ops = true := by kernel_rfl) (hf : Region.free md ops listed i = true := by kernel_rfl) (hr : (Region.ready md ops listed).contains i = true := by kernel_rfl)
  (hw : Region.wanted ⟨d, op, ty, pos, after, gd⟩ (yielded ops a.tmps) = true := by kernel_rfl)
  (hv : ∀ w, S w → (execOp a.eval ⟨d, op, ty, pos, after, gd⟩).run P w = .ok (.value v) w := by (intro w' hSw; (try dsimp only at hSw); go_simp; try (with_reducible rfl))) (hQ : ∀ c a w, Q (.panic c) (a.put d v) w → Q (.panic c) a w := by exact fun _ _ _ h => h) (ha : a.put d v = a' := by ((try simp only [Act.put, List.setIfInBounds_toArray, List.set_cons_zero, List.set_cons_succ]); try exact rfl)) : wpAnyH P md ops Q S (fuel + 1) listed a w :=
 wpAnyH_takeD hi hs hf hr hQ (Or.inl ⟨hw, hv⟩) hS (ha ▸ h)
theorem tkT (i : Nat) (h : wpAnyT P md ops Q S z fuel (listed.setIfInBounds i true) a' w) (hi : ops[i]? = some ⟨d, op, ty, pos, after, gd⟩ := by rfl) (hS : S w := by exact hS)
  (hs : Region.noSelect ops = true := by kernel_rfl) (hf : Region.free md ops listed i = true := by kernel_rfl) (hr : (Region.ready md ops listed).contains i = true := by kernel_rfl) (hz : Region.waitsFor md ops z i = true := by kernel_rfl)
  (hw : Region.wanted ⟨d, op, ty, pos, after, gd⟩ (yielded ops a.tmps) = true := by kernel_rfl)
  (hv : ∀ w, S w → (execOp a.eval ⟨d, op, ty, pos, after, gd⟩).run P w = .ok (.value v) w := by (intro w' hSw; (try dsimp only at hSw); go_simp; try (with_reducible rfl))) (hQ : ∀ c a w, Q (.panic c) (a.put d v) w → Q (.panic c) a w := by exact fun _ _ _ h => h) (ha : a.put d v = a' := by ((try simp only [Act.put, List.setIfInBounds_toArray, List.set_cons_zero, List.set_cons_succ]); try exact rfl)) : wpAnyT P md ops Q S z (fuel + 1) listed a w :=
 wpAnyT_takeD hi hs hf hr hz hQ (Or.inl ⟨hw, hv⟩) hS (ha ▸ h)
theorem tkU (i : Nat) (l : List Nat) (h : wpAnyU P md ops Q S z fuel (listed.setIfInBounds i true) a' w) (hi : ops[i]? = some ⟨d, op, ty, pos, after, gd⟩ := by rfl) (hS : S w := by exact hS)
  (hs : Region.noSelect ops = true := by kernel_rfl) (hf : Region.free md ops listed i = true := by kernel_rfl) (hr : (Region.ready md ops listed).contains i = true := by kernel_rfl) (hz : viaB md ops listed z l i = true := by kernel_rfl) (hl : listed.getD z true = false := by kernel_rfl)
  (hw : Region.wanted ⟨d, op, ty, pos, after, gd⟩ (yielded ops a.tmps) = true := by kernel_rfl)
  (hv : ∀ w, S w → (execOp a.eval ⟨d, op, ty, pos, after, gd⟩).run P w = .ok (.value v) w := by (intro w' hSw; (try dsimp only at hSw); go_simp; try (with_reducible rfl))) (hQ : ∀ c a w, Q (.panic c) (a.put d v) w → Q (.panic c) a w := by exact fun _ _ _ h => h) (ha : a.put d v = a' := by ((try simp only [Act.put, List.setIfInBounds_toArray, List.set_cons_zero, List.set_cons_succ]); try exact rfl)) : wpAnyU P md ops Q S z (fuel + 1) listed a w :=
 wpAnyU_takeD hi hs hf hr l hz hl hQ (Or.inl ⟨hw, hv⟩) hS (ha ▸ h)
theorem tkW (i : Nat) (h : wpAnyU P md ops Q S z fuel (listed.setIfInBounds i true) a' w) (hi : ops[i]? = some ⟨d, op, ty, pos, after, gd⟩ := by rfl) (hS : S w := by exact hS)
  (hs : Region.noSelect ops = true := by kernel_rfl) (hf : Region.free md ops listed i = true := by kernel_rfl) (hr : (Region.ready md ops listed).contains i = true := by kernel_rfl) (hz : (i != z) = true := by kernel_rfl)
  (hw : Region.wanted ⟨d, op, ty, pos, after, gd⟩ (yielded ops a.tmps) = true := by kernel_rfl)
  (hv : ∀ w, (fun _ : World => True) w → (execOp a.eval ⟨d, op, ty, pos, after, gd⟩).run P w = .ok (.value v) w := by (intro w' hSw; (try dsimp only at hSw); go_simp; try (with_reducible rfl))) (hQ : ∀ c a w, Q (.panic c) (a.put d v) w → Q (.panic c) a w := by exact fun _ _ _ h => h) (ha : a.put d v = a' := by ((try simp only [Act.put, List.setIfInBounds_toArray, List.set_cons_zero, List.set_cons_succ]); try exact rfl)) : wpAnyU P md ops Q S z (fuel + 1) listed a w :=
 wpAnyU_takeW hi hs hf hr hz hQ (Or.inl ⟨hw, hv⟩) hS (ha ▸ h)
theorem tkB (i : Nat) (h : wpAnyU P md ops Q S z fuel (listed.setIfInBounds i true) a' w) (hi : ops[i]? = some ⟨d, op, ty, pos, after, gd⟩ := by rfl)
  (hs : Region.noSelect ops = true := by kernel_rfl) (hf : Region.free md ops listed i = true := by kernel_rfl) (hr : (Region.ready md ops listed).contains i = true := by kernel_rfl) (hz : (i != z) = true := by kernel_rfl) (hl : listed.getD z true = true := by kernel_rfl)
  (hw : Region.wanted ⟨d, op, ty, pos, after, gd⟩ (yielded ops a.tmps) = true := by kernel_rfl)
  (hv : ∀ w, (fun _ : World => True) w → (execOp a.eval ⟨d, op, ty, pos, after, gd⟩).run P w = .ok (.value v) w := by (intro w' hSw; (try dsimp only at hSw); go_simp; try (with_reducible rfl))) (hQ : ∀ c a w, Q (.panic c) (a.put d v) w → Q (.panic c) a w := by exact fun _ _ _ h => h) (ha : a.put d v = a' := by ((try simp only [Act.put, List.setIfInBounds_toArray, List.set_cons_zero, List.set_cons_succ]); try exact rfl)) : wpAnyU P md ops Q S z (fuel + 1) listed a w :=
 wpAnyU_takeB hi hs hf hr hz hl hQ (Or.inl ⟨hw, hv⟩) (ha ▸ h)
theorem skH (i : Nat) (h : wpAnyH P md ops Q S fuel (listed.setIfInBounds i true) a' w) (hi : ops[i]? = some ⟨d, op, ty, pos, after, gd⟩ := by rfl) (hS : S w := by exact hS)
  (hs : Region.noSelect ops = true := by kernel_rfl) (hf : Region.free md ops listed i = true := by kernel_rfl) (hr : (Region.ready md ops listed).contains i = true := by kernel_rfl)
  (hw : Region.wanted ⟨d, op, ty, pos, after, gd⟩ (yielded ops a.tmps) = false := by kernel_rfl) (hQ : ∀ c a w, Q (.panic c) (a.put d undef) w → Q (.panic c) a w := by exact fun _ _ _ h => h) (ha : a.put d undef = a' := by ((try simp only [Act.put, List.setIfInBounds_toArray, List.set_cons_zero, List.set_cons_succ]); try exact rfl)) : wpAnyH P md ops Q S (fuel + 1) listed a w :=
 wpAnyH_takeD hi hs hf hr hQ (Or.inr ⟨hw, rfl⟩) hS (ha ▸ h)
theorem skT (i : Nat) (h : wpAnyT P md ops Q S z fuel (listed.setIfInBounds i true) a' w) (hi : ops[i]? = some ⟨d, op, ty, pos, after, gd⟩ := by rfl) (hS : S w := by exact hS)
  (hs : Region.noSelect ops = true := by kernel_rfl) (hf : Region.free md ops listed i = true := by kernel_rfl) (hr : (Region.ready md ops listed).contains i = true := by kernel_rfl) (hz : Region.waitsFor md ops z i = true := by kernel_rfl)
  (hw : Region.wanted ⟨d, op, ty, pos, after, gd⟩ (yielded ops a.tmps) = false := by kernel_rfl) (hQ : ∀ c a w, Q (.panic c) (a.put d undef) w → Q (.panic c) a w := by exact fun _ _ _ h => h) (ha : a.put d undef = a' := by ((try simp only [Act.put, List.setIfInBounds_toArray, List.set_cons_zero, List.set_cons_succ]); try exact rfl)) : wpAnyT P md ops Q S z (fuel + 1) listed a w :=
 wpAnyT_takeD hi hs hf hr hz hQ (Or.inr ⟨hw, rfl⟩) hS (ha ▸ h)
theorem skU (i : Nat) (l : List Nat) (h : wpAnyU P md ops Q S z fuel (listed.setIfInBounds i true) a' w) (hi : ops[i]? = some ⟨d, op, ty, pos, after, gd⟩ := by rfl) (hS : S w := by exact hS)
  (hs : Region.noSelect ops = true := by kernel_rfl) (hf : Region.free md ops listed i = true := by kernel_rfl) (hr : (Region.ready md ops listed).contains i = true := by kernel_rfl) (hz : viaB md ops listed z l i = true := by kernel_rfl) (hl : listed.getD z true = false := by kernel_rfl)
  (hw : Region.wanted ⟨d, op, ty, pos, after, gd⟩ (yielded ops a.tmps) = false := by kernel_rfl) (hQ : ∀ c a w, Q (.panic c) (a.put d undef) w → Q (.panic c) a w := by exact fun _ _ _ h => h) (ha : a.put d undef = a' := by ((try simp only [Act.put, List.setIfInBounds_toArray, List.set_cons_zero, List.set_cons_succ]); try exact rfl)) : wpAnyU P md ops Q S z (fuel + 1) listed a w :=
 wpAnyU_takeD hi hs hf hr l hz hl hQ (Or.inr ⟨hw, rfl⟩) hS (ha ▸ h)
theorem skW (i : Nat) (h : wpAnyU P md ops Q S z fuel (listed.setIfInBounds i true) a' w) (hi : ops[i]? = some ⟨d, op, ty, pos, after, gd⟩ := by rfl) (hS : S w := by exact hS)
  (hs : Region.noSelect ops = true := by kernel_rfl) (hf : Region.free md ops listed i = true := by kernel_rfl) (hr : (Region.ready md ops listed).contains i = true := by kernel_rfl) (hz : (i != z) = true := by kernel_rfl)
  (hw : Region.wanted ⟨d, op, ty, pos, after, gd⟩ (yielded ops a.tmps) = false := by kernel_rfl) (hQ : ∀ c a w, Q (.panic c) (a.put d undef) w → Q (.panic c) a w := by exact fun _ _ _ h => h) (ha : a.put d undef = a' := by ((try simp only [Act.put, List.setIfInBounds_toArray, List.set_cons_zero, List.set_cons_succ]); try exact rfl)) : wpAnyU P md ops Q S z (fuel + 1) listed a w :=
 wpAnyU_takeW hi hs hf hr hz hQ (Or.inr ⟨hw, rfl⟩) hS (ha ▸ h)
theorem skB (i : Nat) (h : wpAnyU P md ops Q S z fuel (listed.setIfInBounds i true) a' w) (hi : ops[i]? = some ⟨d, op, ty, pos, after, gd⟩ := by rfl)
  (hs : Region.noSelect ops = true := by kernel_rfl) (hf : Region.free md ops listed i = true := by kernel_rfl) (hr : (Region.ready md ops listed).contains i = true := by kernel_rfl) (hz : (i != z) = true := by kernel_rfl) (hl : listed.getD z true = true := by kernel_rfl)
  (hw : Region.wanted ⟨d, op, ty, pos, after, gd⟩ (yielded ops a.tmps) = false := by kernel_rfl) (hQ : ∀ c a w, Q (.panic c) (a.put d undef) w → Q (.panic c) a w := by exact fun _ _ _ h => h) (ha : a.put d undef = a' := by ((try simp only [Act.put, List.setIfInBounds_toArray, List.set_cons_zero, List.set_cons_succ]); try exact rfl)) : wpAnyU P md ops Q S z (fuel + 1) listed a w :=
 wpAnyU_takeB hi hs hf hr hz hl hQ (Or.inr ⟨hw, rfl⟩) (ha ▸ h)
theorem oneH (i : Nat)
  (h : ∀ K' : Act → World → Prop, Shut (∀ a w, S w → (S w → wpAnyH P md ops Q S fuel (listed.setIfInBounds i true) a w) → K' a w) → if Region.wanted ⟨d, op, ty, pos, after, gd⟩ (yielded ops a.tmps) = true then Oper.wp P ⟨d, op, ty, pos, after, gd⟩ a w K' Q else K' (a.put d undef) w)
  (ho : ops[i]? = some ⟨d, op, ty, pos, after, gd⟩ := by rfl) (hr : Region.ready md ops listed = [i] := by kernel_rfl) : wpAnyH P md ops Q S (fuel + 1) listed a w := wpAnyH_oneD ho hr h
theorem bD {M : Nat → Prop} {g o : Nat} {w w' : World} {v : Option Value} (ht : Tch M w w') (h : g < w.1.size) (e : ¬ M g) (k : w.cell? ⟨g, o, none⟩ = v) : w'.cell? ⟨g, o, none⟩ = v := (World.cell?_of_block (w := w) (a := ⟨g, o, none⟩) (ht.block g h e)).trans k
end
end Go.Proofs.YtiebpncpdbnelaaGreatDoor
