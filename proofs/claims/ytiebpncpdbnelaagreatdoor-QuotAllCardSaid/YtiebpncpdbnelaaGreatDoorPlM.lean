/- Memory of layer 30 (auto): a play under way. -/
import Derived.Test.YtiebpncpdbnelaaGreatDoorSc6
namespace Go.Proofs.YtiebpncpdbnelaaGreatDoor
open Go.RowKit
def ucellsN (l : List Nat) : List Value := l.map (fun (x : Nat) => .int .u64 (x : Int))
theorem ucellsN_len (l : List Nat) : (ucellsN l).length = l.length := by simp [ucellsN]
theorem ucellsN_app (l m : List Nat) : ucellsN (l ++ m) = ucellsN l ++ ucellsN m := by simp [ucellsN]
structure PlM (base pb : Nat) (vi : Value) (I : List Int) (ve : Value) (E : List (List Nd)) (vs : List Value) (vl : Value) (L : List Nat) (vn : Value) (ins : List Nat) (all : Nat) (w : World) : Prop where
 blk : w.1[pb]? = some (.cells #[vi, ve, vl, vn, .int .u64 (all : Int)] 57 (0, 0))
 init : w.ownsRow base 3 1 vi I.length (icells I)
 edges : Own2 w base 83 81 2 ve (E.map ncells) vs
 labels : w.ownsRow base 34 1 vl L.length (ucellsN L)
 ins : w.ownsRow base 34 1 vn ins.length (ucellsN ins)
 dis : ∀ g, vl.ownBlock = some g → vn.ownBlock ≠ some g
 bb : base ≤ pb
section
variable {base pb : Nat} {vi : Value} {I : List Int} {ve : Value} {E : List (List Nd)} {vs : List Value} {vl : Value} {L : List Nat} {vn : Value} {ins : List Nat} {all : Nat} {w w1 : World} {o : Obj}
theorem PlM.lt (h : PlM base pb vi I ve E vs vl L vn ins all w) : pb < w.1.size := (aI.1 h.blk).1
theorem PlM.cells (h : PlM base pb vi I ve E vs vl L vn ins all w) : w.cell? ⟨pb, 0, none⟩ = some vi ∧ w.cell? ⟨pb, 1, none⟩ = some ve ∧ w.cell? ⟨pb, 2, none⟩ = some vl ∧ w.cell? ⟨pb, 3, none⟩ = some vn ∧ w.cell? ⟨pb, 4, none⟩ = some (.int .u64 (all : Int)) := by
 refine ⟨?_, ?_, ?_, ?_, ?_⟩ <;> (rw [cell_of_row _ _ _ _ _ (0, 0) h.blk]; rfl)
theorem PlM.below (h : PlM base pb vi I ve E vs vl L vn ins all w) (hb : Below w.1.size w w1) : PlM base pb vi I ve E vs vl L vn ins all w1 :=
 ⟨(hb.block pb h.lt).trans h.blk, own_below h.init hb, h.edges.below hb, own_below h.labels hb, own_below h.ins hb, h.dis, h.bb⟩
theorem PlM.rows_ne (h : PlM base pb vi I ve E vs vl L vn ins all w) {e : TypeId} {size n : Nat} {v : Value} {xs : List Value} {b' : Nat} (hv : w.ownsRow b' e size v n xs) (hne : e ≠ 83) : ∀ (j : Nat) u g, vs[j]? = some u → u.ownBlock = some g → v.ownBlock ≠ some g := by
 intro j u g hu hg e2
 have hj : j < (E.map ncells).length := by rw [← h.edges.len]; exact (gB.1 hu).1
 obtain ⟨u', n', hu', ho⟩ := h.edges.row j _ (gE hj)
 rw [hu] at hu'
 cases hu'
 exact own_ne ho hv (fun h => hne h.symm) g hg e2
theorem PlM.app_init (h : PlM base pb vi I ve E vs vl L vn ins all w) {x : Int} {v' : Value} (hown : w1.ownsRow base 3 1 v' (I.length + 1) (icells I ++ [.int .i64 x])) (ht : Tch (fun k => vi.ownBlock = some k) (w.alloc o) w1) (_hat : v'.ownBlock = vi.ownBlock ∨ v'.ownBlock = some (w.alloc o).1.size) :
  w1.cell? ⟨pb, 0, none⟩ = some vi ∧ w1.frozen? ⟨pb, 0, none⟩ = false ∧ pb < w1.1.size ∧ PlM base pb v' (I ++ [x]) ve E vs vl L vn ins all (w1.setCell ⟨pb, 0, none⟩ v') := by
 have ht' : Tch (fun k => vi.ownBlock = some k) w w1 := Tch.trans ((Tch.refl _ w).alloc o) ht (fun _ _ e => e)
 have hblk : w1.1[pb]? = _ := ht'.blk h.blk (fun e => own_ne_blk h.init h.blk (by decide) e)
 have hfar : ∀ {e : TypeId} {size n : Nat} {v : Value} {xs : List Value} {b' : Nat}, w1.ownsRow b' e size v n xs → e ≠ 57 → (w1.setCell ⟨pb, 0, none⟩ v').ownsRow b' e size v n xs := fun ho hne => own_tch ho (tch_cell (w := w1) pb 0 v') (fun g hg e => own_ne_blk ho hblk hne (by rw [hg, e]))
 have hfar2 : Own2 w1 base 83 81 2 ve (E.map ncells) vs → Own2 (w1.setCell ⟨pb, 0, none⟩ v') base 83 81 2 ve (E.map ncells) vs := fun ho => ho.tch (tch_cell (w := w1) pb 0 v') (fun g hg e => own_ne_blk ho.main hblk (by decide) (by rw [hg, e])) (fun j u g hu hg e => by
  have hj : j < (E.map ncells).length := by rw [← ho.len]; exact (gB.1 hu).1
  obtain ⟨u', n, hu', hr⟩ := ho.row j _ (gE hj)
  rw [hu] at hu'
  cases hu'
  exact own_ne_blk hr hblk (by decide) (by rw [hg, e]))
 refine ⟨cR hblk, frozen_of_row w1 pb 0 _ _ hblk, (aI.1 hblk).1, ?_, hfar (show w1.ownsRow base 3 1 v' (I ++ [x]).length (icells (I ++ [x])) by rw [lA, icells_append]; exact hown) (by decide), hfar2 (h.edges.tch ht' (fun g hg e => own_ne h.edges.main h.init (by decide) g hg e) (fun j u g hu hg e => h.rows_ne h.init (by decide) j u g hu hg e)), hfar (own_tch h.labels ht' (fun g hg e => own_ne h.labels h.init (by decide) g hg e)) (by decide), hfar (own_tch h.ins ht' (fun g hg e => own_ne h.ins h.init (by decide) g hg e)) (by decide), h.dis, h.bb⟩
 rw [heap_setCell_same w1 pb 0 _ _ v' hblk]; rfl
theorem PlM.app_labels (h : PlM base pb vi I ve E vs vl L vn ins all w) {x : Nat} {v' : Value} (hown : w1.ownsRow base 34 1 v' (L.length + 1) (ucellsN L ++ [.int .u64 (x : Int)])) (ht : Tch (fun k => vl.ownBlock = some k) (w.alloc o) w1) (hat : v'.ownBlock = vl.ownBlock ∨ v'.ownBlock = some (w.alloc o).1.size) :
  w1.cell? ⟨pb, 2, none⟩ = some vl ∧ w1.frozen? ⟨pb, 2, none⟩ = false ∧ pb < w1.1.size ∧ PlM base pb vi I ve E vs v' (L ++ [x]) vn ins all (w1.setCell ⟨pb, 2, none⟩ v') := by
 have ht' : Tch (fun k => vl.ownBlock = some k) w w1 := Tch.trans ((Tch.refl _ w).alloc o) ht (fun _ _ e => e)
 have hblk : w1.1[pb]? = _ := ht'.blk h.blk (fun e => own_ne_blk h.labels h.blk (by decide) e)
 have hat' : ∀ g, v'.ownBlock = some g → vl.ownBlock = some g ∨ w.1.size ≤ g := fun g hg => by
  rcases hat with e | e
  ·exact .inl (e ▸ hg)
  ·rw [e] at hg; cases hg; exact .inr (by simp)
 have hfar : ∀ {e : TypeId} {size n : Nat} {v : Value} {xs : List Value} {b' : Nat}, w1.ownsRow b' e size v n xs → e ≠ 57 → (w1.setCell ⟨pb, 2, none⟩ v').ownsRow b' e size v n xs := fun ho hne => own_tch ho (tch_cell (w := w1) pb 2 v') (fun g hg e => own_ne_blk ho hblk hne (by rw [hg, e]))
 have hfar2 : Own2 w1 base 83 81 2 ve (E.map ncells) vs → Own2 (w1.setCell ⟨pb, 2, none⟩ v') base 83 81 2 ve (E.map ncells) vs := fun ho => ho.tch (tch_cell (w := w1) pb 2 v') (fun g hg e => own_ne_blk ho.main hblk (by decide) (by rw [hg, e])) (fun j u g hu hg e => by
  have hj : j < (E.map ncells).length := by rw [← ho.len]; exact (gB.1 hu).1
  obtain ⟨u', n, hu', hr⟩ := ho.row j _ (gE hj)
  rw [hu] at hu'
  cases hu'
  exact own_ne_blk hr hblk (by decide) (by rw [hg, e]))
 refine ⟨cR hblk, frozen_of_row w1 pb 2 _ _ hblk, (aI.1 hblk).1, ?_, hfar (own_tch h.init ht' (fun g hg e => own_ne h.init h.labels (by decide) g hg e)) (by decide), hfar2 (h.edges.tch ht' (fun g hg e => own_ne h.edges.main h.labels (by decide) g hg e) (fun j u g hu hg e => h.rows_ne h.labels (by decide) j u g hu hg e)), hfar (show w1.ownsRow base 34 1 v' (L ++ [x]).length (ucellsN (L ++ [x])) by rw [lA, ucellsN_app]; exact hown) (by decide), hfar (own_tch h.ins ht' (fun g hg e => h.dis g e hg)) (by decide), fun g hg e => by rcases hat' g hg with e' | e'; exact h.dis g e' e; (have := (h.ins.lt g e).2; omega), h.bb⟩
 rw [heap_setCell_same w1 pb 2 _ _ v' hblk]; rfl
theorem PlM.app_ins (h : PlM base pb vi I ve E vs vl L vn ins all w) {x : Nat} {v' : Value} (hown : w1.ownsRow base 34 1 v' (ins.length + 1) (ucellsN ins ++ [.int .u64 (x : Int)])) (ht : Tch (fun k => vn.ownBlock = some k) (w.alloc o) w1) (hat : v'.ownBlock = vn.ownBlock ∨ v'.ownBlock = some (w.alloc o).1.size) :
  w1.cell? ⟨pb, 3, none⟩ = some vn ∧ w1.frozen? ⟨pb, 3, none⟩ = false ∧ pb < w1.1.size ∧ PlM base pb vi I ve E vs vl L v' (ins ++ [x]) all (w1.setCell ⟨pb, 3, none⟩ v') := by
 have ht' : Tch (fun k => vn.ownBlock = some k) w w1 := Tch.trans ((Tch.refl _ w).alloc o) ht (fun _ _ e => e)
 have hblk : w1.1[pb]? = _ := ht'.blk h.blk (fun e => own_ne_blk h.ins h.blk (by decide) e)
 have hat' : ∀ g, v'.ownBlock = some g → vn.ownBlock = some g ∨ w.1.size ≤ g := fun g hg => by
  rcases hat with e | e
  ·exact .inl (e ▸ hg)
  ·rw [e] at hg; cases hg; exact .inr (by simp)
 have hfar : ∀ {e : TypeId} {size n : Nat} {v : Value} {xs : List Value} {b' : Nat}, w1.ownsRow b' e size v n xs → e ≠ 57 → (w1.setCell ⟨pb, 3, none⟩ v').ownsRow b' e size v n xs := fun ho hne => own_tch ho (tch_cell (w := w1) pb 3 v') (fun g hg e => own_ne_blk ho hblk hne (by rw [hg, e]))
 have hfar2 : Own2 w1 base 83 81 2 ve (E.map ncells) vs → Own2 (w1.setCell ⟨pb, 3, none⟩ v') base 83 81 2 ve (E.map ncells) vs := fun ho => ho.tch (tch_cell (w := w1) pb 3 v') (fun g hg e => own_ne_blk ho.main hblk (by decide) (by rw [hg, e])) (fun j u g hu hg e => by
  have hj : j < (E.map ncells).length := by rw [← ho.len]; exact (gB.1 hu).1
  obtain ⟨u', n, hu', hr⟩ := ho.row j _ (gE hj)
  rw [hu] at hu'
  cases hu'
  exact own_ne_blk hr hblk (by decide) (by rw [hg, e]))
 refine ⟨cR hblk, frozen_of_row w1 pb 3 _ _ hblk, (aI.1 hblk).1, ?_, hfar (own_tch h.init ht' (fun g hg e => own_ne h.init h.ins (by decide) g hg e)) (by decide), hfar2 (h.edges.tch ht' (fun g hg e => own_ne h.edges.main h.ins (by decide) g hg e) (fun j u g hu hg e => h.rows_ne h.ins (by decide) j u g hu hg e)), hfar (own_tch h.labels ht' (fun g hg e => h.dis g hg e)) (by decide), hfar (show w1.ownsRow base 34 1 v' (ins ++ [x]).length (ucellsN (ins ++ [x])) by rw [lA, ucellsN_app]; exact hown) (by decide), fun g hg e => by rcases hat' g e with e' | e'; exact h.dis g hg e'; (have := (h.labels.lt g hg).2; omega), h.bb⟩
 rw [heap_setCell_same w1 pb 3 _ _ v' hblk]; rfl
theorem PlM.app_edges (h : PlM base pb vi I ve E vs vl L vn ins all w) {u v' : Value} {n : Nat} {ys : List Nd} (hu : w.ownsRow base 83 2 u n (ncells ys)) (hud : ∀ (j : Nat) y g, vs[j]? = some y → y.ownBlock = some g → u.ownBlock ≠ some g) (hown : w1.ownsRow base 81 1 v' ((E.map ncells).length + 1) (vs ++ [u])) (ht : Tch (fun k => ve.ownBlock = some k) (w.alloc o) w1) (_hat : v'.ownBlock = ve.ownBlock ∨ v'.ownBlock = some (w.alloc o).1.size) :
  w1.cell? ⟨pb, 1, none⟩ = some ve ∧ w1.frozen? ⟨pb, 1, none⟩ = false ∧ pb < w1.1.size ∧ PlM base pb vi I v' (E ++ [ys]) (vs ++ [u]) vl L vn ins all (w1.setCell ⟨pb, 1, none⟩ v') := by
 have ht' : Tch (fun k => ve.ownBlock = some k) w w1 := Tch.trans ((Tch.refl _ w).alloc o) ht (fun _ _ e => e)
 have hblk : w1.1[pb]? = _ := ht'.blk h.blk (fun e => own_ne_blk h.edges.main h.blk (by decide) e)
 have hfar : ∀ {e : TypeId} {size n : Nat} {v : Value} {xs : List Value} {b' : Nat}, w1.ownsRow b' e size v n xs → e ≠ 57 → (w1.setCell ⟨pb, 1, none⟩ v').ownsRow b' e size v n xs := fun ho hne => own_tch ho (tch_cell (w := w1) pb 1 v') (fun g hg e => own_ne_blk ho hblk hne (by rw [hg, e]))
 have hfar2 : Own2 w1 base 83 81 2 v' ((E ++ [ys]).map ncells) (vs ++ [u]) → Own2 (w1.setCell ⟨pb, 1, none⟩ v') base 83 81 2 v' ((E ++ [ys]).map ncells) (vs ++ [u]) := fun ho => ho.tch (tch_cell (w := w1) pb 1 v') (fun g hg e => own_ne_blk ho.main hblk (by decide) (by rw [hg, e])) (fun j u g hu hg e => by
  have hj : j < ((E ++ [ys]).map ncells).length := by rw [← ho.len]; exact (gB.1 hu).1
  obtain ⟨u', n, hu', hr⟩ := ho.row j _ (gE hj)
  rw [hu] at hu'
  cases hu'
  exact own_ne_blk hr hblk (by decide) (by rw [hg, e]))
 refine ⟨cR hblk, frozen_of_row w1 pb 1 _ _ hblk, (aI.1 hblk).1, ?_, hfar (own_tch h.init ht' (fun g hg e => own_ne h.init h.edges.main (by decide) g hg e)) (by decide), hfar2 (show Own2 w1 base 83 81 2 v' ((E ++ [ys]).map ncells) (vs ++ [u]) by rw [List.map_append]; exact h.edges.push (by decide) hu hud hown ht), hfar (own_tch h.labels ht' (fun g hg e => own_ne h.labels h.edges.main (by decide) g hg e)) (by decide), hfar (own_tch h.ins ht' (fun g hg e => own_ne h.ins h.edges.main (by decide) g hg e)) (by decide), h.dis, h.bb⟩
 rw [heap_setCell_same w1 pb 1 _ _ v' hblk]; rfl
end
end Go.Proofs.YtiebpncpdbnelaaGreatDoor
