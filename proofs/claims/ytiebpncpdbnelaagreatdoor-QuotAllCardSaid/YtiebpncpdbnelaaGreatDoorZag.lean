/- Texts that stand one behind the other, in one file. -/
import Derived.Test.YtiebpncpdbnelaaGreatDoorMk
import Derived.Test.YtiebpncpdbnelaaGreatDoorZaf
import Derived.Test.YtiebpncpdbnelaaGreatDoorZae
import Derived.Lib.SliceRun
set_option maxHeartbeats 1000000
namespace Go.Proofs.YtiebpncpdbnelaaGreatDoor
open Go.RowKit
theorem sliceRowsE : SliceT Tryz.prog 53 81 1 24 :=
 SliceT.mk (z := .slice none 0 0) Tryz.underlying53 (by kernel_rfl) (by decide) (by decide)
theorem sliceEd : SliceT Tryz.prog 81 83 2 16 :=
 SliceT.mk (z := .agg #[.int .i64 0, .int .i64 0]) Tryz.underlying81 (by kernel_rfl) (by decide) (by decide)
theorem infoRowE : (Tryz.prog.info? 81).map (fun i => (i.zero, i.size, i.bytes)) = some (some (.slice none 0 0), 1, 24) := by kernel_rfl
theorem bcell {W w1 : World} (hb : Below W.1.size W w1) : (∀ b o, b < W.1.size → w1.cell? ⟨b, o, none⟩ = W.cell? ⟨b, o, none⟩) ∧ (∀ b o, b < W.1.size → w1.frozen? ⟨b, o, none⟩ = W.frozen? ⟨b, o, none⟩) :=
 ⟨fun b o h => hb.cell (p := ⟨b, o, none⟩) h, fun b o h => hb.frozen (p := ⟨b, o, none⟩) h⟩
theorem far3 (w : World) (g b o : Nat) (x y z : Value) (h : g ≠ b) : (((w.setCell ⟨g, 0, none⟩ x).setCell ⟨g, 1, none⟩ y).setCell ⟨g, 2, none⟩ z).cell? ⟨b, o, none⟩ = w.cell? ⟨b, o, none⟩ := by
 rw [World.cell?_setCell_far _ _ _ _ h, World.cell?_setCell_far _ _ _ _ h, World.cell?_setCell_far _ _ _ _ h]
theorem far3a (w : World) (g b o : Nat) (x y z : Value) (X : Obj) (h : g ≠ b) (hb : b < w.1.size) : ((((w.setCell ⟨g, 0, none⟩ x).setCell ⟨g, 1, none⟩ y).setCell ⟨g, 2, none⟩ z).alloc X).cell? ⟨b, o, none⟩ = w.cell? ⟨b, o, none⟩ := by
 rw [World.cell?_alloc_lt _ _ _ (by simpa [World.setCell] using hb), far3 _ _ _ _ _ _ _ h]
theorem heap_new {w : World} {o : Obj} {k : Nat} (h : k = w.1.size) : (w.alloc o).1[k]? = some o := by subst h; exact heap_alloc_new _ _
theorem heap_old {w : World} {o o' : Obj} {k : Nat} (h : k < w.1.size) (hk : w.1[k]? = some o') : (w.alloc o).1[k]? = some o' := (Below.heap_alloc _ _ _ h).trans hk
theorem heap_drew {w : World} {k : Nat} {o : Obj} (h : w.1[k]? = some o) : w.drew.1[k]? = some o := h
theorem heap_below {w w' : World} {B k : Nat} {o : Obj} (hb : Below B w w') (h : k < B) (hk : w.1[k]? = some o) : w'.1[k]? = some o := (hb.block k h).trans hk
theorem heap_set3 {w : World} {g : Nat} {a b c x y z : Value} {T : Nat} (h : w.1[g]? = some (.cells #[a, b, c] T (0, 0))) : (((w.setCell ⟨g, 0, none⟩ x).setCell ⟨g, 1, none⟩ y).setCell ⟨g, 2, none⟩ z).1[g]? = some (.cells #[x, y, z] T (0, 0)) := by
 have h1 := heap_setCell_same w g 0 _ _ x h
 have h2 := heap_setCell_same _ g 1 _ _ y h1
 have h3 := heap_setCell_same _ g 2 _ _ z h2
 rw [h3]; rfl
theorem heap_set3o {w : World} {g k : Nat} {x y z : Value} {o : Obj} (hk : k ≠ g) (h : w.1[k]? = some o) : (((w.setCell ⟨g, 0, none⟩ x).setCell ⟨g, 1, none⟩ y).setCell ⟨g, 2, none⟩ z).1[k]? = some o := by
 rw [Below.heap_setCell _ ⟨g, 2, none⟩ _ _ hk, Below.heap_setCell _ ⟨g, 1, none⟩ _ _ hk, Below.heap_setCell _ ⟨g, 0, none⟩ _ _ hk]; exact h
theorem own_set3 {w : World} {base e size n g : Nat} {v x y z : Value} {xs : List Value} (hne : v.ownBlock ≠ some g) (h : w.ownsRow base e size v n xs) : (((w.setCell ⟨g, 0, none⟩ x).setCell ⟨g, 1, none⟩ y).setCell ⟨g, 2, none⟩ z).ownsRow base e size v n xs :=
 ownsRow_setCell_other (a := ⟨g, 2, none⟩) (ownsRow_setCell_other (a := ⟨g, 1, none⟩) (ownsRow_setCell_other (a := ⟨g, 0, none⟩) h hne x) hne y) hne z
theorem own_al {w : World} {base e size n : Nat} {v : Value} {xs : List Value} {o : Obj} (h : w.ownsRow base e size v n xs) : (w.alloc o).ownsRow base e size v n xs := h.alloc o
theorem below_set3 {B : Nat} {w w' : World} {g : Nat} {x y z : Value} (hg : B ≤ g) (h : Below B w w') : Below B w (((w'.setCell ⟨g, 0, none⟩ x).setCell ⟨g, 1, none⟩ y).setCell ⟨g, 2, none⟩ z) :=
 ((h.setCell (p := ⟨g, 0, none⟩) hg x).setCell (p := ⟨g, 1, none⟩) hg y).setCell (p := ⟨g, 2, none⟩) hg z
theorem below_al {B : Nat} {w w' : World} {o : Obj} (hz : B ≤ w'.1.size) (h : Below B w w') : Below B w (w'.alloc o) := h.alloc hz o
theorem below_via {B B' : Nat} {w w1 w2 : World} (k : Below B' w1 w2) (hB : B ≤ B') (h : Below B w w1) : Below B w w2 := h.trans (k.mono hB)
def TStart (w0 : World) (ni nl ne : Nat) (xi xl : List Value) (p : Value) (wF : World) : Prop :=
 ∃ g AA cA AB cB r, p = .pointer (some ⟨g, 0, none⟩) ∧ wF.1[g]? = some (.cells #[.slice AA ni cA, .slice (some ⟨r, 0, none⟩) ne ne, .slice AB nl cB] 55 (0, 0)) ∧ wF.1[r]? = some (.cells (madeCells #[.slice none 0 0] ne) 81 (0, 0)) ∧
  wF.ownsRow w0.1.size 3 1 (.slice AA ni cA) ni xi ∧ wF.ownsRow w0.1.size 34 1 (.slice AB nl cB) nl xl ∧ Below w0.1.size w0 wF ∧ w0.1.size ≤ g ∧ w0.1.size ≤ r ∧ g ≠ r
theorem blk3 {w : World} {g T : Nat} {a b c : Value} (h : w.1[g]? = some (.cells #[a, b, c] T (0, 0))) : (w.cell? ⟨g, 0, none⟩ = some a ∧ w.cell? ⟨g, 1, none⟩ = some b ∧ w.cell? ⟨g, 2, none⟩ = some c) ∧ (w.frozen? ⟨g, 0, none⟩ = false ∧ w.frozen? ⟨g, 1, none⟩ = false ∧ w.frozen? ⟨g, 2, none⟩ = false) ∧ g < w.1.size :=
 ⟨⟨by rw [cell_of_row w g 0 _ _ _ h]; rfl, by rw [cell_of_row w g 1 _ _ _ h]; rfl, by rw [cell_of_row w g 2 _ _ _ h]; rfl⟩, ⟨frozen_of_row w g 0 _ _ h, frozen_of_row w g 1 _ _ h, frozen_of_row w g 2 _ _ h⟩, lt_of_block h⟩
def TRel (w0 : World) (g r ni nl ne : Nat) (AA : Option Addr) (cA : Nat) (AB : Option Addr) (cB : Nat) (xi xl : List Value) (R : List (List Nd)) (wr : World) : Prop :=
 ∃ vs, wr.1[g]? = some (.cells #[.slice AA ni cA, .slice (some ⟨r, 0, none⟩) ne ne, .slice AB nl cB] 55 (0, 0)) ∧ Own2 wr w0.1.size 83 81 2 (.slice (some ⟨r, 0, none⟩) ne ne) (R.map ncells) vs ∧
  wr.ownsRow w0.1.size 3 1 (.slice AA ni cA) ni xi ∧ wr.ownsRow w0.1.size 34 1 (.slice AB nl cB) nl xl ∧ Below w0.1.size w0 wr
theorem TRel.below {w0 w w' : World} {g r ni nl ne : Nat} {AA : Option Addr} {cA : Nat} {AB : Option Addr} {cB : Nat} {xi xl : List Value} {R : List (List Nd)} (h : TRel w0 g r ni nl ne AA cA AB cB xi xl R w) (hb : Below w.1.size w w') : TRel w0 g r ni nl ne AA cA AB cB xi xl R w' := by
 obtain ⟨vs, h1, h2, h3, h4, h5⟩ := h
 exact ⟨vs, (hb.block g (lt_of_block h1)).trans h1, h2.below hb, own_below h3 hb, own_below h4 hb, h5.trans (hb.mono h5.size)⟩
theorem TRel.put {w0 w w1 w2 : World} {g r ni nl ne : Nat} {AA : Option Addr} {cA : Nat} {AB : Option Addr} {cB : Nat} {xi xl : List Value} {R : List (List Nd)} {t n' : Nat} {u u' : Value} {vs : List Value} {ys : List Nd} {o : Obj}
  (h1 : w.1[g]? = some (.cells #[.slice AA ni cA, .slice (some ⟨r, 0, none⟩) ne ne, .slice AB nl cB] 55 (0, 0))) (h2 : Own2 w w0.1.size 83 81 2 (.slice (some ⟨r, 0, none⟩) ne ne) (R.map ncells) vs)
  (h3 : w.ownsRow w0.1.size 3 1 (.slice AA ni cA) ni xi) (h4 : w.ownsRow w0.1.size 34 1 (.slice AB nl cB) nl xl) (h5 : Below w0.1.size w0 w) (hw : w1 = w.alloc o) (hu : vs[t]? = some u) (huo : ∃ n ys, w.ownsRow w0.1.size 83 2 u n ys)
  (hown : w2.ownsRow w0.1.size 83 2 u' n' (ncells ys)) (ht : Tch (fun k => u.ownBlock = some k) w1 w2) (hat : u'.ownBlock = u.ownBlock ∨ u'.ownBlock = some w1.1.size) :
  TRel w0 g r ni nl ne AA cA AB cB xi xl (R.set t ys) (w2.setCell ⟨r, t, none⟩ u') := by
 obtain ⟨n0, ys0, ho⟩ := huo
 subst hw
 have ht' : Tch (fun k => u.ownBlock = some k) w w2 := Tch.trans ((Tch.refl _ w).alloc _) ht (fun _ _ h => h)
 obtain ⟨p1, p2⟩ := h2.put (te := 83) (tr := 81) (by decide) hu h5.size hown ht' (fun g' hg' => by
  rcases hat with h | h
  ·exact .inl (h ▸ hg')
  ·rw [h] at hg'; cases hg'; exact .inr (by simp))
 have hug : u.ownBlock ≠ some g := own_ne_blk ho h1 (by decide)
 have hgr : g ≠ r := fun e => own_ne_blk h2.main h1 (by decide) (by rw [e]; rfl)
 refine ⟨vs.set t u', ?_, ?_, ?_, ?_, ?_⟩
 ·exact p2.blk h1 (fun h => h.elim (fun h => hgr h) (fun h => hug h))
 ·rw [List.map_set]; exact p1
 ·exact own_tch h3 p2 (fun k hk hS => hS.elim (fun e => own_ne h3 h2.main (by decide) k hk (by rw [e]; rfl)) (fun e => own_ne h3 ho (by decide) k hk e))
 ·exact own_tch h4 p2 (fun k hk hS => hS.elim (fun e => own_ne h4 h2.main (by decide) k hk (by rw [e]; rfl)) (fun e => own_ne h4 ho (by decide) k hk e))
 ·refine h5.trans (p2.below h5.size (fun k hk hS => ?_))
  rcases hS with e | e
  ·have := (h2.main.lt r rfl).1; omega
  ·have := (ho.lt k e).1; omega
theorem Own2.len' {w : World} {base te tr size m cap : Nat} {A : Option Addr} {L : List (List Value)} {vs : List Value} (h : Own2 w base te tr size (.slice A m cap) L vs) : m = L.length := by
 obtain ⟨A', c, hv, _⟩ := own_sl h.main
 cases hv; rfl
theorem Own2.frozen {w : World} {base te tr size m cap g : Nat} {L : List (List Value)} {vs : List Value} (h : Own2 w base te tr size (.slice (some ⟨g, 0, none⟩) m cap) L vs) (t : Nat) : w.frozen? ⟨g, t, none⟩ = false := by
 have hl := h.len'
 have hm := h.main
 rw [← hl] at hm
 exact hm.frozenAt t
theorem TRel.grow {w0 w w1 w2 : World} {g r ni nl ne : Nat} {AA : Option Addr} {cA : Nat} {AB : Option Addr} {cB : Nat} {xi xl : List Value} {R : List (List Nd)} {t n n' : Nat} {u u' : Value} {vs ys0 : List Value} {ys : List Nd} {o : Obj}
  (h1 : w.1[g]? = some (.cells #[.slice AA ni cA, .slice (some ⟨r, 0, none⟩) ne ne, .slice AB nl cB] 55 (0, 0))) (h2 : Own2 w w0.1.size 83 81 2 (.slice (some ⟨r, 0, none⟩) ne ne) (R.map ncells) vs)
  (h3 : w.ownsRow w0.1.size 3 1 (.slice AA ni cA) ni xi) (h4 : w.ownsRow w0.1.size 34 1 (.slice AB nl cB) nl xl) (h5 : Below w0.1.size w0 w) (hw : w1 = w.alloc o) (hu : vs[t]? = some u) (huo : w.ownsRow w0.1.size 83 2 u n ys0)
  (hown : w2.ownsRow w0.1.size 83 2 u' n' (ncells ys)) (ht : Tch (fun k => u.ownBlock = some k) w1 w2) (hat : u'.ownBlock = u.ownBlock ∨ u'.ownBlock = some w1.1.size) :
  w2.cell? ⟨g, 1, none⟩ = some (.slice (some ⟨r, 0, none⟩) ne ne) ∧ w2.cell? ⟨r, t, none⟩ = some u ∧ w2.frozen? ⟨r, t, none⟩ = false ∧ (∀ b, b < w.1.size → (∀ g, u.ownBlock = some g → g ≠ b) → ∀ o, w2.cell? ⟨b, o, none⟩ = w.cell? ⟨b, o, none⟩) ∧
   TRel w0 g r ni nl ne AA cA AB cB xi xl (R.set t ys) (w2.setCell ⟨r, t, none⟩ u') := by
 have hp := TRel.put h1 h2 h3 h4 h5 hw hu ⟨n, ys0, huo⟩ hown ht hat
 subst hw
 have ht' : Tch (fun k => u.ownBlock = some k) w w2 := Tch.trans ((Tch.refl _ w).alloc _) ht (fun _ _ h => h)
 have hug : u.ownBlock ≠ some g := own_ne_blk huo h1 (by decide)
 have hm := own_tch h2.main ht' (fun k hk hk' => own_ne huo h2.main (by decide) k hk' hk)
 have hl := h2.len'
 have htl : t < vs.length := (gB.1 hu).1
 rw [h2.len] at htl
 rw [← hl] at hm
 refine ⟨(blk3 (ht'.blk h1 hug)).1.2.1, ?_, hm.frozenAt t, fun b hb hne o => ?_, hp⟩
 ·rw [hm.cellAt t (by omega)]; exact hu
 ·exact World.cell?_of_block (a := ⟨b, o, none⟩) (ht'.block b hb (fun h => hne b h rfl))
theorem TRel.start {w0 wF : World} {ni nl ne : Nat} {xi xl : List Value} {p : Value} (h : TStart w0 ni nl ne xi xl p wF) (hne : ne ≤ 1000000000) : ∃ g r AA cA AB cB, p = .pointer (some ⟨g, 0, none⟩) ∧ w0.1.size ≤ g ∧ TRel w0 g r ni nl ne AA cA AB cB xi xl (List.replicate ne []) wF := by
 obtain ⟨g, AA, cA, AB, cB, r, rfl, h1, h2, h3, h4, h5, h6, h7, h8⟩ := h
 refine ⟨g, r, AA, cA, AB, cB, rfl, h6, List.replicate ne (.slice none 0 0), h1, ?_, h3, h4, h5⟩
 rw [List.map_replicate, show ncells [] = [] from rfl]
 have hm : (madeCells #[Value.slice none 0 0] ne).toList = List.replicate ne (.slice none 0 0) := toList_madeCells_one _ _
 have hs : (madeCells #[Value.slice none 0 0] ne).size = ne := by have := congrArg List.length hm; simpa using this
 refine Own2.fresh ⟨by simp, .inr ⟨r, ne, _, rfl, h7, h2, lR, by unfold maxLen; omega, by rw [hs, Nat.mul_one], ?_⟩⟩
 rw [tL (by rw [Array.length_toList, hs]; omega)]
 exact hm
theorem tch_set3 {w : World} {g : Nat} {x y z : Value} : Tch (fun k => k = g) w (((w.setCell ⟨g, 0, none⟩ x).setCell ⟨g, 1, none⟩ y).setCell ⟨g, 2, none⟩ z) :=
 Tch.setCell (S := fun k => k = g) (p := ⟨g, 2, none⟩) (Tch.setCell (S := fun k => k = g) (p := ⟨g, 1, none⟩) (Tch.setCell (S := fun k => k = g) (p := ⟨g, 0, none⟩) (Tch.refl _ w) (fun _ => rfl) x) (fun _ => rfl) y) (fun _ => rfl) z
theorem TRel.done {w0 w : World} {g r ni nl ne q : Nat} {AA : Option Addr} {cA : Nat} {AB : Option Addr} {cB : Nat} {G : Gph} {x y z : Value} (h : TRel w0 g r ni nl ne AA cA AB cB (icells G.init) (G.labels.map (.int .u64)) G.edges w) (hq : q < w0.1.size) :
  GrRd (((w.setCell ⟨q, 0, none⟩ x).setCell ⟨q, 1, none⟩ y).setCell ⟨q, 2, none⟩ z) w.1.size AA ni cA (some ⟨r, 0, none⟩) ne ne AB nl cB G := by
 obtain ⟨vs, h1, h2, h3, h4, h5⟩ := h
 have k3 := own_set3 (g := q) (x := x) (y := y) (z := z) (fun e => by have := (h3.lt q e).1; omega) h3
 have k4 := own_set3 (g := q) (x := x) (y := y) (z := z) (fun e => by have := (h4.lt q e).1; omega) h4
 have k2 := h2.tch (tch_set3 (g := q) (x := x) (y := y) (z := z)) (fun k hk e => by have := (h2.main.lt k hk).1; omega) (fun j u k hu hk e => by have := (h2.rowlt hu k hk).1; omega)
 have hz : ((((w.setCell ⟨q, 0, none⟩ x).setCell ⟨q, 1, none⟩ y).setCell ⟨q, 2, none⟩ z)).1.size = w.1.size := by simp [World.setCell]
 obtain ⟨A1, c1, e1, s1⟩ := own_sl k3
 obtain ⟨A2, c2, e2, s2⟩ := own_sl k4
 obtain ⟨A3, c3, e3, s3⟩ := k2.sl2
 rw [hz] at s1 s2 s3
 cases e1; cases e2; cases e3
 exact ⟨s1, s3, s2⟩
theorem TRel.doneO {w0 w : World} {g r ni nl ne q : Nat} {AA : Option Addr} {cA : Nat} {AB : Option Addr} {cB : Nat} {xi xl : List Value} {R : List (List Nd)} {x y z : Value} (h : TRel w0 g r ni nl ne AA cA AB cB xi xl R w) (hq : q < w0.1.size) :
  ∃ vs, Own2 (((w.setCell ⟨q, 0, none⟩ x).setCell ⟨q, 1, none⟩ y).setCell ⟨q, 2, none⟩ z) w0.1.size 83 81 2 (.slice (some ⟨r, 0, none⟩) ne ne) (R.map ncells) vs := by
 obtain ⟨vs, h1, h2, h3, h4, h5⟩ := h
 exact ⟨vs, h2.tch (tch_set3 (g := q) (x := x) (y := y) (z := z)) (fun k hk e => by have := (h2.main.lt k hk).1; omega) (fun j u k hu hk e => by have := (h2.rowlt hu k hk).1; omega)⟩
def NewGr (w : World) (G' : Gph) (en : Ending) (w' : World) : Prop :=
 ∃ ai ni ci ae ne ce al nl cl, en = .returned (.agg #[.slice ai ni ci, .slice ae ne ce, .slice al nl cl]) ∧ GrRd w' w'.1.size ai ni ci ae ne ce al nl cl G' ∧ Below w.1.size w w' ∧ ∃ vs, Own2 w' w.1.size 83 81 2 (.slice ae ne ce) (G'.edges.map ncells) vs
theorem turn1_bd {n a : Nat} {R : List (List Nd)} {b : Nat} (h : ∀ t : Nat, (R.getD t []).length ≤ b) (e : Nd) : ∀ t : Nat, ((turn1 n a R e).getD t []).length ≤ b + 1 := by
 intro t
 unfold turn1
 split
 ·by_cases e1 : e.op.toNat = t
  ·by_cases e2 : t < R.length
   ·rw [e1, getD_set_same e2, lA]
    have := h t
    rw [List.length_singleton]
    omega
   ·rw [gD, List.getElem?_eq_none (by simpa using (by omega : R.length ≤ t))]
    simp
  ·rw [getD_set_ne' e1]
   have := h t
   omega
 ·have := h t
  omega
theorem turnF_bd {n a : Nat} : ∀ (l : List Nd) {R : List (List Nd)} {b : Nat}, (∀ t : Nat, (R.getD t []).length ≤ b) → ∀ t : Nat, ((l.foldl (turn1 n a) R).getD t []).length ≤ b + l.length
 | [], _, _, h => h
 | e :: l, _, _, h => fun t => by
  have := turnF_bd (n := n) (a := a) l (turn1_bd (n := n) (a := a) h e) t
  rw [List.foldl_cons, List.length_cons]
  omega
theorem turnTo_bd {n K : Nat} {E : List (List Nd)} (hK : ∀ l ∈ E, l.length ≤ K) : ∀ (k : Nat) (t : Nat), ((turnTo n E k).getD t []).length ≤ k * K
 | 0, t => by
  by_cases h : t < n <;> simp [turnTo, List.getD, h]
 | k + 1, t => by
  have := turnF_bd (n := n) (a := k) (E.getD k []) (turnTo_bd (n := n) hK k) t
  have hl : (E.getD k []).length ≤ K := by
   by_cases h : k < E.length
   ·simp only [List.getD, gE h, Option.getD_some]; exact hK _ (mM h)
   ·simp [List.getD, List.getElem?_eq_none (by omega : E.length ≤ k)]
  rw [turnTo, Nat.succ_mul]
  omega
theorem turnF_snoc {n a : Nat} {l : List Nd} {m : Nat} (hm : m < l.length) (R : List (List Nd)) : (l.take (m + 1)).foldl (turn1 n a) R = turn1 n a ((l.take m).foldl (turn1 n a) R) l[m] := by
 rw [take_snoc l m hm, List.foldl_append]; rfl
end Go.Proofs.YtiebpncpdbnelaaGreatDoor
namespace Go.Proofs.YtiebpncpdbnelaaGreatDoor
open Go.RowKit
def TRelR (w0 : World) (g r ni nl ne : Nat) (AA : Option Addr) (cA : Nat) (AB : Option Addr) (cB : Nat) (xi xl : List Value) (R : List (List Nd)) (wr : World) : Prop :=
 ∃ vs, wr.1[g]? = some (.cells #[.slice AA ni cA, .slice none 0 0, .slice AB nl cB] 55 (0, 0)) ∧ Own2 wr w0.1.size 83 81 2 (.slice (some ⟨r, 0, none⟩) ne ne) (R.map ncells) vs ∧
  wr.ownsRow w0.1.size 3 1 (.slice AA ni cA) ni xi ∧ wr.ownsRow w0.1.size 34 1 (.slice AB nl cB) nl xl ∧ Below w0.1.size w0 wr
theorem TRelR.below {w0 w w' : World} {g r ni nl ne : Nat} {AA : Option Addr} {cA : Nat} {AB : Option Addr} {cB : Nat} {xi xl : List Value} {R : List (List Nd)} (h : TRelR w0 g r ni nl ne AA cA AB cB xi xl R w) (hb : Below w.1.size w w') : TRelR w0 g r ni nl ne AA cA AB cB xi xl R w' := by
 obtain ⟨vs, h1, h2, h3, h4, h5⟩ := h
 exact ⟨vs, (hb.block g (lt_of_block h1)).trans h1, h2.below hb, own_below h3 hb, own_below h4 hb, h5.trans (hb.mono h5.size)⟩
theorem TRelR.put {w0 w w1 w2 : World} {g r ni nl ne : Nat} {AA : Option Addr} {cA : Nat} {AB : Option Addr} {cB : Nat} {xi xl : List Value} {R : List (List Nd)} {t n' : Nat} {u u' : Value} {vs : List Value} {ys : List Nd} {o : Obj}
  (h1 : w.1[g]? = some (.cells #[.slice AA ni cA, .slice none 0 0, .slice AB nl cB] 55 (0, 0))) (h2 : Own2 w w0.1.size 83 81 2 (.slice (some ⟨r, 0, none⟩) ne ne) (R.map ncells) vs)
  (h3 : w.ownsRow w0.1.size 3 1 (.slice AA ni cA) ni xi) (h4 : w.ownsRow w0.1.size 34 1 (.slice AB nl cB) nl xl) (h5 : Below w0.1.size w0 w) (hw : w1 = w.alloc o) (hu : vs[t]? = some u) (huo : ∃ n ys, w.ownsRow w0.1.size 83 2 u n ys)
  (hown : w2.ownsRow w0.1.size 83 2 u' n' (ncells ys)) (ht : Tch (fun k => u.ownBlock = some k) w1 w2) (hat : u'.ownBlock = u.ownBlock ∨ u'.ownBlock = some w1.1.size) :
  TRelR w0 g r ni nl ne AA cA AB cB xi xl (R.set t ys) (w2.setCell ⟨r, t, none⟩ u') := by
 obtain ⟨n0, ys0, ho⟩ := huo
 subst hw
 have ht' : Tch (fun k => u.ownBlock = some k) w w2 := Tch.trans ((Tch.refl _ w).alloc _) ht (fun _ _ h => h)
 obtain ⟨p1, p2⟩ := h2.put (te := 83) (tr := 81) (by decide) hu h5.size hown ht' (fun g' hg' => by
  rcases hat with h | h
  ·exact .inl (h ▸ hg')
  ·rw [h] at hg'; cases hg'; exact .inr (by simp))
 have hug : u.ownBlock ≠ some g := own_ne_blk ho h1 (by decide)
 have hgr : g ≠ r := fun e => own_ne_blk h2.main h1 (by decide) (by rw [e]; rfl)
 refine ⟨vs.set t u', ?_, ?_, ?_, ?_, ?_⟩
 ·exact p2.blk h1 (fun h => h.elim (fun h => hgr h) (fun h => hug h))
 ·rw [List.map_set]; exact p1
 ·exact own_tch h3 p2 (fun k hk hS => hS.elim (fun e => own_ne h3 h2.main (by decide) k hk (by rw [e]; rfl)) (fun e => own_ne h3 ho (by decide) k hk e))
 ·exact own_tch h4 p2 (fun k hk hS => hS.elim (fun e => own_ne h4 h2.main (by decide) k hk (by rw [e]; rfl)) (fun e => own_ne h4 ho (by decide) k hk e))
 ·refine h5.trans (p2.below h5.size (fun k hk hS => ?_))
  rcases hS with e | e
  ·have := (h2.main.lt r rfl).1; omega
  ·have := (ho.lt k e).1; omega
theorem TRelR.grow {w0 w w1 w2 : World} {g r ni nl ne : Nat} {AA : Option Addr} {cA : Nat} {AB : Option Addr} {cB : Nat} {xi xl : List Value} {R : List (List Nd)} {t n n' : Nat} {u u' : Value} {vs ys0 : List Value} {ys : List Nd} {o : Obj}
  (h1 : w.1[g]? = some (.cells #[.slice AA ni cA, .slice none 0 0, .slice AB nl cB] 55 (0, 0))) (h2 : Own2 w w0.1.size 83 81 2 (.slice (some ⟨r, 0, none⟩) ne ne) (R.map ncells) vs)
  (h3 : w.ownsRow w0.1.size 3 1 (.slice AA ni cA) ni xi) (h4 : w.ownsRow w0.1.size 34 1 (.slice AB nl cB) nl xl) (h5 : Below w0.1.size w0 w) (hw : w1 = w.alloc o) (hu : vs[t]? = some u) (huo : w.ownsRow w0.1.size 83 2 u n ys0)
  (hown : w2.ownsRow w0.1.size 83 2 u' n' (ncells ys)) (ht : Tch (fun k => u.ownBlock = some k) w1 w2) (hat : u'.ownBlock = u.ownBlock ∨ u'.ownBlock = some w1.1.size) :
  w2.cell? ⟨g, 1, none⟩ = some (.slice none 0 0) ∧ w2.cell? ⟨r, t, none⟩ = some u ∧ w2.frozen? ⟨r, t, none⟩ = false ∧ (∀ b, b < w.1.size → (∀ g, u.ownBlock = some g → g ≠ b) → ∀ o, w2.cell? ⟨b, o, none⟩ = w.cell? ⟨b, o, none⟩) ∧
   TRelR w0 g r ni nl ne AA cA AB cB xi xl (R.set t ys) (w2.setCell ⟨r, t, none⟩ u') := by
 have hp := TRelR.put h1 h2 h3 h4 h5 hw hu ⟨n, ys0, huo⟩ hown ht hat
 subst hw
 have ht' : Tch (fun k => u.ownBlock = some k) w w2 := Tch.trans ((Tch.refl _ w).alloc _) ht (fun _ _ h => h)
 have hug : u.ownBlock ≠ some g := own_ne_blk huo h1 (by decide)
 have hm := own_tch h2.main ht' (fun k hk hk' => own_ne huo h2.main (by decide) k hk' hk)
 have hl := h2.len'
 have htl : t < vs.length := (gB.1 hu).1
 rw [h2.len] at htl
 rw [← hl] at hm
 refine ⟨(blk3 (ht'.blk h1 hug)).1.2.1, ?_, hm.frozenAt t, fun b hb hne o => ?_, hp⟩
 ·rw [hm.cellAt t (by omega)]; exact hu
 ·exact World.cell?_of_block (a := ⟨b, o, none⟩) (ht'.block b hb (fun h => hne b h rfl))
theorem TRelR.start {w0 wF : World} {g ni nl ne : Nat} {AA : Option Addr} {cA : Nat} {AB : Option Addr} {cB : Nat} {xi xl : List Value} (h1 : wF.1[g]? = some (.cells #[.slice AA ni cA, .slice none 0 0, .slice AB nl cB] 55 (0, 0)))
  (h3 : wF.ownsRow w0.1.size 3 1 (.slice AA ni cA) ni xi) (h4 : wF.ownsRow w0.1.size 34 1 (.slice AB nl cB) nl xl) (h5 : Below w0.1.size w0 wF) (hne : ne ≤ 1000000000) :
  TRelR w0 g wF.1.size ni nl ne AA cA AB cB xi xl (List.replicate ne []) (wF.alloc (.cells (madeCells #[.slice none 0 0] ne) 81)) := by
 have hb : Below wF.1.size wF (wF.alloc (.cells (madeCells #[.slice none 0 0] ne) 81)) := (Below.refl _ wF).alloc lR _
 refine ⟨List.replicate ne (.slice none 0 0), (hb.block g (lt_of_block h1)).trans h1, ?_, own_below h3 hb, own_below h4 hb, h5.trans (hb.mono h5.size)⟩
 rw [List.map_replicate, show ncells [] = [] from rfl]
 have hm : (madeCells #[Value.slice none 0 0] ne).toList = List.replicate ne (.slice none 0 0) := toList_madeCells_one _ _
 have hs : (madeCells #[Value.slice none 0 0] ne).size = ne := by have := congrArg List.length hm; simpa using this
 refine Own2.fresh ⟨by simp, .inr ⟨wF.1.size, ne, _, rfl, h5.size, heap_alloc_new wF _, lR, by unfold maxLen; omega, by rw [hs, Nat.mul_one], ?_⟩⟩
 rw [tL (by rw [Array.length_toList, hs]; omega)]
 exact hm
theorem TRelR.close {w0 w : World} {g r ni nl ne : Nat} {AA : Option Addr} {cA : Nat} {AB : Option Addr} {cB : Nat} {xi xl : List Value} {R : List (List Nd)} (h : TRelR w0 g r ni nl ne AA cA AB cB xi xl R w) (hg : w0.1.size ≤ g) :
  TRel w0 g r ni nl ne AA cA AB cB xi xl R (w.setCell ⟨g, 1, none⟩ (.slice (some ⟨r, 0, none⟩) ne ne)) := by
 obtain ⟨vs, h1, h2, h3, h4, h5⟩ := h
 have ht : Tch (fun k => k = g) w (w.setCell ⟨g, 1, none⟩ (.slice (some ⟨r, 0, none⟩) ne ne)) := Tch.setCell (S := fun k => k = g) (p := ⟨g, 1, none⟩) (Tch.refl _ w) (fun _ => rfl) _
 refine ⟨vs, ?_, h2.tch ht (fun k hk e => ?_) (fun j u k hu hk e => ?_), own_tch h3 ht (fun k hk e => ?_), own_tch h4 ht (fun k hk e => ?_), h5.trans (ht.below h5.size (fun k hk e => by omega))⟩
 ·rw [heap_setCell_same w g 1 _ _ (.slice (some ⟨r, 0, none⟩) ne ne) h1]; rfl
 ·exact own_ne_blk h2.main h1 (by decide) (e ▸ hk)
 ·have hj : j < (R.map ncells).length := by rw [← h2.len]; exact (gB.1 hu).1
  obtain ⟨u', n, hu', ho⟩ := h2.row j _ (gE hj)
  rw [hu] at hu'; cases hu'
  exact own_ne_blk ho h1 (by decide) (e ▸ hk)
 ·exact own_ne_blk h3 h1 (by decide) (e ▸ hk)
 ·exact own_ne_blk h4 h1 (by decide) (e ▸ hk)
end Go.Proofs.YtiebpncpdbnelaaGreatDoor
namespace Go.Proofs.YtiebpncpdbnelaaGreatDoor
open Go.RowKit
theorem infoInt : (Tryz.prog.info? 3).map (fun i => (i.zero, i.size, i.bytes)) = some (some (.int .i64 0), 1, 8) := by kernel_rfl
theorem own_made {w : World} {base e n : Nat} {v : Value} (hb : base ≤ w.1.size) (hn : n ≤ maxLen) : (w.alloc (.cells (madeCells #[v] n) e)).ownsRow base e 1 (.slice (some ⟨w.1.size, 0, none⟩) n n) n (List.replicate n v) := by
 have hm : (madeCells #[v] n).toList = List.replicate n v := toList_madeCells_one _ _
 have hs : (madeCells #[v] n).size = n := by have := congrArg List.length hm; simpa using this
 refine ⟨by simp, .inr ⟨w.1.size, n, _, rfl, hb, heap_alloc_new w _, lR, hn, by rw [hs, Nat.mul_one], ?_⟩⟩
 rw [tL (by rw [Array.length_toList, hs]; omega)]
 exact hm
def VRel (w0 : World) (q ne : Nat) (v : Value) (s : List Bool × List Int) (wr : World) : Prop :=
 wr.ownsRow w0.1.size 4 1 (.slice (some ⟨q, 0, none⟩) ne ne) ne (s.1.map .bool) ∧ wr.ownsRow w0.1.size 3 1 v s.2.length (icells s.2) ∧ Below w0.1.size w0 wr
section
variable {w0 w w' w1 w2 : World} {q ne : Nat} {v : Value} {s : List Bool × List Int}
theorem VRel.below (h : VRel w0 q ne v s w) (hb : Below w.1.size w w') : VRel w0 q ne v s w' :=
 ⟨own_below h.1 hb, own_below h.2.1 hb, h.2.2.trans (hb.mono h.2.2.size)⟩
theorem VRel.start (hne : ne ≤ maxLen) : VRel w0 w0.1.size ne (.slice none 0 0) (List.replicate ne false, []) (w0.alloc (.cells (madeCells #[.bool false] ne) 4)) :=
 ⟨by rw [List.map_replicate]; exact own_made lR hne, World.ownsRow_nil _ _ _ _, bR.alloc lR _⟩
theorem own_marks {l : List Bool} {t : Nat} (h : w.ownsRow w0.1.size 4 1 (.slice (some ⟨q, 0, none⟩) ne ne) ne (l.map .bool)) (ht : t < ne) : w.cell? ⟨q, t, none⟩ = some (.bool (l.getD t false)) ∧ w.frozen? ⟨q, t, none⟩ = false ∧ q < w.1.size ∧ w0.1.size ≤ q := by
 have hl : l.length = ne := by have := h.1; simpa using this
 refine ⟨?_, h.frozenAt t, (h.lt q rfl).2, (h.lt q rfl).1⟩
 rw [h.cellAt t (by omega)]
 exact bcells'_at (by omega)
theorem own_mark {l : List Bool} {t : Nat} (h : w.ownsRow w0.1.size 4 1 (.slice (some ⟨q, 0, none⟩) ne ne) ne (l.map .bool)) :
  (w.setCell ⟨q, t, none⟩ (.bool true)).ownsRow w0.1.size 4 1 (.slice (some ⟨q, 0, none⟩) ne ne) ne ((l.set t true).map .bool) := by
 have := h.stored t (.bool true)
 rw [List.map_set]; exact this.1
theorem VRel.mark {t : Nat} (h : VRel w0 q ne v s w) : (w.setCell ⟨q, t, none⟩ (.bool true)).ownsRow w0.1.size 4 1 (.slice (some ⟨q, 0, none⟩) ne ne) ne ((s.1.set t true).map .bool) ∧
  (w.setCell ⟨q, t, none⟩ (.bool true)).ownsRow w0.1.size 3 1 v s.2.length (icells s.2) ∧ Below w0.1.size w0 (w.setCell ⟨q, t, none⟩ (.bool true)) := by
 have ht : Tch (fun k => k = q) w (w.setCell ⟨q, t, none⟩ (.bool true)) := Tch.setCell (S := fun k => k = q) (p := ⟨q, t, none⟩) (Tch.refl _ w) (fun _ => rfl) _
 exact ⟨own_mark h.1, own_tch h.2.1 ht (fun k hk e => own_ne h.2.1 h.1 (by decide) k hk (by rw [e]; rfl)), h.2.2.setCell (p := ⟨q, t, none⟩) (h.1.lt q rfl).1 _⟩
theorem VRel.open {t : Nat} {v' : Value} {o : Obj} (hm : w.ownsRow w0.1.size 4 1 (.slice (some ⟨q, 0, none⟩) ne ne) ne ((s.1.set t true).map .bool)) (ho : w.ownsRow w0.1.size 3 1 v s.2.length (icells s.2)) (hb : Below w0.1.size w0 w)
  (hw : w1 = w.alloc o) (hown : w2.ownsRow w0.1.size 3 1 v' (s.2.length + 1) (icells s.2 ++ [.int .i64 t])) (ht : Tch (fun k => v.ownBlock = some k) w1 w2) :
  VRel w0 q ne v' (s.1.set t true, s.2 ++ [(t : Int)]) w2 := by
 subst hw
 have ht' : Tch (fun k => v.ownBlock = some k) w w2 := Tch.trans ((Tch.refl _ w).alloc _) ht (fun _ _ h => h)
 refine ⟨own_tchE hm ho ht' (by decide), ?_, below_tchE hb ho ht' lR⟩
 rw [icells_append, lA]
 exact hown
theorem vis_out {n : Nat} {x : Int} (h : isNd n x = false) : vis n s x = s := by rw [vis, if_neg (by rw [h]; simp)]
theorem vis_old {n t : Nat} (h : s.1.getD t false = true) (hl : t < s.1.length) : vis n s (t : Int) = s := by
 rw [vis, if_neg]
 simp only [List.getD, tN, gE hl, Option.getD_some] at h ⊢
 simp [h]
theorem vis_new {n t : Nat} (hn : isNd n (t : Int) = true) (h : s.1.getD t false = false) (hl : t < s.1.length) : vis n s (t : Int) = (s.1.set t true, s.2 ++ [(t : Int)]) := by
 rw [vis, if_pos]
 ·simp
 ·refine ⟨hn, ?_⟩
  simp only [List.getD, tN, gE hl, Option.getD_some] at h ⊢
  exact h
end
theorem vF_snoc {n : Nat} {l : List Int} {k : Nat} (hk : k < l.length) (s : List Bool × List Int) : (l.take (k + 1)).foldl (vis n) s = vis n ((l.take k).foldl (vis n) s) l[k] := by
 rw [take_snoc l k hk, List.foldl_append]; rfl
theorem tgts_at {l : List Nd} {k : Nat} (hk : k < l.length) : (tgts l)[k]'(by rw [tgts, List.length_map]; exact hk) = l[k].op := by simp [tgts]
theorem tF_snoc {n : Nat} {l : List Nd} {k : Nat} (hk : k < l.length) (s : List Bool × List Int) : ((tgts l).take (k + 1)).foldl (vis n) s = vis n (((tgts l).take k).foldl (vis n) s) l[k].op := by
 rw [vF_snoc (by rw [tgts, List.length_map]; exact hk), tgts_at]
theorem fold_len_le {n : Nat} (l : List Int) (s : List Bool × List Int) : s.2.length ≤ (l.foldl (vis n) s).2.length := by
 obtain ⟨r, hr⟩ := fold_grow (n := n) l s
 rw [hr, lA]; omega
end Go.Proofs.YtiebpncpdbnelaaGreatDoor
namespace Go.Proofs.YtiebpncpdbnelaaGreatDoor
open Go.RowKit
theorem own_setCells {base e c n g : Nat} : ∀ (vs : List Value) (o : Nat) {w : World} {xs : List Value}, w.ownsRow base e 1 (.slice (some ⟨g, 0, none⟩) n c) n xs → o + vs.length ≤ n →
  (w.setCells g o vs).ownsRow base e 1 (.slice (some ⟨g, 0, none⟩) n c) n (xs.take o ++ vs ++ xs.drop (o + vs.length)) ∧ Tch (fun k => k = g) w (w.setCells g o vs)
 | [], o, w, xs, h, _ => by
  refine ⟨?_, Tch.refl _ _⟩
  simpa [World.setCells] using h
 | v :: vs, o, w, xs, h, hl => by
  have hx : xs.length = n := by have := h.1; omega
  simp only [List.length_cons] at hl
  have h1 := (h.stored o v).1
  obtain ⟨h2, h3⟩ := own_setCells vs (o + 1) h1 (by omega)
  refine ⟨?_, Tch.trans (Tch.setCell (S := fun k => k = g) (p := ⟨g, o, none⟩) (Tch.refl _ w) (fun _ => rfl) v) h3 (fun _ _ h => h)⟩
  rw [World.setCells]
  have e1 : (xs.set o v).take (o + 1) ++ vs ++ (xs.set o v).drop (o + 1 + vs.length) = xs.take o ++ v :: vs ++ xs.drop (o + (v :: vs).length) := by
   rw [List.drop_set_of_lt (by omega), List.take_succ_eq_append_getElem (by simp; omega), List.getElem_set_self, List.take_set_of_le (by omega)]
   simp only [List.append_assoc, List.cons_append, List.nil_append, List.length_cons]
   rw [show o + 1 + vs.length = o + (vs.length + 1) by omega]
  rw [← e1]; exact h2
theorem setCells_drew (g : Nat) : ∀ (vs : List Value) (o : Nat) (w : World), w.drew.setCells g o vs = (w.setCells g o vs).drew
 | [], _, _ => rfl
 | v :: vs, o, w => by rw [World.setCells, World.setCell_drew, setCells_drew g vs]; rfl
def DelRow (w : World) (base g n c : Nat) (xs : List Value) (en : Ending) (w' : World) : Prop :=
 en = .returned (.slice (some ⟨g, 0, none⟩) n c) ∧ w'.ownsRow base 3 1 (.slice (some ⟨g, 0, none⟩) n c) n xs ∧ Tch (fun k => k = g) w w'
theorem delete1_any (base g c n : Nat) (x : Value) (xs : List Value) (w : World) (hn : n = xs.length) (h1 : ∀ u ∈ xs, u.oneCell' = true) (h : w.ownsRow base 3 1 (.slice (some ⟨g, 0, none⟩) (n + 1) c) (n + 1) (x :: xs)) :
  Calls Tryz.prog 92 #[.slice (some ⟨g, 0, none⟩) (n + 1) c, .int .i64 0, .int .i64 1] w (DelRow w base g n c xs) := by
 obtain ⟨_, _, hv, hcap, hmax, _⟩ := own_any h
 cases hv
 unfold maxLen at hmax
 obtain ⟨i0, hi0, hz0, hz1, hz2⟩ := info_parts infoInt
 have hsz : (x :: xs).length = n + 1 := by simp [hn]
 obtain ⟨A, hA, hsrc⟩ : ∃ A : Addr, (if c = 1 then some (⟨g, 0, none⟩ : Addr) else some ⟨g, 1, none⟩) = some A ∧ Hid (∀ t u, xs[t]? = some u → w.drew.cell? (A.add t) = some u) := by
  by_cases hc : c = 1
  ·refine ⟨⟨g, 0, none⟩, by simp [hc], fun t u hu => ?_⟩
   have h0 : xs.length = 0 := by omega
   rw [List.length_eq_zero_iff.1 h0] at hu
   simp at hu
  ·refine ⟨⟨g, 1, none⟩, by simp [hc], fun t u hu => ?_⟩
   have ht : t < xs.length := (gB.1 hu).1
   rw [Addr.add_lit, show 1 + t = t + 1 by omega]
   show w.cell? _ = _
   rw [h.cellAt (t + 1) (by omega)]
   simpa using hu
 have s1 : Hid (xs.length = n * 1) := by show _ = _; omega
 have s2 : Hid (∀ u ∈ xs, u.oneCell' = true) := h1
 have s3 : Hid (∀ t, t < xs.length → (w.drew.cell? ⟨g, 0 + 0 * 1 + t, none⟩).isSome = true ∧ w.drew.frozen? ⟨g, 0 + 0 * 1 + t, none⟩ = false) := by
  intro t ht
  rw [show 0 + 0 * 1 + t = t by omega]
  refine ⟨?_, h.frozenAt t⟩
  show (w.cell? _).isSome = true
  rw [h.cellAt t (by omega)]
  simp [show t < xs.length + 1 by omega]
 obtain ⟨W1, hW1⟩ := xR (w.drew.setCells g (0 + 0 * 1) xs)
 obtain ⟨p1, p2⟩ := own_setCells xs 0 h (by omega)
 have p1' : W1.ownsRow base 3 1 (.slice (some ⟨g, 0, none⟩) (n + 1) c) (n + 1) (xs ++ (x :: xs).drop xs.length) := by
  have := p1
  simp only [List.take_zero, List.nil_append, Nat.zero_add] at this
  rw [hW1, setCells_drew]
  exact this
 have p2' : Tch (fun k => k = g) w W1 := by rw [hW1, setCells_drew]; exact Tch.drewN p2 1
 obtain ⟨q1, q2⟩ := own_setCells [.int .i64 0] n p1' (by simp)
 have hcl : ∀ ty, (Builtin.clear_ #[22] ty #[.slice (some ⟨g, n, none⟩) 1 (c - n)]).run Tryz.prog W1 = .ok (.tuple #[]) (W1.setCells g n [.int .i64 0]) := fun ty => by
  have hvz : ∀ w, (zeroValue 3).run Tryz.prog w = .ok (.int .i64 0) w := fun w => by
   simp [zeroValue, go_sem, typeInfo, hi0, hz0]
  exact Lib.run_clear_slice W1 _ _ ty (.int .i64 0) Tryz.underlying22 hvz rfl rfl g n 1 _ (by omega)
   (fun t ht => by rw [p1'.cellAt (n + t) (by omega)]; simp; omega) (fun t ht => p1'.frozenAt (n + t))
 have hcn : ¬ c = n := by omega
 have hfin : DelRow w base g n c xs (.returned (.slice (some ⟨g, 0, none⟩) n c)) (W1.setCells g n [.int .i64 0]) := by
  refine ⟨rfl, ?_, Tch.trans p2' q2 (fun _ _ h => h)⟩
  have := own_cut (k := n) q1 (by omega)
  rw [Nat.mul_one] at this
  rw [List.append_assoc, List.take_append_of_le_length (by simp [hn]), List.take_take, Nat.min_self, List.take_append_of_le_length (by omega), tL (by omega)] at this
  exact this
 have HF := dh hfin
 have HA := dh hA
 have HW : Hid (W1 = w.drew.setCells g (0 + 0 * 1) xs) := hW1
 have e1 : (1 : Int) ≤ (n : Int) + 1 := by omega
 clear hfin p1 p2 p1' p2' q1 q2 hW1 h hz2 hsz h1 hn
 go_enter Tryz.func92, Tryz.ntmps92
 go_wp2_with fail
 refine wp_region_held_drew (S := fun w' => True) (by kernel_rfl) trivial (fun hS => ?_)
 refine tkH 0 ?_
 refine tkH 1 ?_
 refine tkH 2 ?_
 refine tkH 3 ?_
 refine tkH 4 ?_
 refine tkH 5 ?_
 refine oneH 6 (fun K hK => ?_)
 refine step_append_room rfl (.tmp 22) (.tmp 25) 22 rfl 3 i0 1 Tryz.underlying22 hi0 hz1 g 0 0 c (by simp [Act.eval]) A n (c - 1) xs (by simp [Act.eval]) s1.out hsrc.out s2.out (by omega) s3.out ?_
 rw [← HW.out, Nat.zero_add]
 refine hK.out _ _ trivial (fun hS => ?_)
 clear hK
 refine tkH 7 ?_
 try simp only [Act.put, List.setIfInBounds_toArray, List.set_cons_zero]
 refine wpAnyH_done (by kernel_rfl) ?_ _
 clear hS
 go_wp2
 go_ret
 exact HF.out
end Go.Proofs.YtiebpncpdbnelaaGreatDoor
