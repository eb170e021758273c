/- Texts of one kind, in one file. -/
import Derived.Test.YtfpncpjdmgfkbaaGr4
import Derived.Test.YtfpncpjdmgfkbaaMd
import Derived.OwnWalk
import Derived.Deep.OwnRows
import Derived.Deep.DeepCutAuto
import Derived.Test.YtfpncpjdmgfkbaaMe
import Derived.Test.YtfpncpjdmgfkbaaGr3

/- (XGrM) Words for graphs that are made row by row. -/
namespace Go.Proofs.Ytfpncpjdmgfkbaa
open Go.RowKit

theorem sliceRowsE : SliceT Try.prog 23 34 1 24 :=
  SliceT.mk (z := .slice none 0 0) Try.underlying23 (by kernel_rfl) (by decide) (by decide)
theorem sliceEd : SliceT Try.prog 34 42 2 16 :=
  SliceT.mk (z := .agg #[.int .i64 0, .int .i64 0]) Try.underlying34 (by kernel_rfl) (by decide) (by decide)
theorem infoRowE : (Try.prog.info? 34).map (fun i => (i.zero, i.size, i.bytes)) = some (some (.slice none 0 0), 1, 24) := by kernel_rfl
theorem made_rows (n : Nat) : (madeCells (Value.slice none 0 0).cells (n * 1)).toList = List.replicate n (.slice none 0 0) := by
  rw [Nat.mul_one, show (Value.slice none 0 0).cells = #[.slice none 0 0] from rfl, toList_madeCells_one]

theorem bcell {W w1 : World} (hb : Below W.heap.size W w1) : (∀ b o, b < W.heap.size → w1.cell? ⟨b, o, none⟩ = W.cell? ⟨b, o, none⟩) ∧ (∀ b o, b < W.heap.size → w1.frozen? ⟨b, o, none⟩ = W.frozen? ⟨b, o, none⟩) :=
  ⟨fun b o h => hb.cell (p := ⟨b, o, none⟩) h, fun b o h => hb.frozen (p := ⟨b, o, none⟩) h⟩
theorem far3 (w : World) (g b o : Nat) (x y z : Value) (h : g ≠ b) : (((w.setCell ⟨g, 0, none⟩ x).setCell ⟨g, 1, none⟩ y).setCell ⟨g, 2, none⟩ z).cell? ⟨b, o, none⟩ = w.cell? ⟨b, o, none⟩ := by
  rw [World.cell?_setCell_far _ _ _ _ h, World.cell?_setCell_far _ _ _ _ h, World.cell?_setCell_far _ _ _ _ h]
theorem far3a (w : World) (g b o : Nat) (x y z : Value) (X : Obj) (h : g ≠ b) (hb : b < w.heap.size) : ((((w.setCell ⟨g, 0, none⟩ x).setCell ⟨g, 1, none⟩ y).setCell ⟨g, 2, none⟩ z).alloc X).cell? ⟨b, o, none⟩ = w.cell? ⟨b, o, none⟩ := by
  rw [World.cell?_alloc_lt _ _ _ (by simpa [World.setCell] using hb), far3 _ _ _ _ _ _ _ h]
theorem heap_new {w : World} {o : Obj} {k : Nat} (h : k = w.heap.size) : (w.alloc o).heap[k]? = some o := by subst h; exact heap_alloc_new _ _
theorem heap_old {w : World} {o o' : Obj} {k : Nat} (h : k < w.heap.size) (hk : w.heap[k]? = some o') : (w.alloc o).heap[k]? = some o' := (Below.heap_alloc _ _ _ h).trans hk
theorem heap_drew {w : World} {k : Nat} {o : Obj} (h : w.heap[k]? = some o) : w.drew.heap[k]? = some o := h
theorem heap_below {w w' : World} {B k : Nat} {o : Obj} (hb : Below B w w') (h : k < B) (hk : w.heap[k]? = some o) : w'.heap[k]? = some o := (hb.block k h).trans hk
theorem heap_set3 {w : World} {g : Nat} {a b c x y z : Value} {T : Nat} (h : w.heap[g]? = some (.cells #[a, b, c] T (0, 0))) : (((w.setCell ⟨g, 0, none⟩ x).setCell ⟨g, 1, none⟩ y).setCell ⟨g, 2, none⟩ z).heap[g]? = some (.cells #[x, y, z] T (0, 0)) := by
  have h1 := heap_setCell_same w g 0 _ _ x h
  have h2 := heap_setCell_same _ g 1 _ _ y h1
  have h3 := heap_setCell_same _ g 2 _ _ z h2
  rw [h3]; rfl
theorem heap_set3o {w : World} {g k : Nat} {x y z : Value} {o : Obj} (hk : k ≠ g) (h : w.heap[k]? = some o) : (((w.setCell ⟨g, 0, none⟩ x).setCell ⟨g, 1, none⟩ y).setCell ⟨g, 2, none⟩ z).heap[k]? = some o := by
  rw [Below.heap_setCell _ ⟨g, 2, none⟩ _ _ hk, Below.heap_setCell _ ⟨g, 1, none⟩ _ _ hk, Below.heap_setCell _ ⟨g, 0, none⟩ _ _ hk]; exact h
theorem own_set3 {w : World} {base e size n g : Nat} {v x y z : Value} {xs : List Value} (hne : v.ownBlock ≠ some g) (h : w.ownsRow base e size v n xs) : (((w.setCell ⟨g, 0, none⟩ x).setCell ⟨g, 1, none⟩ y).setCell ⟨g, 2, none⟩ z).ownsRow base e size v n xs :=
  ownsRow_setCell_other (a := ⟨g, 2, none⟩) (ownsRow_setCell_other (a := ⟨g, 1, none⟩) (ownsRow_setCell_other (a := ⟨g, 0, none⟩) h hne x) hne y) hne z
theorem own_al {w : World} {base e size n : Nat} {v : Value} {xs : List Value} {o : Obj} (h : w.ownsRow base e size v n xs) : (w.alloc o).ownsRow base e size v n xs := h.alloc o
theorem own_bel {w w' : World} {base e size n : Nat} {v : Value} {xs : List Value} {B : Nat} (hb : Below B w w') (hB : w.heap.size ≤ B) (h : w.ownsRow base e size v n xs) : w'.ownsRow base e size v n xs :=
  own_tch h (Tch.of_below hb) (fun g hg => by have := (h.lt g hg).2; omega)
theorem below_set3 {B : Nat} {w w' : World} {g : Nat} {x y z : Value} (hg : B ≤ g) (h : Below B w w') : Below B w (((w'.setCell ⟨g, 0, none⟩ x).setCell ⟨g, 1, none⟩ y).setCell ⟨g, 2, none⟩ z) :=
  ((h.setCell (p := ⟨g, 0, none⟩) hg x).setCell (p := ⟨g, 1, none⟩) hg y).setCell (p := ⟨g, 2, none⟩) hg z
theorem below_al {B : Nat} {w w' : World} {o : Obj} (hz : B ≤ w'.heap.size) (h : Below B w w') : Below B w (w'.alloc o) := h.alloc hz o
theorem below_via {B B' : Nat} {w w1 w2 : World} (k : Below B' w1 w2) (hB : B ≤ B') (h : Below B w w1) : Below B w w2 := h.trans (k.mono hB)

/-- A new struct with two rows cloned and a row of nil rows. -/
def TStart (w0 : World) (ni nl ne : Nat) (xi xl : List Value) (p : Value) (wF : World) : Prop :=
  ∃ g AA cA AB cB r, p = .pointer (some ⟨g, 0, none⟩) ∧ wF.heap[g]? = some (.cells #[.slice AA ni cA, .slice (some ⟨r, 0, none⟩) ne ne, .slice AB nl cB] 26 (0, 0)) ∧ wF.heap[r]? = some (.cells (madeCells #[.slice none 0 0] ne) 34 (0, 0)) ∧
    wF.ownsRow w0.heap.size 3 1 (.slice AA ni cA) ni xi ∧ wF.ownsRow w0.heap.size 60 1 (.slice AB nl cB) nl xl ∧ Below w0.heap.size w0 wF ∧ w0.heap.size ≤ g ∧ w0.heap.size ≤ r ∧ g ≠ r

theorem blk3 {w : World} {g T : Nat} {a b c : Value} (h : w.heap[g]? = some (.cells #[a, b, c] T (0, 0))) : (w.cell? ⟨g, 0, none⟩ = some a ∧ w.cell? ⟨g, 1, none⟩ = some b ∧ w.cell? ⟨g, 2, none⟩ = some c) ∧ (w.frozen? ⟨g, 0, none⟩ = false ∧ w.frozen? ⟨g, 1, none⟩ = false ∧ w.frozen? ⟨g, 2, none⟩ = false) ∧ g < w.heap.size :=
  ⟨⟨by rw [cell_of_row w g 0 _ _ _ h]; rfl, by rw [cell_of_row w g 1 _ _ _ h]; rfl, by rw [cell_of_row w g 2 _ _ _ h]; rfl⟩, ⟨frozen_of_row w g 0 _ _ h, frozen_of_row w g 1 _ _ h, frozen_of_row w g 2 _ _ h⟩, lt_of_block h⟩
/-- The struct under way: its rows of edges are R. -/
def TRel (w0 : World) (g r ni nl ne : Nat) (AA : Option Addr) (cA : Nat) (AB : Option Addr) (cB : Nat) (xi xl : List Value) (R : List (List Nd)) (wr : World) : Prop :=
  ∃ vs, wr.heap[g]? = some (.cells #[.slice AA ni cA, .slice (some ⟨r, 0, none⟩) ne ne, .slice AB nl cB] 26 (0, 0)) ∧ Own2 wr w0.heap.size 42 34 2 (.slice (some ⟨r, 0, none⟩) ne ne) (R.map ncells) vs ∧
    wr.ownsRow w0.heap.size 3 1 (.slice AA ni cA) ni xi ∧ wr.ownsRow w0.heap.size 60 1 (.slice AB nl cB) nl xl ∧ Below w0.heap.size w0 wr
theorem TRel.below {w0 w w' : World} {g r ni nl ne : Nat} {AA : Option Addr} {cA : Nat} {AB : Option Addr} {cB : Nat} {xi xl : List Value} {R : List (List Nd)} (h : TRel w0 g r ni nl ne AA cA AB cB xi xl R w) (hb : Below w.heap.size w w') : TRel w0 g r ni nl ne AA cA AB cB xi xl R w' := by
  obtain ⟨vs, h1, h2, h3, h4, h5⟩ := h
  exact ⟨vs, (hb.block g (lt_of_block h1)).trans h1, h2.below hb, own_below h3 hb, own_below h4 hb, h5.trans (hb.mono h5.size)⟩
/-- An edge more behind row t. -/
theorem TRel.put {w0 w w1 w2 : World} {g r ni nl ne : Nat} {AA : Option Addr} {cA : Nat} {AB : Option Addr} {cB : Nat} {xi xl : List Value} {R : List (List Nd)} {t n' : Nat} {u u' : Value} {vs : List Value} {ys : List Nd} {o : Obj}
    (h1 : w.heap[g]? = some (.cells #[.slice AA ni cA, .slice (some ⟨r, 0, none⟩) ne ne, .slice AB nl cB] 26 (0, 0))) (h2 : Own2 w w0.heap.size 42 34 2 (.slice (some ⟨r, 0, none⟩) ne ne) (R.map ncells) vs)
    (h3 : w.ownsRow w0.heap.size 3 1 (.slice AA ni cA) ni xi) (h4 : w.ownsRow w0.heap.size 60 1 (.slice AB nl cB) nl xl) (h5 : Below w0.heap.size w0 w) (hw : w1 = w.alloc o) (hu : vs[t]? = some u) (huo : ∃ n ys, w.ownsRow w0.heap.size 42 2 u n ys)
    (hown : w2.ownsRow w0.heap.size 42 2 u' n' (ncells ys)) (ht : Tch (fun k => u.ownBlock = some k) w1 w2) (hat : u'.ownBlock = u.ownBlock ∨ u'.ownBlock = some w1.heap.size) :
    TRel w0 g r ni nl ne AA cA AB cB xi xl (R.set t ys) (w2.setCell ⟨r, t, none⟩ u') := by
  obtain ⟨n0, ys0, ho⟩ := huo
  subst hw
  have ht' : Tch (fun k => u.ownBlock = some k) w w2 := Tch.trans ((Tch.refl _ w).alloc _) ht (fun _ _ h => h)
  obtain ⟨p1, p2⟩ := h2.put (te := 42) (tr := 34) (by decide) hu h5.size hown ht' (fun g' hg' => by
    rcases hat with h | h
    · exact .inl (h ▸ hg')
    · rw [h] at hg'; cases hg'; exact .inr (by simp))
  have hug : u.ownBlock ≠ some g := own_ne_blk ho h1 (by decide)
  have hgr : g ≠ r := fun e => own_ne_blk h2.main h1 (by decide) (by rw [e]; rfl)
  refine ⟨vs.set t u', ?_, ?_, ?_, ?_, ?_⟩
  · exact p2.blk h1 (fun h => h.elim (fun h => hgr h) (fun h => hug h))
  · rw [List.map_set]; exact p1
  · exact own_tch h3 p2 (fun k hk hS => hS.elim (fun e => own_ne h3 h2.main (by decide) k hk (by rw [e]; rfl)) (fun e => own_ne h3 ho (by decide) k hk e))
  · exact own_tch h4 p2 (fun k hk hS => hS.elim (fun e => own_ne h4 h2.main (by decide) k hk (by rw [e]; rfl)) (fun e => own_ne h4 ho (by decide) k hk e))
  · refine h5.trans (p2.below h5.size (fun k hk hS => ?_))
    rcases hS with e | e
    · have := (h2.main.lt r rfl).1; omega
    · have := (ho.lt k e).1; omega
theorem Own2.len' {w : World} {base te tr size m cap : Nat} {A : Option Addr} {L : List (List Value)} {vs : List Value} (h : Own2 w base te tr size (.slice A m cap) L vs) : m = L.length := by
  obtain ⟨A', c, hv, _⟩ := own_sl h.main
  cases hv; rfl
theorem Own2.frozen {w : World} {base te tr size m cap g : Nat} {L : List (List Value)} {vs : List Value} (h : Own2 w base te tr size (.slice (some ⟨g, 0, none⟩) m cap) L vs) (t : Nat) : w.frozen? ⟨g, t, none⟩ = false := by
  have hl := h.len'
  have hm := h.main
  rw [← hl] at hm
  exact hm.frozenAt t
/-- Behind the append, ahead of the store. -/
theorem TRel.grow {w0 w w1 w2 : World} {g r ni nl ne : Nat} {AA : Option Addr} {cA : Nat} {AB : Option Addr} {cB : Nat} {xi xl : List Value} {R : List (List Nd)} {t n n' : Nat} {u u' : Value} {vs ys0 : List Value} {ys : List Nd} {o : Obj}
    (h1 : w.heap[g]? = some (.cells #[.slice AA ni cA, .slice (some ⟨r, 0, none⟩) ne ne, .slice AB nl cB] 26 (0, 0))) (h2 : Own2 w w0.heap.size 42 34 2 (.slice (some ⟨r, 0, none⟩) ne ne) (R.map ncells) vs)
    (h3 : w.ownsRow w0.heap.size 3 1 (.slice AA ni cA) ni xi) (h4 : w.ownsRow w0.heap.size 60 1 (.slice AB nl cB) nl xl) (h5 : Below w0.heap.size w0 w) (hw : w1 = w.alloc o) (hu : vs[t]? = some u) (huo : w.ownsRow w0.heap.size 42 2 u n ys0)
    (hown : w2.ownsRow w0.heap.size 42 2 u' n' (ncells ys)) (ht : Tch (fun k => u.ownBlock = some k) w1 w2) (hat : u'.ownBlock = u.ownBlock ∨ u'.ownBlock = some w1.heap.size) :
    w2.cell? ⟨g, 1, none⟩ = some (.slice (some ⟨r, 0, none⟩) ne ne) ∧ w2.cell? ⟨r, t, none⟩ = some u ∧ w2.frozen? ⟨r, t, none⟩ = false ∧ (∀ b, b < w.heap.size → (∀ g, u.ownBlock = some g → g ≠ b) → ∀ o, w2.cell? ⟨b, o, none⟩ = w.cell? ⟨b, o, none⟩) ∧
      TRel w0 g r ni nl ne AA cA AB cB xi xl (R.set t ys) (w2.setCell ⟨r, t, none⟩ u') := by
  have hp := TRel.put h1 h2 h3 h4 h5 hw hu ⟨n, ys0, huo⟩ hown ht hat
  subst hw
  have ht' : Tch (fun k => u.ownBlock = some k) w w2 := Tch.trans ((Tch.refl _ w).alloc _) ht (fun _ _ h => h)
  have hug : u.ownBlock ≠ some g := own_ne_blk huo h1 (by decide)
  have hm := own_tch h2.main ht' (fun k hk hk' => own_ne huo h2.main (by decide) k hk' hk)
  have hl := h2.len'
  have htl : t < vs.length := (List.getElem?_eq_some_iff.1 hu).1
  rw [h2.len] at htl
  rw [← hl] at hm
  refine ⟨(blk3 (ht'.blk h1 hug)).1.2.1, ?_, hm.frozenAt t, fun b hb hne o => ?_, hp⟩
  · rw [hm.cellAt t (by omega)]; exact hu
  · exact World.cell?_of_block (a := ⟨b, o, none⟩) (ht'.block b hb (fun h => hne b h rfl))
theorem TRel.start {w0 wF : World} {ni nl ne : Nat} {xi xl : List Value} {p : Value} (h : TStart w0 ni nl ne xi xl p wF) (hne : ne ≤ 1000000000) : ∃ g r AA cA AB cB, p = .pointer (some ⟨g, 0, none⟩) ∧ w0.heap.size ≤ g ∧ TRel w0 g r ni nl ne AA cA AB cB xi xl (List.replicate ne []) wF := by
  obtain ⟨g, AA, cA, AB, cB, r, rfl, h1, h2, h3, h4, h5, h6, h7, h8⟩ := h
  refine ⟨g, r, AA, cA, AB, cB, rfl, h6, List.replicate ne (.slice none 0 0), h1, ?_, h3, h4, h5⟩
  rw [List.map_replicate, show ncells [] = [] from rfl]
  have hm : (madeCells #[Value.slice none 0 0] ne).toList = List.replicate ne (.slice none 0 0) := toList_madeCells_one _ _
  have hs : (madeCells #[Value.slice none 0 0] ne).size = ne := by have := congrArg List.length hm; simpa using this
  refine Own2.fresh ⟨by simp, .inr ⟨r, ne, _, rfl, h7, h2, Nat.le_refl _, by unfold maxLen; omega, by rw [hs, Nat.mul_one], ?_⟩⟩
  rw [List.take_of_length_le (by rw [Array.length_toList, hs]; omega)]
  exact hm

theorem tch_set3 {w : World} {g : Nat} {x y z : Value} : Tch (fun k => k = g) w (((w.setCell ⟨g, 0, none⟩ x).setCell ⟨g, 1, none⟩ y).setCell ⟨g, 2, none⟩ z) :=
  Tch.setCell (S := fun k => k = g) (p := ⟨g, 2, none⟩) (Tch.setCell (S := fun k => k = g) (p := ⟨g, 1, none⟩) (Tch.setCell (S := fun k => k = g) (p := ⟨g, 0, none⟩) (Tch.refl _ w) (fun _ => rfl) x) (fun _ => rfl) y) (fun _ => rfl) z
/-- A graph that is done, stored into the result's cells. -/
theorem TRel.done {w0 w : World} {g r ni nl ne q : Nat} {AA : Option Addr} {cA : Nat} {AB : Option Addr} {cB : Nat} {G : Gph} {x y z : Value} (h : TRel w0 g r ni nl ne AA cA AB cB (icells G.init) (G.labels.map (.int .u64)) G.edges w) (hq : q < w0.heap.size) :
    GrRd (((w.setCell ⟨q, 0, none⟩ x).setCell ⟨q, 1, none⟩ y).setCell ⟨q, 2, none⟩ z) w.heap.size AA ni cA (some ⟨r, 0, none⟩) ne ne AB nl cB G := by
  obtain ⟨vs, h1, h2, h3, h4, h5⟩ := h
  have k3 := own_set3 (g := q) (x := x) (y := y) (z := z) (fun e => by have := (h3.lt q e).1; omega) h3
  have k4 := own_set3 (g := q) (x := x) (y := y) (z := z) (fun e => by have := (h4.lt q e).1; omega) h4
  have k2 := h2.tch (tch_set3 (g := q) (x := x) (y := y) (z := z)) (fun k hk e => by have := (h2.main.lt k hk).1; omega) (fun j u k hu hk e => by have := (h2.rowlt hu k hk).1; omega)
  have hz : ((((w.setCell ⟨q, 0, none⟩ x).setCell ⟨q, 1, none⟩ y).setCell ⟨q, 2, none⟩ z)).heap.size = w.heap.size := by simp [World.setCell]
  obtain ⟨A1, c1, e1, s1⟩ := own_sl k3
  obtain ⟨A2, c2, e2, s2⟩ := own_sl k4
  obtain ⟨A3, c3, e3, s3⟩ := k2.sl2
  rw [hz] at s1 s2 s3
  cases e1; cases e2; cases e3
  exact ⟨s1, s3, s2⟩
theorem TRel.doneO {w0 w : World} {g r ni nl ne q : Nat} {AA : Option Addr} {cA : Nat} {AB : Option Addr} {cB : Nat} {xi xl : List Value} {R : List (List Nd)} {x y z : Value} (h : TRel w0 g r ni nl ne AA cA AB cB xi xl R w) (hq : q < w0.heap.size) :
    ∃ vs, Own2 (((w.setCell ⟨q, 0, none⟩ x).setCell ⟨q, 1, none⟩ y).setCell ⟨q, 2, none⟩ z) w0.heap.size 42 34 2 (.slice (some ⟨r, 0, none⟩) ne ne) (R.map ncells) vs := by
  obtain ⟨vs, h1, h2, h3, h4, h5⟩ := h
  exact ⟨vs, h2.tch (tch_set3 (g := q) (x := x) (y := y) (z := z)) (fun k hk e => by have := (h2.main.lt k hk).1; omega) (fun j u k hu hk e => by have := (h2.rowlt hu k hk).1; omega)⟩
/-- A new graph: it reads as G'. -/
def NewGr (w : World) (G' : Gph) (en : Ending) (w' : World) : Prop :=
  ∃ ai ni ci ae ne ce al nl cl, en = .returned (.agg #[.slice ai ni ci, .slice ae ne ce, .slice al nl cl]) ∧ GrRd w' w'.heap.size ai ni ci ae ne ce al nl cl G' ∧ Below w.heap.size w w' ∧ ∃ vs, Own2 w' w.heap.size 42 34 2 (.slice ae ne ce) (G'.edges.map ncells) vs

theorem turn1_bd {n a : Nat} {R : List (List Nd)} {b : Nat} (h : ∀ t : Nat, (R.getD t []).length ≤ b) (e : Nd) : ∀ t : Nat, ((turn1 n a R e).getD t []).length ≤ b + 1 := by
  intro t
  unfold turn1
  split
  · by_cases e1 : e.op.toNat = t
    · by_cases e2 : t < R.length
      · rw [e1, getD_set_same e2, List.length_append]
        have := h t
        rw [List.length_singleton]
        omega
      · rw [List.getD_eq_getElem?_getD, List.getElem?_eq_none (by simpa using (by omega : R.length ≤ t))]
        simp
    · rw [getD_set_ne' e1]
      have := h t
      omega
  · have := h t
    omega
theorem turnF_bd {n a : Nat} : ∀ (l : List Nd) {R : List (List Nd)} {b : Nat}, (∀ t : Nat, (R.getD t []).length ≤ b) → ∀ t : Nat, ((l.foldl (turn1 n a) R).getD t []).length ≤ b + l.length
  | [], _, _, h => h
  | e :: l, _, _, h => fun t => by
    have := turnF_bd (n := n) (a := a) l (turn1_bd (n := n) (a := a) h e) t
    rw [List.foldl_cons, List.length_cons]
    omega
theorem turnTo_bd {n K : Nat} {E : List (List Nd)} (hK : ∀ l ∈ E, l.length ≤ K) : ∀ (k : Nat) (t : Nat), ((turnTo n E k).getD t []).length ≤ k * K
  | 0, t => by
    by_cases h : t < n <;> simp [turnTo, List.getD, h]
  | k + 1, t => by
    have := turnF_bd (n := n) (a := k) (E.getD k []) (turnTo_bd (n := n) hK k) t
    have hl : (E.getD k []).length ≤ K := by
      by_cases h : k < E.length
      · simp only [List.getD, List.getElem?_eq_getElem h, Option.getD_some]; exact hK _ (List.getElem_mem h)
      · simp [List.getD, List.getElem?_eq_none (by omega : E.length ≤ k)]
    rw [turnTo, Nat.succ_mul]
    omega
theorem turnF_snoc {n a : Nat} {l : List Nd} {m : Nat} (hm : m < l.length) (R : List (List Nd)) : (l.take (m + 1)).foldl (turn1 n a) R = turn1 n a ((l.take m).foldl (turn1 n a) R) l[m] := by
  rw [take_snoc l m hm, List.foldl_append]; rfl
end Go.Proofs.Ytfpncpjdmgfkbaa

/- (XGrM2) Memory of layer 6: the reference's Turn (its rows of edges lie in a slot, the struct's field is nil until the end). -/
namespace Go.Proofs.Ytfpncpjdmgfkbaa
open Go.RowKit

/-- The struct under way: its rows of edges are R. -/
def TRelR (w0 : World) (g r ni nl ne : Nat) (AA : Option Addr) (cA : Nat) (AB : Option Addr) (cB : Nat) (xi xl : List Value) (R : List (List Nd)) (wr : World) : Prop :=
  ∃ vs, wr.heap[g]? = some (.cells #[.slice AA ni cA, .slice none 0 0, .slice AB nl cB] 26 (0, 0)) ∧ Own2 wr w0.heap.size 42 34 2 (.slice (some ⟨r, 0, none⟩) ne ne) (R.map ncells) vs ∧
    wr.ownsRow w0.heap.size 3 1 (.slice AA ni cA) ni xi ∧ wr.ownsRow w0.heap.size 60 1 (.slice AB nl cB) nl xl ∧ Below w0.heap.size w0 wr
theorem TRelR.below {w0 w w' : World} {g r ni nl ne : Nat} {AA : Option Addr} {cA : Nat} {AB : Option Addr} {cB : Nat} {xi xl : List Value} {R : List (List Nd)} (h : TRelR w0 g r ni nl ne AA cA AB cB xi xl R w) (hb : Below w.heap.size w w') : TRelR w0 g r ni nl ne AA cA AB cB xi xl R w' := by
  obtain ⟨vs, h1, h2, h3, h4, h5⟩ := h
  exact ⟨vs, (hb.block g (lt_of_block h1)).trans h1, h2.below hb, own_below h3 hb, own_below h4 hb, h5.trans (hb.mono h5.size)⟩
/-- An edge more behind row t. -/
theorem TRelR.put {w0 w w1 w2 : World} {g r ni nl ne : Nat} {AA : Option Addr} {cA : Nat} {AB : Option Addr} {cB : Nat} {xi xl : List Value} {R : List (List Nd)} {t n' : Nat} {u u' : Value} {vs : List Value} {ys : List Nd} {o : Obj}
    (h1 : w.heap[g]? = some (.cells #[.slice AA ni cA, .slice none 0 0, .slice AB nl cB] 26 (0, 0))) (h2 : Own2 w w0.heap.size 42 34 2 (.slice (some ⟨r, 0, none⟩) ne ne) (R.map ncells) vs)
    (h3 : w.ownsRow w0.heap.size 3 1 (.slice AA ni cA) ni xi) (h4 : w.ownsRow w0.heap.size 60 1 (.slice AB nl cB) nl xl) (h5 : Below w0.heap.size w0 w) (hw : w1 = w.alloc o) (hu : vs[t]? = some u) (huo : ∃ n ys, w.ownsRow w0.heap.size 42 2 u n ys)
    (hown : w2.ownsRow w0.heap.size 42 2 u' n' (ncells ys)) (ht : Tch (fun k => u.ownBlock = some k) w1 w2) (hat : u'.ownBlock = u.ownBlock ∨ u'.ownBlock = some w1.heap.size) :
    TRelR w0 g r ni nl ne AA cA AB cB xi xl (R.set t ys) (w2.setCell ⟨r, t, none⟩ u') := by
  obtain ⟨n0, ys0, ho⟩ := huo
  subst hw
  have ht' : Tch (fun k => u.ownBlock = some k) w w2 := Tch.trans ((Tch.refl _ w).alloc _) ht (fun _ _ h => h)
  obtain ⟨p1, p2⟩ := h2.put (te := 42) (tr := 34) (by decide) hu h5.size hown ht' (fun g' hg' => by
    rcases hat with h | h
    · exact .inl (h ▸ hg')
    · rw [h] at hg'; cases hg'; exact .inr (by simp))
  have hug : u.ownBlock ≠ some g := own_ne_blk ho h1 (by decide)
  have hgr : g ≠ r := fun e => own_ne_blk h2.main h1 (by decide) (by rw [e]; rfl)
  refine ⟨vs.set t u', ?_, ?_, ?_, ?_, ?_⟩
  · exact p2.blk h1 (fun h => h.elim (fun h => hgr h) (fun h => hug h))
  · rw [List.map_set]; exact p1
  · exact own_tch h3 p2 (fun k hk hS => hS.elim (fun e => own_ne h3 h2.main (by decide) k hk (by rw [e]; rfl)) (fun e => own_ne h3 ho (by decide) k hk e))
  · exact own_tch h4 p2 (fun k hk hS => hS.elim (fun e => own_ne h4 h2.main (by decide) k hk (by rw [e]; rfl)) (fun e => own_ne h4 ho (by decide) k hk e))
  · refine h5.trans (p2.below h5.size (fun k hk hS => ?_))
    rcases hS with e | e
    · have := (h2.main.lt r rfl).1; omega
    · have := (ho.lt k e).1; omega
/-- Behind the append, ahead of the store. -/
theorem TRelR.grow {w0 w w1 w2 : World} {g r ni nl ne : Nat} {AA : Option Addr} {cA : Nat} {AB : Option Addr} {cB : Nat} {xi xl : List Value} {R : List (List Nd)} {t n n' : Nat} {u u' : Value} {vs ys0 : List Value} {ys : List Nd} {o : Obj}
    (h1 : w.heap[g]? = some (.cells #[.slice AA ni cA, .slice none 0 0, .slice AB nl cB] 26 (0, 0))) (h2 : Own2 w w0.heap.size 42 34 2 (.slice (some ⟨r, 0, none⟩) ne ne) (R.map ncells) vs)
    (h3 : w.ownsRow w0.heap.size 3 1 (.slice AA ni cA) ni xi) (h4 : w.ownsRow w0.heap.size 60 1 (.slice AB nl cB) nl xl) (h5 : Below w0.heap.size w0 w) (hw : w1 = w.alloc o) (hu : vs[t]? = some u) (huo : w.ownsRow w0.heap.size 42 2 u n ys0)
    (hown : w2.ownsRow w0.heap.size 42 2 u' n' (ncells ys)) (ht : Tch (fun k => u.ownBlock = some k) w1 w2) (hat : u'.ownBlock = u.ownBlock ∨ u'.ownBlock = some w1.heap.size) :
    w2.cell? ⟨g, 1, none⟩ = some (.slice none 0 0) ∧ w2.cell? ⟨r, t, none⟩ = some u ∧ w2.frozen? ⟨r, t, none⟩ = false ∧ (∀ b, b < w.heap.size → (∀ g, u.ownBlock = some g → g ≠ b) → ∀ o, w2.cell? ⟨b, o, none⟩ = w.cell? ⟨b, o, none⟩) ∧
      TRelR w0 g r ni nl ne AA cA AB cB xi xl (R.set t ys) (w2.setCell ⟨r, t, none⟩ u') := by
  have hp := TRelR.put h1 h2 h3 h4 h5 hw hu ⟨n, ys0, huo⟩ hown ht hat
  subst hw
  have ht' : Tch (fun k => u.ownBlock = some k) w w2 := Tch.trans ((Tch.refl _ w).alloc _) ht (fun _ _ h => h)
  have hug : u.ownBlock ≠ some g := own_ne_blk huo h1 (by decide)
  have hm := own_tch h2.main ht' (fun k hk hk' => own_ne huo h2.main (by decide) k hk' hk)
  have hl := h2.len'
  have htl : t < vs.length := (List.getElem?_eq_some_iff.1 hu).1
  rw [h2.len] at htl
  rw [← hl] at hm
  refine ⟨(blk3 (ht'.blk h1 hug)).1.2.1, ?_, hm.frozenAt t, fun b hb hne o => ?_, hp⟩
  · rw [hm.cellAt t (by omega)]; exact hu
  · exact World.cell?_of_block (a := ⟨b, o, none⟩) (ht'.block b hb (fun h => hne b h rfl))
theorem TRelR.start {w0 wF : World} {g ni nl ne : Nat} {AA : Option Addr} {cA : Nat} {AB : Option Addr} {cB : Nat} {xi xl : List Value} (h1 : wF.heap[g]? = some (.cells #[.slice AA ni cA, .slice none 0 0, .slice AB nl cB] 26 (0, 0)))
    (h3 : wF.ownsRow w0.heap.size 3 1 (.slice AA ni cA) ni xi) (h4 : wF.ownsRow w0.heap.size 60 1 (.slice AB nl cB) nl xl) (h5 : Below w0.heap.size w0 wF) (hne : ne ≤ 1000000000) :
    TRelR w0 g wF.heap.size ni nl ne AA cA AB cB xi xl (List.replicate ne []) (wF.alloc (.cells (madeCells #[.slice none 0 0] ne) 34)) := by
  have hb : Below wF.heap.size wF (wF.alloc (.cells (madeCells #[.slice none 0 0] ne) 34)) := (Below.refl _ wF).alloc (Nat.le_refl _) _
  refine ⟨List.replicate ne (.slice none 0 0), (hb.block g (lt_of_block h1)).trans h1, ?_, own_below h3 hb, own_below h4 hb, h5.trans (hb.mono h5.size)⟩
  rw [List.map_replicate, show ncells [] = [] from rfl]
  have hm : (madeCells #[Value.slice none 0 0] ne).toList = List.replicate ne (.slice none 0 0) := toList_madeCells_one _ _
  have hs : (madeCells #[Value.slice none 0 0] ne).size = ne := by have := congrArg List.length hm; simpa using this
  refine Own2.fresh ⟨by simp, .inr ⟨wF.heap.size, ne, _, rfl, h5.size, heap_alloc_new wF _, Nat.le_refl _, by unfold maxLen; omega, by rw [hs, Nat.mul_one], ?_⟩⟩
  rw [List.take_of_length_le (by rw [Array.length_toList, hs]; omega)]
  exact hm
/-- The rows are stored into the struct's field: it stands as a graph under way. -/
theorem TRelR.close {w0 w : World} {g r ni nl ne : Nat} {AA : Option Addr} {cA : Nat} {AB : Option Addr} {cB : Nat} {xi xl : List Value} {R : List (List Nd)} (h : TRelR w0 g r ni nl ne AA cA AB cB xi xl R w) (hg : w0.heap.size ≤ g) :
    TRel w0 g r ni nl ne AA cA AB cB xi xl R (w.setCell ⟨g, 1, none⟩ (.slice (some ⟨r, 0, none⟩) ne ne)) := by
  obtain ⟨vs, h1, h2, h3, h4, h5⟩ := h
  have ht : Tch (fun k => k = g) w (w.setCell ⟨g, 1, none⟩ (.slice (some ⟨r, 0, none⟩) ne ne)) := Tch.setCell (S := fun k => k = g) (p := ⟨g, 1, none⟩) (Tch.refl _ w) (fun _ => rfl) _
  refine ⟨vs, ?_, h2.tch ht (fun k hk e => ?_) (fun j u k hu hk e => ?_), own_tch h3 ht (fun k hk e => ?_), own_tch h4 ht (fun k hk e => ?_), h5.trans (ht.below h5.size (fun k hk e => by omega))⟩
  · rw [heap_setCell_same w g 1 _ _ (.slice (some ⟨r, 0, none⟩) ne ne) h1]; rfl
  · exact own_ne_blk h2.main h1 (by decide) (e ▸ hk)
  · have hj : j < (R.map ncells).length := by rw [← h2.len]; exact (List.getElem?_eq_some_iff.1 hu).1
    obtain ⟨u', n, hu', ho⟩ := h2.row j _ (List.getElem?_eq_getElem hj)
    rw [hu] at hu'; cases hu'
    exact own_ne_blk ho h1 (by decide) (e ▸ hk)
  · exact own_ne_blk h3 h1 (by decide) (e ▸ hk)
  · exact own_ne_blk h4 h1 (by decide) (e ▸ hk)
end Go.Proofs.Ytfpncpjdmgfkbaa

/- (XExt) A region's append of a whole slice. -/
namespace Go.Proofs.Ytfpncpjdmgfkbaa
open Go.RowKit

section
variable {P : Program} {ops : Array Oper} {rest : List Oper} {o : Oper} {a : Act} {Q : Exit → Act → World → Prop} {w : World}
/-- A region's 'append(v, xs...)': 'append(v, xs...)', v nil or owned, xs whatever: nil, empty or not. -/
theorem step_extend {K : Act → World → Prop} {E : Prop} (hgd : o.guard = none) (s x : Operand) (t : TypeId) (ho : o.op = .call { callee := .builtin .append, args := #[s, x], argTypes := #[t, t] })
    (base e size bytes : Nat) (T : SliceT P t e size bytes) (v : Value) (n : Nat) (xs : List Value) (hown : w.ownsRow base e size v n xs) (hs : a.eval s = v)
    (B : Nat) (A : Option Addr) (m c : Nat) (news : List Value) (hx : a.eval x = .slice A m c) (hr : Sl w B size A m c news) (h1 : ∀ u ∈ news, u.oneCell' = true)
    (hn : n + m ≤ 1000000000000) (hby : bytes ≤ 128) (hbase : base ≤ w.heap.size)
    (h : ∀ v' w', w'.ownsRow base e size v' (n + m) (xs ++ news) → Tch (fun k => v.ownBlock = some k) w w' → (v'.ownBlock = v.ownBlock ∨ v'.ownBlock = some w.heap.size) → (v' = .slice none 0 0 ↔ v = .slice none 0 0 ∧ m = 0) → K (a.put o.dst v') w') :
    if Region.wanted o (yielded ops a.tmps) = true then Oper.wp P o a w K Q else E := by
  have hw : Region.wanted o (yielded ops a.tmps) = true := by simp [Region.wanted, hgd]
  rw [if_pos hw]
  obtain ⟨ht, hsz, i, z, hi, hz, hs1, hb1, hz1⟩ := T
  have hbb : (n + m) * bytes ≤ 140737488355328 := by
    have : (n + m) * bytes ≤ 1000000000000 * 128 := Nat.mul_le_mul hn hby
    omega
  rcases A with _ | ad
  · have hc : c = 0 := hr.nil rfl
    have hm : m = 0 := by have := hr.cap; omega
    subst hc; subst hm
    have hnews : news = [] := List.eq_nil_of_length_eq_zero (by rw [hr.len]; simp)
    subst hnews
    have hrun := run_append_owned_none (P := P) (w := w) base t o.type e i size ht hi v n xs hown
    unfold Oper.wp execOp
    simp only [ho, resolve, invoke, builtin, Sem.run_bind, Sem.run_pure, Result.andThen_ok, List.map_toArray, List.map_cons, List.map_nil, hs, hx, hrun]
    exact h v w (by simpa using hown) (Tch.refl _ _) (.inl rfl) (by simp)
  · have hnews : ∀ j u, news[j]? = some u → w.cell? (ad.add j) = some u := by
      intro j u hu
      obtain ⟨b, off, hA, _, hc⟩ := hr.rd.at_ hu
      cases hA
      have hadd : (⟨b, off, none⟩ : Addr).add j = ⟨b, off + j, none⟩ := by
        unfold Addr.add
        split
        · rename_i h; subst h; rfl
        · rfl
      rw [hadd]; exact hc
    obtain ⟨v', w', hrun, h2, h3, h4, h5⟩ := run_append_own_at (P := P) w base t o.type e i z size bytes ht hi hz hs1 hb1 hz1 hsz v n xs hown ad m c news hr.len hnews h1 (by unfold maxLen; omega) hbb hbase
    unfold Oper.wp execOp
    simp only [ho, resolve, invoke, builtin, Sem.run_bind, Sem.run_pure, Result.andThen_ok, List.map_toArray, List.map_cons, List.map_nil, hs, hx, hrun]
    exact h v' w' h2 (Tch.of_grown h3) h5 h4
/-- A region's empty literal: an owned row of none. -/
theorem step_empty {K : Act → World → Prop} {E : Prop} (hgd : o.guard = none) (t : TypeId) (ho : o.op = .buildSlice t 0 #[])
    (e size bytes : Nat) (T : SliceT P t e size bytes)
    (h : ∀ w' v', v' = .slice (some ⟨w.heap.size, 0, none⟩) 0 0 → w'.ownsRow w.heap.size e size v' 0 [] → Below w.heap.size w w' → w'.heap.size = w.heap.size + 1 → K (a.put o.dst v') w') :
    if Region.wanted o (yielded ops a.tmps) = true then Oper.wp P o a w K Q else E := by
  have hw : Region.wanted o (yielded ops a.tmps) = true := by simp [Region.wanted, hgd]
  rw [if_pos hw]
  obtain ⟨ht, hsz, i, z, hi, hz, hs1, hb1, hz1⟩ := T
  have hk := h (w.alloc (.cells #[] e)) _ rfl (World.ownsRow_made w #[] 0 (Nat.le_refl _) (by unfold maxLen; omega) (by simp)) ((Below.refl w.heap.size w).alloc (Nat.le_refl _) _) (by simp)
  unfold Oper.wp execOp
  simp only [ho]
  simp [Instr.buildSlice, go_sem, run_underlying ht, sizeOf, typeInfo, hi]
  exact hk
/-- A region's new variable: a block of its own. -/
theorem step_new {K : Act → World → Prop} {E : Prop} (hgd : o.guard = none) (t : TypeId) (ho : o.op = .alloc t) (z : Value) (cs : Array Value) (hi : (P.info? t).map (fun i => i.zero) = some (some z)) (hc : z.cells = cs)
    (h : ∀ w' g, w'.heap[g]? = some (.cells cs t (0, 0)) → w.heap.size ≤ g → Below w.heap.size w w' → K (a.put o.dst (.pointer (some ⟨g, 0, none⟩))) w') :
    if Region.wanted o (yielded ops a.tmps) = true then Oper.wp P o a w K Q else E := by
  have hw : Region.wanted o (yielded ops a.tmps) = true := by simp [Region.wanted, hgd]
  rw [if_pos hw]
  subst hc
  obtain ⟨i, h1, h2⟩ := Option.map_eq_some_iff.1 hi
  have hk := h (w.alloc (.cells z.cells t)) w.heap.size (heap_alloc_new w _) (Nat.le_refl _) ((Below.refl w.heap.size w).alloc (Nat.le_refl _) _)
  unfold Oper.wp execOp
  simp only [ho]
  simp [Instr.alloc, newVar, newRow, zeroValue, go_sem, typeInfo, h1, h2]
  exact hk
/-- A region's 'append(T{}, xs...)': the empty literal's block is held, never written. -/
theorem step_ext0 {K : Act → World → Prop} {E : Prop} (hgd : o.guard = none) (s x : Operand) (t : TypeId) (ho : o.op = .call { callee := .builtin .append, args := #[s, x], argTypes := #[t, t] })
    (base e size bytes : Nat) (T : SliceT P t e size bytes) (k : Nat) (hs : a.eval s = .slice (some ⟨k, 0, none⟩) 0 0)
    (B : Nat) (A : Option Addr) (m c : Nat) (news : List Value) (hx : a.eval x = .slice A m c) (hr : Sl w B size A m c news) (h1 : ∀ u ∈ news, u.oneCell' = true)
    (hn : m ≤ 1000000000000) (hby : bytes ≤ 128) (hbase : base ≤ w.heap.size) (hk : w.heap[k]? = some (.cells #[] e (0, 0))) (hbk : base ≤ k)
    (h : ∀ v' w', w'.ownsRow base e size v' m news → Below w.heap.size w w' → K (a.put o.dst v') w') :
    if Region.wanted o (yielded ops a.tmps) = true then Oper.wp P o a w K Q else E := by
  have hown : w.ownsRow base e size (.slice (some ⟨k, 0, none⟩) 0 0) 0 [] :=
    ⟨by simp, .inr ⟨k, 0, #[], rfl, hbk, hk, Nat.le_refl _, by unfold maxLen; omega, by simp, by simp⟩⟩
  have hw : Region.wanted o (yielded ops a.tmps) = true := by simp [Region.wanted, hgd]
  rw [if_pos hw]
  obtain ⟨ht, hsz, i, z, hi, hz, hs1, hb1, hz1⟩ := T
  have hbb : (0 + m) * bytes ≤ 140737488355328 := by
    have : (0 + m) * bytes ≤ 1000000000000 * 128 := Nat.mul_le_mul (by omega) hby
    omega
  rcases A with _ | ad
  · have hc : c = 0 := hr.nil rfl
    have hm : m = 0 := by have := hr.cap; omega
    subst hc; subst hm
    have hnews : news = [] := List.eq_nil_of_length_eq_zero (by rw [hr.len]; simp)
    subst hnews
    have hrun := run_append_owned_none (P := P) (w := w) base t o.type e i size ht hi _ 0 [] hown
    unfold Oper.wp execOp
    simp only [ho, resolve, invoke, builtin, Sem.run_bind, Sem.run_pure, Result.andThen_ok, List.map_toArray, List.map_cons, List.map_nil, hs, hx, hrun]
    exact h _ w hown (Below.refl _ _)
  · have hnews : ∀ j u, news[j]? = some u → w.cell? (ad.add j) = some u := by
      intro j u hu
      obtain ⟨b, off, hA, _, hc⟩ := hr.rd.at_ hu
      cases hA
      have hadd : (⟨b, off, none⟩ : Addr).add j = ⟨b, off + j, none⟩ := by
        unfold Addr.add
        split
        · rename_i h; subst h; rfl
        · rfl
      rw [hadd]; exact hc
    by_cases hm : m = 0
    · subst hm
      have hnews0 : news = [] := List.eq_nil_of_length_eq_zero (by rw [hr.len]; simp)
      subst hnews0
      have hrun := run_append_room_cells (P := P) w t o.type e i ht hi k 0 0 0 ad 0 c [] (by simp) (by simp) (by simp) (Nat.le_refl _) (by simp) (by simp)
      unfold Oper.wp execOp
      simp only [ho, resolve, invoke, builtin, Sem.run_bind, Sem.run_pure, Result.andThen_ok, List.map_toArray, List.map_cons, List.map_nil, hs, hx, hrun]
      exact h _ w hown (Below.refl _ _)
    · obtain ⟨v', w', hrun, h2, h3⟩ := run_append_arg_grows (P := P) w t o.type e i z size bytes ht hi hz hs1 hb1 hz1 hsz ⟨k, 0, none⟩ 0 0 [] (by simp) (by simp) ad m c news hr.len hnews (by omega) (by unfold maxLen; omega) hbb
      unfold Oper.wp execOp
      simp only [ho, resolve, invoke, builtin, Sem.run_bind, Sem.run_pure, Result.andThen_ok, List.map_toArray, List.map_cons, List.map_nil, hs, hx, hrun]
      rw [Nat.zero_add, List.nil_append] at h2
      exact h v' w' (own_base h2 hbase) ((Tch.of_grown h3).below (Nat.le_refl _) (fun _ _ e => by cases e))
theorem own_tchE {w w' : World} {base e e' size size' n m : Nat} {v u : Value} {xs ys : List Value} (h : w.ownsRow base e' size' v n xs) (hE : w.ownsRow base e size u m ys) (ht : Tch (fun k => u.ownBlock = some k) w w') (hne : e' ≠ e) : w'.ownsRow base e' size' v n xs :=
  own_tch h ht (fun k hk hS => own_ne h hE hne k hk hS)
theorem blk_tchE {w w' : World} {base e t size m g : Nat} {u : Value} {ys : List Value} {cs : Array Value} (h : w.heap[g]? = some (.cells cs t (0, 0))) (hE : w.ownsRow base e size u m ys) (ht : Tch (fun k => u.ownBlock = some k) w w') (hne : e ≠ t) : w'.heap[g]? = some (.cells cs t (0, 0)) :=
  ht.blk h (own_ne_blk hE h hne)
theorem below_tchE {w0 w w' : World} {base e size m : Nat} {u : Value} {ys : List Value} (h : Below base w0 w) (hE : w.ownsRow base e size u m ys) (ht : Tch (fun k => u.ownBlock = some k) w w') (hb : base ≤ w0.heap.size) : Below base w0 w' :=
  h.trans (ht.below (by have := h.size; omega) (fun k hk hS => by have := (hE.lt k hS).1; omega))
theorem belowR {base : Nat} {w0 w w' : World} (h : Below base w0 w) (hb : base ≤ w0.heap.size) (h2 : Below w.heap.size w w') : Below base w0 w' :=
  h.trans (h2.mono (by have := h.size; omega))
end
end Go.Proofs.Ytfpncpjdmgfkbaa

/- (XGrT) Words for Total: rows of which what leads nowhere leads to itself. -/
namespace Go.Proofs.Ytfpncpjdmgfkbaa
open Go.RowKit

/-- Of the row a what leads to a node is taken. -/
def tot1 (n a : Nat) (R : List (List Nd)) (e : Nd) : List (List Nd) := if isNd n e.op = true then R.set a (R.getD a [] ++ [e]) else R
def totTo (n : Nat) (E : List (List Nd)) (a : Nat) : List (List Nd) := (List.range n).map fun i => if i < a then totRow n i (E.getD i []) else []
theorem totTo_len (n : Nat) (E : List (List Nd)) (a : Nat) : (totTo n E a).length = n := by simp [totTo]
theorem totTo_zero (n : Nat) (E : List (List Nd)) : totTo n E 0 = List.replicate n [] := by
  refine List.ext_getElem (by simp [totTo]) (fun i h1 h2 => ?_)
  simp [totTo]
theorem totTo_end (E : List (List Nd)) : totTo E.length E E.length = totalE E := by
  refine List.ext_getElem (by simp [totTo, totalE]) (fun i h1 h2 => ?_)
  have : i < E.length := by simpa [totTo] using h1
  simp [totTo, totalE, this]
theorem totTo_at {n a : Nat} (E : List (List Nd)) : (totTo n E a).getD a [] = [] := by
  by_cases h : a < n <;> simp [totTo, List.getD, h]
theorem tot1_len {n a : Nat} (R : List (List Nd)) (e : Nd) : (tot1 n a R e).length = R.length := by unfold tot1; split <;> simp
theorem totF_len {n a : Nat} : ∀ (l : List Nd) (R : List (List Nd)), (l.foldl (tot1 n a) R).length = R.length
  | [], _ => rfl
  | e :: l, R => by rw [List.foldl_cons, totF_len l, tot1_len]
theorem set_getD_self {α : Type} {l : List α} {k : Nat} {d : α} (h : k < l.length) : l.set k (l.getD k d) = l := by
  simp [List.getD, h]
theorem totF_eq {n a : Nat} : ∀ (l : List Nd) (R : List (List Nd)), a < R.length → l.foldl (tot1 n a) R = R.set a (R.getD a [] ++ l.filter (fun e => isNd n e.op))
  | [], R, h => by simp only [List.foldl_nil, List.filter_nil, List.append_nil]; rw [set_getD_self h]
  | e :: l, R, h => by
    rw [List.foldl_cons, totF_eq l _ (by rw [tot1_len]; exact h), List.filter_cons]
    unfold tot1
    by_cases hc : isNd n e.op = true
    · rw [if_pos hc, if_pos hc, getD_set_same h]
      simp
    · rw [if_neg hc, if_neg hc]
theorem totF_snoc {n a : Nat} {l : List Nd} {m : Nat} (hm : m < l.length) (R : List (List Nd)) : (l.take (m + 1)).foldl (tot1 n a) R = tot1 n a ((l.take m).foldl (tot1 n a) R) l[m] := by
  rw [take_snoc l m hm, List.foldl_append]; rfl
theorem totF_bd {n a m : Nat} {l : List Nd} {R : List (List Nd)} (ha : a < R.length) (h0 : R.getD a [] = []) : (((l.take m).foldl (tot1 n a) R).getD a []).length ≤ m := by
  rw [totF_eq _ _ ha, h0, getD_set_same ha, List.nil_append]
  exact Nat.le_trans (List.length_filter_le _ _) (by simp; omega)
/-- Behind the row a. -/
theorem totTo_succ {n a : Nat} {E : List (List Nd)} (_ha : a < n) : totTo n E (a + 1) = (totTo n E a).set a (totRow n a (E.getD a [])) := by
  refine List.ext_getElem (by simp [totTo]) (fun i h1 h2 => ?_)
  have hi : i < n := by simpa [totTo] using h1
  by_cases e : a = i
  · subst e; simp [totTo]
  · rw [List.getElem_set_ne e]
    simp only [totTo, List.getElem_map, List.getElem_range]
    by_cases h : i < a
    · rw [if_pos h, if_pos (by omega)]
    · rw [if_neg h, if_neg (by omega)]
theorem totTo_some {n a : Nat} {E : List (List Nd)} (ha : a < n) {x : List Nd} (hx : E.getD a [] = x) (h : (x.foldl (tot1 n a) (totTo n E a)).getD a [] ≠ []) : totTo n E (a + 1) = x.foldl (tot1 n a) (totTo n E a) := by
  have hl : a < (totTo n E a).length := by rw [totTo_len]; exact ha
  rw [totF_eq _ _ hl, getD_set_same hl, totTo_at, List.nil_append] at h
  rw [totTo_succ ha, totF_eq _ _ hl, totTo_at, List.nil_append, totRow, hx, if_neg h]
theorem totTo_none {n a : Nat} {E : List (List Nd)} (ha : a < n) {x : List Nd} (hx : E.getD a [] = x) (h : (x.foldl (tot1 n a) (totTo n E a)).getD a [] = []) : totTo n E (a + 1) = (x.foldl (tot1 n a) (totTo n E a)).set a [⟨a, -1⟩] := by
  have hl : a < (totTo n E a).length := by rw [totTo_len]; exact ha
  rw [totF_eq _ _ hl, getD_set_same hl, totTo_at, List.nil_append] at h
  rw [totTo_succ ha, totF_eq _ _ hl, totTo_at, List.nil_append, totRow, hx, if_pos h, List.set_set]
/-- Row t is made anew: one edge. -/
theorem TRel.put1 {w0 w : World} {g r ni nl ne : Nat} {AA : Option Addr} {cA : Nat} {AB : Option Addr} {cB : Nat} {xi xl : List Value} {R : List (List Nd)} {t : Nat} {u : Value} {vs : List Value} {x y : Int}
    (h1 : w.heap[g]? = some (.cells #[.slice AA ni cA, .slice (some ⟨r, 0, none⟩) ne ne, .slice AB nl cB] 26 (0, 0))) (h2 : Own2 w w0.heap.size 42 34 2 (.slice (some ⟨r, 0, none⟩) ne ne) (R.map ncells) vs)
    (h3 : w.ownsRow w0.heap.size 3 1 (.slice AA ni cA) ni xi) (h4 : w.ownsRow w0.heap.size 60 1 (.slice AB nl cB) nl xl) (h5 : Below w0.heap.size w0 w) (hu : vs[t]? = some u) (huo : ∃ n ys, w.ownsRow w0.heap.size 42 2 u n ys) :
    TRel w0 g r ni nl ne AA cA AB cB xi xl (R.set t [⟨x, y⟩]) ((w.alloc (.cells #[.int .i64 x, .int .i64 y] 42)).setCell ⟨r, t, none⟩ (.slice (some ⟨w.heap.size, 0, none⟩) 1 1)) := by
  obtain ⟨n0, ys0, ho⟩ := huo
  have ht' : Tch (fun k => u.ownBlock = some k) w (w.alloc (.cells #[.int .i64 x, .int .i64 y] 42)) := (Tch.refl _ w).alloc _
  have hown : (w.alloc (.cells #[.int .i64 x, .int .i64 y] 42)).ownsRow w0.heap.size 42 2 (.slice (some ⟨w.heap.size, 0, none⟩) 1 1) 1 (ncells [⟨x, y⟩]) :=
    ⟨by simp [ncells], .inr ⟨w.heap.size, 1, _, rfl, h5.size, heap_alloc_new w _, Nat.le_refl _, by unfold maxLen; omega, by simp, by simp [ncells]⟩⟩
  obtain ⟨p1, p2⟩ := h2.put (te := 42) (tr := 34) (by decide) hu h5.size hown ht' (fun g' hg' => by
    simp [Value.ownBlock] at hg'; exact .inr (by omega))
  have hug : u.ownBlock ≠ some g := own_ne_blk ho h1 (by decide)
  have hgr : g ≠ r := fun e => own_ne_blk h2.main h1 (by decide) (by rw [e]; rfl)
  refine ⟨vs.set t (.slice (some ⟨w.heap.size, 0, none⟩) 1 1), ?_, ?_, ?_, ?_, ?_⟩
  · exact p2.blk h1 (fun h => h.elim (fun h => hgr h) (fun h => hug h))
  · rw [List.map_set]; exact p1
  · exact own_tch h3 p2 (fun k hk hS => hS.elim (fun e => own_ne h3 h2.main (by decide) k hk (by rw [e]; rfl)) (fun e => own_ne h3 ho (by decide) k hk e))
  · exact own_tch h4 p2 (fun k hk hS => hS.elim (fun e => own_ne h4 h2.main (by decide) k hk (by rw [e]; rfl)) (fun e => own_ne h4 ho (by decide) k hk e))
  · refine h5.trans (p2.below h5.size (fun k hk hS => ?_))
    rcases hS with e | e
    · have := (h2.main.lt r rfl).1; omega
    · have := (ho.lt k e).1; omega
end Go.Proofs.Ytfpncpjdmgfkbaa

/- (XGrV) Words for marks and open nodes in memory. -/
namespace Go.Proofs.Ytfpncpjdmgfkbaa
open Go.RowKit

theorem infoBool : (Try.prog.info? 4).map (fun i => (i.zero, i.size, i.bytes)) = some (some (.bool false), 1, 1) := by kernel_rfl
theorem infoInt : (Try.prog.info? 3).map (fun i => (i.zero, i.size, i.bytes)) = some (some (.int .i64 0), 1, 8) := by kernel_rfl
theorem made_list (v : Value) (hv : v.cells = #[v]) (n : Nat) : (madeCells v.cells n).toList = List.replicate n v := by rw [hv]; exact toList_madeCells_one _ _
theorem own_made {w : World} {base e n : Nat} {v : Value} (hb : base ≤ w.heap.size) (hn : n ≤ maxLen) : (w.alloc (.cells (madeCells #[v] n) e)).ownsRow base e 1 (.slice (some ⟨w.heap.size, 0, none⟩) n n) n (List.replicate n v) := by
  have hm : (madeCells #[v] n).toList = List.replicate n v := toList_madeCells_one _ _
  have hs : (madeCells #[v] n).size = n := by have := congrArg List.length hm; simpa using this
  refine ⟨by simp, .inr ⟨w.heap.size, n, _, rfl, hb, heap_alloc_new w _, Nat.le_refl _, hn, by rw [hs, Nat.mul_one], ?_⟩⟩
  rw [List.take_of_length_le (by rw [Array.length_toList, hs]; omega)]
  exact hm

/-- Marks in a row of their own, and the open nodes. -/
def VRel (w0 : World) (q ne : Nat) (v : Value) (s : List Bool × List Int) (wr : World) : Prop :=
  wr.ownsRow w0.heap.size 4 1 (.slice (some ⟨q, 0, none⟩) ne ne) ne (s.1.map .bool) ∧ wr.ownsRow w0.heap.size 3 1 v s.2.length (icells s.2) ∧ Below w0.heap.size w0 wr
section
variable {w0 w w' w1 w2 : World} {q ne : Nat} {v : Value} {s : List Bool × List Int}
theorem VRel.below (h : VRel w0 q ne v s w) (hb : Below w.heap.size w w') : VRel w0 q ne v s w' :=
  ⟨own_below h.1 hb, own_below h.2.1 hb, h.2.2.trans (hb.mono h.2.2.size)⟩
theorem VRel.start (hne : ne ≤ maxLen) : VRel w0 w0.heap.size ne (.slice none 0 0) (List.replicate ne false, []) (w0.alloc (.cells (madeCells #[.bool false] ne) 4)) :=
  ⟨by rw [List.map_replicate]; exact own_made (Nat.le_refl _) hne, World.ownsRow_nil _ _ _ _, (Below.refl _ _).alloc (Nat.le_refl _) _⟩
theorem own_marks {l : List Bool} {t : Nat} (h : w.ownsRow w0.heap.size 4 1 (.slice (some ⟨q, 0, none⟩) ne ne) ne (l.map .bool)) (ht : t < ne) : w.cell? ⟨q, t, none⟩ = some (.bool (l.getD t false)) ∧ w.frozen? ⟨q, t, none⟩ = false ∧ q < w.heap.size ∧ w0.heap.size ≤ q := by
  have hl : l.length = ne := by have := h.1; simpa using this
  refine ⟨?_, h.frozenAt t, (h.lt q rfl).2, (h.lt q rfl).1⟩
  rw [h.cellAt t (by omega)]
  exact bcells'_at (by omega)
theorem own_mark {l : List Bool} {t : Nat} (h : w.ownsRow w0.heap.size 4 1 (.slice (some ⟨q, 0, none⟩) ne ne) ne (l.map .bool)) :
    (w.setCell ⟨q, t, none⟩ (.bool true)).ownsRow w0.heap.size 4 1 (.slice (some ⟨q, 0, none⟩) ne ne) ne ((l.set t true).map .bool) := by
  have := h.stored t (.bool true)
  rw [List.map_set]; exact this.1
/-- A node is marked. -/
theorem VRel.mark {t : Nat} (h : VRel w0 q ne v s w) : (w.setCell ⟨q, t, none⟩ (.bool true)).ownsRow w0.heap.size 4 1 (.slice (some ⟨q, 0, none⟩) ne ne) ne ((s.1.set t true).map .bool) ∧
    (w.setCell ⟨q, t, none⟩ (.bool true)).ownsRow w0.heap.size 3 1 v s.2.length (icells s.2) ∧ Below w0.heap.size w0 (w.setCell ⟨q, t, none⟩ (.bool true)) := by
  have ht : Tch (fun k => k = q) w (w.setCell ⟨q, t, none⟩ (.bool true)) := Tch.setCell (S := fun k => k = q) (p := ⟨q, t, none⟩) (Tch.refl _ w) (fun _ => rfl) _
  exact ⟨own_mark h.1, own_tch h.2.1 ht (fun k hk e => own_ne h.2.1 h.1 (by decide) k hk (by rw [e]; rfl)), h.2.2.setCell (p := ⟨q, t, none⟩) (h.1.lt q rfl).1 _⟩
/-- A marked node is opened. -/
theorem VRel.open {t : Nat} {v' : Value} {o : Obj} (hm : w.ownsRow w0.heap.size 4 1 (.slice (some ⟨q, 0, none⟩) ne ne) ne ((s.1.set t true).map .bool)) (ho : w.ownsRow w0.heap.size 3 1 v s.2.length (icells s.2)) (hb : Below w0.heap.size w0 w)
    (hw : w1 = w.alloc o) (hown : w2.ownsRow w0.heap.size 3 1 v' (s.2.length + 1) (icells s.2 ++ [.int .i64 t])) (ht : Tch (fun k => v.ownBlock = some k) w1 w2) :
    VRel w0 q ne v' (s.1.set t true, s.2 ++ [(t : Int)]) w2 := by
  subst hw
  have ht' : Tch (fun k => v.ownBlock = some k) w w2 := Tch.trans ((Tch.refl _ w).alloc _) ht (fun _ _ h => h)
  refine ⟨own_tchE hm ho ht' (by decide), ?_, below_tchE hb ho ht' (Nat.le_refl _)⟩
  rw [icells_append, List.length_append]
  exact hown
theorem vis_out {n : Nat} {x : Int} (h : isNd n x = false) : vis n s x = s := by rw [vis, if_neg (by rw [h]; simp)]
theorem vis_old {n t : Nat} (h : s.1.getD t false = true) (hl : t < s.1.length) : vis n s (t : Int) = s := by
  rw [vis, if_neg]
  simp only [List.getD, Int.toNat_natCast, List.getElem?_eq_getElem hl, Option.getD_some] at h ⊢
  simp [h]
theorem vis_new {n t : Nat} (hn : isNd n (t : Int) = true) (h : s.1.getD t false = false) (hl : t < s.1.length) : vis n s (t : Int) = (s.1.set t true, s.2 ++ [(t : Int)]) := by
  rw [vis, if_pos]
  · simp
  · refine ⟨hn, ?_⟩
    simp only [List.getD, Int.toNat_natCast, List.getElem?_eq_getElem hl, Option.getD_some] at h ⊢
    exact h
end
theorem vF_snoc {n : Nat} {l : List Int} {k : Nat} (hk : k < l.length) (s : List Bool × List Int) : (l.take (k + 1)).foldl (vis n) s = vis n ((l.take k).foldl (vis n) s) l[k] := by
  rw [take_snoc l k hk, List.foldl_append]; rfl
theorem tgts_at {l : List Nd} {k : Nat} (hk : k < l.length) : (tgts l)[k]'(by rw [tgts, List.length_map]; exact hk) = l[k].op := by simp [tgts]
theorem tF_snoc {n : Nat} {l : List Nd} {k : Nat} (hk : k < l.length) (s : List Bool × List Int) : ((tgts l).take (k + 1)).foldl (vis n) s = vis n (((tgts l).take k).foldl (vis n) s) l[k].op := by
  rw [vF_snoc (by rw [tgts, List.length_map]; exact hk), tgts_at]
theorem fold_len_le {n : Nat} (l : List Int) (s : List Bool × List Int) : s.2.length ≤ (l.foldl (vis n) s).2.length := by
  obtain ⟨r, hr⟩ := fold_grow (n := n) l s
  rw [hr, List.length_append]; omega
end Go.Proofs.Ytfpncpjdmgfkbaa
