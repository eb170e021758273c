/- Texts that stand one behind the other, in one file. -/
import Derived.Test.YtamhjgkigjpbhaaDoorZag

/- Ways in memory (layer 28): what is read from shared rows, kept by the blocks' types. -/
namespace Go.Proofs.YtamhjgkigjpbhaaDoor
open Go.RowKit

/-- A slice that reads, from a block of cells of type t. -/
structure TSl (w : World) (t : TypeId) (A : Option Addr) (n c : Nat) (xs : List Value) : Prop where
  sl : Sl w w.heap.size 1 A n c xs
  ty : ∀ a, A = some a → ∃ cs, w.heap[a.block]? = some (.cells cs t (0, 0))
/-- S names no block of cells of type t. -/
def Spares (S : Nat → Prop) (w : World) (t : TypeId) : Prop := ∀ k cs, w.heap[k]? = some (.cells cs t (0, 0)) → ¬ S k
theorem cell_of_blk {w w' : World} {b o : Nat} (h : w'.heap[b]? = w.heap[b]?) : w'.cell? ⟨b, o, none⟩ = w.cell? ⟨b, o, none⟩ := by
  unfold World.cell?; dsimp only; rw [h]
theorem heap_lt {w : World} {g : Nat} {o : Obj} (h : w.heap[g]? = some o) : g < w.heap.size := (Array.getElem?_eq_some_iff.1 h).1
theorem TSl.keep {S : Nat → Prop} {w w' : World} {t : TypeId} {A : Option Addr} {n c : Nat} {xs : List Value} (h : TSl w t A n c xs) (ht : Tch S w w') (hS : Spares S w t) : TSl w' t A n c xs := by
  have hb : ∀ a, A = some a → w'.heap[a.block]? = w.heap[a.block]? := fun a ha => by
    obtain ⟨cs, hc⟩ := h.ty a ha
    exact ht.block _ (heap_lt hc) (hS _ _ hc)
  refine ⟨⟨h.sl.len, h.sl.cap, h.sl.max, h.sl.nil, ?_⟩, fun a ha => ?_⟩
  · rcases h.sl.rd with h0 | ⟨b, off, hA, hlt, hc⟩
    · exact .inl h0
    · exact .inr ⟨b, off, hA, Nat.lt_of_lt_of_le hlt ht.size, fun j u hj => (cell_of_blk (hb _ hA)).trans (hc j u hj)⟩
  · obtain ⟨cs, hc⟩ := h.ty a ha
    exact ⟨cs, (hb a ha).trans hc⟩
theorem spares_new (w : World) (t : TypeId) : Spares (fun k => w.heap.size ≤ k) w t := fun k _ h => by have := heap_lt h; omega
theorem TSl.below {w w' : World} {t : TypeId} {A : Option Addr} {n c : Nat} {xs : List Value} (h : TSl w t A n c xs) (hb : Below w.heap.size w w') : TSl w' t A n c xs := h.keep (Tch.of_below hb) (spares_new w t)
theorem TSl.of_own {w : World} {base t n : Nat} {v : Value} {xs : List Value} (h : w.ownsRow base t 1 v n xs) : ∃ A c, v = .slice A n c ∧ TSl w t A n c xs := by
  obtain ⟨A, c, hv, hs⟩ := own_sl h
  refine ⟨A, c, hv, hs, fun a ha => ?_⟩
  rcases h.2 with ⟨h0, _⟩ | ⟨g, cap, cur, h0, _, hg, _⟩
  · rw [h0, ha] at hv; cases hv
  · rw [h0, ha] at hv; cases hv; exact ⟨cur, hg⟩
theorem TSl.tail {w : World} {t : TypeId} {A : Option Addr} {n c : Nat} {x : Value} {xs : List Value} (h : TSl w t A (n + 1) c (x :: xs)) : TSl w t (if c = 1 then A else A.map (·.add 1)) n (c - 1) xs := by
  have hd := h.sl.drop (k := 1) (by omega)
  refine ⟨by simpa using hd, fun a ha => ?_⟩
  split at ha
  · exact h.ty a ha
  · cases A with
    | none => cases ha
    | some a0 =>
      cases ha
      have : (a0.add 1).block = a0.block := by unfold Addr.add; split <;> rfl
      rw [this]; exact h.ty a0 rfl
/-- A way's slices, read. -/
structure WR (w : World) (x : Way) (A1 : Option Addr) (c1 : Nat) (A2 : Option Addr) (c2 : Nat) (A3 : Option Addr) (c3 : Nat) : Prop where
  now : TSl w 4 A1 x.now.length c1 (bcells x.now)
  next : TSl w 4 A2 x.next.length c2 (bcells x.next)
  todo : TSl w 3 A3 x.todo.length c3 (icells (natI x.todo))
theorem WR.keep {S : Nat → Prop} {w w' : World} {x : Way} {A1 A2 A3 : Option Addr} {c1 c2 c3 : Nat} (h : WR w x A1 c1 A2 c2 A3 c3) (ht : Tch S w w') (hb : Spares S w 4) (hi : Spares S w 3) : WR w' x A1 c1 A2 c2 A3 c3 :=
  ⟨h.now.keep ht hb, h.next.keep ht hb, h.todo.keep ht hi⟩
theorem WR.below {w w' : World} {x : Way} {A1 A2 A3 : Option Addr} {c1 c2 c3 : Nat} (h : WR w x A1 c1 A2 c2 A3 c3) (hb : Below w.heap.size w w') : WR w' x A1 c1 A2 c2 A3 c3 :=
  h.keep (Tch.of_below hb) (spares_new w _) (spares_new w _)
/-- A way as a value. -/
def WayAt (w : World) (x : Way) (v : Value) : Prop :=
  ∃ A1 c1 A2 c2 A3 c3, v = .agg #[.int .u64 (x.need : Int), .int .u64 (x.ban : Int), .slice A1 x.now.length c1, .slice A2 x.next.length c2, .slice A3 x.todo.length c3] ∧ WR w x A1 c1 A2 c2 A3 c3
theorem WayAt.keep {S : Nat → Prop} {w w' : World} {x : Way} {v : Value} (h : WayAt w x v) (ht : Tch S w w') (hb : Spares S w 4) (hi : Spares S w 3) : WayAt w' x v := by
  obtain ⟨A1, c1, A2, c2, A3, c3, hv, hr⟩ := h
  exact ⟨A1, c1, A2, c2, A3, c3, hv, hr.keep ht hb hi⟩
theorem WayAt.below {w w' : World} {x : Way} {v : Value} (h : WayAt w x v) (hb : Below w.heap.size w w') : WayAt w' x v := h.keep (Tch.of_below hb) (spares_new w _) (spares_new w _)
/-- A way that is new. -/
def NewWay (w : World) (x : Way) (en : Ending) (w' : World) : Prop := ∃ v, en = .returned v ∧ WayAt w' x v ∧ Below w.heap.size w w'
/-- Two boxes of five cells. -/
theorem box5 (w : World) (x y : Obj) : Below w.heap.size w ((w.alloc x).alloc y) ∧ ((w.alloc x).alloc y).heap[w.heap.size]? = some x ∧ ((w.alloc x).alloc y).heap[w.heap.size + 1]? = some y ∧ ((w.alloc x).alloc y).heap.size = w.heap.size + 2 := by
  refine ⟨((Below.refl _ _).alloc (Nat.le_refl _) _).alloc (by simp) _, ?_, ?_, by simp⟩
  · rw [Below.heap_alloc _ _ _ (by simp)]; exact heap_alloc_new w x
  · have := heap_alloc_new (w.alloc x) y
    rwa [show (w.alloc x).heap.size = w.heap.size + 1 by simp] at this
/-- Five cells are put into a box. -/
theorem set5 {w : World} {g T : Nat} {a b c d e : Value} {cs : Array Value} (h : w.heap[g]? = some (.cells cs T (0, 0))) (hc : cs.size = 5) :
    (((((w.setCell ⟨g, 0, none⟩ a).setCell ⟨g, 1, none⟩ b).setCell ⟨g, 2, none⟩ c).setCell ⟨g, 3, none⟩ d).setCell ⟨g, 4, none⟩ e).heap[g]? = some (.cells #[a, b, c, d, e] T (0, 0)) := by
  have h1 := heap_setCell_same w g 0 _ _ a h
  have h2 := heap_setCell_same _ g 1 _ _ b h1
  have h3 := heap_setCell_same _ g 2 _ _ c h2
  have h4 := heap_setCell_same _ g 3 _ _ d h3
  have h5 := heap_setCell_same _ g 4 _ _ e h4
  rw [h5]
  clear h1 h2 h3 h4 h5 h
  obtain ⟨l⟩ := cs
  match l, hc with
  | [p, q, r, s, t], _ => simp
theorem bel5 {w w0 : World} {B g : Nat} (h : Below B w w0) (hg : B ≤ g) (a b c d e : Value) :
    Below B w (((((w0.setCell ⟨g, 0, none⟩ a).setCell ⟨g, 1, none⟩ b).setCell ⟨g, 2, none⟩ c).setCell ⟨g, 3, none⟩ d).setCell ⟨g, 4, none⟩ e) :=
  ((((h.setCell (p := ⟨g, 0, none⟩) hg _).setCell (p := ⟨g, 1, none⟩) hg _).setCell (p := ⟨g, 2, none⟩) hg _).setCell (p := ⟨g, 3, none⟩) hg _).setCell (p := ⟨g, 4, none⟩) hg _
theorem tch5 (w0 : World) (g : Nat) (a b c d e : Value) :
    Tch (fun k => k = g) w0 (((((w0.setCell ⟨g, 0, none⟩ a).setCell ⟨g, 1, none⟩ b).setCell ⟨g, 2, none⟩ c).setCell ⟨g, 3, none⟩ d).setCell ⟨g, 4, none⟩ e) :=
  (((((Tch.refl (fun k => k = g) w0).setCell (p := ⟨g, 0, none⟩) (fun _ => rfl) a).setCell (p := ⟨g, 1, none⟩) (fun _ => rfl) b).setCell (p := ⟨g, 2, none⟩) (fun _ => rfl) c).setCell (p := ⟨g, 3, none⟩) (fun _ => rfl) d).setCell (p := ⟨g, 4, none⟩) (fun _ => rfl) e
theorem spares_one {w : World} {g T t : Nat} {cs : Array Value} (h : w.heap[g]? = some (.cells cs T (0, 0))) (hne : T ≠ t) : Spares (fun k => k = g) w t := by
  rintro k cs' hk rfl
  rw [h] at hk
  injection hk with hk
  injection hk with _ e
  exact hne e
/-- The end of a function that answers a way in a cell of its own. -/
theorem way_end {w V : World} {x : Way} {rb : Nat} {cs : Array Value} {A1 A2 A3 : Option Addr} {c1 c2 c3 : Nat} (hV : V.heap[rb]? = some (.cells cs 100 (0, 0))) (_hcs : cs.size = 5) (hb : Below w.heap.size w V) (hrb : w.heap.size ≤ rb)
    (hr : WR V x A1 c1 A2 c2 A3 c3) {n1 n2 n3 : Nat} (e1 : n1 = x.now.length) (e2 : n2 = x.next.length) (e3 : n3 = x.todo.length) {a b : Int} (ea : a = (x.need : Int)) (eb : b = (x.ban : Int)) :
    NewWay w x (.returned (.agg #[.int .u64 a, .int .u64 b, .slice A1 n1 c1, .slice A2 n2 c2, .slice A3 n3 c3]))
      (((((V.setCell ⟨rb, 0, none⟩ (.int .u64 a)).setCell ⟨rb, 1, none⟩ (.int .u64 b)).setCell ⟨rb, 2, none⟩ (.slice A1 n1 c1)).setCell ⟨rb, 3, none⟩ (.slice A2 n2 c2)).setCell ⟨rb, 4, none⟩ (.slice A3 n3 c3)) := by
  subst e1 e2 e3 ea eb
  exact ⟨_, rfl, ⟨A1, c1, A2, c2, A3, c3, rfl, hr.keep (tch5 _ _ _ _ _ _ _) (spares_one hV (by decide)) (spares_one hV (by decide))⟩, bel5 hb hrb _ _ _ _ _⟩
theorem way_cells {V : World} {rb T : Nat} {cs : Array Value} {a b c d e : Value} (hV : V.heap[rb]? = some (.cells cs T (0, 0))) (hcs : cs.size = 5) :
    ∃ F, F = (((((V.setCell ⟨rb, 0, none⟩ a).setCell ⟨rb, 1, none⟩ b).setCell ⟨rb, 2, none⟩ c).setCell ⟨rb, 3, none⟩ d).setCell ⟨rb, 4, none⟩ e) ∧
      F.cell? ⟨rb, 0, none⟩ = some a ∧ F.cell? ⟨rb, 1, none⟩ = some b ∧ F.cell? ⟨rb, 2, none⟩ = some c ∧ F.cell? ⟨rb, 3, none⟩ = some d ∧ F.cell? ⟨rb, 4, none⟩ = some e := by
  have h := set5 (a := a) (b := b) (c := c) (d := d) (e := e) hV hcs
  refine ⟨_, rfl, ?_⟩
  refine ⟨?_, ?_, ?_, ?_, ?_⟩ <;> (rw [cell_of_row _ _ _ _ _ (0, 0) h]; rfl)
end Go.Proofs.YtamhjgkigjpbhaaDoor

/- The walks of layer 28 (cover): made, owing, with. -/
namespace Go.Proofs.YtamhjgkigjpbhaaDoor
open Go.RowKit

set_option maxHeartbeats 2000000 in
set_option maxRecDepth 100000 in
theorem made_any (x : Way) (A1 : Option Addr) (c1 : Nat) (A2 : Option Addr) (c2 : Nat) (A3 : Option Addr) (c3 : Nat) (j : Nat) (w : World) (h : WR w x A1 c1 A2 c2 A3 c3) (hj : j < x.now.length) (hl : x.now.length ≤ 1000000) :
    Calls Tryd.prog 53 #[.agg #[.int .u64 (x.need : Int), .int .u64 (x.ban : Int), .slice A1 x.now.length c1, .slice A2 x.next.length c2, .slice A3 x.todo.length c3], .int .i64 (j : Int)] w (NewWay w { x with now := x.now.set j true }) := by
  have HC := Lib.hid (fun (w' : World) (hb : Below w.heap.size w w') => cloneB_any A1 x.now.length c1 (bcells x.now) w' w.heap.size (h.now.sl.below hb (Nat.le_refl _)) (bcells_one _) hb.size (by omega))
  have HR := Lib.hid h
  clear h
  go_enter Tryd.func53, Tryd.ntmps53
  go_wp2_with fail
  have HX := box5 w (.cells #[.int .u64 (x.need : Int), .int .u64 (x.ban : Int), .slice A1 x.now.length c1, .slice A2 x.next.length c2, .slice A3 x.todo.length c3] 100) (.cells #[.int .u64 0, .int .u64 0, .slice none 0 0, .slice none 0 0, .slice none 0 0] 100)
  refine Calls.mono (HC.out _ HX.1) ?_
  obtain ⟨hb0, hx0, hx1, hxz⟩ := HX
  rintro e w2 ⟨v1, rfl, ho1, hb2, -⟩
  rw [hxz] at ho1 hb2
  have hz2 := hb2.size
  rw [hxz] at hz2
  have q0 := (hb2.block w.heap.size (by omega)).trans hx0
  have q1 := (hb2.block (w.heap.size + 1) (by omega)).trans hx1
  have hb02 : Below w.heap.size w w2 := hb0.trans (hb2.mono (by omega))
  clear hb0 hx0 hx1 hxz hb2
  obtain ⟨g, cap, rfl, hg, hgl, hcap, -⟩ := own_form ho1 (by omega)
  have k0 : w2.cell? ⟨w.heap.size, 0, none⟩ = some (.int .u64 (x.need : Int)) := by rw [cell_of_row _ _ 0 _ _ (0, 0) q0]; rfl
  have k1 : w2.cell? ⟨w.heap.size, 1, none⟩ = some (.int .u64 (x.ban : Int)) := by rw [cell_of_row _ _ 1 _ _ (0, 0) q0]; rfl
  have k2 : w2.cell? ⟨w.heap.size, 2, none⟩ = some (.slice A1 x.now.length c1) := by rw [cell_of_row _ _ 2 _ _ (0, 0) q0]; rfl
  have k3 : w2.cell? ⟨w.heap.size, 3, none⟩ = some (.slice A2 x.next.length c2) := by rw [cell_of_row _ _ 3 _ _ (0, 0) q0]; rfl
  have k4 : w2.cell? ⟨w.heap.size, 4, none⟩ = some (.slice A3 x.todo.length c3) := by rw [cell_of_row _ _ 4 _ _ (0, 0) q0]; rfl
  have kf := frozen_of_row _ _ 2 _ _ q0
  have kg := ho1.cellAt j (by omega)
  rw [bcells_at hj] at kg
  have kgf := ho1.frozenAt j
  have hne : ¬ (g = w.heap.size) := by omega
  have hne1 : ¬ (w.heap.size = g) := by omega
  have HO := Lib.hid ho1
  have Q0 := Lib.hid q0
  have Q1 := Lib.hid q1
  have HB := Lib.hid hb02
  clear ho1 q0 q1 hb02
  have l0 := cell_of_row _ _ 0 _ _ (0, 0) Q1.out
  have l1 := cell_of_row _ _ 1 _ _ (0, 0) Q1.out
  have l2 := cell_of_row _ _ 2 _ _ (0, 0) Q1.out
  have l3 := cell_of_row _ _ 3 _ _ (0, 0) Q1.out
  have l4 := cell_of_row _ _ 4 _ _ (0, 0) Q1.out
  have lf0 := frozen_of_row _ _ 0 _ _ Q1.out
  have lf1 := frozen_of_row _ _ 1 _ _ Q1.out
  have lf2 := frozen_of_row _ _ 2 _ _ Q1.out
  have lf3 := frozen_of_row _ _ 3 _ _ Q1.out
  have lf4 := frozen_of_row _ _ 4 _ _ Q1.out
  simp only [List.getElem?_toArray, List.getElem?_cons_zero, List.getElem?_cons_succ] at l0 l1 l2 l3 l4
  go_wp2_with fail
  have Q1' := Below.heap_setCell _ ⟨g, j, none⟩ (.bool true) (w.heap.size + 1) (show w.heap.size + 1 ≠ g by omega) |>.trans (Below.heap_setCell w2 ⟨w.heap.size, 2, none⟩ (.slice (some ⟨g, 0, none⟩) x.now.length cap) (w.heap.size + 1) (show w.heap.size + 1 ≠ w.heap.size by omega)) |>.trans Q1.out
  refine bodyPost_ret (v := .agg #[.int .u64 (x.need : Int), .int .u64 (x.ban : Int), .slice (some ⟨g, 0, none⟩) x.now.length cap, .slice A2 x.next.length c2, .slice A3 x.todo.length c3]) ?_ rfl ?_
  · obtain ⟨F, hF, f0, f1, f2, f3, f4⟩ := way_cells (a := .int .u64 (x.need : Int)) (b := .int .u64 (x.ban : Int)) (c := .slice (some ⟨g, 0, none⟩) x.now.length cap) (d := .slice A2 x.next.length c2) (e := .slice A3 x.todo.length c3) Q1' rfl
    rw [← hF]
    clear hF
    simp [results, Tryd.results53, go_sem, f0, f1, f2, f3, f4]
  · have hbV : Below w.heap.size w ((w2.setCell ⟨w.heap.size, 2, none⟩ (.slice (some ⟨g, 0, none⟩) x.now.length cap)).setCell ⟨g, j, none⟩ (.bool true)) :=
      (HB.out.setCell (p := ⟨w.heap.size, 2, none⟩) (Nat.le_refl _) _).setCell (p := ⟨g, j, none⟩) (by show w.heap.size ≤ g; omega) _
    refine way_end (x := { x with now := x.now.set j true }) Q1' rfl hbV (by omega) ⟨?_, HR.out.next.below hbV, HR.out.todo.below hbV⟩ (by simp) rfl rfl rfl rfl
    have hs := ((ownsRow_setCell_below (a := ⟨w.heap.size, 2, none⟩) HO.out (by show w.heap.size < w.heap.size + 2; omega) (.slice (some ⟨g, 0, none⟩) x.now.length cap)).stored j (.bool true)).1
    obtain ⟨A, c, hv, ht⟩ := TSl.of_own hs
    cases hv
    simpa [bcells, List.map_set] using ht
set_option maxHeartbeats 2000000 in
set_option maxRecDepth 100000 in
theorem owing_any (x : Way) (A1 : Option Addr) (c1 : Nat) (A2 : Option Addr) (c2 : Nat) (A3 : Option Addr) (c3 : Nat) (j : Nat) (w : World) (h : WR w x A1 c1 A2 c2 A3 c3) (hj : j < x.next.length) (hl : x.next.length ≤ 1000000) :
    Calls Tryd.prog 79 #[.agg #[.int .u64 (x.need : Int), .int .u64 (x.ban : Int), .slice A1 x.now.length c1, .slice A2 x.next.length c2, .slice A3 x.todo.length c3], .int .i64 (j : Int)] w (NewWay w { x with next := x.next.set j true }) := by
  have HC := Lib.hid (fun (w' : World) (hb : Below w.heap.size w w') => cloneB_any A2 x.next.length c2 (bcells x.next) w' w.heap.size (h.next.sl.below hb (Nat.le_refl _)) (bcells_one _) hb.size (by omega))
  have HR := Lib.hid h
  clear h
  go_enter Tryd.func79, Tryd.ntmps79
  go_wp2_with fail
  have HX := box5 w (.cells #[.int .u64 (x.need : Int), .int .u64 (x.ban : Int), .slice A1 x.now.length c1, .slice A2 x.next.length c2, .slice A3 x.todo.length c3] 100) (.cells #[.int .u64 0, .int .u64 0, .slice none 0 0, .slice none 0 0, .slice none 0 0] 100)
  refine Calls.mono (HC.out _ HX.1) ?_
  obtain ⟨hb0, hx0, hx1, hxz⟩ := HX
  rintro e w2 ⟨v1, rfl, ho1, hb2, -⟩
  rw [hxz] at ho1 hb2
  have hz2 := hb2.size
  rw [hxz] at hz2
  have q0 := (hb2.block w.heap.size (by omega)).trans hx0
  have q1 := (hb2.block (w.heap.size + 1) (by omega)).trans hx1
  have hb02 : Below w.heap.size w w2 := hb0.trans (hb2.mono (by omega))
  clear hb0 hx0 hx1 hxz hb2
  obtain ⟨g, cap, rfl, hg, hgl, hcap, -⟩ := own_form ho1 (by omega)
  have k0 : w2.cell? ⟨w.heap.size, 0, none⟩ = some (.int .u64 (x.need : Int)) := by rw [cell_of_row _ _ 0 _ _ (0, 0) q0]; rfl
  have k1 : w2.cell? ⟨w.heap.size, 1, none⟩ = some (.int .u64 (x.ban : Int)) := by rw [cell_of_row _ _ 1 _ _ (0, 0) q0]; rfl
  have k2 : w2.cell? ⟨w.heap.size, 2, none⟩ = some (.slice A1 x.now.length c1) := by rw [cell_of_row _ _ 2 _ _ (0, 0) q0]; rfl
  have k3 : w2.cell? ⟨w.heap.size, 3, none⟩ = some (.slice A2 x.next.length c2) := by rw [cell_of_row _ _ 3 _ _ (0, 0) q0]; rfl
  have k4 : w2.cell? ⟨w.heap.size, 4, none⟩ = some (.slice A3 x.todo.length c3) := by rw [cell_of_row _ _ 4 _ _ (0, 0) q0]; rfl
  have kf := frozen_of_row _ _ 3 _ _ q0
  have kg := ho1.cellAt j (by omega)
  rw [bcells_at hj] at kg
  have kgf := ho1.frozenAt j
  have hne : ¬ (g = w.heap.size) := by omega
  have hne1 : ¬ (w.heap.size = g) := by omega
  have HO := Lib.hid ho1
  have Q0 := Lib.hid q0
  have Q1 := Lib.hid q1
  have HB := Lib.hid hb02
  clear ho1 q0 q1 hb02
  have l0 := cell_of_row _ _ 0 _ _ (0, 0) Q1.out
  have l1 := cell_of_row _ _ 1 _ _ (0, 0) Q1.out
  have l2 := cell_of_row _ _ 2 _ _ (0, 0) Q1.out
  have l3 := cell_of_row _ _ 3 _ _ (0, 0) Q1.out
  have l4 := cell_of_row _ _ 4 _ _ (0, 0) Q1.out
  have lf0 := frozen_of_row _ _ 0 _ _ Q1.out
  have lf1 := frozen_of_row _ _ 1 _ _ Q1.out
  have lf2 := frozen_of_row _ _ 2 _ _ Q1.out
  have lf3 := frozen_of_row _ _ 3 _ _ Q1.out
  have lf4 := frozen_of_row _ _ 4 _ _ Q1.out
  simp only [List.getElem?_toArray, List.getElem?_cons_zero, List.getElem?_cons_succ] at l0 l1 l2 l3 l4
  go_wp2_with fail
  have Q1' := Below.heap_setCell _ ⟨g, j, none⟩ (.bool true) (w.heap.size + 1) (show w.heap.size + 1 ≠ g by omega) |>.trans (Below.heap_setCell w2 ⟨w.heap.size, 3, none⟩ (.slice (some ⟨g, 0, none⟩) x.next.length cap) (w.heap.size + 1) (show w.heap.size + 1 ≠ w.heap.size by omega)) |>.trans Q1.out
  refine bodyPost_ret (v := .agg #[.int .u64 (x.need : Int), .int .u64 (x.ban : Int), .slice A1 x.now.length c1, .slice (some ⟨g, 0, none⟩) x.next.length cap, .slice A3 x.todo.length c3]) ?_ rfl ?_
  · obtain ⟨F, hF, f0, f1, f2, f3, f4⟩ := way_cells (a := .int .u64 (x.need : Int)) (b := .int .u64 (x.ban : Int)) (c := .slice A1 x.now.length c1) (d := .slice (some ⟨g, 0, none⟩) x.next.length cap) (e := .slice A3 x.todo.length c3) Q1' rfl
    rw [← hF]
    clear hF
    simp [results, Tryd.results79, go_sem, f0, f1, f2, f3, f4]
  · have hbV : Below w.heap.size w ((w2.setCell ⟨w.heap.size, 3, none⟩ (.slice (some ⟨g, 0, none⟩) x.next.length cap)).setCell ⟨g, j, none⟩ (.bool true)) :=
      (HB.out.setCell (p := ⟨w.heap.size, 3, none⟩) (Nat.le_refl _) _).setCell (p := ⟨g, j, none⟩) (by show w.heap.size ≤ g; omega) _
    refine way_end (x := { x with next := x.next.set j true }) Q1' rfl hbV (by omega) ⟨HR.out.now.below hbV, ?_, HR.out.todo.below hbV⟩ rfl (by simp) rfl rfl rfl
    have hs := ((ownsRow_setCell_below (a := ⟨w.heap.size, 3, none⟩) HO.out (by show w.heap.size < w.heap.size + 2; omega) (.slice (some ⟨g, 0, none⟩) x.next.length cap)).stored j (.bool true)).1
    obtain ⟨A, c, hv, ht⟩ := TSl.of_own hs
    cases hv
    simpa [bcells, List.map_set] using ht
end Go.Proofs.YtamhjgkigjpbhaaDoor
